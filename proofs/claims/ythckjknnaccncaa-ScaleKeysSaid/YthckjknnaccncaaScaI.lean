/-
  THE DOCUMENT'S STEPS: walks. (Printed by wip/pm.)
-/
import Derived.Test.YthckjknnaccncaaScaV
namespace Go.Proofs.Ythckjknnaccncaa.Pm
open Go

set_option maxRecDepth 100000 in
set_option maxHeartbeats 2000000 in
theorem ref_scale_pc (l a m : Int) : PC Try.prog 8 [(.agg [(iv l), (iv a)]), (iv m)] [] (scaleP l a m) [] := by
  refine pc_intro Try.func8 rfl (by kernel_rfl) (Nat.le_of_ble_eq_true rfl) (by kernel_rfl) (l0 := [ps 0 (.agg [(iv l), (iv a)]), ps 1 (iv m)]) rfl (fun c0 Bor hc0 => ?_)
  refine T_seq ?_
  refine T_region [] [ks 1, ks 2, kb 0] (fun _ => mixed) (l' := [ps 1 (iv m), ps 2 (.opt 0 0), pb 0 25 [(iv l), (iv a)]]) (obs := []) (by kernel_rfl) (obs_nil) ?_
  refine T_seq ?_
  refine T_region [(2, .call [] [(.agg [(iv l), (iv a)]), (iv m)] [] (.tup [(iv ((signsS l a m).1)), (iv ((signsS l a m).2))]) [])] [ks 2, ks 6, ks 7, kb 0] (fun _ => mixed) (l' := [ps 2 (.opt 0 0), ps 6 (iv ((signsS l a m).1)), ps 7 (iv ((signsS l a m).2)), pb 0 25 [(iv l), (iv a)]]) (obs := [PC Try.prog 6 [(.agg [(iv l), (iv a)]), (iv m)] [] (.tup [(iv ((signsS l a m).1)), (iv ((signsS l a m).2))]) [], [(.agg [(iv l), (iv a)]), (iv m)] = renL (sigi [] 40) [(.agg [(iv l), (iv a)]), (iv m)]]) (by kernel_rfl) (obs_cons (p := PC Try.prog 6 [(.agg [(iv l), (iv a)]), (iv m)] [] (.tup [(iv ((signsS l a m).1)), (iv ((signsS l a m).2))]) []) (ref_signs_pc l a m) (obs_cons (p := [(.agg [(iv l), (iv a)]), (iv m)] = renL (sigi [] 40) [(.agg [(iv l), (iv a)]), (iv m)]) rfl (obs_nil))) ?_
  refine T_seq ?_
  refine T_seq ?_
  refine T_region [] [ks 2, ks 6, ks 7, ks 18, kb 0] (fun _ => mixed) (l' := [ps 2 (.opt 0 0), ps 6 (iv ((signsS l a m).1)), ps 7 (iv ((signsS l a m).2)), ps 18 (bv (!(decide (((signsS l a m).2) = 0)))), pb 0 25 [(iv l), (iv a)]]) (obs := []) (by kernel_rfl) (obs_nil) ?_
  by_cases h1 : ((signsS l a m).2) = 0
  · refine T_else (b := (!(decide (((signsS l a m).2) = 0)))) rfl (congrArg Bool.not (decide_eq_true h1)) ?_
    refine T_skip ?_
    refine T_seq ?_
    obtain ⟨hS1, hS2, hS3, hS4, hS5⟩ := signs_ok h1
    have hR := rightQ_iff.1 hS2
    have hV := refV_key h1
    obtain ⟨n, hn⟩ : ∃ n, (signsS l a m).1 = n := ⟨_, rfl⟩
    rw [hn] at hS4 hS5 hV
    refine T_wk (Wk.eq (show [ps 2 (.opt 0 0), ps 6 (iv ((signsS l a m).1)), ps 7 (iv ((signsS l a m).2)), ps 18 (bv (!(decide (((signsS l a m).2) = 0)))), pb 0 25 [(iv l), (iv a)]] = [ps 2 (.opt 0 0), ps 6 (iv n), ps 7 (iv ((signsS l a m).2)), ps 18 (bv (!(decide (((signsS l a m).2) = 0)))), pb 0 25 [(iv l), (iv a)]] from by rw [hn])) ?_
    refine T_region [] [ks 2, ks 6, ks 8, kb 0] (fun _ => mixed) (l' := [ps 2 (.opt 0 0), ps 6 (iv n), ps 8 (.av (.slice none 0 0)), pb 0 25 [(iv l), (iv a)]]) (obs := []) (by kernel_rfl) (obs_nil) ?_
    refine T_seq ?_
    refine T_seq ?_
    refine T_region [] [ks 2, ks 6, ks 8, ks 9, kb 0] (fun _ => mixed) (l' := [ps 2 (.opt 0 0), ps 6 (iv n), ps 8 (.av (.slice none 0 0)), ps 9 (iv 0), pb 0 25 [(iv l), (iv a)]]) (obs := []) (by kernel_rfl) (obs_nil) ?_
    refine T_block ?_
    refine T_wk (Wk.nil (s := 8) 25 (by kernel_rfl)) ?_
    refine T_wk (Wk.less (l' := [ps 2 (.opt 0 0), ps 6 (iv n), ps 8 (.osl 120 0 0), ps 9 (iv 0), pb 0 25 [(iv l), (iv a)], pb 120 25 []]) 121 (by kernel_rfl) (by kernel_rfl)) ?_
    refine T_wk (Wk.eq (show [ps 2 (.opt 0 0), ps 6 (iv n), ps 8 (.osl 120 0 0), ps 9 (iv 0), pb 0 25 [(iv l), (iv a)], pb 120 25 []] = [ps 2 (.opt 0 0), ps 6 (iv n), ps 8 (.osl 120 0 0), ps 9 (iv 0), pb 0 25 [(iv l), (iv a)], pb 120 25 (vals (refV l n 0))] from by rfl)) ?_
    refine T_loop (α := {x : Nat // x ≤ 7}) (fun x => [ps 2 (.opt 0 0), ps 6 (iv n), ps 8 (.osl 1 0 x.1), ps 9 (iv ((x.1 : Nat) : Int)), pb 0 25 [(iv l), (iv a)], pb 1 25 (vals (refV l n x.1))]) (fun x => 7 - x.1) 2 ⟨0, Nat.zero_le _⟩ (Wk.ren3 [ps 2 (.opt 0 0), ps 6 (iv n), ps 8 (.osl 1 0 0), ps 9 (iv ((0 : Nat) : Int)), pb 0 25 [(iv l), (iv a)], pb 1 25 (vals (refV l n 0))] 0 hc0 [0, 120] [(kb 1, (vals (refV l n 0)))] (obs_cons (flat_shd valC (fun _ => rfl) _) (obs_nil)) (by kernel_rfl) rfl rfl (by kernel_rfl) (by kernel_rfl)) ?_
    rintro ⟨k, hk⟩
    refine T_seq ?_
    refine T_seq ?_
    refine T_region [] [ks 2, ks 6, ks 8, ks 9, ks 21, kb 0, kb 1] (fun _ => mixed) (l' := [ps 2 (.opt 0 0), ps 6 (iv n), ps 8 (.osl 1 0 k), ps 9 (iv ((k : Nat) : Int)), ps 21 (bv (decide (((k : Nat) : Int) < 7))), pb 0 25 [(iv l), (iv a)], pb 1 25 (vals (refV l n k))]) (obs := []) (by kernel_rfl) (obs_nil) ?_
    by_cases h2 : ((k : Nat) : Int) < 7
    · refine T_then (b := (decide (((k : Nat) : Int) < 7))) rfl (decide_eq_true h2) ?_
      refine T_skip ?_
      refine T_seq ?_
      refine T_block ?_
      refine T_seq ?_
      refine T_region [] [ks 2, ks 6, ks 8, ks 9, ks 10, kb 0, kb 1] (fun _ => mixed) (l' := [ps 2 (.opt 0 0), ps 6 (iv n), ps 8 (.osl 1 0 k), ps 9 (iv ((k : Nat) : Int)), ps 10 (iv (((l + ((k : Nat) : Int))).tmod 7)), pb 0 25 [(iv l), (iv a)], pb 1 25 (vals (refV l n k))]) (obs := [InK .i64 (l + ((k : Nat) : Int)), 7 ≠ (0 : Int)]) (by kernel_rfl) (obs_cons (p := InK .i64 (l + ((k : Nat) : Int))) (by simp only [InK]; omega) (obs_cons (p := 7 ≠ (0 : Int)) (by decide) (obs_nil))) ?_
      refine T_region [(3, .call [] [(iv n)] [] (.ssl (ints (majorL n)) 0 7) []), (5, .nat ((((l + ((k : Nat) : Int))).tmod 7).toNat)), (6, .val (iv ((majorL n).getD ((((l + ((k : Nat) : Int))).tmod 7).toNat) 0))), (9, .app none (some (vals (refV l n (k + 1)))))] [ks 2, ks 6, ks 8, ks 9, kb 0, kb 138] (fun _ => mixed) (l' := [ps 2 (.opt 0 0), ps 6 (iv n), ps 8 (.osl 138 0 (k + 1)), ps 9 (iv ((k : Nat) : Int)), pb 0 25 [(iv l), (iv a)], pb 138 25 (vals (refV l n (k + 1)))]) (obs := [PC Try.prog 23 [(iv n)] [] (.ssl (ints (majorL n)) 0 7) [], [(iv n)] = renL (sigi [] 90) [(iv n)], (0 : Int) ≤ (((l + ((k : Nat) : Int))).tmod 7) ∧ (((l + ((k : Nat) : Int))).tmod 7) < ((7 : Nat) : Int), 0 + ((((l + ((k : Nat) : Int))).tmod 7) : Int).toNat * 1 = ((((l + ((k : Nat) : Int))).tmod 7).toNat), ((((l + ((k : Nat) : Int))).tmod 7).toNat) + 1 ≤ ((ints (majorL n))).length ∧ (((ints (majorL n))).drop ((((l + ((k : Nat) : Int))).tmod 7).toNat)).take 1 = [(iv ((majorL n).getD ((((l + ((k : Nat) : Int))).tmod 7).toNat) 0))], ((vals (refV l n k))).length = k * 2, (k + 1) * 16 ≤ 140737488355328 ∧ k + 1 ≤ 9223372036854775807, (vals (refV l n k)) ++ [(iv (((l + ((k : Nat) : Int))).tmod 7)), (iv ((majorL n).getD ((((l + ((k : Nat) : Int))).tmod 7).toNat) 0))] = (vals (refV l n (k + 1)))]) (by kernel_rfl) (obs_cons (p := PC Try.prog 23 [(iv n)] [] (.ssl (ints (majorL n)) 0 7) []) (major_pc n (by omega)) (obs_cons (p := [(iv n)] = renL (sigi [] 90) [(iv n)]) rfl (obs_cons (p := (0 : Int) ≤ (((l + ((k : Nat) : Int))).tmod 7) ∧ (((l + ((k : Nat) : Int))).tmod 7) < ((7 : Nat) : Int)) (by have := tmod7 (x := l + ((k : Nat) : Int)) (by omega); omega) (obs_cons (p := 0 + ((((l + ((k : Nat) : Int))).tmod 7) : Int).toNat * 1 = ((((l + ((k : Nat) : Int))).tmod 7).toNat)) (by omega) (obs_cons (p := ((((l + ((k : Nat) : Int))).tmod 7).toNat) + 1 ≤ ((ints (majorL n))).length ∧ (((ints (majorL n))).drop ((((l + ((k : Nat) : Int))).tmod 7).toNat)).take 1 = [(iv ((majorL n).getD ((((l + ((k : Nat) : Int))).tmod 7).toNat) 0))]) (ints_at (by have := tmod7 (x := l + ((k : Nat) : Int)) (by omega); rw [majorL_len]; omega)) (obs_cons (p := ((vals (refV l n k))).length = k * 2) (by rw [vals_len, refV_len]) (obs_cons (p := (k + 1) * 16 ≤ 140737488355328 ∧ k + 1 ≤ 9223372036854775807) (by omega) (obs_cons (p := (vals (refV l n k)) ++ [(iv (((l + ((k : Nat) : Int))).tmod 7)), (iv ((majorL n).getD ((((l + ((k : Nat) : Int))).tmod 7).toNat) 0))] = (vals (refV l n (k + 1)))) (refV_app l n k) (obs_nil))))))))) ?_
      refine T_blk ?_
      refine T_region [] [ks 2, ks 6, ks 8, ks 9, kb 0, kb 138] (fun _ => mixed) (l' := [ps 2 (.opt 0 0), ps 6 (iv n), ps 8 (.osl 138 0 (k + 1)), ps 9 (iv (((k : Nat) : Int) + 1)), pb 0 25 [(iv l), (iv a)], pb 138 25 (vals (refV l n (k + 1)))]) (obs := [InK .i64 (((k : Nat) : Int) + 1)]) (by kernel_rfl) (obs_cons (p := InK .i64 (((k : Nat) : Int) + 1)) (by simp only [InK]; omega) (obs_nil)) ?_
      exact T_back ⟨k + 1, by omega⟩ (Wk.ren3 [ps 2 (.opt 0 0), ps 6 (iv n), ps 8 (.osl 1 0 (k + 1)), ps 9 (iv (((k + 1) : Nat) : Int)), pb 0 25 [(iv l), (iv a)], pb 1 25 (vals (refV l n (k + 1)))] 0 hc0 [0, 138] [(kb 1, (vals (refV l n (k + 1))))] (obs_cons (flat_shd valC (fun _ => rfl) _) (obs_nil)) (by kernel_rfl) rfl rfl (by kernel_rfl) (by kernel_rfl)) (show 7 - (k + 1) < 7 - k from by omega)
    · refine T_else (b := (decide (((k : Nat) : Int) < 7))) rfl (decide_eq_false h2) ?_
      refine T_break rfl rfl ?_
      refine T_seq ?_
      refine T_region [] [ks 4, ks 5, kb 1] (fun _ => mixed) (l' := [ps 4 (.osl 1 0 k), ps 5 (iv 0), pb 1 25 (vals (refV l n k))]) (obs := []) (by kernel_rfl) (obs_nil) ?_
      obtain rfl : k = 7 := by omega
      refine T_wk (Wk.eq (show [ps 4 (.osl 1 0 7), ps 5 (iv 0), pb 1 25 (vals (refV l n 7))] = [ps 4 (.osl 1 0 ((keyV l a m).length)), ps 5 (iv 0), pb 1 25 (vals (keyV l a m))] from by rw [← hV, refV_len])) ?_
      refine T_wk (Wk.frz (l' := [ps 4 (.ssl (vals (keyV l a m)) 0 ((keyV l a m).length)), ps 5 (iv 0), (kb 1, none)]) 1 (T := 25) (cs := (vals (keyV l a m))) (by kernel_rfl) (flat_shd valC (fun _ => rfl) _) (by kernel_rfl)) ?_
      refine T_wk (Wk.less (l' := [ps 4 (.ssl (vals (keyV l a m)) 0 ((keyV l a m).length)), ps 5 (iv 0)]) 42 (by kernel_rfl) (by kernel_rfl)) ?_
      rw [scaleP_yes h1]
      exact T_ret fun cx_ a_ hI_ => ret_ok (H' := []) (.inr rfl) (Wk.ren2 [ps 4 (.ssl (vals (keyV l a m)) 0 ((keyV l a m).length)), ps 5 (iv 0)] 0 hc0 [] rfl rfl (by kernel_rfl) (by kernel_rfl)) rfl (obs_nil) (fun cx_ a_ hI_ => ret_res (l' := [ps 4 (.ssl (vals (keyV l a m)) 0 ((keyV l a m).length)), ps 5 (iv 0)]) (by kernel_rfl) cx_ a_ hI_) hI_
  · refine T_then (b := (!(decide (((signsS l a m).2) = 0)))) rfl (congrArg Bool.not (decide_eq_false h1)) ?_
    refine T_seq ?_
    refine T_region [] [ks 4, ks 5] (fun _ => mixed) (l' := [ps 4 (.av (.slice none 0 0)), ps 5 (iv ((signsS l a m).2))]) (obs := []) (by kernel_rfl) (obs_nil) ?_
    rw [scaleP_no h1]
    exact T_ret fun cx_ a_ hI_ => ret_ok (H' := []) (.inr rfl) (Wk.ren2 [ps 4 (.av (.slice none 0 0)), ps 5 (iv ((signsS l a m).2))] 0 hc0 [] rfl rfl (by kernel_rfl) (by kernel_rfl)) rfl (obs_nil) (fun cx_ a_ hI_ => ret_res (l' := [ps 4 (.av (.slice none 0 0)), ps 5 (iv ((signsS l a m).2))]) (by kernel_rfl) cx_ a_ hI_) hI_
end Go.Proofs.Ythckjknnaccncaa.Pm
