/-
  THE LAW RhythmWhole: walks. (Printed by wip/pm.)
-/
import Derived.Test.YtccpefbfjahfnaaRhyT
namespace Go.Proofs.Ytccpefbfjahfnaa.Pm
open Go Fr

theorem alive_pc  : PC Try.prog 12 [] [] (bv true) [] := by
  refine pc_intro Try.func12 rfl (by kernel_rfl) (Nat.le_of_ble_eq_true rfl) (by kernel_rfl) (l0 := []) rfl (fun c0 Bor hc0 => ?_)
  refine T_seq ?_
  refine T_region [] [] (fun _ => mixed) (l' := []) (obs := []) (by kernel_rfl) (obs_nil) ?_
  refine T_seq ?_
  refine T_region [(1, .call [] [(.agg [(iv 2), (iv 1)])] [] (.tup [(.agg [(iv 3), (iv 8)]), (iv 0)]) [])] [ks 1, ks 2, kb 48] (fun _ => mixed) (l' := [ps 1 (.opt 48 0), ps 2 (iv 0), pb 48 25 [(iv 3), (iv 8)]]) (obs := [PC Try.prog 7 [(.agg [(iv 2), (iv 1)])] [] (.tup [(.agg [(iv 3), (iv 8)]), (iv 0)]) [], [(.agg [(iv 2), (iv 1)])] = renL (sigi [] 16) [(.agg [(iv 2), (iv 1)])]]) (by kernel_rfl) (obs_cons (p := PC Try.prog 7 [(.agg [(iv 2), (iv 1)])] [] (.tup [(.agg [(iv 3), (iv 8)]), (iv 0)]) []) (by have h0 := length_pc 2 1 (by unfold Fr.I64; omega) (by unfold Fr.I64; omega); rw [show lenS 2 1 = (3, 8, 0) from by decide +kernel] at h0; exact h0) (obs_cons (p := [(.agg [(iv 2), (iv 1)])] = renL (sigi [] 16) [(.agg [(iv 2), (iv 1)])]) rfl (obs_nil))) ?_
  refine T_seq ?_
  refine T_region [(3, .gd true (.no)), (4, .gd true (.no)), (5, .gd true (.no))] [ks 0] (fun _ => mixed) (l' := [ps 0 (bv ((decide ((3 : Int) = (3 : Int))) && (decide ((8 : Int) = (8 : Int)))))]) (obs := [true = true, true = true, true = true]) (by kernel_rfl) (obs_cons (p := true = true) rfl (obs_cons (p := true = true) rfl (obs_cons (p := true = true) rfl (obs_nil)))) ?_
  refine T_wk (Wk.eq (show [ps 0 (bv ((decide ((3 : Int) = (3 : Int))) && (decide ((8 : Int) = (8 : Int)))))] = [ps 0 (bv true)] from by rfl)) ?_
  exact T_ret fun cx_ a_ hI_ => ret_ok (H' := []) (.inr rfl) (Wk.ren2 [ps 0 (bv true)] 0 hc0 [] rfl rfl (by kernel_rfl) (by kernel_rfl)) rfl (obs_nil) (fun cx_ a_ hI_ => ret_res (l' := [ps 0 (bv true)]) (by kernel_rfl) cx_ a_ hI_) hI_
theorem i64_right {u d : Int} (h : rightB u d = true) : I64 u ∧ I64 d := by
  have := rightB_iff.1 h
  unfold Fr.I64
  omega
set_option maxRecDepth 100000 in
set_option maxHeartbeats 4000000 in
theorem law_whole (u d : Int) (hu : I64 u) (hd : I64 d) : PC Try.prog 4 [(.agg [(iv u), (iv d)])] [] (bv true) [] := by
  refine pc_intro Try.func4 rfl (by kernel_rfl) (Nat.le_of_ble_eq_true rfl) (by kernel_rfl) (l0 := [ps 0 (.agg [(iv u), (iv d)])]) rfl (fun c0 Bor hc0 => ?_)
  refine T_seq ?_
  refine T_region [] [ks 1, kb 0] (fun _ => mixed) (l' := [ps 1 (.opt 0 0), pb 0 25 [(iv u), (iv d)]]) (obs := []) (by kernel_rfl) (obs_nil) ?_
  refine T_seq ?_
  refine T_seq ?_
  refine T_region [(0, .call [] [] [] (bv true) [])] [ks 1, ks 12, kb 0] (fun _ => mixed) (l' := [ps 1 (.opt 0 0), ps 12 (bv false), pb 0 25 [(iv u), (iv d)]]) (obs := [PC Try.prog 12 [] [] (bv true) [], [] = renL (sigi [] 16) []]) (by kernel_rfl) (obs_cons (p := PC Try.prog 12 [] [] (bv true) []) alive_pc (obs_cons (p := [] = renL (sigi [] 16) []) rfl (obs_nil))) ?_
  refine T_else (b := false) rfl rfl ?_
  refine T_skip ?_
  refine T_seq ?_
  by_cases h1 : writeE u d = 0
  · refine T_region [(1, .call [] [(.agg [(iv u), (iv d)])] [] (.tup [(.ssl (vals (valsS (writeN u d))) 0 ((valsS (writeN u d)).length)), (iv 0)]) [])] [ks 1, ks 3, ks 4, kb 0] (fun _ => mixed) (l' := [ps 1 (.opt 0 0), ps 3 (.ssl (vals (valsS (writeN u d))) 0 ((valsS (writeN u d)).length)), ps 4 (iv 0), pb 0 25 [(iv u), (iv d)]]) (obs := [PC Try.prog 9 [(.agg [(iv u), (iv d)])] [] (.tup [(.ssl (vals (valsS (writeN u d))) 0 ((valsS (writeN u d)).length)), (iv 0)]) [], [(.agg [(iv u), (iv d)])] = renL (sigi [] 40) [(.agg [(iv u), (iv d)])]]) (by kernel_rfl) (obs_cons (p := PC Try.prog 9 [(.agg [(iv u), (iv d)])] [] (.tup [(.ssl (vals (valsS (writeN u d))) 0 ((valsS (writeN u d)).length)), (iv 0)]) []) (write_yes u d hu hd h1) (obs_cons (p := [(.agg [(iv u), (iv d)])] = renL (sigi [] 40) [(.agg [(iv u), (iv d)])]) rfl (obs_nil))) ?_
    refine T_seq ?_
    refine T_seq ?_
    refine T_region [] [ks 1, ks 3, ks 19, kb 0] (fun _ => mixed) (l' := [ps 1 (.opt 0 0), ps 3 (.ssl (vals (valsS (writeN u d))) 0 ((valsS (writeN u d)).length)), ps 19 (bv false), pb 0 25 [(iv u), (iv d)]]) (obs := []) (by kernel_rfl) (obs_nil) ?_
    refine T_else (b := false) rfl rfl ?_
    refine T_skip ?_
    refine T_seq ?_
    refine T_seq ?_
    refine T_region [] [ks 1, ks 3, ks 22, kb 0] (fun _ => mixed) (l' := [ps 1 (.opt 0 0), ps 3 (.ssl (vals (valsS (writeN u d))) 0 ((valsS (writeN u d)).length)), ps 22 (bv (decide (70000 < (((valsS (writeN u d)).length : Nat) : Int)))), pb 0 25 [(iv u), (iv d)]]) (obs := []) (by kernel_rfl) (obs_nil) ?_
    have h2 : ¬ (70000 < (((valsS (writeN u d)).length : Nat) : Int)) := by have := valsS_len h1; omega
    refine T_else (b := (decide (70000 < (((valsS (writeN u d)).length : Nat) : Int)))) rfl (decide_eq_false h2) ?_
    refine T_skip ?_
    refine T_seq ?_
    refine T_region [] [ks 1, ks 3, ks 5, kb 0, kb 136] (fun _ => mixed) (l' := [ps 1 (.opt 0 0), ps 3 (.ssl (vals (valsS (writeN u d))) 0 ((valsS (writeN u d)).length)), ps 5 (.opt 136 0), pb 0 25 [(iv u), (iv d)], pb 136 25 [(iv 0), (iv 1)]]) (obs := []) (by kernel_rfl) (obs_nil) ?_
    refine T_seq ?_
    refine T_region [] [ks 1, ks 3, ks 5, ks 6, kb 0, kb 136, kb 160] (fun _ => mixed) (l' := [ps 1 (.opt 0 0), ps 3 (.ssl (vals (valsS (writeN u d))) 0 ((valsS (writeN u d)).length)), ps 5 (.opt 136 0), ps 6 (.opt 160 0), pb 0 25 [(iv u), (iv d)], pb 136 25 [(iv 0), (iv 1)], pb 160 25 [(iv 2), (iv 1)]]) (obs := []) (by kernel_rfl) (obs_nil) ?_
    refine T_seq ?_
    refine T_seq ?_
    refine T_region [] [ks 1, ks 5, ks 6, ks 25, ks 26, ks 27, kb 0, kb 136, kb 160] (fun _ => mixed) (l' := [ps 1 (.opt 0 0), ps 5 (.opt 136 0), ps 6 (.opt 160 0), ps 25 (.ssl (vals (valsS (writeN u d))) 0 ((valsS (writeN u d)).length)), ps 26 (iv (((valsS (writeN u d)).length : Nat) : Int)), ps 27 (iv 0), pb 0 25 [(iv u), (iv d)], pb 136 25 [(iv 0), (iv 1)], pb 160 25 [(iv 2), (iv 1)]]) (obs := []) (by kernel_rfl) (obs_nil) ?_
    refine T_block ?_
    have hV := vals_low (writeN u d)
    have hN := (write_num h1).2.2
    refine T_loop (α := {x : Nat × Int × Int × Int × Int // x.1 ≤ (valsS (writeN u d)).length ∧ rightB x.2.1 x.2.2.1 = true ∧ rightB x.2.2.2.1 x.2.2.2.2 = true ∧ x.2.1 * 1024 = wsum (valsS (writeN u d)) x.1 * x.2.2.1 ∧ x.2.2.2.1 * 1024 = lastW (valsS (writeN u d)) x.1 * x.2.2.2.2}) (fun x => [ps 1 (.opt 0 0), ps 5 (.opt 1 0), ps 6 (.opt 2 0), ps 25 (.ssl (vals (valsS (writeN u d))) 0 ((valsS (writeN u d)).length)), ps 26 (iv (((valsS (writeN u d)).length : Nat) : Int)), ps 27 (iv ((x.1.1 : Nat) : Int)), pb 0 25 [(iv u), (iv d)], pb 1 25 [(iv x.1.2.1), (iv x.1.2.2.1)], pb 2 25 [(iv x.1.2.2.2.1), (iv x.1.2.2.2.2)]]) (fun x => (valsS (writeN u d)).length - x.1.1) 3 ⟨(0, 0, 1, 2, 1), ⟨Nat.zero_le _, by decide +kernel, by decide +kernel, by simp [wsum], by simp [lastW]⟩⟩ (Wk.ren2 [ps 1 (.opt 0 0), ps 5 (.opt 1 0), ps 6 (.opt 2 0), ps 25 (.ssl (vals (valsS (writeN u d))) 0 ((valsS (writeN u d)).length)), ps 26 (iv (((valsS (writeN u d)).length : Nat) : Int)), ps 27 (iv ((0 : Nat) : Int)), pb 0 25 [(iv u), (iv d)], pb 1 25 [(iv 0), (iv 1)], pb 2 25 [(iv 2), (iv 1)]] 0 hc0 [0, 136, 160] rfl rfl (by kernel_rfl) (by kernel_rfl)) ?_
    rintro ⟨⟨i, a, b, c, e⟩, ⟨hi, hab, hce, haw, hcw⟩⟩
    dsimp only at hi hab hce haw hcw
    refine T_seq ?_
    refine T_region [] [ks 1, ks 5, ks 6, ks 25, ks 26, ks 27, ks 28, kb 0, kb 1, kb 2] (fun _ => mixed) (l' := [ps 1 (.opt 0 0), ps 5 (.opt 1 0), ps 6 (.opt 2 0), ps 25 (.ssl (vals (valsS (writeN u d))) 0 ((valsS (writeN u d)).length)), ps 26 (iv (((valsS (writeN u d)).length : Nat) : Int)), ps 27 (iv ((i : Nat) : Int)), ps 28 (bv (decide (((i : Nat) : Int) < (((valsS (writeN u d)).length : Nat) : Int)))), pb 0 25 [(iv u), (iv d)], pb 1 25 [(iv a), (iv b)], pb 2 25 [(iv c), (iv e)]]) (obs := []) (by kernel_rfl) (obs_nil) ?_
    refine T_seq ?_
    by_cases h3 : ((i : Nat) : Int) < (((valsS (writeN u d)).length : Nat) : Int)
    · refine T_then (b := (decide (((i : Nat) : Int) < (((valsS (writeN u d)).length : Nat) : Int)))) rfl (decide_eq_true h3) ?_
      refine T_skip ?_
      refine T_seq ?_
      refine T_block ?_
      refine T_seq ?_
      refine T_region [(0, .nat (i * 2)), (1, .cells [(iv (((valsS (writeN u d)).getD i (0, 0)).1)), (iv (((valsS (writeN u d)).getD i (0, 0)).2))])] [ks 1, ks 5, ks 6, ks 8, ks 25, ks 26, ks 27, kb 0, kb 1, kb 2, kb 27] (fun _ => mixed) (l' := [ps 1 (.opt 0 0), ps 5 (.opt 1 0), ps 6 (.opt 2 0), ps 8 (.opt 27 0), ps 25 (.ssl (vals (valsS (writeN u d))) 0 ((valsS (writeN u d)).length)), ps 26 (iv (((valsS (writeN u d)).length : Nat) : Int)), ps 27 (iv ((i : Nat) : Int)), pb 0 25 [(iv u), (iv d)], pb 1 25 [(iv a), (iv b)], pb 2 25 [(iv c), (iv e)], pb 27 23 [(iv (((valsS (writeN u d)).getD i (0, 0)).1)), (iv (((valsS (writeN u d)).getD i (0, 0)).2))]]) (obs := [(0 : Int) ≤ ((i : Nat) : Int) ∧ ((i : Nat) : Int) < (((valsS (writeN u d)).length : Nat) : Int), 0 + (((i : Nat) : Int) : Int).toNat * 2 = (i * 2), (i * 2) + 2 ≤ ((vals (valsS (writeN u d)))).length ∧ (((vals (valsS (writeN u d)))).drop (i * 2)).take 2 = [(iv (((valsS (writeN u d)).getD i (0, 0)).1)), (iv (((valsS (writeN u d)).getD i (0, 0)).2))]]) (by kernel_rfl) (obs_cons (p := (0 : Int) ≤ ((i : Nat) : Int) ∧ ((i : Nat) : Int) < (((valsS (writeN u d)).length : Nat) : Int)) (by omega) (obs_cons (p := 0 + (((i : Nat) : Int) : Int).toNat * 2 = (i * 2)) (by omega) (obs_cons (p := (i * 2) + 2 ≤ ((vals (valsS (writeN u d)))).length ∧ (((vals (valsS (writeN u d)))).drop (i * 2)).take 2 = [(iv (((valsS (writeN u d)).getD i (0, 0)).1)), (iv (((valsS (writeN u d)).getD i (0, 0)).2))]) (flat_at valC 2 (fun _ => rfl) (0, 0) (valsS (writeN u d)) i 0 2 (by omega) (by decide)) (obs_nil)))) ?_
      refine T_seq ?_
      have hlow := low_last hV (i := i) (by omega)
      obtain ⟨p, q, hlen, hpq, hpw⟩ := len_of hlow.1
      have hok := hlow.1
      simp only [okV, Bool.and_eq_true, decide_eq_true_eq] at hok
      refine T_region [(1, .call [] [(.agg [(iv (((valsS (writeN u d)).getD i (0, 0)).1)), (iv (((valsS (writeN u d)).getD i (0, 0)).2))])] [] (.tup [(.agg [(iv p), (iv q)]), (iv 0)]) [])] [ks 1, ks 5, ks 6, ks 9, ks 10, ks 25, ks 26, ks 27, kb 0, kb 1, kb 2, kb 83] (fun _ => mixed) (l' := [ps 1 (.opt 0 0), ps 5 (.opt 1 0), ps 6 (.opt 2 0), ps 9 (.opt 83 0), ps 10 (iv 0), ps 25 (.ssl (vals (valsS (writeN u d))) 0 ((valsS (writeN u d)).length)), ps 26 (iv (((valsS (writeN u d)).length : Nat) : Int)), ps 27 (iv ((i : Nat) : Int)), pb 0 25 [(iv u), (iv d)], pb 1 25 [(iv a), (iv b)], pb 2 25 [(iv c), (iv e)], pb 83 25 [(iv p), (iv q)]]) (obs := [PC Try.prog 7 [(.agg [(iv (((valsS (writeN u d)).getD i (0, 0)).1)), (iv (((valsS (writeN u d)).getD i (0, 0)).2))])] [] (.tup [(.agg [(iv p), (iv q)]), (iv 0)]) [], [(.agg [(iv (((valsS (writeN u d)).getD i (0, 0)).1)), (iv (((valsS (writeN u d)).getD i (0, 0)).2))])] = renL (sigi [] 51) [(.agg [(iv (((valsS (writeN u d)).getD i (0, 0)).1)), (iv (((valsS (writeN u d)).getD i (0, 0)).2))])]]) (by kernel_rfl) (obs_cons (p := PC Try.prog 7 [(.agg [(iv (((valsS (writeN u d)).getD i (0, 0)).1)), (iv (((valsS (writeN u d)).getD i (0, 0)).2))])] [] (.tup [(.agg [(iv p), (iv q)]), (iv 0)]) []) (by have h0 := length_pc (((valsS (writeN u d)).getD i (0, 0))).1 (((valsS (writeN u d)).getD i (0, 0))).2 (by unfold Fr.I64; omega) (by unfold Fr.I64; omega); rw [hlen] at h0; exact h0) (obs_cons (p := [(.agg [(iv (((valsS (writeN u d)).getD i (0, 0)).1)), (iv (((valsS (writeN u d)).getD i (0, 0)).2))])] = renL (sigi [] 51) [(.agg [(iv (((valsS (writeN u d)).getD i (0, 0)).1)), (iv (((valsS (writeN u d)).getD i (0, 0)).2))])]) rfl (obs_nil))) ?_
      refine T_seq ?_
      refine T_seq ?_
      refine T_region [(3, .gd false (.no)), (4, .gd false (.no)), (5, .gd false (.call [] [(.agg [(iv p), (iv q)]), (.agg [(iv c), (iv e)])] [] (iv (signI (p * e - c * q))) [])), (6, .gd false (.no))] [ks 1, ks 5, ks 6, ks 9, ks 25, ks 26, ks 27, ks 43, kb 0, kb 1, kb 2, kb 83] (fun _ => mixed) (l' := [ps 1 (.opt 0 0), ps 5 (.opt 1 0), ps 6 (.opt 2 0), ps 9 (.opt 83 0), ps 25 (.ssl (vals (valsS (writeN u d))) 0 ((valsS (writeN u d)).length)), ps 26 (iv (((valsS (writeN u d)).length : Nat) : Int)), ps 27 (iv ((i : Nat) : Int)), ps 43 (bv (decide (0 < (signI (p * e - c * q))))), pb 0 25 [(iv u), (iv d)], pb 1 25 [(iv a), (iv b)], pb 2 25 [(iv c), (iv e)], pb 83 25 [(iv p), (iv q)]]) (obs := [false = false, false = false, false = false, PC Try.prog 13 [(.agg [(iv p), (iv q)]), (.agg [(iv c), (iv e)])] [] (iv (signI (p * e - c * q))) [], [(.agg [(iv p), (iv q)]), (.agg [(iv c), (iv e)])] = renL (sigi [] 147) [(.agg [(iv p), (iv q)]), (.agg [(iv c), (iv e)])], false = false]) (by kernel_rfl) (obs_cons (p := false = false) rfl (obs_cons (p := false = false) rfl (obs_cons (p := false = false) rfl (obs_cons (p := PC Try.prog 13 [(.agg [(iv p), (iv q)]), (.agg [(iv c), (iv e)])] [] (iv (signI (p * e - c * q))) []) (sign_pc p q c e hpq hce) (obs_cons (p := [(.agg [(iv p), (iv q)]), (.agg [(iv c), (iv e)])] = renL (sigi [] 147) [(.agg [(iv p), (iv q)]), (.agg [(iv c), (iv e)])]) rfl (obs_cons (p := false = false) rfl (obs_nil))))))) ?_
      have h4 : ¬ (0 < (signI (p * e - c * q))) := sign_le hpw hcw hpq hce hlow.2.2
      refine T_else (b := (decide (0 < (signI (p * e - c * q))))) rfl (decide_eq_false h4) ?_
      refine T_skip ?_
      refine T_seq ?_
      refine T_region [] [ks 1, ks 5, ks 6, ks 9, ks 25, ks 26, ks 27, kb 0, kb 1, kb 2, kb 83] (fun _ => mixed) (l' := [ps 1 (.opt 0 0), ps 5 (.opt 1 0), ps 6 (.opt 2 0), ps 9 (.opt 83 0), ps 25 (.ssl (vals (valsS (writeN u d))) 0 ((valsS (writeN u d)).length)), ps 26 (iv (((valsS (writeN u d)).length : Nat) : Int)), ps 27 (iv ((i : Nat) : Int)), pb 0 25 [(iv u), (iv d)], pb 1 25 [(iv a), (iv b)], pb 2 25 [(iv p), (iv q)], pb 83 25 [(iv p), (iv q)]]) (obs := []) (by kernel_rfl) (obs_nil) ?_
      refine T_seq ?_
      have hs1 := wsum_bd hV (i + 1) (by omega)
      rw [wsum_next (by omega), wsum_all] at hs1
      obtain ⟨x, y, hpl, hxy, hxw⟩ := sum_step hab hpq haw hpw hs1.1 (by omega)
      refine T_region [(2, .call [] [(.agg [(iv a), (iv b)]), (.agg [(iv p), (iv q)])] [] (.tup [(.agg [(iv x), (iv y)]), (iv 0)]) [])] [ks 1, ks 5, ks 6, ks 10, ks 25, ks 26, ks 27, kb 0, kb 1, kb 2] (fun _ => mixed) (l' := [ps 1 (.opt 0 0), ps 5 (.opt 1 0), ps 6 (.opt 2 0), ps 10 (iv 0), ps 25 (.ssl (vals (valsS (writeN u d))) 0 ((valsS (writeN u d)).length)), ps 26 (iv (((valsS (writeN u d)).length : Nat) : Int)), ps 27 (iv ((i : Nat) : Int)), pb 0 25 [(iv u), (iv d)], pb 1 25 [(iv x), (iv y)], pb 2 25 [(iv p), (iv q)]]) (obs := [PC Try.prog 14 [(.agg [(iv a), (iv b)]), (.agg [(iv p), (iv q)])] [] (.tup [(.agg [(iv x), (iv y)]), (iv 0)]) [], [(.agg [(iv a), (iv b)]), (.agg [(iv p), (iv q)])] = renL (sigi [] 203) [(.agg [(iv a), (iv b)]), (.agg [(iv p), (iv q)])]]) (by kernel_rfl) (obs_cons (p := PC Try.prog 14 [(.agg [(iv a), (iv b)]), (.agg [(iv p), (iv q)])] [] (.tup [(.agg [(iv x), (iv y)]), (iv 0)]) []) (by have h0 := ref_plus_pc a b p q (i64_right hab).1 (i64_right hab).2 (i64_right hpq).1 (i64_right hpq).2; rw [hpl] at h0; exact h0) (obs_cons (p := [(.agg [(iv a), (iv b)]), (.agg [(iv p), (iv q)])] = renL (sigi [] 203) [(.agg [(iv a), (iv b)]), (.agg [(iv p), (iv q)])]) rfl (obs_nil))) ?_
      refine T_seq ?_
      refine T_region [] [ks 1, ks 5, ks 6, ks 25, ks 26, ks 27, ks 52, kb 0, kb 1, kb 2] (fun _ => mixed) (l' := [ps 1 (.opt 0 0), ps 5 (.opt 1 0), ps 6 (.opt 2 0), ps 25 (.ssl (vals (valsS (writeN u d))) 0 ((valsS (writeN u d)).length)), ps 26 (iv (((valsS (writeN u d)).length : Nat) : Int)), ps 27 (iv ((i : Nat) : Int)), ps 52 (bv false), pb 0 25 [(iv u), (iv d)], pb 1 25 [(iv x), (iv y)], pb 2 25 [(iv p), (iv q)]]) (obs := []) (by kernel_rfl) (obs_nil) ?_
      refine T_else (b := false) rfl rfl ?_
      refine T_skip ?_
      refine T_blk ?_
      refine T_region [] [ks 1, ks 5, ks 6, ks 25, ks 26, ks 27, kb 0, kb 1, kb 2] (fun _ => mixed) (l' := [ps 1 (.opt 0 0), ps 5 (.opt 1 0), ps 6 (.opt 2 0), ps 25 (.ssl (vals (valsS (writeN u d))) 0 ((valsS (writeN u d)).length)), ps 26 (iv (((valsS (writeN u d)).length : Nat) : Int)), ps 27 (iv (((i : Nat) : Int) + 1)), pb 0 25 [(iv u), (iv d)], pb 1 25 [(iv x), (iv y)], pb 2 25 [(iv p), (iv q)]]) (obs := [InK .i64 (((i : Nat) : Int) + 1)]) (by kernel_rfl) (obs_cons (p := InK .i64 (((i : Nat) : Int) + 1)) (by simp only [InK]; omega) (obs_nil)) ?_
      exact T_back ⟨(i + 1, x, y, p, q), ⟨by omega, hxy, hpq, by rw [wsum_next (by omega)]; exact hxw, hpw⟩⟩ (Wk.ren2 [ps 1 (.opt 0 0), ps 5 (.opt 1 0), ps 6 (.opt 2 0), ps 25 (.ssl (vals (valsS (writeN u d))) 0 ((valsS (writeN u d)).length)), ps 26 (iv (((valsS (writeN u d)).length : Nat) : Int)), ps 27 (iv (((i + 1) : Nat) : Int)), pb 0 25 [(iv u), (iv d)], pb 1 25 [(iv x), (iv y)], pb 2 25 [(iv p), (iv q)]] 0 hc0 [0, 1, 2] rfl rfl (by kernel_rfl) (by kernel_rfl)) (show (valsS (writeN u d)).length - (i + 1) < (valsS (writeN u d)).length - i from by show (valsS (writeN u d)).length - (i + 1) < (valsS (writeN u d)).length - i; omega)
    · refine T_else (b := (decide (((i : Nat) : Int) < (((valsS (writeN u d)).length : Nat) : Int)))) rfl (decide_eq_false h3) ?_
      refine T_break rfl rfl ?_
      refine T_seq ?_
      refine T_region [] [ks 2] (fun _ => mixed) (l' := [ps 2 (bv ((decide (a = u)) && (decide (b = d))))]) (obs := []) (by kernel_rfl) (obs_nil) ?_
      obtain rfl : i = (valsS (writeN u d)).length := by omega
      rw [wsum_all] at haw
      have hend := whole_end hab h1 (writeE_right h1) haw
      refine T_wk (Wk.eq (show [ps 2 (bv ((decide (a = u)) && (decide (b = d))))] = [ps 2 (bv true)] from by rw [hend.1, hend.2]; simp)) ?_
      exact T_ret fun cx_ a_ hI_ => ret_ok (H' := []) (.inr rfl) (Wk.ren2 [ps 2 (bv true)] 0 hc0 [] rfl rfl (by kernel_rfl) (by kernel_rfl)) rfl (obs_nil) (fun cx_ a_ hI_ => ret_res (l' := [ps 2 (bv true)]) (by kernel_rfl) cx_ a_ hI_) hI_
  · refine T_region [(1, .call [] [(.agg [(iv u), (iv d)])] [] (.tup [(.ssl [] 0 0), (iv (writeE u d))]) [])] [ks 1, ks 3, ks 4, kb 0] (fun _ => mixed) (l' := [ps 1 (.opt 0 0), ps 3 (.ssl [] 0 0), ps 4 (iv (writeE u d)), pb 0 25 [(iv u), (iv d)]]) (obs := [PC Try.prog 9 [(.agg [(iv u), (iv d)])] [] (.tup [(.ssl [] 0 0), (iv (writeE u d))]) [], [(.agg [(iv u), (iv d)])] = renL (sigi [] 40) [(.agg [(iv u), (iv d)])]]) (by kernel_rfl) (obs_cons (p := PC Try.prog 9 [(.agg [(iv u), (iv d)])] [] (.tup [(.ssl [] 0 0), (iv (writeE u d))]) []) (write_no u d hu hd h1) (obs_cons (p := [(.agg [(iv u), (iv d)])] = renL (sigi [] 40) [(.agg [(iv u), (iv d)])]) rfl (obs_nil))) ?_
    refine T_seq ?_
    refine T_seq ?_
    refine T_region [] [ks 1, ks 3, ks 19, kb 0] (fun _ => mixed) (l' := [ps 1 (.opt 0 0), ps 3 (.ssl [] 0 0), ps 19 (bv (!(decide ((writeE u d) = 0)))), pb 0 25 [(iv u), (iv d)]]) (obs := []) (by kernel_rfl) (obs_nil) ?_
    have h5 : ¬ ((writeE u d) = 0) := h1
    refine T_then (b := (!(decide ((writeE u d) = 0)))) rfl (congrArg Bool.not (decide_eq_false h5)) ?_
    refine T_seq ?_
    refine T_region [] [ks 2] (fun _ => mixed) (l' := [ps 2 (bv true)]) (obs := []) (by kernel_rfl) (obs_nil) ?_
    exact T_ret fun cx_ a_ hI_ => ret_ok (H' := []) (.inr rfl) (Wk.ren2 [ps 2 (bv true)] 0 hc0 [] rfl rfl (by kernel_rfl) (by kernel_rfl)) rfl (obs_nil) (fun cx_ a_ hI_ => ret_res (l' := [ps 2 (bv true)]) (by kernel_rfl) cx_ a_ hI_) hI_
end Go.Proofs.Ytccpefbfjahfnaa.Pm
