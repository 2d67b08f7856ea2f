/-
  SPANS: what is wrong: walks. (Printed by wip/pm.)
-/
import Derived.Test.YtccpefbfjahfnaaRhySa
namespace Go.Proofs.Ytccpefbfjahfnaa.Pm
open Go Fr

theorem look_step (b : Beat) (ih : ∀ b2 : Beat, SizeOf.sizeOf b2 < SizeOf.sizeOf b → ∀ (lv n : Int), 1 ≤ lv → lv ≤ 33 → 0 ≤ n → n ≤ 4096 → PC Try.prog 28 [.agg (gB b2), iv lv, .opt 0 0] [some (3, [iv n])] (iv (lookS b2 lv n).1) [some (3, [iv (lookS b2 lv n).2])]) (lv n : Int) (h1 : 1 ≤ lv) (h2 : lv ≤ 33) (h3 : 0 ≤ n) (h4 : n ≤ 4096) : PC Try.prog 28 [(.agg [(iv (kd b)), (iv (sh b)), (.ssl (kc b) 0 ((kids b).length))]), (iv lv), (.opt 0 0)] [some (3, [(iv n)])] (iv ((lookS b lv n).1)) [some (3, [(iv ((lookS b lv n).2))])] := by
  refine pc_intro Try.func28 rfl (by kernel_rfl) (Nat.le_of_ble_eq_true rfl) (by kernel_rfl) (l0 := [ps 0 (.agg [(iv (kd b)), (iv (sh b)), (.ssl (kc b) 0 ((kids b).length))]), ps 1 (iv lv), ps 2 (.opt 0 0), pb 0 3 [(iv n)]]) rfl (fun c0 Bor hc0 => ?_)
  refine T_seq ?_
  refine T_region [] [ks 1, ks 2, ks 3, kb 0, kb 1] (fun _ => mixed) (l' := [ps 1 (iv lv), ps 2 (.opt 0 0), ps 3 (.opt 1 0), pb 0 3 [(iv n)], pb 1 40 [(iv (kd b)), (iv (sh b)), (.ssl (kc b) 0 ((kids b).length))]]) (obs := []) (by kernel_rfl) (obs_nil) ?_
  refine T_seq ?_
  refine T_seq ?_
  refine T_region [] [ks 1, ks 2, ks 3, ks 11, kb 0, kb 1] (fun _ => mixed) (l' := [ps 1 (iv lv), ps 2 (.opt 0 0), ps 3 (.opt 1 0), ps 11 (bv (decide (32 < lv))), pb 0 3 [(iv n)], pb 1 40 [(iv (kd b)), (iv (sh b)), (.ssl (kc b) 0 ((kids b).length))]]) (obs := []) (by kernel_rfl) (obs_nil) ?_
  by_cases h1 : 32 < lv
  · refine T_then (b := (decide (32 < lv))) rfl (decide_eq_true h1) ?_
    refine T_seq ?_
    refine T_region [] [ks 6, kb 0] (fun _ => mixed) (l' := [ps 6 (iv 4), pb 0 3 [(iv n)]]) (obs := []) (by kernel_rfl) (obs_nil) ?_
    rw [show lookS b lv n = (4, n) from by rw [lookS_eq]; repeat (first | rw [if_pos (by omega)] | rw [if_neg (by omega)])]
    exact T_ret fun cx_ a_ hI_ => ret_ok (H' := [some (3, [(iv n)])]) (.inr rfl) (Wk.ren2 [ps 6 (iv 4), pb 0 3 [(iv n)]] 1 hc0 [0] rfl rfl (by kernel_rfl) (by kernel_rfl)) rfl (obs_cons rfl (obs_nil)) (fun cx_ a_ hI_ => ret_res (l' := [ps 6 (iv 4), pb 0 3 [(iv n)]]) (by kernel_rfl) cx_ a_ hI_) hI_
  · refine T_else (b := (decide (32 < lv))) rfl (decide_eq_false h1) ?_
    refine T_skip ?_
    refine T_seq ?_
    refine T_seq ?_
    refine T_region [] [ks 1, ks 2, ks 3, kb 0, kb 1] (fun _ => mixed) (l' := [ps 1 (iv lv), ps 2 (.opt 0 0), ps 3 (.opt 1 0), pb 0 3 [(iv (n + 1))], pb 1 40 [(iv (kd b)), (iv (sh b)), (.ssl (kc b) 0 ((kids b).length))]]) (obs := [InK .i64 (n + 1)]) (by kernel_rfl) (obs_cons (p := InK .i64 (n + 1)) (by simp only [InK]; omega) (obs_nil)) ?_
    refine T_seq ?_
    refine T_region [] [ks 1, ks 2, ks 3, ks 20, kb 0, kb 1] (fun _ => mixed) (l' := [ps 1 (iv lv), ps 2 (.opt 0 0), ps 3 (.opt 1 0), ps 20 (bv (decide (4096 < (n + 1)))), pb 0 3 [(iv (n + 1))], pb 1 40 [(iv (kd b)), (iv (sh b)), (.ssl (kc b) 0 ((kids b).length))]]) (obs := []) (by kernel_rfl) (obs_nil) ?_
    by_cases h2 : 4096 < (n + 1)
    · refine T_then (b := (decide (4096 < (n + 1)))) rfl (decide_eq_true h2) ?_
      refine T_seq ?_
      refine T_region [] [ks 6, kb 0] (fun _ => mixed) (l' := [ps 6 (iv 4), pb 0 3 [(iv (n + 1))]]) (obs := []) (by kernel_rfl) (obs_nil) ?_
      rw [show lookS b lv n = (4, n + 1) from by rw [lookS_eq]; repeat (first | rw [if_pos (by omega)] | rw [if_neg (by omega)])]
      exact T_ret fun cx_ a_ hI_ => ret_ok (H' := [some (3, [(iv (n + 1))])]) (.inr rfl) (Wk.ren2 [ps 6 (iv 4), pb 0 3 [(iv (n + 1))]] 1 hc0 [0] rfl rfl (by kernel_rfl) (by kernel_rfl)) rfl (obs_cons rfl (obs_nil)) (fun cx_ a_ hI_ => ret_res (l' := [ps 6 (iv 4), pb 0 3 [(iv (n + 1))]]) (by kernel_rfl) cx_ a_ hI_) hI_
    · refine T_else (b := (decide (4096 < (n + 1)))) rfl (decide_eq_false h2) ?_
      refine T_skip ?_
      refine T_seq ?_
      refine T_seq ?_
      by_cases h3 : (sh b) < 1
      · refine T_region [(4, .gd true .no), (5, .gd true .no), (6, .gd true .no), (7, .yes true)] [ks 1, ks 2, ks 3, ks 28, kb 0, kb 1] (fun _ => mixed) (l' := [ps 1 (iv lv), ps 2 (.opt 0 0), ps 3 (.opt 1 0), ps 28 (bv true), pb 0 3 [(iv (n + 1))], pb 1 40 [(iv (kd b)), (iv (sh b)), (.ssl (kc b) 0 ((kids b).length))]]) (obs := [(decide ((sh b) < 1)) = true, (decide ((sh b) < 1)) = true, (decide ((sh b) < 1)) = true, (decide ((sh b) < 1)) = true]) (by kernel_rfl) (obs_cons (p := (decide ((sh b) < 1)) = true) (decide_eq_true h3) (obs_cons (p := (decide ((sh b) < 1)) = true) (decide_eq_true h3) (obs_cons (p := (decide ((sh b) < 1)) = true) (decide_eq_true h3) (obs_cons (p := (decide ((sh b) < 1)) = true) (decide_eq_true h3) (obs_nil))))) ?_
        refine T_then (b := true) rfl rfl ?_
        refine T_seq ?_
        refine T_region [] [ks 6, kb 0] (fun _ => mixed) (l' := [ps 6 (iv 3), pb 0 3 [(iv (n + 1))]]) (obs := []) (by kernel_rfl) (obs_nil) ?_
        rw [show lookS b lv n = (3, n + 1) from by rw [lookS_eq]; repeat (first | rw [if_pos (by omega)] | rw [if_neg (by omega)])]
        exact T_ret fun cx_ a_ hI_ => ret_ok (H' := [some (3, [(iv (n + 1))])]) (.inr rfl) (Wk.ren2 [ps 6 (iv 3), pb 0 3 [(iv (n + 1))]] 1 hc0 [0] rfl rfl (by kernel_rfl) (by kernel_rfl)) rfl (obs_cons rfl (obs_nil)) (fun cx_ a_ hI_ => ret_res (l' := [ps 6 (iv 3), pb 0 3 [(iv (n + 1))]]) (by kernel_rfl) cx_ a_ hI_) hI_
      · refine T_region [(4, .gd false (.no)), (5, .gd false (.no)), (6, .gd false (.no)), (7, .yes false)] [ks 1, ks 2, ks 3, ks 28, kb 0, kb 1] (fun _ => mixed) (l' := [ps 1 (iv lv), ps 2 (.opt 0 0), ps 3 (.opt 1 0), ps 28 (bv (decide (65536 < (sh b)))), pb 0 3 [(iv (n + 1))], pb 1 40 [(iv (kd b)), (iv (sh b)), (.ssl (kc b) 0 ((kids b).length))]]) (obs := [(decide ((sh b) < 1)) = false, (decide ((sh b) < 1)) = false, (decide ((sh b) < 1)) = false, (decide ((sh b) < 1)) = false]) (by kernel_rfl) (obs_cons (p := (decide ((sh b) < 1)) = false) (decide_eq_false h3) (obs_cons (p := (decide ((sh b) < 1)) = false) (decide_eq_false h3) (obs_cons (p := (decide ((sh b) < 1)) = false) (decide_eq_false h3) (obs_cons (p := (decide ((sh b) < 1)) = false) (decide_eq_false h3) (obs_nil))))) ?_
        by_cases h4 : 65536 < (sh b)
        · refine T_then (b := (decide (65536 < (sh b)))) rfl (decide_eq_true h4) ?_
          refine T_seq ?_
          refine T_region [] [ks 6, kb 0] (fun _ => mixed) (l' := [ps 6 (iv 3), pb 0 3 [(iv (n + 1))]]) (obs := []) (by kernel_rfl) (obs_nil) ?_
          rw [show lookS b lv n = (3, n + 1) from by rw [lookS_eq]; repeat (first | rw [if_pos (by omega)] | rw [if_neg (by omega)])]
          exact T_ret fun cx_ a_ hI_ => ret_ok (H' := [some (3, [(iv (n + 1))])]) (.inr rfl) (Wk.ren2 [ps 6 (iv 3), pb 0 3 [(iv (n + 1))]] 1 hc0 [0] rfl rfl (by kernel_rfl) (by kernel_rfl)) rfl (obs_cons rfl (obs_nil)) (fun cx_ a_ hI_ => ret_res (l' := [ps 6 (iv 3), pb 0 3 [(iv (n + 1))]]) (by kernel_rfl) cx_ a_ hI_) hI_
        · refine T_else (b := (decide (65536 < (sh b)))) rfl (decide_eq_false h4) ?_
          refine T_skip ?_
          refine T_seq ?_
          refine T_seq ?_
          refine T_region [] [ks 1, ks 2, ks 3, ks 30, kb 0, kb 1] (fun _ => mixed) (l' := [ps 1 (iv lv), ps 2 (.opt 0 0), ps 3 (.opt 1 0), ps 30 (iv (kd b)), pb 0 3 [(iv (n + 1))], pb 1 40 [(iv (kd b)), (iv (sh b)), (.ssl (kc b) 0 ((kids b).length))]]) (obs := []) (by kernel_rfl) (obs_nil) ?_
          refine T_block ?_
          refine T_seq ?_
          refine T_seq ?_
          refine T_region [] [ks 1, ks 2, ks 3, ks 30, ks 31, kb 0, kb 1] (fun _ => mixed) (l' := [ps 1 (iv lv), ps 2 (.opt 0 0), ps 3 (.opt 1 0), ps 30 (iv (kd b)), ps 31 (bv (decide ((kd b) = 1))), pb 0 3 [(iv (n + 1))], pb 1 40 [(iv (kd b)), (iv (sh b)), (.ssl (kc b) 0 ((kids b).length))]]) (obs := []) (by kernel_rfl) (obs_nil) ?_
          by_cases h5 : (kd b) = 1
          · refine T_then (b := (decide ((kd b) = 1))) rfl (decide_eq_true h5) ?_
            refine T_skip ?_
            refine T_then (b := (decide ((kd b) = 1))) rfl (decide_eq_true h5) ?_
            refine T_seq ?_
            refine T_seq ?_
            refine T_region [] [ks 38, kb 0] (fun _ => mixed) (l' := [ps 38 (bv (decide (0 < (((kids b).length : Nat) : Int)))), pb 0 3 [(iv (n + 1))]]) (obs := []) (by kernel_rfl) (obs_nil) ?_
            by_cases h6 : 0 < (((kids b).length : Nat) : Int)
            · refine T_then (b := (decide (0 < (((kids b).length : Nat) : Int)))) rfl (decide_eq_true h6) ?_
              refine T_seq ?_
              refine T_region [] [ks 6, kb 0] (fun _ => mixed) (l' := [ps 6 (iv 5), pb 0 3 [(iv (n + 1))]]) (obs := []) (by kernel_rfl) (obs_nil) ?_
              rw [show lookS b lv n = (5, n + 1) from by rw [lookS_eq]; repeat (first | rw [if_pos (by omega)] | rw [if_neg (by omega)])]
              exact T_ret fun cx_ a_ hI_ => ret_ok (H' := [some (3, [(iv (n + 1))])]) (.inr rfl) (Wk.ren2 [ps 6 (iv 5), pb 0 3 [(iv (n + 1))]] 1 hc0 [0] rfl rfl (by kernel_rfl) (by kernel_rfl)) rfl (obs_cons rfl (obs_nil)) (fun cx_ a_ hI_ => ret_res (l' := [ps 6 (iv 5), pb 0 3 [(iv (n + 1))]]) (by kernel_rfl) cx_ a_ hI_) hI_
            · refine T_else (b := (decide (0 < (((kids b).length : Nat) : Int)))) rfl (decide_eq_false h6) ?_
              refine T_skip ?_
              refine T_seq ?_
              refine T_region [] [ks 6, kb 0] (fun _ => mixed) (l' := [ps 6 (iv 0), pb 0 3 [(iv (n + 1))]]) (obs := []) (by kernel_rfl) (obs_nil) ?_
              rw [show lookS b lv n = (0, n + 1) from by rw [lookS_eq]; repeat (first | rw [if_pos (by omega)] | rw [if_neg (by omega)])]
              exact T_ret fun cx_ a_ hI_ => ret_ok (H' := [some (3, [(iv (n + 1))])]) (.inr rfl) (Wk.ren2 [ps 6 (iv 0), pb 0 3 [(iv (n + 1))]] 1 hc0 [0] rfl rfl (by kernel_rfl) (by kernel_rfl)) rfl (obs_cons rfl (obs_nil)) (fun cx_ a_ hI_ => ret_res (l' := [ps 6 (iv 0), pb 0 3 [(iv (n + 1))]]) (by kernel_rfl) cx_ a_ hI_) hI_
          · refine T_else (b := (decide ((kd b) = 1))) rfl (decide_eq_false h5) ?_
            refine T_seq ?_
            refine T_region [] [ks 1, ks 2, ks 3, ks 30, ks 31, kb 0, kb 1] (fun _ => mixed) (l' := [ps 1 (iv lv), ps 2 (.opt 0 0), ps 3 (.opt 1 0), ps 30 (iv (kd b)), ps 31 (bv (decide ((kd b) = 2))), pb 0 3 [(iv (n + 1))], pb 1 40 [(iv (kd b)), (iv (sh b)), (.ssl (kc b) 0 ((kids b).length))]]) (obs := []) (by kernel_rfl) (obs_nil) ?_
            by_cases h7 : (kd b) = 2
            · refine T_then (b := (decide ((kd b) = 2))) rfl (decide_eq_true h7) ?_
              refine T_skip ?_
              refine T_then (b := (decide ((kd b) = 2))) rfl (decide_eq_true h7) ?_
              refine T_seq ?_
              refine T_seq ?_
              refine T_region [] [ks 38, kb 0] (fun _ => mixed) (l' := [ps 38 (bv (decide (0 < (((kids b).length : Nat) : Int)))), pb 0 3 [(iv (n + 1))]]) (obs := []) (by kernel_rfl) (obs_nil) ?_
              by_cases h8 : 0 < (((kids b).length : Nat) : Int)
              · refine T_then (b := (decide (0 < (((kids b).length : Nat) : Int)))) rfl (decide_eq_true h8) ?_
                refine T_seq ?_
                refine T_region [] [ks 6, kb 0] (fun _ => mixed) (l' := [ps 6 (iv 5), pb 0 3 [(iv (n + 1))]]) (obs := []) (by kernel_rfl) (obs_nil) ?_
                rw [show lookS b lv n = (5, n + 1) from by rw [lookS_eq]; repeat (first | rw [if_pos (by omega)] | rw [if_neg (by omega)])]
                exact T_ret fun cx_ a_ hI_ => ret_ok (H' := [some (3, [(iv (n + 1))])]) (.inr rfl) (Wk.ren2 [ps 6 (iv 5), pb 0 3 [(iv (n + 1))]] 1 hc0 [0] rfl rfl (by kernel_rfl) (by kernel_rfl)) rfl (obs_cons rfl (obs_nil)) (fun cx_ a_ hI_ => ret_res (l' := [ps 6 (iv 5), pb 0 3 [(iv (n + 1))]]) (by kernel_rfl) cx_ a_ hI_) hI_
              · refine T_else (b := (decide (0 < (((kids b).length : Nat) : Int)))) rfl (decide_eq_false h8) ?_
                refine T_skip ?_
                refine T_seq ?_
                refine T_region [] [ks 6, kb 0] (fun _ => mixed) (l' := [ps 6 (iv 0), pb 0 3 [(iv (n + 1))]]) (obs := []) (by kernel_rfl) (obs_nil) ?_
                rw [show lookS b lv n = (0, n + 1) from by rw [lookS_eq]; repeat (first | rw [if_pos (by omega)] | rw [if_neg (by omega)])]
                exact T_ret fun cx_ a_ hI_ => ret_ok (H' := [some (3, [(iv (n + 1))])]) (.inr rfl) (Wk.ren2 [ps 6 (iv 0), pb 0 3 [(iv (n + 1))]] 1 hc0 [0] rfl rfl (by kernel_rfl) (by kernel_rfl)) rfl (obs_cons rfl (obs_nil)) (fun cx_ a_ hI_ => ret_res (l' := [ps 6 (iv 0), pb 0 3 [(iv (n + 1))]]) (by kernel_rfl) cx_ a_ hI_) hI_
            · refine T_else (b := (decide ((kd b) = 2))) rfl (decide_eq_false h7) ?_
              refine T_region [] [ks 1, ks 2, ks 3, ks 30, ks 31, kb 0, kb 1] (fun _ => mixed) (l' := [ps 1 (iv lv), ps 2 (.opt 0 0), ps 3 (.opt 1 0), ps 30 (iv (kd b)), ps 31 (bv (decide ((kd b) = 3))), pb 0 3 [(iv (n + 1))], pb 1 40 [(iv (kd b)), (iv (sh b)), (.ssl (kc b) 0 ((kids b).length))]]) (obs := []) (by kernel_rfl) (obs_nil) ?_
              by_cases h9 : (kd b) = 3
              · refine T_then (b := (decide ((kd b) = 3))) rfl (decide_eq_true h9) ?_
                refine T_seq ?_
                refine T_seq ?_
                refine T_region [] [ks 38, kb 0] (fun _ => mixed) (l' := [ps 38 (bv (decide (0 < (((kids b).length : Nat) : Int)))), pb 0 3 [(iv (n + 1))]]) (obs := []) (by kernel_rfl) (obs_nil) ?_
                by_cases h10 : 0 < (((kids b).length : Nat) : Int)
                · refine T_then (b := (decide (0 < (((kids b).length : Nat) : Int)))) rfl (decide_eq_true h10) ?_
                  refine T_seq ?_
                  refine T_region [] [ks 6, kb 0] (fun _ => mixed) (l' := [ps 6 (iv 5), pb 0 3 [(iv (n + 1))]]) (obs := []) (by kernel_rfl) (obs_nil) ?_
                  rw [show lookS b lv n = (5, n + 1) from by rw [lookS_eq]; repeat (first | rw [if_pos (by omega)] | rw [if_neg (by omega)])]
                  exact T_ret fun cx_ a_ hI_ => ret_ok (H' := [some (3, [(iv (n + 1))])]) (.inr rfl) (Wk.ren2 [ps 6 (iv 5), pb 0 3 [(iv (n + 1))]] 1 hc0 [0] rfl rfl (by kernel_rfl) (by kernel_rfl)) rfl (obs_cons rfl (obs_nil)) (fun cx_ a_ hI_ => ret_res (l' := [ps 6 (iv 5), pb 0 3 [(iv (n + 1))]]) (by kernel_rfl) cx_ a_ hI_) hI_
                · refine T_else (b := (decide (0 < (((kids b).length : Nat) : Int)))) rfl (decide_eq_false h10) ?_
                  refine T_skip ?_
                  refine T_seq ?_
                  refine T_region [] [ks 6, kb 0] (fun _ => mixed) (l' := [ps 6 (iv 0), pb 0 3 [(iv (n + 1))]]) (obs := []) (by kernel_rfl) (obs_nil) ?_
                  rw [show lookS b lv n = (0, n + 1) from by rw [lookS_eq]; repeat (first | rw [if_pos (by omega)] | rw [if_neg (by omega)])]
                  exact T_ret fun cx_ a_ hI_ => ret_ok (H' := [some (3, [(iv (n + 1))])]) (.inr rfl) (Wk.ren2 [ps 6 (iv 0), pb 0 3 [(iv (n + 1))]] 1 hc0 [0] rfl rfl (by kernel_rfl) (by kernel_rfl)) rfl (obs_cons rfl (obs_nil)) (fun cx_ a_ hI_ => ret_res (l' := [ps 6 (iv 0), pb 0 3 [(iv (n + 1))]]) (by kernel_rfl) cx_ a_ hI_) hI_
              · refine T_else (b := (decide ((kd b) = 3))) rfl (decide_eq_false h9) ?_
                refine T_seq ?_
                refine T_region [] [ks 1, ks 2, ks 3, ks 39, kb 0, kb 1] (fun _ => mixed) (l' := [ps 1 (iv lv), ps 2 (.opt 0 0), ps 3 (.opt 1 0), ps 39 (bv (decide ((kd b) = 4))), pb 0 3 [(iv (n + 1))], pb 1 40 [(iv (kd b)), (iv (sh b)), (.ssl (kc b) 0 ((kids b).length))]]) (obs := []) (by kernel_rfl) (obs_nil) ?_
                by_cases h11 : (kd b) = 4
                · refine T_then (b := (decide ((kd b) = 4))) rfl (decide_eq_true h11) ?_
                  refine T_seq ?_
                  refine T_region [] [ks 1, ks 2, ks 3, ks 44, kb 0, kb 1] (fun _ => mixed) (l' := [ps 1 (iv lv), ps 2 (.opt 0 0), ps 3 (.opt 1 0), ps 44 (bv (decide ((((kids b).length : Nat) : Int) = 0))), pb 0 3 [(iv (n + 1))], pb 1 40 [(iv (kd b)), (iv (sh b)), (.ssl (kc b) 0 ((kids b).length))]]) (obs := []) (by kernel_rfl) (obs_nil) ?_
                  by_cases h12 : (((kids b).length : Nat) : Int) = 0
                  · refine T_then (b := (decide ((((kids b).length : Nat) : Int) = 0))) rfl (decide_eq_true h12) ?_
                    refine T_seq ?_
                    refine T_region [] [ks 6, kb 0] (fun _ => mixed) (l' := [ps 6 (iv 5), pb 0 3 [(iv (n + 1))]]) (obs := []) (by kernel_rfl) (obs_nil) ?_
                    rw [show lookS b lv n = (5, n + 1) from by rw [lookS_eq]; repeat (first | rw [if_pos (by omega)] | rw [if_neg (by omega)])]
                    exact T_ret fun cx_ a_ hI_ => ret_ok (H' := [some (3, [(iv (n + 1))])]) (.inr rfl) (Wk.ren2 [ps 6 (iv 5), pb 0 3 [(iv (n + 1))]] 1 hc0 [0] rfl rfl (by kernel_rfl) (by kernel_rfl)) rfl (obs_cons rfl (obs_nil)) (fun cx_ a_ hI_ => ret_res (l' := [ps 6 (iv 5), pb 0 3 [(iv (n + 1))]]) (by kernel_rfl) cx_ a_ hI_) hI_
                  · refine T_else (b := (decide ((((kids b).length : Nat) : Int) = 0))) rfl (decide_eq_false h12) ?_
                    refine T_skip ?_
                    refine T_blk ?_
                    refine T_seq ?_
                    refine T_seq ?_
                    refine T_region [] [ks 1, ks 2, ks 46, ks 47, ks 48, kb 0] (fun _ => mixed) (l' := [ps 1 (iv lv), ps 2 (.opt 0 0), ps 46 (.ssl (kc b) 0 ((kids b).length)), ps 47 (iv (((kids b).length : Nat) : Int)), ps 48 (iv 0), pb 0 3 [(iv (n + 1))]]) (obs := []) (by kernel_rfl) (obs_nil) ?_
                    refine T_block ?_
                    refine T_loop (α := {x : Nat × Int // x.1 ≤ (kids b).length ∧ 0 ≤ x.2 ∧ x.2 ≤ 4096 ∧ ((x.1 : Nat) : Int) ≤ x.2 ∧ lookL ((kids b).drop x.1) (lv + 1) x.2 = lookL (kids b) (lv + 1) (n + 1)}) (fun x => [ps 1 (iv lv), ps 2 (.opt 0 0), ps 46 (.ssl (kc b) 0 ((kids b).length)), ps 47 (iv (((kids b).length : Nat) : Int)), ps 48 (iv ((x.1.1 : Nat) : Int)), pb 0 3 [(iv x.1.2)]]) (fun x => (kids b).length - x.1.1) 1 ⟨(0, n + 1), ⟨Nat.zero_le _, by omega, by omega, by omega, rfl⟩⟩ (Wk.ren2 [ps 1 (iv lv), ps 2 (.opt 0 0), ps 46 (.ssl (kc b) 0 ((kids b).length)), ps 47 (iv (((kids b).length : Nat) : Int)), ps 48 (iv ((0 : Nat) : Int)), pb 0 3 [(iv (n + 1))]] 1 hc0 [0] rfl rfl (by kernel_rfl) (by kernel_rfl)) ?_
                    rintro ⟨⟨i, s⟩, ⟨hi, hs0, hs1, hsi, hL⟩⟩
                    dsimp only at hi hs0 hs1 hsi hL
                    refine T_seq ?_
                    refine T_region [] [ks 1, ks 2, ks 46, ks 47, ks 48, ks 49, kb 0] (fun _ => mixed) (l' := [ps 1 (iv lv), ps 2 (.opt 0 0), ps 46 (.ssl (kc b) 0 ((kids b).length)), ps 47 (iv (((kids b).length : Nat) : Int)), ps 48 (iv ((i : Nat) : Int)), ps 49 (bv (decide (((i : Nat) : Int) < (((kids b).length : Nat) : Int)))), pb 0 3 [(iv s)]]) (obs := []) (by kernel_rfl) (obs_nil) ?_
                    refine T_seq ?_
                    by_cases h13 : ((i : Nat) : Int) < (((kids b).length : Nat) : Int)
                    · refine T_then (b := (decide (((i : Nat) : Int) < (((kids b).length : Nat) : Int)))) rfl (decide_eq_true h13) ?_
                      refine T_skip ?_
                      refine T_seq ?_
                      refine T_block ?_
                      refine T_seq ?_
                      refine T_region [(0, .nat (i * 3)), (1, .cells [(iv (kd ((kids b).getD i dB))), (iv (sh ((kids b).getD i dB))), (.ssl (kc ((kids b).getD i dB)) 0 ((kids ((kids b).getD i dB)).length))])] [ks 1, ks 2, ks 8, ks 46, ks 47, ks 48, kb 0, kb 25] (fun _ => mixed) (l' := [ps 1 (iv lv), ps 2 (.opt 0 0), ps 8 (.opt 25 0), ps 46 (.ssl (kc b) 0 ((kids b).length)), ps 47 (iv (((kids b).length : Nat) : Int)), ps 48 (iv ((i : Nat) : Int)), pb 0 3 [(iv s)], pb 25 40 [(iv (kd ((kids b).getD i dB))), (iv (sh ((kids b).getD i dB))), (.ssl (kc ((kids b).getD i dB)) 0 ((kids ((kids b).getD i dB)).length))]]) (obs := [(0 : Int) ≤ ((i : Nat) : Int) ∧ ((i : Nat) : Int) < (((kids b).length : Nat) : Int), 0 + (((i : Nat) : Int) : Int).toNat * 3 = (i * 3), (i * 3) + 3 ≤ ((kc b)).length ∧ (((kc b)).drop (i * 3)).take 3 = [(iv (kd ((kids b).getD i dB))), (iv (sh ((kids b).getD i dB))), (.ssl (kc ((kids b).getD i dB)) 0 ((kids ((kids b).getD i dB)).length))]]) (by kernel_rfl) (obs_cons (p := (0 : Int) ≤ ((i : Nat) : Int) ∧ ((i : Nat) : Int) < (((kids b).length : Nat) : Int)) (by omega) (obs_cons (p := 0 + (((i : Nat) : Int) : Int).toNat * 3 = (i * 3)) (by omega) (obs_cons (p := (i * 3) + 3 ≤ ((kc b)).length ∧ (((kc b)).drop (i * 3)).take 3 = [(iv (kd ((kids b).getD i dB))), (iv (sh ((kids b).getD i dB))), (.ssl (kc ((kids b).getD i dB)) 0 ((kids ((kids b).getD i dB)).length))]) (kc_at b i 0 3 (by omega) (by decide)) (obs_nil)))) ?_
                      refine T_seq ?_
                      have hok := look_ok ((kids b).getD i dB) (lv + 1) s hs0 hs1
                      have hcp := cnt_pos ((kids b).getD i dB)
                      refine T_region [(4, .call [0] [(.agg [(iv (kd ((kids b).getD i dB))), (iv (sh ((kids b).getD i dB))), (.ssl (kc ((kids b).getD i dB)) 0 ((kids ((kids b).getD i dB)).length))]), (iv (lv + 1)), (.opt 0 0)] [some (3, [(iv s)])] (iv ((lookS ((kids b).getD i dB) (lv + 1) s).1)) [some (3, [(iv ((lookS ((kids b).getD i dB) (lv + 1) s).2))])])] [ks 1, ks 2, ks 9, ks 46, ks 47, ks 48, kb 0] (fun _ => mixed) (l' := [ps 1 (iv lv), ps 2 (.opt 0 0), ps 9 (iv ((lookS ((kids b).getD i dB) (lv + 1) s).1)), ps 46 (.ssl (kc b) 0 ((kids b).length)), ps 47 (iv (((kids b).length : Nat) : Int)), ps 48 (iv ((i : Nat) : Int)), pb 0 3 [(iv ((lookS ((kids b).getD i dB) (lv + 1) s).2))]]) (obs := [InK .i64 (lv + 1), PC Try.prog 28 [(.agg [(iv (kd ((kids b).getD i dB))), (iv (sh ((kids b).getD i dB))), (.ssl (kc ((kids b).getD i dB)) 0 ((kids ((kids b).getD i dB)).length))]), (iv (lv + 1)), (.opt 0 0)] [some (3, [(iv s)])] (iv ((lookS ((kids b).getD i dB) (lv + 1) s).1)) [some (3, [(iv ((lookS ((kids b).getD i dB) (lv + 1) s).2))])], [(.agg [(iv (kd ((kids b).getD i dB))), (iv (sh ((kids b).getD i dB))), (.ssl (kc ((kids b).getD i dB)) 0 ((kids ((kids b).getD i dB)).length))]), (iv (lv + 1)), (.opt 0 0)] = renL (sigi [0] 73) [(.agg [(iv (kd ((kids b).getD i dB))), (iv (sh ((kids b).getD i dB))), (.ssl (kc ((kids b).getD i dB)) 0 ((kids ((kids b).getD i dB)).length))]), (iv (lv + 1)), (.opt 0 0)], [(iv s)] = renL (sigi [0] 73) [(iv s)]]) (by kernel_rfl) (obs_cons (p := InK .i64 (lv + 1)) (by simp only [InK]; omega) (obs_cons (p := PC Try.prog 28 [(.agg [(iv (kd ((kids b).getD i dB))), (iv (sh ((kids b).getD i dB))), (.ssl (kc ((kids b).getD i dB)) 0 ((kids ((kids b).getD i dB)).length))]), (iv (lv + 1)), (.opt 0 0)] [some (3, [(iv s)])] (iv ((lookS ((kids b).getD i dB) (lv + 1) s).1)) [some (3, [(iv ((lookS ((kids b).getD i dB) (lv + 1) s).2))])]) (ih ((kids b).getD i dB) (kids_lt (by omega)) (lv + 1) s (by omega) (by omega) (by omega) (by omega)) (obs_cons (p := [(.agg [(iv (kd ((kids b).getD i dB))), (iv (sh ((kids b).getD i dB))), (.ssl (kc ((kids b).getD i dB)) 0 ((kids ((kids b).getD i dB)).length))]), (iv (lv + 1)), (.opt 0 0)] = renL (sigi [0] 73) [(.agg [(iv (kd ((kids b).getD i dB))), (iv (sh ((kids b).getD i dB))), (.ssl (kc ((kids b).getD i dB)) 0 ((kids ((kids b).getD i dB)).length))]), (iv (lv + 1)), (.opt 0 0)]) rfl (obs_cons (p := [(iv s)] = renL (sigi [0] 73) [(iv s)]) rfl (obs_nil))))) ?_
                      refine T_seq ?_
                      refine T_region [] [ks 1, ks 2, ks 9, ks 46, ks 47, ks 48, ks 58, kb 0] (fun _ => mixed) (l' := [ps 1 (iv lv), ps 2 (.opt 0 0), ps 9 (iv ((lookS ((kids b).getD i dB) (lv + 1) s).1)), ps 46 (.ssl (kc b) 0 ((kids b).length)), ps 47 (iv (((kids b).length : Nat) : Int)), ps 48 (iv ((i : Nat) : Int)), ps 58 (bv (!(decide (((lookS ((kids b).getD i dB) (lv + 1) s).1) = 0)))), pb 0 3 [(iv ((lookS ((kids b).getD i dB) (lv + 1) s).2))]]) (obs := []) (by kernel_rfl) (obs_nil) ?_
                      by_cases h14 : ((lookS ((kids b).getD i dB) (lv + 1) s).1) = 0
                      · refine T_else (b := (!(decide (((lookS ((kids b).getD i dB) (lv + 1) s).1) = 0)))) rfl (congrArg Bool.not (decide_eq_true h14)) ?_
                        refine T_skip ?_
                        refine T_blk ?_
                        refine T_region [] [ks 1, ks 2, ks 46, ks 47, ks 48, kb 0] (fun _ => mixed) (l' := [ps 1 (iv lv), ps 2 (.opt 0 0), ps 46 (.ssl (kc b) 0 ((kids b).length)), ps 47 (iv (((kids b).length : Nat) : Int)), ps 48 (iv (((i : Nat) : Int) + 1)), pb 0 3 [(iv ((lookS ((kids b).getD i dB) (lv + 1) s).2))]]) (obs := [InK .i64 (((i : Nat) : Int) + 1)]) (by kernel_rfl) (obs_cons (p := InK .i64 (((i : Nat) : Int) + 1)) (by simp only [InK]; omega) (obs_nil)) ?_
                        exact T_back ⟨(i + 1, (lookS ((kids b).getD i dB) (lv + 1) s).2), ⟨by omega, by omega, (hok.2.2 h14).1, by have := (hok.2.2 h14).2.1; omega, (lookL_next (by omega) h14).trans hL⟩⟩ (Wk.ren2 [ps 1 (iv lv), ps 2 (.opt 0 0), ps 46 (.ssl (kc b) 0 ((kids b).length)), ps 47 (iv (((kids b).length : Nat) : Int)), ps 48 (iv (((i + 1) : Nat) : Int)), pb 0 3 [(iv ((lookS ((kids b).getD i dB) (lv + 1) s).2))]] 1 hc0 [0] rfl rfl (by kernel_rfl) (by kernel_rfl)) (show (kids b).length - (i + 1) < (kids b).length - i from by show (kids b).length - (i + 1) < (kids b).length - i; omega)
                      · refine T_then (b := (!(decide (((lookS ((kids b).getD i dB) (lv + 1) s).1) = 0)))) rfl (congrArg Bool.not (decide_eq_false h14)) ?_
                        refine T_seq ?_
                        refine T_region [] [ks 6, kb 0] (fun _ => mixed) (l' := [ps 6 (iv ((lookS ((kids b).getD i dB) (lv + 1) s).1)), pb 0 3 [(iv ((lookS ((kids b).getD i dB) (lv + 1) s).2))]]) (obs := []) (by kernel_rfl) (obs_nil) ?_
                        rw [lookL_stop (by omega) h14] at hL
                        rw [show lookS b lv n = lookS ((kids b).getD i dB) (lv + 1) s from by rw [lookS_eq, hL]; repeat (first | rw [if_pos (by omega)] | rw [if_neg (by omega)])]
                        exact T_ret fun cx_ a_ hI_ => loop_ret (ret_ok (H' := [some (3, [(iv ((lookS ((kids b).getD i dB) (lv + 1) s).2))])]) (.inr rfl) (Wk.ren2 [ps 6 (iv ((lookS ((kids b).getD i dB) (lv + 1) s).1)), pb 0 3 [(iv ((lookS ((kids b).getD i dB) (lv + 1) s).2))]] 1 hc0 [0] rfl rfl (by kernel_rfl) (by kernel_rfl)) rfl (obs_cons rfl (obs_nil)) (fun cx_ a_ hI_ => ret_res (l' := [ps 6 (iv ((lookS ((kids b).getD i dB) (lv + 1) s).1)), pb 0 3 [(iv ((lookS ((kids b).getD i dB) (lv + 1) s).2))]]) (by kernel_rfl) cx_ a_ hI_) hI_)
                    · refine T_else (b := (decide (((i : Nat) : Int) < (((kids b).length : Nat) : Int)))) rfl (decide_eq_false h13) ?_
                      refine T_break rfl rfl ?_
                      refine T_seq ?_
                      refine T_region [] [ks 6, kb 0] (fun _ => mixed) (l' := [ps 6 (iv 0), pb 0 3 [(iv s)]]) (obs := []) (by kernel_rfl) (obs_nil) ?_
                      obtain rfl : i = (kids b).length := by omega
                      rw [List.drop_length, lookL] at hL
                      rw [show lookS b lv n = (0, s) from by rw [lookS_eq, hL]; repeat (first | rw [if_pos (by omega)] | rw [if_neg (by omega)])]
                      exact T_ret fun cx_ a_ hI_ => ret_ok (H' := [some (3, [(iv s)])]) (.inr rfl) (Wk.ren2 [ps 6 (iv 0), pb 0 3 [(iv s)]] 1 hc0 [0] rfl rfl (by kernel_rfl) (by kernel_rfl)) rfl (obs_cons rfl (obs_nil)) (fun cx_ a_ hI_ => ret_res (l' := [ps 6 (iv 0), pb 0 3 [(iv s)]]) (by kernel_rfl) cx_ a_ hI_) hI_
                · refine T_else (b := (decide ((kd b) = 4))) rfl (decide_eq_false h11) ?_
                  refine T_seq ?_
                  refine T_region [] [ks 6, kb 0] (fun _ => mixed) (l' := [ps 6 (iv 1), pb 0 3 [(iv (n + 1))]]) (obs := []) (by kernel_rfl) (obs_nil) ?_
                  rw [show lookS b lv n = (1, n + 1) from by rw [lookS_eq]; repeat (first | rw [if_pos (by omega)] | rw [if_neg (by omega)])]
                  exact T_ret fun cx_ a_ hI_ => ret_ok (H' := [some (3, [(iv (n + 1))])]) (.inr rfl) (Wk.ren2 [ps 6 (iv 1), pb 0 3 [(iv (n + 1))]] 1 hc0 [0] rfl rfl (by kernel_rfl) (by kernel_rfl)) rfl (obs_cons rfl (obs_nil)) (fun cx_ a_ hI_ => ret_res (l' := [ps 6 (iv 1), pb 0 3 [(iv (n + 1))]]) (by kernel_rfl) cx_ a_ hI_) hI_
theorem look_all : ∀ (m : Nat) (b : Beat), SizeOf.sizeOf b < m → ∀ (lv n : Int), 1 ≤ lv → lv ≤ 33 → 0 ≤ n → n ≤ 4096 → PC Try.prog 28 [.agg (gB b), iv lv, .opt 0 0] [some (3, [iv n])] (iv (lookS b lv n).1) [some (3, [iv (lookS b lv n).2])]
  | 0, _, h => absurd h (Nat.not_lt_zero _)
  | m + 1, b, h => fun lv n h1 h2 h3 h4 => look_step b (fun b2 hb => look_all m b2 (by omega)) lv n h1 h2 h3 h4
theorem look_pc (b : Beat) (lv n : Int) (h1 : 1 ≤ lv) (h2 : lv ≤ 33) (h3 : 0 ≤ n) (h4 : n ≤ 4096) : PC Try.prog 28 [.agg (gB b), iv lv, .opt 0 0] [some (3, [iv n])] (iv (lookS b lv n).1) [some (3, [iv (lookS b lv n).2])] := look_all _ b (Nat.lt_succ_self _) lv n h1 h2 h3 h4
theorem wrong_pc (b : Beat) : PC Try.prog 15 [(.agg [(iv (kd b)), (iv (sh b)), (.ssl (kc b) 0 ((kids b).length))])] [] (iv (wrongE b)) [] := by
  refine pc_intro Try.func15 rfl (by kernel_rfl) (Nat.le_of_ble_eq_true rfl) (by kernel_rfl) (l0 := [ps 0 (.agg [(iv (kd b)), (iv (sh b)), (.ssl (kc b) 0 ((kids b).length))])]) rfl (fun c0 Bor hc0 => ?_)
  refine T_seq ?_
  refine T_region [] [ks 1, kb 0] (fun _ => mixed) (l' := [ps 1 (.opt 0 0), pb 0 40 [(iv (kd b)), (iv (sh b)), (.ssl (kc b) 0 ((kids b).length))]]) (obs := []) (by kernel_rfl) (obs_nil) ?_
  refine T_seq ?_
  refine T_region [] [ks 1, ks 3, kb 0, kb 16] (fun _ => mixed) (l' := [ps 1 (.opt 0 0), ps 3 (.opt 16 0), pb 0 40 [(iv (kd b)), (iv (sh b)), (.ssl (kc b) 0 ((kids b).length))], pb 16 3 [(iv 0)]]) (obs := []) (by kernel_rfl) (obs_nil) ?_
  refine T_seq ?_
  refine T_region [(1, .call [16] [(.agg [(iv (kd b)), (iv (sh b)), (.ssl (kc b) 0 ((kids b).length))]), (iv 1), (.opt 0 0)] [some (3, [(iv 0)])] (iv ((lookS b (1) 0).1)) [some (3, [(iv ((lookS b (1) 0).2))])])] [ks 2] (fun _ => mixed) (l' := [ps 2 (iv ((lookS b (1) 0).1))]) (obs := [PC Try.prog 28 [(.agg [(iv (kd b)), (iv (sh b)), (.ssl (kc b) 0 ((kids b).length))]), (iv 1), (.opt 0 0)] [some (3, [(iv 0)])] (iv ((lookS b (1) 0).1)) [some (3, [(iv ((lookS b (1) 0).2))])], [(.agg [(iv (kd b)), (iv (sh b)), (.ssl (kc b) 0 ((kids b).length))]), (iv 1), (.opt 16 0)] = renL (sigi [16] 40) [(.agg [(iv (kd b)), (iv (sh b)), (.ssl (kc b) 0 ((kids b).length))]), (iv 1), (.opt 0 0)], [(iv 0)] = renL (sigi [16] 40) [(iv 0)]]) (by kernel_rfl) (obs_cons (p := PC Try.prog 28 [(.agg [(iv (kd b)), (iv (sh b)), (.ssl (kc b) 0 ((kids b).length))]), (iv 1), (.opt 0 0)] [some (3, [(iv 0)])] (iv ((lookS b (1) 0).1)) [some (3, [(iv ((lookS b (1) 0).2))])]) (look_pc b 1 0 (by decide) (by decide) (by decide) (by decide)) (obs_cons (p := [(.agg [(iv (kd b)), (iv (sh b)), (.ssl (kc b) 0 ((kids b).length))]), (iv 1), (.opt 16 0)] = renL (sigi [16] 40) [(.agg [(iv (kd b)), (iv (sh b)), (.ssl (kc b) 0 ((kids b).length))]), (iv 1), (.opt 0 0)]) rfl (obs_cons (p := [(iv 0)] = renL (sigi [16] 40) [(iv 0)]) rfl (obs_nil)))) ?_
  exact T_ret fun cx_ a_ hI_ => ret_ok (H' := []) (.inr rfl) (Wk.ren2 [ps 2 (iv ((lookS b (1) 0).1))] 0 hc0 [] rfl rfl (by kernel_rfl) (by kernel_rfl)) rfl (obs_nil) (fun cx_ a_ hI_ => ret_res (l' := [ps 2 (iv ((lookS b (1) 0).1))]) (by kernel_rfl) cx_ a_ hI_) hI_
theorem ref_wrong_step (b : Beat) (ih : ∀ b2 : Beat, SizeOf.sizeOf b2 < SizeOf.sizeOf b → ∀ (lv n : Int), 1 ≤ lv → lv ≤ 33 → 0 ≤ n → n ≤ 4096 → PC Try.prog 29 [.agg (gB b2), iv lv, iv n] [] (.tup [iv (wrongS b2 lv n).1, iv (wrongS b2 lv n).2]) []) (lv n : Int) (h1 : 1 ≤ lv) (h2 : lv ≤ 33) (h3 : 0 ≤ n) (h4 : n ≤ 4096) : PC Try.prog 29 [(.agg [(iv (kd b)), (iv (sh b)), (.ssl (kc b) 0 ((kids b).length))]), (iv lv), (iv n)] [] (.tup [(iv ((wrongS b lv n).1)), (iv ((wrongS b lv n).2))]) [] := by
  refine pc_intro Try.func29 rfl (by kernel_rfl) (Nat.le_of_ble_eq_true rfl) (by kernel_rfl) (l0 := [ps 0 (.agg [(iv (kd b)), (iv (sh b)), (.ssl (kc b) 0 ((kids b).length))]), ps 1 (iv lv), ps 2 (iv n)]) rfl (fun c0 Bor hc0 => ?_)
  refine T_seq ?_
  refine T_region [] [ks 1, ks 2, ks 3, kb 0] (fun _ => mixed) (l' := [ps 1 (iv lv), ps 2 (iv n), ps 3 (.opt 0 0), pb 0 40 [(iv (kd b)), (iv (sh b)), (.ssl (kc b) 0 ((kids b).length))]]) (obs := []) (by kernel_rfl) (obs_nil) ?_
  refine T_seq ?_
  refine T_seq ?_
  by_cases h1 : 32 < lv
  · refine T_region [(3, .gd true .no), (4, .gd true .no), (5, .yes true)] [ks 1, ks 2, ks 3, ks 16, kb 0] (fun _ => mixed) (l' := [ps 1 (iv lv), ps 2 (iv n), ps 3 (.opt 0 0), ps 16 (bv true), pb 0 40 [(iv (kd b)), (iv (sh b)), (.ssl (kc b) 0 ((kids b).length))]]) (obs := [(decide (32 < lv)) = true, (decide (32 < lv)) = true, (decide (32 < lv)) = true]) (by kernel_rfl) (obs_cons (p := (decide (32 < lv)) = true) (decide_eq_true h1) (obs_cons (p := (decide (32 < lv)) = true) (decide_eq_true h1) (obs_cons (p := (decide (32 < lv)) = true) (decide_eq_true h1) (obs_nil)))) ?_
    refine T_then (b := true) rfl rfl ?_
    refine T_seq ?_
    refine T_region [] [ks 6, ks 7] (fun _ => mixed) (l' := [ps 6 (iv 4), ps 7 (iv n)]) (obs := []) (by kernel_rfl) (obs_nil) ?_
    rw [show wrongS b lv n = (4, n) from by rw [wrongS_eq]; repeat (first | rw [if_pos (by omega)] | rw [if_neg (by omega)])]
    exact T_ret fun cx_ a_ hI_ => ret_ok (H' := []) (.inr rfl) (Wk.ren2 [ps 6 (iv 4), ps 7 (iv n)] 0 hc0 [] rfl rfl (by kernel_rfl) (by kernel_rfl)) rfl (obs_nil) (fun cx_ a_ hI_ => ret_res (l' := [ps 6 (iv 4), ps 7 (iv n)]) (by kernel_rfl) cx_ a_ hI_) hI_
  · refine T_region [(3, .gd false (.no)), (4, .gd false (.no)), (5, .yes false)] [ks 1, ks 2, ks 3, ks 16, kb 0] (fun _ => mixed) (l' := [ps 1 (iv lv), ps 2 (iv n), ps 3 (.opt 0 0), ps 16 (bv (decide (n < 1))), pb 0 40 [(iv (kd b)), (iv (sh b)), (.ssl (kc b) 0 ((kids b).length))]]) (obs := [(decide (32 < lv)) = false, (decide (32 < lv)) = false, (decide (32 < lv)) = false]) (by kernel_rfl) (obs_cons (p := (decide (32 < lv)) = false) (decide_eq_false h1) (obs_cons (p := (decide (32 < lv)) = false) (decide_eq_false h1) (obs_cons (p := (decide (32 < lv)) = false) (decide_eq_false h1) (obs_nil)))) ?_
    by_cases h2 : n < 1
    · refine T_then (b := (decide (n < 1))) rfl (decide_eq_true h2) ?_
      refine T_seq ?_
      refine T_region [] [ks 6, ks 7] (fun _ => mixed) (l' := [ps 6 (iv 4), ps 7 (iv n)]) (obs := []) (by kernel_rfl) (obs_nil) ?_
      rw [show wrongS b lv n = (4, n) from by rw [wrongS_eq]; repeat (first | rw [if_pos (by omega)] | rw [if_neg (by omega)])]
      exact T_ret fun cx_ a_ hI_ => ret_ok (H' := []) (.inr rfl) (Wk.ren2 [ps 6 (iv 4), ps 7 (iv n)] 0 hc0 [] rfl rfl (by kernel_rfl) (by kernel_rfl)) rfl (obs_nil) (fun cx_ a_ hI_ => ret_res (l' := [ps 6 (iv 4), ps 7 (iv n)]) (by kernel_rfl) cx_ a_ hI_) hI_
    · refine T_else (b := (decide (n < 1))) rfl (decide_eq_false h2) ?_
      refine T_skip ?_
      refine T_seq ?_
      refine T_region [] [ks 1, ks 2, ks 3, kb 0] (fun _ => mixed) (l' := [ps 1 (iv lv), ps 2 (iv (n - 1)), ps 3 (.opt 0 0), pb 0 40 [(iv (kd b)), (iv (sh b)), (.ssl (kc b) 0 ((kids b).length))]]) (obs := [InK .i64 (n - 1)]) (by kernel_rfl) (obs_cons (p := InK .i64 (n - 1)) (by simp only [InK]; omega) (obs_nil)) ?_
      refine T_seq ?_
      refine T_seq ?_
      by_cases h3 : (sh b) < 1
      · refine T_region [(4, .gd true .no), (5, .gd true .no), (6, .gd true .no), (7, .yes true)] [ks 1, ks 2, ks 3, ks 27, kb 0] (fun _ => mixed) (l' := [ps 1 (iv lv), ps 2 (iv (n - 1)), ps 3 (.opt 0 0), ps 27 (bv true), pb 0 40 [(iv (kd b)), (iv (sh b)), (.ssl (kc b) 0 ((kids b).length))]]) (obs := [(decide ((sh b) < 1)) = true, (decide ((sh b) < 1)) = true, (decide ((sh b) < 1)) = true, (decide ((sh b) < 1)) = true]) (by kernel_rfl) (obs_cons (p := (decide ((sh b) < 1)) = true) (decide_eq_true h3) (obs_cons (p := (decide ((sh b) < 1)) = true) (decide_eq_true h3) (obs_cons (p := (decide ((sh b) < 1)) = true) (decide_eq_true h3) (obs_cons (p := (decide ((sh b) < 1)) = true) (decide_eq_true h3) (obs_nil))))) ?_
        refine T_then (b := true) rfl rfl ?_
        refine T_seq ?_
        refine T_region [] [ks 6, ks 7] (fun _ => mixed) (l' := [ps 6 (iv 3), ps 7 (iv (n - 1))]) (obs := []) (by kernel_rfl) (obs_nil) ?_
        rw [show wrongS b lv n = (3, n - 1) from by rw [wrongS_eq]; repeat (first | rw [if_pos (by omega)] | rw [if_neg (by omega)])]
        exact T_ret fun cx_ a_ hI_ => ret_ok (H' := []) (.inr rfl) (Wk.ren2 [ps 6 (iv 3), ps 7 (iv (n - 1))] 0 hc0 [] rfl rfl (by kernel_rfl) (by kernel_rfl)) rfl (obs_nil) (fun cx_ a_ hI_ => ret_res (l' := [ps 6 (iv 3), ps 7 (iv (n - 1))]) (by kernel_rfl) cx_ a_ hI_) hI_
      · refine T_region [(4, .gd false (.no)), (5, .gd false (.no)), (6, .gd false (.no)), (7, .yes false)] [ks 1, ks 2, ks 3, ks 27, kb 0] (fun _ => mixed) (l' := [ps 1 (iv lv), ps 2 (iv (n - 1)), ps 3 (.opt 0 0), ps 27 (bv (decide (65536 < (sh b)))), pb 0 40 [(iv (kd b)), (iv (sh b)), (.ssl (kc b) 0 ((kids b).length))]]) (obs := [(decide ((sh b) < 1)) = false, (decide ((sh b) < 1)) = false, (decide ((sh b) < 1)) = false, (decide ((sh b) < 1)) = false]) (by kernel_rfl) (obs_cons (p := (decide ((sh b) < 1)) = false) (decide_eq_false h3) (obs_cons (p := (decide ((sh b) < 1)) = false) (decide_eq_false h3) (obs_cons (p := (decide ((sh b) < 1)) = false) (decide_eq_false h3) (obs_cons (p := (decide ((sh b) < 1)) = false) (decide_eq_false h3) (obs_nil))))) ?_
        by_cases h4 : 65536 < (sh b)
        · refine T_then (b := (decide (65536 < (sh b)))) rfl (decide_eq_true h4) ?_
          refine T_seq ?_
          refine T_region [] [ks 6, ks 7] (fun _ => mixed) (l' := [ps 6 (iv 3), ps 7 (iv (n - 1))]) (obs := []) (by kernel_rfl) (obs_nil) ?_
          rw [show wrongS b lv n = (3, n - 1) from by rw [wrongS_eq]; repeat (first | rw [if_pos (by omega)] | rw [if_neg (by omega)])]
          exact T_ret fun cx_ a_ hI_ => ret_ok (H' := []) (.inr rfl) (Wk.ren2 [ps 6 (iv 3), ps 7 (iv (n - 1))] 0 hc0 [] rfl rfl (by kernel_rfl) (by kernel_rfl)) rfl (obs_nil) (fun cx_ a_ hI_ => ret_res (l' := [ps 6 (iv 3), ps 7 (iv (n - 1))]) (by kernel_rfl) cx_ a_ hI_) hI_
        · refine T_else (b := (decide (65536 < (sh b)))) rfl (decide_eq_false h4) ?_
          refine T_skip ?_
          refine T_seq ?_
          refine T_seq ?_
          by_cases h5 : (kd b) < 1
          · refine T_region [(4, .gd true .no), (5, .gd true .no), (6, .gd true .no), (7, .yes true)] [ks 1, ks 2, ks 3, ks 36, kb 0] (fun _ => mixed) (l' := [ps 1 (iv lv), ps 2 (iv (n - 1)), ps 3 (.opt 0 0), ps 36 (bv true), pb 0 40 [(iv (kd b)), (iv (sh b)), (.ssl (kc b) 0 ((kids b).length))]]) (obs := [(decide ((kd b) < 1)) = true, (decide ((kd b) < 1)) = true, (decide ((kd b) < 1)) = true, (decide ((kd b) < 1)) = true]) (by kernel_rfl) (obs_cons (p := (decide ((kd b) < 1)) = true) (decide_eq_true h5) (obs_cons (p := (decide ((kd b) < 1)) = true) (decide_eq_true h5) (obs_cons (p := (decide ((kd b) < 1)) = true) (decide_eq_true h5) (obs_cons (p := (decide ((kd b) < 1)) = true) (decide_eq_true h5) (obs_nil))))) ?_
            refine T_then (b := true) rfl rfl ?_
            refine T_seq ?_
            refine T_region [] [ks 6, ks 7] (fun _ => mixed) (l' := [ps 6 (iv 1), ps 7 (iv (n - 1))]) (obs := []) (by kernel_rfl) (obs_nil) ?_
            rw [show wrongS b lv n = (1, n - 1) from by rw [wrongS_eq]; repeat (first | rw [if_pos (by omega)] | rw [if_neg (by omega)])]
            exact T_ret fun cx_ a_ hI_ => ret_ok (H' := []) (.inr rfl) (Wk.ren2 [ps 6 (iv 1), ps 7 (iv (n - 1))] 0 hc0 [] rfl rfl (by kernel_rfl) (by kernel_rfl)) rfl (obs_nil) (fun cx_ a_ hI_ => ret_res (l' := [ps 6 (iv 1), ps 7 (iv (n - 1))]) (by kernel_rfl) cx_ a_ hI_) hI_
          · refine T_region [(4, .gd false (.no)), (5, .gd false (.no)), (6, .gd false (.no)), (7, .yes false)] [ks 1, ks 2, ks 3, ks 36, kb 0] (fun _ => mixed) (l' := [ps 1 (iv lv), ps 2 (iv (n - 1)), ps 3 (.opt 0 0), ps 36 (bv (decide (4 < (kd b)))), pb 0 40 [(iv (kd b)), (iv (sh b)), (.ssl (kc b) 0 ((kids b).length))]]) (obs := [(decide ((kd b) < 1)) = false, (decide ((kd b) < 1)) = false, (decide ((kd b) < 1)) = false, (decide ((kd b) < 1)) = false]) (by kernel_rfl) (obs_cons (p := (decide ((kd b) < 1)) = false) (decide_eq_false h5) (obs_cons (p := (decide ((kd b) < 1)) = false) (decide_eq_false h5) (obs_cons (p := (decide ((kd b) < 1)) = false) (decide_eq_false h5) (obs_cons (p := (decide ((kd b) < 1)) = false) (decide_eq_false h5) (obs_nil))))) ?_
            by_cases h6 : 4 < (kd b)
            · refine T_then (b := (decide (4 < (kd b)))) rfl (decide_eq_true h6) ?_
              refine T_seq ?_
              refine T_region [] [ks 6, ks 7] (fun _ => mixed) (l' := [ps 6 (iv 1), ps 7 (iv (n - 1))]) (obs := []) (by kernel_rfl) (obs_nil) ?_
              rw [show wrongS b lv n = (1, n - 1) from by rw [wrongS_eq]; repeat (first | rw [if_pos (by omega)] | rw [if_neg (by omega)])]
              exact T_ret fun cx_ a_ hI_ => ret_ok (H' := []) (.inr rfl) (Wk.ren2 [ps 6 (iv 1), ps 7 (iv (n - 1))] 0 hc0 [] rfl rfl (by kernel_rfl) (by kernel_rfl)) rfl (obs_nil) (fun cx_ a_ hI_ => ret_res (l' := [ps 6 (iv 1), ps 7 (iv (n - 1))]) (by kernel_rfl) cx_ a_ hI_) hI_
            · refine T_else (b := (decide (4 < (kd b)))) rfl (decide_eq_false h6) ?_
              refine T_skip ?_
              refine T_seq ?_
              refine T_seq ?_
              refine T_region [] [ks 1, ks 2, ks 3, ks 45, kb 0] (fun _ => mixed) (l' := [ps 1 (iv lv), ps 2 (iv (n - 1)), ps 3 (.opt 0 0), ps 45 (bv (!((decide ((kd b) = 4)) == (decide (0 < (((kids b).length : Nat) : Int)))))), pb 0 40 [(iv (kd b)), (iv (sh b)), (.ssl (kc b) 0 ((kids b).length))]]) (obs := []) (by kernel_rfl) (obs_nil) ?_
              by_cases h7 : ((decide ((kd b) = 4)) == (decide (0 < (((kids b).length : Nat) : Int)))) = true
              · refine T_else (b := (!((decide ((kd b) = 4)) == (decide (0 < (((kids b).length : Nat) : Int)))))) rfl (congrArg Bool.not h7) ?_
                refine T_skip ?_
                refine T_seq ?_
                refine T_seq ?_
                refine T_region [] [ks 1, ks 2, ks 48, ks 49, ks 50] (fun _ => mixed) (l' := [ps 1 (iv lv), ps 2 (iv (n - 1)), ps 48 (.ssl (kc b) 0 ((kids b).length)), ps 49 (iv (((kids b).length : Nat) : Int)), ps 50 (iv 0)]) (obs := []) (by kernel_rfl) (obs_nil) ?_
                refine T_block ?_
                refine T_loop (α := {x : Nat × Int // x.1 ≤ (kids b).length ∧ 0 ≤ x.2 ∧ x.2 ≤ 4096 ∧ ((x.1 : Nat) : Int) ≤ 4096 - x.2 ∧ wrongL ((kids b).drop x.1) (lv + 1) x.2 = wrongL (kids b) (lv + 1) (n - 1)}) (fun x => [ps 1 (iv lv), ps 2 (iv x.1.2), ps 48 (.ssl (kc b) 0 ((kids b).length)), ps 49 (iv (((kids b).length : Nat) : Int)), ps 50 (iv ((x.1.1 : Nat) : Int))]) (fun x => (kids b).length - x.1.1) 0 ⟨(0, n - 1), ⟨Nat.zero_le _, by omega, by omega, by omega, rfl⟩⟩ (Wk.ren2 [ps 1 (iv lv), ps 2 (iv (n - 1)), ps 48 (.ssl (kc b) 0 ((kids b).length)), ps 49 (iv (((kids b).length : Nat) : Int)), ps 50 (iv ((0 : Nat) : Int))] 0 hc0 [] rfl rfl (by kernel_rfl) (by kernel_rfl)) ?_
                rintro ⟨⟨i, s⟩, ⟨hi, hs0, hs1, hsi, hL⟩⟩
                dsimp only at hi hs0 hs1 hsi hL
                refine T_seq ?_
                refine T_region [] [ks 1, ks 2, ks 48, ks 49, ks 50, ks 51] (fun _ => mixed) (l' := [ps 1 (iv lv), ps 2 (iv s), ps 48 (.ssl (kc b) 0 ((kids b).length)), ps 49 (iv (((kids b).length : Nat) : Int)), ps 50 (iv ((i : Nat) : Int)), ps 51 (bv (decide (((i : Nat) : Int) < (((kids b).length : Nat) : Int))))]) (obs := []) (by kernel_rfl) (obs_nil) ?_
                refine T_seq ?_
                by_cases h8 : ((i : Nat) : Int) < (((kids b).length : Nat) : Int)
                · refine T_then (b := (decide (((i : Nat) : Int) < (((kids b).length : Nat) : Int)))) rfl (decide_eq_true h8) ?_
                  refine T_skip ?_
                  refine T_seq ?_
                  refine T_block ?_
                  refine T_seq ?_
                  refine T_region [(0, .nat (i * 3)), (1, .cells [(iv (kd ((kids b).getD i dB))), (iv (sh ((kids b).getD i dB))), (.ssl (kc ((kids b).getD i dB)) 0 ((kids ((kids b).getD i dB)).length))])] [ks 1, ks 2, ks 9, ks 48, ks 49, ks 50, kb 24] (fun _ => mixed) (l' := [ps 1 (iv lv), ps 2 (iv s), ps 9 (.opt 24 0), ps 48 (.ssl (kc b) 0 ((kids b).length)), ps 49 (iv (((kids b).length : Nat) : Int)), ps 50 (iv ((i : Nat) : Int)), pb 24 40 [(iv (kd ((kids b).getD i dB))), (iv (sh ((kids b).getD i dB))), (.ssl (kc ((kids b).getD i dB)) 0 ((kids ((kids b).getD i dB)).length))]]) (obs := [(0 : Int) ≤ ((i : Nat) : Int) ∧ ((i : Nat) : Int) < (((kids b).length : Nat) : Int), 0 + (((i : Nat) : Int) : Int).toNat * 3 = (i * 3), (i * 3) + 3 ≤ ((kc b)).length ∧ (((kc b)).drop (i * 3)).take 3 = [(iv (kd ((kids b).getD i dB))), (iv (sh ((kids b).getD i dB))), (.ssl (kc ((kids b).getD i dB)) 0 ((kids ((kids b).getD i dB)).length))]]) (by kernel_rfl) (obs_cons (p := (0 : Int) ≤ ((i : Nat) : Int) ∧ ((i : Nat) : Int) < (((kids b).length : Nat) : Int)) (by omega) (obs_cons (p := 0 + (((i : Nat) : Int) : Int).toNat * 3 = (i * 3)) (by omega) (obs_cons (p := (i * 3) + 3 ≤ ((kc b)).length ∧ (((kc b)).drop (i * 3)).take 3 = [(iv (kd ((kids b).getD i dB))), (iv (sh ((kids b).getD i dB))), (.ssl (kc ((kids b).getD i dB)) 0 ((kids ((kids b).getD i dB)).length))]) (kc_at b i 0 3 (by omega) (by decide)) (obs_nil)))) ?_
                  refine T_seq ?_
                  refine T_region [] [ks 1, ks 2, ks 9, ks 48, ks 49, ks 50, kb 24] (fun _ => mixed) (l' := [ps 1 (iv lv), ps 2 (iv s), ps 9 (.opt 24 0), ps 48 (.ssl (kc b) 0 ((kids b).length)), ps 49 (iv (((kids b).length : Nat) : Int)), ps 50 (iv ((i : Nat) : Int)), pb 24 40 [(iv (kd ((kids b).getD i dB))), (iv (sh ((kids b).getD i dB))), (.ssl (kc ((kids b).getD i dB)) 0 ((kids ((kids b).getD i dB)).length))]]) (obs := []) (by kernel_rfl) (obs_nil) ?_
                  refine T_seq ?_
                  have hok := wrong_ok ((kids b).getD i dB) (lv + 1) s hs0 hs1
                  refine T_region [(4, .call [] [(.agg [(iv (kd ((kids b).getD i dB))), (iv (sh ((kids b).getD i dB))), (.ssl (kc ((kids b).getD i dB)) 0 ((kids ((kids b).getD i dB)).length))]), (iv (lv + 1)), (iv s)] [] (.tup [(iv ((wrongS ((kids b).getD i dB) (lv + 1) s).1)), (iv ((wrongS ((kids b).getD i dB) (lv + 1) s).2))]) [])] [ks 1, ks 2, ks 10, ks 48, ks 49, ks 50] (fun _ => mixed) (l' := [ps 1 (iv lv), ps 2 (iv ((wrongS ((kids b).getD i dB) (lv + 1) s).2)), ps 10 (iv ((wrongS ((kids b).getD i dB) (lv + 1) s).1)), ps 48 (.ssl (kc b) 0 ((kids b).length)), ps 49 (iv (((kids b).length : Nat) : Int)), ps 50 (iv ((i : Nat) : Int))]) (obs := [InK .i64 (lv + 1), PC Try.prog 29 [(.agg [(iv (kd ((kids b).getD i dB))), (iv (sh ((kids b).getD i dB))), (.ssl (kc ((kids b).getD i dB)) 0 ((kids ((kids b).getD i dB)).length))]), (iv (lv + 1)), (iv s)] [] (.tup [(iv ((wrongS ((kids b).getD i dB) (lv + 1) s).1)), (iv ((wrongS ((kids b).getD i dB) (lv + 1) s).2))]) [], [(.agg [(iv (kd ((kids b).getD i dB))), (iv (sh ((kids b).getD i dB))), (.ssl (kc ((kids b).getD i dB)) 0 ((kids ((kids b).getD i dB)).length))]), (iv (lv + 1)), (iv s)] = renL (sigi [] 80) [(.agg [(iv (kd ((kids b).getD i dB))), (iv (sh ((kids b).getD i dB))), (.ssl (kc ((kids b).getD i dB)) 0 ((kids ((kids b).getD i dB)).length))]), (iv (lv + 1)), (iv s)]]) (by kernel_rfl) (obs_cons (p := InK .i64 (lv + 1)) (by simp only [InK]; omega) (obs_cons (p := PC Try.prog 29 [(.agg [(iv (kd ((kids b).getD i dB))), (iv (sh ((kids b).getD i dB))), (.ssl (kc ((kids b).getD i dB)) 0 ((kids ((kids b).getD i dB)).length))]), (iv (lv + 1)), (iv s)] [] (.tup [(iv ((wrongS ((kids b).getD i dB) (lv + 1) s).1)), (iv ((wrongS ((kids b).getD i dB) (lv + 1) s).2))]) []) (ih ((kids b).getD i dB) (kids_lt (by omega)) (lv + 1) s (by omega) (by omega) (by omega) (by omega)) (obs_cons (p := [(.agg [(iv (kd ((kids b).getD i dB))), (iv (sh ((kids b).getD i dB))), (.ssl (kc ((kids b).getD i dB)) 0 ((kids ((kids b).getD i dB)).length))]), (iv (lv + 1)), (iv s)] = renL (sigi [] 80) [(.agg [(iv (kd ((kids b).getD i dB))), (iv (sh ((kids b).getD i dB))), (.ssl (kc ((kids b).getD i dB)) 0 ((kids ((kids b).getD i dB)).length))]), (iv (lv + 1)), (iv s)]) rfl (obs_nil)))) ?_
                  refine T_seq ?_
                  refine T_region [] [ks 1, ks 2, ks 10, ks 48, ks 49, ks 50, ks 63] (fun _ => mixed) (l' := [ps 1 (iv lv), ps 2 (iv ((wrongS ((kids b).getD i dB) (lv + 1) s).2)), ps 10 (iv ((wrongS ((kids b).getD i dB) (lv + 1) s).1)), ps 48 (.ssl (kc b) 0 ((kids b).length)), ps 49 (iv (((kids b).length : Nat) : Int)), ps 50 (iv ((i : Nat) : Int)), ps 63 (bv (!(decide (((wrongS ((kids b).getD i dB) (lv + 1) s).1) = 0))))]) (obs := []) (by kernel_rfl) (obs_nil) ?_
                  by_cases h9 : ((wrongS ((kids b).getD i dB) (lv + 1) s).1) = 0
                  · refine T_else (b := (!(decide (((wrongS ((kids b).getD i dB) (lv + 1) s).1) = 0)))) rfl (congrArg Bool.not (decide_eq_true h9)) ?_
                    refine T_skip ?_
                    refine T_blk ?_
                    refine T_region [] [ks 1, ks 2, ks 48, ks 49, ks 50] (fun _ => mixed) (l' := [ps 1 (iv lv), ps 2 (iv ((wrongS ((kids b).getD i dB) (lv + 1) s).2)), ps 48 (.ssl (kc b) 0 ((kids b).length)), ps 49 (iv (((kids b).length : Nat) : Int)), ps 50 (iv (((i : Nat) : Int) + 1))]) (obs := [InK .i64 (((i : Nat) : Int) + 1)]) (by kernel_rfl) (obs_cons (p := InK .i64 (((i : Nat) : Int) + 1)) (by simp only [InK]; omega) (obs_nil)) ?_
                    exact T_back ⟨(i + 1, (wrongS ((kids b).getD i dB) (lv + 1) s).2), ⟨by omega, by have := hok h9; omega, by have := hok h9; omega, by have := hok h9; omega, (wrongL_next (by omega) h9).trans hL⟩⟩ (Wk.ren2 [ps 1 (iv lv), ps 2 (iv ((wrongS ((kids b).getD i dB) (lv + 1) s).2)), ps 48 (.ssl (kc b) 0 ((kids b).length)), ps 49 (iv (((kids b).length : Nat) : Int)), ps 50 (iv (((i + 1) : Nat) : Int))] 0 hc0 [] rfl rfl (by kernel_rfl) (by kernel_rfl)) (show (kids b).length - (i + 1) < (kids b).length - i from by show (kids b).length - (i + 1) < (kids b).length - i; omega)
                  · refine T_then (b := (!(decide (((wrongS ((kids b).getD i dB) (lv + 1) s).1) = 0)))) rfl (congrArg Bool.not (decide_eq_false h9)) ?_
                    refine T_seq ?_
                    refine T_region [] [ks 6, ks 7] (fun _ => mixed) (l' := [ps 6 (iv ((wrongS ((kids b).getD i dB) (lv + 1) s).1)), ps 7 (iv ((wrongS ((kids b).getD i dB) (lv + 1) s).2))]) (obs := []) (by kernel_rfl) (obs_nil) ?_
                    simp only [beq_iff_eq, decide_eq_decide] at h7
                    rw [wrongL_stop (by omega) h9] at hL
                    rw [show wrongS b lv n = wrongS ((kids b).getD i dB) (lv + 1) s from by rw [wrongS_eq, hL]; repeat (first | rw [if_pos (by omega)] | rw [if_neg (by omega)])]
                    exact T_ret fun cx_ a_ hI_ => loop_ret (ret_ok (H' := []) (.inr rfl) (Wk.ren2 [ps 6 (iv ((wrongS ((kids b).getD i dB) (lv + 1) s).1)), ps 7 (iv ((wrongS ((kids b).getD i dB) (lv + 1) s).2))] 0 hc0 [] rfl rfl (by kernel_rfl) (by kernel_rfl)) rfl (obs_nil) (fun cx_ a_ hI_ => ret_res (l' := [ps 6 (iv ((wrongS ((kids b).getD i dB) (lv + 1) s).1)), ps 7 (iv ((wrongS ((kids b).getD i dB) (lv + 1) s).2))]) (by kernel_rfl) cx_ a_ hI_) hI_)
                · refine T_else (b := (decide (((i : Nat) : Int) < (((kids b).length : Nat) : Int)))) rfl (decide_eq_false h8) ?_
                  refine T_break rfl rfl ?_
                  refine T_seq ?_
                  refine T_region [] [ks 6, ks 7] (fun _ => mixed) (l' := [ps 6 (iv 0), ps 7 (iv s)]) (obs := []) (by kernel_rfl) (obs_nil) ?_
                  simp only [beq_iff_eq, decide_eq_decide] at h7
                  obtain rfl : i = (kids b).length := by omega
                  rw [List.drop_length, wrongL] at hL
                  rw [show wrongS b lv n = (0, s) from by rw [wrongS_eq, hL]; repeat (first | rw [if_pos (by omega)] | rw [if_neg (by omega)])]
                  exact T_ret fun cx_ a_ hI_ => ret_ok (H' := []) (.inr rfl) (Wk.ren2 [ps 6 (iv 0), ps 7 (iv s)] 0 hc0 [] rfl rfl (by kernel_rfl) (by kernel_rfl)) rfl (obs_nil) (fun cx_ a_ hI_ => ret_res (l' := [ps 6 (iv 0), ps 7 (iv s)]) (by kernel_rfl) cx_ a_ hI_) hI_
              · refine T_then (b := (!((decide ((kd b) = 4)) == (decide (0 < (((kids b).length : Nat) : Int)))))) rfl (congrArg Bool.not (Bool.eq_false_iff.2 h7)) ?_
                refine T_seq ?_
                refine T_region [] [ks 6, ks 7] (fun _ => mixed) (l' := [ps 6 (iv 5), ps 7 (iv (n - 1))]) (obs := []) (by kernel_rfl) (obs_nil) ?_
                simp only [beq_iff_eq, decide_eq_decide] at h7
                rw [show wrongS b lv n = (5, n - 1) from by rw [wrongS_eq]; repeat (first | rw [if_pos (by omega)] | rw [if_neg (by omega)])]
                exact T_ret fun cx_ a_ hI_ => ret_ok (H' := []) (.inr rfl) (Wk.ren2 [ps 6 (iv 5), ps 7 (iv (n - 1))] 0 hc0 [] rfl rfl (by kernel_rfl) (by kernel_rfl)) rfl (obs_nil) (fun cx_ a_ hI_ => ret_res (l' := [ps 6 (iv 5), ps 7 (iv (n - 1))]) (by kernel_rfl) cx_ a_ hI_) hI_
theorem ref_wrong_all : ∀ (m : Nat) (b : Beat), SizeOf.sizeOf b < m → ∀ (lv n : Int), 1 ≤ lv → lv ≤ 33 → 0 ≤ n → n ≤ 4096 → PC Try.prog 29 [.agg (gB b), iv lv, iv n] [] (.tup [iv (wrongS b lv n).1, iv (wrongS b lv n).2]) []
  | 0, _, h => absurd h (Nat.not_lt_zero _)
  | m + 1, b, h => fun lv n h1 h2 h3 h4 => ref_wrong_step b (fun b2 hb => ref_wrong_all m b2 (by omega)) lv n h1 h2 h3 h4
theorem ref_wrong1_pc (b : Beat) (lv n : Int) (h1 : 1 ≤ lv) (h2 : lv ≤ 33) (h3 : 0 ≤ n) (h4 : n ≤ 4096) : PC Try.prog 29 [.agg (gB b), iv lv, iv n] [] (.tup [iv (wrongS b lv n).1, iv (wrongS b lv n).2]) [] := ref_wrong_all _ b (Nat.lt_succ_self _) lv n h1 h2 h3 h4
theorem ref_wrong_pc (b : Beat) : PC Try.prog 16 [(.agg [(iv (kd b)), (iv (sh b)), (.ssl (kc b) 0 ((kids b).length))])] [] (iv (wrongE b)) [] := by
  refine pc_intro Try.func16 rfl (by kernel_rfl) (Nat.le_of_ble_eq_true rfl) (by kernel_rfl) (l0 := [ps 0 (.agg [(iv (kd b)), (iv (sh b)), (.ssl (kc b) 0 ((kids b).length))])]) rfl (fun c0 Bor hc0 => ?_)
  refine T_seq ?_
  refine T_region [] [ks 1, kb 0] (fun _ => mixed) (l' := [ps 1 (.opt 0 0), pb 0 40 [(iv (kd b)), (iv (sh b)), (.ssl (kc b) 0 ((kids b).length))]]) (obs := []) (by kernel_rfl) (obs_nil) ?_
  refine T_seq ?_
  refine T_region [(1, .call [] [(.agg [(iv (kd b)), (iv (sh b)), (.ssl (kc b) 0 ((kids b).length))]), (iv 1), (iv 4096)] [] (.tup [(iv (wrongE b)), (iv ((wrongS b 1 4096).2))]) [])] [ks 3] (fun _ => mixed) (l' := [ps 3 (iv (wrongE b))]) (obs := [PC Try.prog 29 [(.agg [(iv (kd b)), (iv (sh b)), (.ssl (kc b) 0 ((kids b).length))]), (iv 1), (iv 4096)] [] (.tup [(iv (wrongE b)), (iv ((wrongS b 1 4096).2))]) [], [(.agg [(iv (kd b)), (iv (sh b)), (.ssl (kc b) 0 ((kids b).length))]), (iv 1), (iv 4096)] = renL (sigi [] 24) [(.agg [(iv (kd b)), (iv (sh b)), (.ssl (kc b) 0 ((kids b).length))]), (iv 1), (iv 4096)]]) (by kernel_rfl) (obs_cons (p := PC Try.prog 29 [(.agg [(iv (kd b)), (iv (sh b)), (.ssl (kc b) 0 ((kids b).length))]), (iv 1), (iv 4096)] [] (.tup [(iv (wrongE b)), (iv ((wrongS b 1 4096).2))]) []) (by have h0 := ref_wrong1_pc b 1 4096 (by decide) (by decide) (by decide) (by decide); rw [wrongE_ref] at h0; exact h0) (obs_cons (p := [(.agg [(iv (kd b)), (iv (sh b)), (.ssl (kc b) 0 ((kids b).length))]), (iv 1), (iv 4096)] = renL (sigi [] 24) [(.agg [(iv (kd b)), (iv (sh b)), (.ssl (kc b) 0 ((kids b).length))]), (iv 1), (iv 4096)]) rfl (obs_nil))) ?_
  refine T_seq ?_
  refine T_region [] [ks 2] (fun _ => mixed) (l' := [ps 2 (iv (wrongE b))]) (obs := []) (by kernel_rfl) (obs_nil) ?_
  exact T_ret fun cx_ a_ hI_ => ret_ok (H' := []) (.inr rfl) (Wk.ren2 [ps 2 (iv (wrongE b))] 0 hc0 [] rfl rfl (by kernel_rfl) (by kernel_rfl)) rfl (obs_nil) (fun cx_ a_ hI_ => ret_res (l' := [ps 2 (iv (wrongE b))]) (by kernel_rfl) cx_ a_ hI_) hI_
end Go.Proofs.Ytccpefbfjahfnaa.Pm
