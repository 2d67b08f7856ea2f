/-
  CANON: what is wrong with a line, where it ends, whether two are the same: walks. (Printed by wip/pm.) | CANON: what a change does: plain. | CANON: the steps of a change: walks. (Printed by wip/pm.) | CANON: what a change does to a tone, its time and its pitch: plain. | CANON: a change applied: walk, in one of four ways. (Printed by wip/pm.)
-/
import Derived.Test.YtjdblogapkbefaaJLawCFollows4
namespace Go.Proofs.Ytjdblogapkbefaa.Pm
open Go Go.Proofs.Ytjdblogapkbefaa.Pi

set_option maxRecDepth 100000 in
set_option maxHeartbeats 4000000 in
theorem less_pc (t u : Tn) : PC Try.prog 26 [(.agg (tnC t)), (.agg (tnC u))] [] (bv (decide (ordS t u < 0))) [] := by
  refine pc_intro Try.func26 rfl (by kernel_rfl) (Nat.le_of_ble_eq_true rfl) (by kernel_rfl) (l0 := [ps 0 (.agg (tnC t)), ps 1 (.agg (tnC u))]) rfl (fun c0 Bor hc0 => ?_)
  refine T_seq ?_
  refine T_region [] [ks 2, ks 3, kb 0, kb 8] (fun _ => mixed) (l' := [ps 2 (.opt 0 0), ps 3 (.opt 8 0), pb 0 41 (tnC t), pb 8 41 (tnC u)]) (obs := []) (by kernel_rfl) (obs_nil) ?_
  refine T_seq ?_
  refine T_seq ?_
  refine T_region [] [ks 2, ks 3, ks 9, kb 0, kb 8] (fun _ => mixed) (l' := [ps 2 (.opt 0 0), ps 3 (.opt 8 0), ps 9 (bv (!(decide (t.1 = u.1)))), pb 0 41 (tnC t), pb 8 41 (tnC u)]) (obs := []) (by kernel_rfl) (obs_nil) ?_
  by_cases h1 : t.1 = u.1
  · refine T_else (b := (!(decide (t.1 = u.1)))) rfl (congrArg Bool.not (decide_eq_true h1)) ?_
    refine T_skip ?_
    refine T_seq ?_
    refine T_seq ?_
    refine T_region [] [ks 2, ks 3, ks 19, kb 0, kb 8] (fun _ => mixed) (l' := [ps 2 (.opt 0 0), ps 3 (.opt 8 0), ps 19 (bv (!(decide (t.2.1 = u.2.1)))), pb 0 41 (tnC t), pb 8 41 (tnC u)]) (obs := []) (by kernel_rfl) (obs_nil) ?_
    by_cases h2 : t.2.1 = u.2.1
    · refine T_else (b := (!(decide (t.2.1 = u.2.1)))) rfl (congrArg Bool.not (decide_eq_true h2)) ?_
      refine T_skip ?_
      refine T_seq ?_
      refine T_seq ?_
      refine T_region [] [ks 2, ks 3, ks 31, kb 0, kb 8] (fun _ => mixed) (l' := [ps 2 (.opt 0 0), ps 3 (.opt 8 0), ps 31 (bv (!(decide (t.2.2.2.2 = u.2.2.2.2)))), pb 0 41 (tnC t), pb 8 41 (tnC u)]) (obs := []) (by kernel_rfl) (obs_nil) ?_
      by_cases h3 : t.2.2.2.2 = u.2.2.2.2
      · refine T_else (b := (!(decide (t.2.2.2.2 = u.2.2.2.2)))) rfl (congrArg Bool.not (decide_eq_true h3)) ?_
        refine T_skip ?_
        refine T_seq ?_
        refine T_seq ?_
        refine T_region [] [ks 2, ks 3, ks 45, kb 0, kb 8] (fun _ => mixed) (l' := [ps 2 (.opt 0 0), ps 3 (.opt 8 0), ps 45 (bv (!(decide (t.2.2.1 = u.2.2.1)))), pb 0 41 (tnC t), pb 8 41 (tnC u)]) (obs := []) (by kernel_rfl) (obs_nil) ?_
        by_cases h4 : t.2.2.1 = u.2.2.1
        · refine T_else (b := (!(decide (t.2.2.1 = u.2.2.1)))) rfl (congrArg Bool.not (decide_eq_true h4)) ?_
          refine T_skip ?_
          refine T_seq ?_
          refine T_region [] [ks 4] (fun _ => mixed) (l' := [ps 4 (bv (decide (t.2.2.2.1 < u.2.2.2.1)))]) (obs := []) (by kernel_rfl) (obs_nil) ?_
          refine T_wk (Wk.eq (show _ = [ps 4 (bv (decide (ordS t u < 0)))] from by rw [show (decide (t.2.2.2.1 < u.2.2.2.1)) = decide (ordS t u < 0) from by unfold ordS; congr 1; exact propext (by (repeat' split) <;> omega)])) ?_
          exact T_ret fun cx_ a_ hI_ => ret_ok (H' := []) (.inr rfl) (Wk.ren2 [ps 4 (bv (decide (ordS t u < 0)))] 0 hc0 [] rfl rfl (by kernel_rfl) (by kernel_rfl)) rfl (obs_nil) (fun cx_ a_ hI_ => ret_res (l' := [ps 4 (bv (decide (ordS t u < 0)))]) (by kernel_rfl) cx_ a_ hI_) hI_
        · refine T_then (b := (!(decide (t.2.2.1 = u.2.2.1)))) rfl (congrArg Bool.not (decide_eq_false h4)) ?_
          refine T_seq ?_
          refine T_region [] [ks 4] (fun _ => mixed) (l' := [ps 4 (bv (decide (t.2.2.1 < u.2.2.1)))]) (obs := []) (by kernel_rfl) (obs_nil) ?_
          refine T_wk (Wk.eq (show _ = [ps 4 (bv (decide (ordS t u < 0)))] from by rw [show (decide (t.2.2.1 < u.2.2.1)) = decide (ordS t u < 0) from by unfold ordS; congr 1; exact propext (by (repeat' split) <;> omega)])) ?_
          exact T_ret fun cx_ a_ hI_ => ret_ok (H' := []) (.inr rfl) (Wk.ren2 [ps 4 (bv (decide (ordS t u < 0)))] 0 hc0 [] rfl rfl (by kernel_rfl) (by kernel_rfl)) rfl (obs_nil) (fun cx_ a_ hI_ => ret_res (l' := [ps 4 (bv (decide (ordS t u < 0)))]) (by kernel_rfl) cx_ a_ hI_) hI_
      · refine T_then (b := (!(decide (t.2.2.2.2 = u.2.2.2.2)))) rfl (congrArg Bool.not (decide_eq_false h3)) ?_
        refine T_seq ?_
        refine T_region [] [ks 4] (fun _ => mixed) (l' := [ps 4 (bv (decide (t.2.2.2.2 < u.2.2.2.2)))]) (obs := []) (by kernel_rfl) (obs_nil) ?_
        refine T_wk (Wk.eq (show _ = [ps 4 (bv (decide (ordS t u < 0)))] from by rw [show (decide (t.2.2.2.2 < u.2.2.2.2)) = decide (ordS t u < 0) from by unfold ordS; congr 1; exact propext (by (repeat' split) <;> omega)])) ?_
        exact T_ret fun cx_ a_ hI_ => ret_ok (H' := []) (.inr rfl) (Wk.ren2 [ps 4 (bv (decide (ordS t u < 0)))] 0 hc0 [] rfl rfl (by kernel_rfl) (by kernel_rfl)) rfl (obs_nil) (fun cx_ a_ hI_ => ret_res (l' := [ps 4 (bv (decide (ordS t u < 0)))]) (by kernel_rfl) cx_ a_ hI_) hI_
    · refine T_then (b := (!(decide (t.2.1 = u.2.1)))) rfl (congrArg Bool.not (decide_eq_false h2)) ?_
      refine T_seq ?_
      refine T_region [] [ks 4] (fun _ => mixed) (l' := [ps 4 (bv (decide (t.2.1 < u.2.1)))]) (obs := []) (by kernel_rfl) (obs_nil) ?_
      refine T_wk (Wk.eq (show _ = [ps 4 (bv (decide (ordS t u < 0)))] from by rw [show (decide (t.2.1 < u.2.1)) = decide (ordS t u < 0) from by unfold ordS; congr 1; exact propext (by (repeat' split) <;> omega)])) ?_
      exact T_ret fun cx_ a_ hI_ => ret_ok (H' := []) (.inr rfl) (Wk.ren2 [ps 4 (bv (decide (ordS t u < 0)))] 0 hc0 [] rfl rfl (by kernel_rfl) (by kernel_rfl)) rfl (obs_nil) (fun cx_ a_ hI_ => ret_res (l' := [ps 4 (bv (decide (ordS t u < 0)))]) (by kernel_rfl) cx_ a_ hI_) hI_
  · refine T_then (b := (!(decide (t.1 = u.1)))) rfl (congrArg Bool.not (decide_eq_false h1)) ?_
    refine T_seq ?_
    refine T_region [] [ks 4] (fun _ => mixed) (l' := [ps 4 (bv (decide (t.1 < u.1)))]) (obs := []) (by kernel_rfl) (obs_nil) ?_
    refine T_wk (Wk.eq (show _ = [ps 4 (bv (decide (ordS t u < 0)))] from by rw [show (decide (t.1 < u.1)) = decide (ordS t u < 0) from by unfold ordS; congr 1; exact propext (by (repeat' split) <;> omega)])) ?_
    exact T_ret fun cx_ a_ hI_ => ret_ok (H' := []) (.inr rfl) (Wk.ren2 [ps 4 (bv (decide (ordS t u < 0)))] 0 hc0 [] rfl rfl (by kernel_rfl) (by kernel_rfl)) rfl (obs_nil) (fun cx_ a_ hI_ => ret_res (l' := [ps 4 (bv (decide (ordS t u < 0)))]) (by kernel_rfl) cx_ a_ hI_) hI_
set_option maxRecDepth 100000 in
set_option maxHeartbeats 4000000 in
theorem wrong_pc (l : List Tn) : PC Try.prog 10 [(.ssl (tns l) 0 l.length)] [] (iv (wrongS l)) [] := by
  refine pc_intro Try.func10 rfl (by kernel_rfl) (Nat.le_of_ble_eq_true rfl) (by kernel_rfl) (l0 := [ps 0 (.ssl (tns l) 0 l.length)]) rfl (fun c0 Bor hc0 => ?_)
  refine T_seq ?_
  refine T_region [] [ks 0] (fun _ => mixed) (l' := [ps 0 (.ssl (tns l) 0 l.length)]) (obs := []) (by kernel_rfl) (obs_nil) ?_
  refine T_seq ?_
  refine T_seq ?_
  refine T_region [] [ks 0, ks 7] (fun _ => mixed) (l' := [ps 0 (.ssl (tns l) 0 l.length), ps 7 (bv (decide (1024 < ((l.length : Nat) : Int))))]) (obs := []) (by kernel_rfl) (obs_nil) ?_
  by_cases h1 : 1024 < ((l.length : Nat) : Int)
  · refine T_then (b := (decide (1024 < ((l.length : Nat) : Int)))) rfl (decide_eq_true h1) ?_
    refine T_seq ?_
    refine T_region [] [ks 2] (fun _ => mixed) (l' := [ps 2 (iv 5)]) (obs := []) (by kernel_rfl) (obs_nil) ?_
    refine T_wk (Wk.eq (show _ = [ps 2 (iv (wrongS l))] from by rw [show wrongS l = 5 from if_pos (by omega)])) ?_
    exact T_ret fun cx_ a_ hI_ => ret_ok (H' := []) (.inr rfl) (Wk.ren2 [ps 2 (iv (wrongS l))] 0 hc0 [] rfl rfl (by kernel_rfl) (by kernel_rfl)) rfl (obs_nil) (fun cx_ a_ hI_ => ret_res (l' := [ps 2 (iv (wrongS l))]) (by kernel_rfl) cx_ a_ hI_) hI_
  · refine T_else (b := (decide (1024 < ((l.length : Nat) : Int)))) rfl (decide_eq_false h1) ?_
    refine T_skip ?_
    refine T_seq ?_
    refine T_seq ?_
    refine T_region [] [ks 0, ks 8, ks 9, ks 10] (fun _ => mixed) (l' := [ps 0 (.ssl (tns l) 0 l.length), ps 8 (.ssl (tns l) 0 l.length), ps 9 (nv l.length), ps 10 (iv 0)]) (obs := []) (by kernel_rfl) (obs_nil) ?_
    refine T_block ?_
    refine T_loop (α := {x : Nat // x ≤ l.length ∧ fstE (wE l) x = 0}) (fun x => [ps 0 (.ssl (tns l) 0 l.length), ps 8 (.ssl (tns l) 0 l.length), ps 9 (nv l.length), ps 10 (nv x.1)]) (fun x => l.length - x.1) 0 ⟨0, ⟨Nat.zero_le _, rfl⟩⟩ (Wk.ren2 [ps 0 (.ssl (tns l) 0 l.length), ps 8 (.ssl (tns l) 0 l.length), ps 9 (nv l.length), ps 10 (nv 0)] 0 hc0 [] rfl rfl (by kernel_rfl) (by kernel_rfl)) ?_
    rintro ⟨i, ⟨hi, hf⟩⟩
    refine T_seq ?_
    refine T_region [] [ks 0, ks 8, ks 9, ks 10, ks 11] (fun _ => mixed) (l' := [ps 0 (.ssl (tns l) 0 l.length), ps 8 (.ssl (tns l) 0 l.length), ps 9 (nv l.length), ps 10 (nv i), ps 11 (bv (decide (((i : Nat) : Int) < ((l.length : Nat) : Int))))]) (obs := []) (by kernel_rfl) (obs_nil) ?_
    refine T_seq ?_
    by_cases h2 : ((i : Nat) : Int) < ((l.length : Nat) : Int)
    · refine T_then (b := (decide (((i : Nat) : Int) < ((l.length : Nat) : Int)))) rfl (decide_eq_true h2) ?_
      refine T_skip ?_
      refine T_seq ?_
      refine T_block ?_
      refine T_seq ?_
      refine T_region [(1, .nat (i * 5)), (2, .cells (tnC (l.getD i dT)))] [ks 0, ks 3, ks 4, ks 8, ks 9, ks 10, kb 32] (fun _ => mixed) (l' := [ps 0 (.ssl (tns l) 0 l.length), ps 3 (nv i), ps 4 (.opt 32 0), ps 8 (.ssl (tns l) 0 l.length), ps 9 (nv l.length), ps 10 (nv i), pb 32 41 (tnC (l.getD i dT))]) (obs := [(0 : Int) ≤ ((i : Nat) : Int) ∧ ((i : Nat) : Int) < ((l.length : Nat) : Int), 0 + (((i : Nat) : Int) : Int).toNat * 5 = (i * 5), (i * 5) + 5 ≤ ((tns l)).length ∧ (((tns l)).drop (i * 5)).take 5 = (tnC (l.getD i dT))]) (by kernel_rfl) (obs_cons (by omega) (obs_cons (by omega) (obs_cons (flat_at tnC 5 (fun _ => rfl) dT l i 0 5 (by omega) (by decide)) (obs_nil)))) ?_
      refine T_seq ?_
      refine T_seq ?_
      by_cases h3 : ((l.getD i dT).1) < 0
      · refine T_region [(4, .gd true .no), (5, .gd true .no), (6, .gd true .no), (7, .yes true), (9, .gd true .no), (10, .gd true .no), (11, .gd true .no), (14, .gd true .no), (15, .gd true .no), (16, .gd true .no)] [ks 0, ks 3, ks 4, ks 8, ks 9, ks 10, ks 32, kb 32] (fun _ => mixed) (l' := [ps 0 (.ssl (tns l) 0 l.length), ps 3 (nv i), ps 4 (.opt 32 0), ps 8 (.ssl (tns l) 0 l.length), ps 9 (nv l.length), ps 10 (nv i), ps 32 (bv true), pb 32 41 (tnC (l.getD i dT))]) (obs := [(decide (((l.getD i dT).1) < 0)) = true, (decide (((l.getD i dT).1) < 0)) = true, (decide (((l.getD i dT).1) < 0)) = true, (decide (((l.getD i dT).1) < 0)) = true, true = true, true = true, true = true, true = true, true = true, true = true]) (by kernel_rfl) (obs_cons (decide_eq_true h3) (obs_cons (decide_eq_true h3) (obs_cons (decide_eq_true h3) (obs_cons (decide_eq_true h3) (obs_cons rfl (obs_cons rfl (obs_cons rfl (obs_cons rfl (obs_cons rfl (obs_cons rfl (obs_nil))))))))))) ?_
        refine T_then (b := true) rfl rfl ?_
        refine T_seq ?_
        refine T_region [] [ks 2] (fun _ => mixed) (l' := [ps 2 (iv 3)]) (obs := []) (by kernel_rfl) (obs_nil) ?_
        have hw : wE l i = 3 := if_pos (by omega)
        refine T_wk (Wk.eq (show _ = [ps 2 (iv (wrongS l))] from by rw [show wrongS l = 3 from by unfold wrongS; rw [if_neg (by omega), fstE_stop hf (by omega) (by rw [hw]; decide), hw]])) ?_
        exact T_ret fun cx_ a_ hI_ => loop_ret (ret_ok (H' := []) (.inr rfl) (Wk.ren2 [ps 2 (iv (wrongS l))] 0 hc0 [] rfl rfl (by kernel_rfl) (by kernel_rfl)) rfl (obs_nil) (fun cx_ a_ hI_ => ret_res (l' := [ps 2 (iv (wrongS l))]) (by kernel_rfl) cx_ a_ hI_) hI_)
      · by_cases h4 : ((l.getD i dT).2.1) < 1
        · refine T_region [(4, .gd false (.no)), (5, .gd false (.no)), (6, .gd false (.no)), (7, .yes false), (9, .gd true .no), (10, .gd true .no), (11, .gd true .no), (12, .yes true), (14, .gd true .no), (15, .gd true .no), (16, .gd true .no)] [ks 0, ks 3, ks 4, ks 8, ks 9, ks 10, ks 32, kb 32] (fun _ => mixed) (l' := [ps 0 (.ssl (tns l) 0 l.length), ps 3 (nv i), ps 4 (.opt 32 0), ps 8 (.ssl (tns l) 0 l.length), ps 9 (nv l.length), ps 10 (nv i), ps 32 (bv true), pb 32 41 (tnC (l.getD i dT))]) (obs := [(decide (((l.getD i dT).1) < 0)) = false, (decide (((l.getD i dT).1) < 0)) = false, (decide (((l.getD i dT).1) < 0)) = false, (decide (((l.getD i dT).1) < 0)) = false, (decide (((l.getD i dT).2.1) < 1)) = true, (decide (((l.getD i dT).2.1) < 1)) = true, (decide (((l.getD i dT).2.1) < 1)) = true, (decide (((l.getD i dT).2.1) < 1)) = true, true = true, true = true, true = true]) (by kernel_rfl) (obs_cons (decide_eq_false h3) (obs_cons (decide_eq_false h3) (obs_cons (decide_eq_false h3) (obs_cons (decide_eq_false h3) (obs_cons (decide_eq_true h4) (obs_cons (decide_eq_true h4) (obs_cons (decide_eq_true h4) (obs_cons (decide_eq_true h4) (obs_cons rfl (obs_cons rfl (obs_cons rfl (obs_nil)))))))))))) ?_
          refine T_then (b := true) rfl rfl ?_
          refine T_seq ?_
          refine T_region [] [ks 2] (fun _ => mixed) (l' := [ps 2 (iv 3)]) (obs := []) (by kernel_rfl) (obs_nil) ?_
          have hw : wE l i = 3 := if_pos (by omega)
          refine T_wk (Wk.eq (show _ = [ps 2 (iv (wrongS l))] from by rw [show wrongS l = 3 from by unfold wrongS; rw [if_neg (by omega), fstE_stop hf (by omega) (by rw [hw]; decide), hw]])) ?_
          exact T_ret fun cx_ a_ hI_ => loop_ret (ret_ok (H' := []) (.inr rfl) (Wk.ren2 [ps 2 (iv (wrongS l))] 0 hc0 [] rfl rfl (by kernel_rfl) (by kernel_rfl)) rfl (obs_nil) (fun cx_ a_ hI_ => ret_res (l' := [ps 2 (iv (wrongS l))]) (by kernel_rfl) cx_ a_ hI_) hI_)
        · by_cases h5 : 1048576 < ((l.getD i dT).1)
          · refine T_region [(4, .gd false (.no)), (5, .gd false (.no)), (6, .gd false (.no)), (7, .yes false), (9, .gd false (.no)), (10, .gd false (.no)), (11, .gd false (.no)), (12, .yes false), (14, .gd true .no), (15, .gd true .no), (16, .gd true .no), (17, .yes true)] [ks 0, ks 3, ks 4, ks 8, ks 9, ks 10, ks 32, kb 32] (fun _ => mixed) (l' := [ps 0 (.ssl (tns l) 0 l.length), ps 3 (nv i), ps 4 (.opt 32 0), ps 8 (.ssl (tns l) 0 l.length), ps 9 (nv l.length), ps 10 (nv i), ps 32 (bv true), pb 32 41 (tnC (l.getD i dT))]) (obs := [(decide (((l.getD i dT).1) < 0)) = false, (decide (((l.getD i dT).1) < 0)) = false, (decide (((l.getD i dT).1) < 0)) = false, (decide (((l.getD i dT).1) < 0)) = false, (decide (((l.getD i dT).2.1) < 1)) = false, (decide (((l.getD i dT).2.1) < 1)) = false, (decide (((l.getD i dT).2.1) < 1)) = false, (decide (((l.getD i dT).2.1) < 1)) = false, (decide (1048576 < ((l.getD i dT).1))) = true, (decide (1048576 < ((l.getD i dT).1))) = true, (decide (1048576 < ((l.getD i dT).1))) = true, (decide (1048576 < ((l.getD i dT).1))) = true]) (by kernel_rfl) (obs_cons (decide_eq_false h3) (obs_cons (decide_eq_false h3) (obs_cons (decide_eq_false h3) (obs_cons (decide_eq_false h3) (obs_cons (decide_eq_false h4) (obs_cons (decide_eq_false h4) (obs_cons (decide_eq_false h4) (obs_cons (decide_eq_false h4) (obs_cons (decide_eq_true h5) (obs_cons (decide_eq_true h5) (obs_cons (decide_eq_true h5) (obs_cons (decide_eq_true h5) (obs_nil))))))))))))) ?_
            refine T_then (b := true) rfl rfl ?_
            refine T_seq ?_
            refine T_region [] [ks 2] (fun _ => mixed) (l' := [ps 2 (iv 3)]) (obs := []) (by kernel_rfl) (obs_nil) ?_
            have hw : wE l i = 3 := if_pos (by omega)
            refine T_wk (Wk.eq (show _ = [ps 2 (iv (wrongS l))] from by rw [show wrongS l = 3 from by unfold wrongS; rw [if_neg (by omega), fstE_stop hf (by omega) (by rw [hw]; decide), hw]])) ?_
            exact T_ret fun cx_ a_ hI_ => loop_ret (ret_ok (H' := []) (.inr rfl) (Wk.ren2 [ps 2 (iv (wrongS l))] 0 hc0 [] rfl rfl (by kernel_rfl) (by kernel_rfl)) rfl (obs_nil) (fun cx_ a_ hI_ => ret_res (l' := [ps 2 (iv (wrongS l))]) (by kernel_rfl) cx_ a_ hI_) hI_)
          · refine T_region [(4, .gd false (.no)), (5, .gd false (.no)), (6, .gd false (.no)), (7, .yes false), (9, .gd false (.no)), (10, .gd false (.no)), (11, .gd false (.no)), (12, .yes false), (14, .gd false (.no)), (15, .gd false (.no)), (16, .gd false (.no)), (17, .yes false)] [ks 0, ks 3, ks 4, ks 8, ks 9, ks 10, ks 32, kb 32] (fun _ => mixed) (l' := [ps 0 (.ssl (tns l) 0 l.length), ps 3 (nv i), ps 4 (.opt 32 0), ps 8 (.ssl (tns l) 0 l.length), ps 9 (nv l.length), ps 10 (nv i), ps 32 (bv (decide (1048576 < ((l.getD i dT).2.1)))), pb 32 41 (tnC (l.getD i dT))]) (obs := [(decide (((l.getD i dT).1) < 0)) = false, (decide (((l.getD i dT).1) < 0)) = false, (decide (((l.getD i dT).1) < 0)) = false, (decide (((l.getD i dT).1) < 0)) = false, (decide (((l.getD i dT).2.1) < 1)) = false, (decide (((l.getD i dT).2.1) < 1)) = false, (decide (((l.getD i dT).2.1) < 1)) = false, (decide (((l.getD i dT).2.1) < 1)) = false, (decide (1048576 < ((l.getD i dT).1))) = false, (decide (1048576 < ((l.getD i dT).1))) = false, (decide (1048576 < ((l.getD i dT).1))) = false, (decide (1048576 < ((l.getD i dT).1))) = false]) (by kernel_rfl) (obs_cons (decide_eq_false h3) (obs_cons (decide_eq_false h3) (obs_cons (decide_eq_false h3) (obs_cons (decide_eq_false h3) (obs_cons (decide_eq_false h4) (obs_cons (decide_eq_false h4) (obs_cons (decide_eq_false h4) (obs_cons (decide_eq_false h4) (obs_cons (decide_eq_false h5) (obs_cons (decide_eq_false h5) (obs_cons (decide_eq_false h5) (obs_cons (decide_eq_false h5) (obs_nil))))))))))))) ?_
            by_cases h6 : 1048576 < ((l.getD i dT).2.1)
            · refine T_then (b := (decide (1048576 < ((l.getD i dT).2.1)))) rfl (decide_eq_true h6) ?_
              refine T_seq ?_
              refine T_region [] [ks 2] (fun _ => mixed) (l' := [ps 2 (iv 3)]) (obs := []) (by kernel_rfl) (obs_nil) ?_
              have hw : wE l i = 3 := if_pos (by omega)
              refine T_wk (Wk.eq (show _ = [ps 2 (iv (wrongS l))] from by rw [show wrongS l = 3 from by unfold wrongS; rw [if_neg (by omega), fstE_stop hf (by omega) (by rw [hw]; decide), hw]])) ?_
              exact T_ret fun cx_ a_ hI_ => loop_ret (ret_ok (H' := []) (.inr rfl) (Wk.ren2 [ps 2 (iv (wrongS l))] 0 hc0 [] rfl rfl (by kernel_rfl) (by kernel_rfl)) rfl (obs_nil) (fun cx_ a_ hI_ => ret_res (l' := [ps 2 (iv (wrongS l))]) (by kernel_rfl) cx_ a_ hI_) hI_)
            · refine T_else (b := (decide (1048576 < ((l.getD i dT).2.1)))) rfl (decide_eq_false h6) ?_
              refine T_skip ?_
              refine T_seq ?_
              refine T_seq ?_
              refine T_region [(2, .call [] [(.agg [(iv ((l.getD i dT).2.2.1)), (iv ((l.getD i dT).2.2.2.1)), (iv ((l.getD i dT).2.2.2.2))])] [] (bv (rgt (l.getD i dT))) [])] [ks 0, ks 3, ks 4, ks 8, ks 9, ks 10, ks 36, kb 32] (fun _ => mixed) (l' := [ps 0 (.ssl (tns l) 0 l.length), ps 3 (nv i), ps 4 (.opt 32 0), ps 8 (.ssl (tns l) 0 l.length), ps 9 (nv l.length), ps 10 (nv i), ps 36 (bv (!(rgt (l.getD i dT)))), pb 32 41 (tnC (l.getD i dT))]) (obs := [PC Try.prog 23 [(.agg [(iv ((l.getD i dT).2.2.1)), (iv ((l.getD i dT).2.2.2.1)), (iv ((l.getD i dT).2.2.2.2))])] [] (bv (rgt (l.getD i dT))) [], [(.agg [(iv ((l.getD i dT).2.2.1)), (iv ((l.getD i dT).2.2.2.1)), (iv ((l.getD i dT).2.2.2.2))])] = renL (sigi [] 216) [(.agg [(iv ((l.getD i dT).2.2.1)), (iv ((l.getD i dT).2.2.2.1)), (iv ((l.getD i dT).2.2.2.2))])]]) (by kernel_rfl) (obs_cons (pright_pc ((l.getD i dT).2.2.1) ((l.getD i dT).2.2.2.1) ((l.getD i dT).2.2.2.2)) (obs_cons rfl (obs_nil))) ?_
              by_cases h7 : (rgt (l.getD i dT)) = true
              · refine T_else (b := (!(rgt (l.getD i dT)))) rfl (congrArg Bool.not h7) ?_
                refine T_skip ?_
                refine T_seq ?_
                by_cases h8 : 0 < ((i : Nat) : Int)
                · refine T_regionD [(3, .gd true (.no)), (4, .gd true (.no)), (5, .gd true (.no)), (6, .gd true (.nat ((i - 1) * 5))), (7, .gd true (.cells (tnC (l.getD (i - 1) dT)))), (8, .gd true (.no)), (9, .gd true (.call [] [(.agg (tnC (l.getD (i - 1) dT))), (.agg (tnC (l.getD i dT)))] [] (iv (ordS (l.getD (i - 1) dT) (l.getD i dT))) [])), (10, .gd true (.no)), (11, .yes true)] [[], [0], [0, 1], [0, 1, 2], [0, 1, 2], [0, 1, 2, 4], [0, 1, 2, 3, 4, 5], [0, 1, 2, 3, 4, 5, 6], [0, 1, 2], [0, 1, 2, 3, 4, 5, 6, 7, 8], [0, 1, 2, 3, 4, 5, 6, 7, 8, 9], [0, 1, 2, 3, 4, 5, 6, 7, 8, 9, 10]] [([74], [6]), ([76], [74]), ([78], [76]), ([80], [0, 78]), ([82], [6, 78]), ([84], [78, 82]), ([86], [78, 80, 84]), ([88], [78, 86]), ([90], [8, 65, 78]), ([92], [78, 88, 90]), ([94], [78, 92]), ([96], [78, 94])] [ks 0, ks 8, ks 9, ks 10, ks 48] (l' := [ps 0 (.ssl (tns l) 0 l.length), ps 8 (.ssl (tns l) 0 l.length), ps 9 (nv l.length), ps 10 (nv i), ps 48 (bv (decide (0 < (ordS (l.getD (i - 1) dT) (l.getD i dT)))))]) (obs := [(decide (0 < ((i : Nat) : Int))) = true, (decide (0 < ((i : Nat) : Int))) = true, (decide (0 < ((i : Nat) : Int))) = true, InK .i64 (((i : Nat) : Int) - 1), (decide (0 < ((i : Nat) : Int))) = true, (0 : Int) ≤ (((i : Nat) : Int) - 1) ∧ (((i : Nat) : Int) - 1) < ((l.length : Nat) : Int), 0 + ((((i : Nat) : Int) - 1) : Int).toNat * 5 = ((i - 1) * 5), (decide (0 < ((i : Nat) : Int))) = true, ((i - 1) * 5) + 5 ≤ ((tns l)).length ∧ (((tns l)).drop ((i - 1) * 5)).take 5 = (tnC (l.getD (i - 1) dT)), (decide (0 < ((i : Nat) : Int))) = true, (decide (0 < ((i : Nat) : Int))) = true, PC Try.prog 22 [(.agg (tnC (l.getD (i - 1) dT))), (.agg (tnC (l.getD i dT)))] [] (iv (ordS (l.getD (i - 1) dT) (l.getD i dT))) [], [(.agg (tnC (l.getD (i - 1) dT))), (.agg (tnC (l.getD i dT)))] = renL (sigi [] 304) [(.agg (tnC (l.getD (i - 1) dT))), (.agg (tnC (l.getD i dT)))], (decide (0 < ((i : Nat) : Int))) = true, (decide (0 < ((i : Nat) : Int))) = true]) mixed (by kernel_rfl) (by kernel_rfl) (obs_cons (decide_eq_true h8) (obs_cons (decide_eq_true h8) (obs_cons (decide_eq_true h8) (obs_cons (by simp only [InK]; omega) (obs_cons (decide_eq_true h8) (obs_cons (by omega) (obs_cons (by omega) (obs_cons (decide_eq_true h8) (obs_cons (flat_at tnC 5 (fun _ => rfl) dT l (i - 1) 0 5 (by omega) (by decide)) (obs_cons (decide_eq_true h8) (obs_cons (decide_eq_true h8) (obs_cons (order_pc (l.getD (i - 1) dT) (l.getD i dT) (wE_ok (fstE_none hf (show i - 1 < i from by omega))).1.bd (TOk.bd ⟨by omega, by omega, by omega, by omega, h7⟩)) (obs_cons rfl (obs_cons (decide_eq_true h8) (obs_cons (decide_eq_true h8) (obs_nil)))))))))))))))) ?_
                  by_cases h9 : 0 < (ordS (l.getD (i - 1) dT) (l.getD i dT))
                  · refine T_then (b := (decide (0 < (ordS (l.getD (i - 1) dT) (l.getD i dT))))) rfl (decide_eq_true h9) ?_
                    refine T_seq ?_
                    refine T_region [] [ks 2] (fun _ => mixed) (l' := [ps 2 (iv 8)]) (obs := []) (by kernel_rfl) (obs_nil) ?_
                    have hw : wE l i = 8 := by unfold wE; rw [if_neg (by omega), if_neg (by rw [h7]; decide), if_pos ⟨by omega, h9⟩]
                    refine T_wk (Wk.eq (show _ = [ps 2 (iv (wrongS l))] from by rw [show wrongS l = 8 from by unfold wrongS; rw [if_neg (by omega), fstE_stop hf (by omega) (by rw [hw]; decide), hw]])) ?_
                    exact T_ret fun cx_ a_ hI_ => loop_ret (ret_ok (H' := []) (.inr rfl) (Wk.ren2 [ps 2 (iv (wrongS l))] 0 hc0 [] rfl rfl (by kernel_rfl) (by kernel_rfl)) rfl (obs_nil) (fun cx_ a_ hI_ => ret_res (l' := [ps 2 (iv (wrongS l))]) (by kernel_rfl) cx_ a_ hI_) hI_)
                  · refine T_else (b := (decide (0 < (ordS (l.getD (i - 1) dT) (l.getD i dT))))) rfl (decide_eq_false h9) ?_
                    refine T_skip ?_
                    refine T_blk ?_
                    refine T_region [] [ks 0, ks 8, ks 9, ks 10] (fun _ => mixed) (l' := [ps 0 (.ssl (tns l) 0 l.length), ps 8 (.ssl (tns l) 0 l.length), ps 9 (nv l.length), ps 10 (iv (((i : Nat) : Int) + 1))]) (obs := [InK .i64 (((i : Nat) : Int) + 1)]) (by kernel_rfl) (obs_cons (by simp only [InK]; omega) (obs_nil)) ?_
                    have hw : wE l i = 0 := wE_of ⟨by omega, by omega, by omega, by omega, h7⟩ (fun h1 => Int.not_lt.1 h9)
                    exact T_back ⟨i + 1, ⟨by omega, by rw [fstE_next hf]; exact hw⟩⟩ (Wk.ren2 [ps 0 (.ssl (tns l) 0 l.length), ps 8 (.ssl (tns l) 0 l.length), ps 9 (nv l.length), ps 10 (nv (i + 1))] 0 hc0 [] rfl rfl (by kernel_rfl) (by kernel_rfl)) (show l.length - (i + 1) < l.length - i from by omega)
                · refine T_regionD [(3, .gd false .no), (4, .gd false .no), (5, .gd false .no), (6, .gd false .no), (7, .gd false .no), (8, .gd false .no), (9, .gd false .no), (10, .gd false .no), (11, .yes false)] [[], [0], [0, 1], [0, 1, 2], [0, 1, 2], [0, 1, 2, 4], [0, 1, 2, 3, 4, 5], [0, 1, 2, 3, 4, 5, 6], [0, 1, 2], [0, 1, 2, 3, 4, 5, 6, 7, 8], [0, 1, 2, 3, 4, 5, 6, 7, 8, 9], [0, 1, 2, 3, 4, 5, 6, 7, 8, 9, 10]] [([74], [6]), ([76], [74]), ([78], [76]), ([80], [78]), ([82], [78]), ([84], [78]), ([86], [78]), ([88], [78]), ([90], [78]), ([92], [78]), ([94], [78]), ([96], [78, 94])] [ks 0, ks 8, ks 9, ks 10, ks 48] (l' := [ps 0 (.ssl (tns l) 0 l.length), ps 8 (.ssl (tns l) 0 l.length), ps 9 (nv l.length), ps 10 (nv i), ps 48 (bv false)]) (obs := [(decide (0 < ((i : Nat) : Int))) = false, (decide (0 < ((i : Nat) : Int))) = false, (decide (0 < ((i : Nat) : Int))) = false, (decide (0 < ((i : Nat) : Int))) = false, (decide (0 < ((i : Nat) : Int))) = false, (decide (0 < ((i : Nat) : Int))) = false, (decide (0 < ((i : Nat) : Int))) = false, (decide (0 < ((i : Nat) : Int))) = false, (decide (0 < ((i : Nat) : Int))) = false]) mixed (by kernel_rfl) (by kernel_rfl) (obs_cons (decide_eq_false h8) (obs_cons (decide_eq_false h8) (obs_cons (decide_eq_false h8) (obs_cons (decide_eq_false h8) (obs_cons (decide_eq_false h8) (obs_cons (decide_eq_false h8) (obs_cons (decide_eq_false h8) (obs_cons (decide_eq_false h8) (obs_cons (decide_eq_false h8) (obs_nil)))))))))) ?_
                  refine T_else (b := false) rfl rfl ?_
                  refine T_skip ?_
                  refine T_blk ?_
                  refine T_region [] [ks 0, ks 8, ks 9, ks 10] (fun _ => mixed) (l' := [ps 0 (.ssl (tns l) 0 l.length), ps 8 (.ssl (tns l) 0 l.length), ps 9 (nv l.length), ps 10 (iv (((i : Nat) : Int) + 1))]) (obs := [InK .i64 (((i : Nat) : Int) + 1)]) (by kernel_rfl) (obs_cons (by simp only [InK]; omega) (obs_nil)) ?_
                  have hw : wE l i = 0 := wE_of ⟨by omega, by omega, by omega, by omega, h7⟩ (fun h1 => by omega)
                  exact T_back ⟨i + 1, ⟨by omega, by rw [fstE_next hf]; exact hw⟩⟩ (Wk.ren2 [ps 0 (.ssl (tns l) 0 l.length), ps 8 (.ssl (tns l) 0 l.length), ps 9 (nv l.length), ps 10 (nv (i + 1))] 0 hc0 [] rfl rfl (by kernel_rfl) (by kernel_rfl)) (show l.length - (i + 1) < l.length - i from by omega)
              · refine T_then (b := (!(rgt (l.getD i dT)))) rfl (congrArg Bool.not (Bool.eq_false_iff.2 h7)) ?_
                refine T_seq ?_
                refine T_region [] [ks 2] (fun _ => mixed) (l' := [ps 2 (iv 2)]) (obs := []) (by kernel_rfl) (obs_nil) ?_
                have hw : wE l i = 2 := by unfold wE; rw [if_neg (by omega), if_pos (Bool.eq_false_iff.2 h7)]
                refine T_wk (Wk.eq (show _ = [ps 2 (iv (wrongS l))] from by rw [show wrongS l = 2 from by unfold wrongS; rw [if_neg (by omega), fstE_stop hf (by omega) (by rw [hw]; decide), hw]])) ?_
                exact T_ret fun cx_ a_ hI_ => loop_ret (ret_ok (H' := []) (.inr rfl) (Wk.ren2 [ps 2 (iv (wrongS l))] 0 hc0 [] rfl rfl (by kernel_rfl) (by kernel_rfl)) rfl (obs_nil) (fun cx_ a_ hI_ => ret_res (l' := [ps 2 (iv (wrongS l))]) (by kernel_rfl) cx_ a_ hI_) hI_)
    · refine T_else (b := (decide (((i : Nat) : Int) < ((l.length : Nat) : Int)))) rfl (decide_eq_false h2) ?_
      refine T_break rfl rfl ?_
      refine T_seq ?_
      refine T_region [] [ks 2] (fun _ => mixed) (l' := [ps 2 (iv 0)]) (obs := []) (by kernel_rfl) (obs_nil) ?_
      refine T_wk (Wk.eq (show _ = [ps 2 (iv (wrongS l))] from by rw [show wrongS l = 0 from by unfold wrongS; rw [if_neg (by omega), show l.length = i from by omega]; exact hf])) ?_
      exact T_ret fun cx_ a_ hI_ => ret_ok (H' := []) (.inr rfl) (Wk.ren2 [ps 2 (iv (wrongS l))] 0 hc0 [] rfl rfl (by kernel_rfl) (by kernel_rfl)) rfl (obs_nil) (fun cx_ a_ hI_ => ret_res (l' := [ps 2 (iv (wrongS l))]) (by kernel_rfl) cx_ a_ hI_) hI_
set_option maxRecDepth 100000 in
set_option maxHeartbeats 4000000 in
theorem ref_wrong_pc (l : List Tn) (hI : ∀ i, I5 (l.getD i dT)) : PC Try.prog 14 [(.ssl (tns l) 0 l.length)] [] (iv (wrongS l)) [] := by
  refine pc_intro Try.func14 rfl (by kernel_rfl) (Nat.le_of_ble_eq_true rfl) (by kernel_rfl) (l0 := [ps 0 (.ssl (tns l) 0 l.length)]) rfl (fun c0 Bor hc0 => ?_)
  refine T_seq ?_
  refine T_region [] [ks 0] (fun _ => mixed) (l' := [ps 0 (.ssl (tns l) 0 l.length)]) (obs := []) (by kernel_rfl) (obs_nil) ?_
  refine T_seq ?_
  refine T_seq ?_
  refine T_region [] [ks 0, ks 7] (fun _ => mixed) (l' := [ps 0 (.ssl (tns l) 0 l.length), ps 7 (bv (decide (1024 < ((l.length : Nat) : Int))))]) (obs := []) (by kernel_rfl) (obs_nil) ?_
  by_cases h1 : 1024 < ((l.length : Nat) : Int)
  · refine T_then (b := (decide (1024 < ((l.length : Nat) : Int)))) rfl (decide_eq_true h1) ?_
    refine T_seq ?_
    refine T_region [] [ks 2] (fun _ => mixed) (l' := [ps 2 (iv 5)]) (obs := []) (by kernel_rfl) (obs_nil) ?_
    refine T_wk (Wk.eq (show _ = [ps 2 (iv (wrongS l))] from by rw [show wrongS l = 5 from if_pos (by omega)])) ?_
    exact T_ret fun cx_ a_ hI_ => ret_ok (H' := []) (.inr rfl) (Wk.ren2 [ps 2 (iv (wrongS l))] 0 hc0 [] rfl rfl (by kernel_rfl) (by kernel_rfl)) rfl (obs_nil) (fun cx_ a_ hI_ => ret_res (l' := [ps 2 (iv (wrongS l))]) (by kernel_rfl) cx_ a_ hI_) hI_
  · refine T_else (b := (decide (1024 < ((l.length : Nat) : Int)))) rfl (decide_eq_false h1) ?_
    refine T_skip ?_
    refine T_seq ?_
    refine T_seq ?_
    refine T_region [] [ks 0, ks 8, ks 9, ks 10] (fun _ => mixed) (l' := [ps 0 (.ssl (tns l) 0 l.length), ps 8 (.ssl (tns l) 0 l.length), ps 9 (nv l.length), ps 10 (iv 0)]) (obs := []) (by kernel_rfl) (obs_nil) ?_
    refine T_block ?_
    refine T_loop (α := {x : Nat // x ≤ l.length ∧ fstE (wE l) x = 0}) (fun x => [ps 0 (.ssl (tns l) 0 l.length), ps 8 (.ssl (tns l) 0 l.length), ps 9 (nv l.length), ps 10 (nv x.1)]) (fun x => l.length - x.1) 0 ⟨0, ⟨Nat.zero_le _, rfl⟩⟩ (Wk.ren2 [ps 0 (.ssl (tns l) 0 l.length), ps 8 (.ssl (tns l) 0 l.length), ps 9 (nv l.length), ps 10 (nv 0)] 0 hc0 [] rfl rfl (by kernel_rfl) (by kernel_rfl)) ?_
    rintro ⟨i, ⟨hi, hf⟩⟩
    refine T_seq ?_
    refine T_region [] [ks 0, ks 8, ks 9, ks 10, ks 11] (fun _ => mixed) (l' := [ps 0 (.ssl (tns l) 0 l.length), ps 8 (.ssl (tns l) 0 l.length), ps 9 (nv l.length), ps 10 (nv i), ps 11 (bv (decide (((i : Nat) : Int) < ((l.length : Nat) : Int))))]) (obs := []) (by kernel_rfl) (obs_nil) ?_
    refine T_seq ?_
    by_cases h2 : ((i : Nat) : Int) < ((l.length : Nat) : Int)
    · refine T_then (b := (decide (((i : Nat) : Int) < ((l.length : Nat) : Int)))) rfl (decide_eq_true h2) ?_
      refine T_skip ?_
      refine T_seq ?_
      refine T_block ?_
      refine T_seq ?_
      refine T_region [(1, .nat (i * 5)), (2, .cells (tnC (l.getD i dT)))] [ks 0, ks 3, ks 4, ks 8, ks 9, ks 10, kb 32] (fun _ => mixed) (l' := [ps 0 (.ssl (tns l) 0 l.length), ps 3 (nv i), ps 4 (.opt 32 0), ps 8 (.ssl (tns l) 0 l.length), ps 9 (nv l.length), ps 10 (nv i), pb 32 41 (tnC (l.getD i dT))]) (obs := [(0 : Int) ≤ ((i : Nat) : Int) ∧ ((i : Nat) : Int) < ((l.length : Nat) : Int), 0 + (((i : Nat) : Int) : Int).toNat * 5 = (i * 5), (i * 5) + 5 ≤ ((tns l)).length ∧ (((tns l)).drop (i * 5)).take 5 = (tnC (l.getD i dT))]) (by kernel_rfl) (obs_cons (by omega) (obs_cons (by omega) (obs_cons (flat_at tnC 5 (fun _ => rfl) dT l i 0 5 (by omega) (by decide)) (obs_nil)))) ?_
      refine T_seq ?_
      refine T_seq ?_
      by_cases h3 : ((l.getD i dT).1) < 0
      · refine T_region [(4, .gd true .no), (5, .gd true .no), (6, .gd true .no), (7, .yes true), (9, .gd true .no), (10, .gd true .no), (11, .gd true .no), (14, .gd true .no), (15, .gd true .no), (16, .gd true .no)] [ks 0, ks 3, ks 4, ks 8, ks 9, ks 10, ks 32, kb 32] (fun _ => mixed) (l' := [ps 0 (.ssl (tns l) 0 l.length), ps 3 (nv i), ps 4 (.opt 32 0), ps 8 (.ssl (tns l) 0 l.length), ps 9 (nv l.length), ps 10 (nv i), ps 32 (bv true), pb 32 41 (tnC (l.getD i dT))]) (obs := [(decide (((l.getD i dT).1) < 0)) = true, (decide (((l.getD i dT).1) < 0)) = true, (decide (((l.getD i dT).1) < 0)) = true, (decide (((l.getD i dT).1) < 0)) = true, true = true, true = true, true = true, true = true, true = true, true = true]) (by kernel_rfl) (obs_cons (decide_eq_true h3) (obs_cons (decide_eq_true h3) (obs_cons (decide_eq_true h3) (obs_cons (decide_eq_true h3) (obs_cons rfl (obs_cons rfl (obs_cons rfl (obs_cons rfl (obs_cons rfl (obs_cons rfl (obs_nil))))))))))) ?_
        refine T_then (b := true) rfl rfl ?_
        refine T_seq ?_
        refine T_region [] [ks 2] (fun _ => mixed) (l' := [ps 2 (iv 3)]) (obs := []) (by kernel_rfl) (obs_nil) ?_
        have hw : wE l i = 3 := if_pos (by omega)
        refine T_wk (Wk.eq (show _ = [ps 2 (iv (wrongS l))] from by rw [show wrongS l = 3 from by unfold wrongS; rw [if_neg (by omega), fstE_stop hf (by omega) (by rw [hw]; decide), hw]])) ?_
        exact T_ret fun cx_ a_ hI_ => loop_ret (ret_ok (H' := []) (.inr rfl) (Wk.ren2 [ps 2 (iv (wrongS l))] 0 hc0 [] rfl rfl (by kernel_rfl) (by kernel_rfl)) rfl (obs_nil) (fun cx_ a_ hI_ => ret_res (l' := [ps 2 (iv (wrongS l))]) (by kernel_rfl) cx_ a_ hI_) hI_)
      · by_cases h4 : ((l.getD i dT).2.1) < 1
        · refine T_region [(4, .gd false (.no)), (5, .gd false (.no)), (6, .gd false (.no)), (7, .yes false), (9, .gd true .no), (10, .gd true .no), (11, .gd true .no), (12, .yes true), (14, .gd true .no), (15, .gd true .no), (16, .gd true .no)] [ks 0, ks 3, ks 4, ks 8, ks 9, ks 10, ks 32, kb 32] (fun _ => mixed) (l' := [ps 0 (.ssl (tns l) 0 l.length), ps 3 (nv i), ps 4 (.opt 32 0), ps 8 (.ssl (tns l) 0 l.length), ps 9 (nv l.length), ps 10 (nv i), ps 32 (bv true), pb 32 41 (tnC (l.getD i dT))]) (obs := [(decide (((l.getD i dT).1) < 0)) = false, (decide (((l.getD i dT).1) < 0)) = false, (decide (((l.getD i dT).1) < 0)) = false, (decide (((l.getD i dT).1) < 0)) = false, (decide (((l.getD i dT).2.1) < 1)) = true, (decide (((l.getD i dT).2.1) < 1)) = true, (decide (((l.getD i dT).2.1) < 1)) = true, (decide (((l.getD i dT).2.1) < 1)) = true, true = true, true = true, true = true]) (by kernel_rfl) (obs_cons (decide_eq_false h3) (obs_cons (decide_eq_false h3) (obs_cons (decide_eq_false h3) (obs_cons (decide_eq_false h3) (obs_cons (decide_eq_true h4) (obs_cons (decide_eq_true h4) (obs_cons (decide_eq_true h4) (obs_cons (decide_eq_true h4) (obs_cons rfl (obs_cons rfl (obs_cons rfl (obs_nil)))))))))))) ?_
          refine T_then (b := true) rfl rfl ?_
          refine T_seq ?_
          refine T_region [] [ks 2] (fun _ => mixed) (l' := [ps 2 (iv 3)]) (obs := []) (by kernel_rfl) (obs_nil) ?_
          have hw : wE l i = 3 := if_pos (by omega)
          refine T_wk (Wk.eq (show _ = [ps 2 (iv (wrongS l))] from by rw [show wrongS l = 3 from by unfold wrongS; rw [if_neg (by omega), fstE_stop hf (by omega) (by rw [hw]; decide), hw]])) ?_
          exact T_ret fun cx_ a_ hI_ => loop_ret (ret_ok (H' := []) (.inr rfl) (Wk.ren2 [ps 2 (iv (wrongS l))] 0 hc0 [] rfl rfl (by kernel_rfl) (by kernel_rfl)) rfl (obs_nil) (fun cx_ a_ hI_ => ret_res (l' := [ps 2 (iv (wrongS l))]) (by kernel_rfl) cx_ a_ hI_) hI_)
        · by_cases h5 : 1048576 < ((l.getD i dT).1)
          · refine T_region [(4, .gd false (.no)), (5, .gd false (.no)), (6, .gd false (.no)), (7, .yes false), (9, .gd false (.no)), (10, .gd false (.no)), (11, .gd false (.no)), (12, .yes false), (14, .gd true .no), (15, .gd true .no), (16, .gd true .no), (17, .yes true)] [ks 0, ks 3, ks 4, ks 8, ks 9, ks 10, ks 32, kb 32] (fun _ => mixed) (l' := [ps 0 (.ssl (tns l) 0 l.length), ps 3 (nv i), ps 4 (.opt 32 0), ps 8 (.ssl (tns l) 0 l.length), ps 9 (nv l.length), ps 10 (nv i), ps 32 (bv true), pb 32 41 (tnC (l.getD i dT))]) (obs := [(decide (((l.getD i dT).1) < 0)) = false, (decide (((l.getD i dT).1) < 0)) = false, (decide (((l.getD i dT).1) < 0)) = false, (decide (((l.getD i dT).1) < 0)) = false, (decide (((l.getD i dT).2.1) < 1)) = false, (decide (((l.getD i dT).2.1) < 1)) = false, (decide (((l.getD i dT).2.1) < 1)) = false, (decide (((l.getD i dT).2.1) < 1)) = false, (decide (1048576 < ((l.getD i dT).1))) = true, (decide (1048576 < ((l.getD i dT).1))) = true, (decide (1048576 < ((l.getD i dT).1))) = true, (decide (1048576 < ((l.getD i dT).1))) = true]) (by kernel_rfl) (obs_cons (decide_eq_false h3) (obs_cons (decide_eq_false h3) (obs_cons (decide_eq_false h3) (obs_cons (decide_eq_false h3) (obs_cons (decide_eq_false h4) (obs_cons (decide_eq_false h4) (obs_cons (decide_eq_false h4) (obs_cons (decide_eq_false h4) (obs_cons (decide_eq_true h5) (obs_cons (decide_eq_true h5) (obs_cons (decide_eq_true h5) (obs_cons (decide_eq_true h5) (obs_nil))))))))))))) ?_
            refine T_then (b := true) rfl rfl ?_
            refine T_seq ?_
            refine T_region [] [ks 2] (fun _ => mixed) (l' := [ps 2 (iv 3)]) (obs := []) (by kernel_rfl) (obs_nil) ?_
            have hw : wE l i = 3 := if_pos (by omega)
            refine T_wk (Wk.eq (show _ = [ps 2 (iv (wrongS l))] from by rw [show wrongS l = 3 from by unfold wrongS; rw [if_neg (by omega), fstE_stop hf (by omega) (by rw [hw]; decide), hw]])) ?_
            exact T_ret fun cx_ a_ hI_ => loop_ret (ret_ok (H' := []) (.inr rfl) (Wk.ren2 [ps 2 (iv (wrongS l))] 0 hc0 [] rfl rfl (by kernel_rfl) (by kernel_rfl)) rfl (obs_nil) (fun cx_ a_ hI_ => ret_res (l' := [ps 2 (iv (wrongS l))]) (by kernel_rfl) cx_ a_ hI_) hI_)
          · refine T_region [(4, .gd false (.no)), (5, .gd false (.no)), (6, .gd false (.no)), (7, .yes false), (9, .gd false (.no)), (10, .gd false (.no)), (11, .gd false (.no)), (12, .yes false), (14, .gd false (.no)), (15, .gd false (.no)), (16, .gd false (.no)), (17, .yes false)] [ks 0, ks 3, ks 4, ks 8, ks 9, ks 10, ks 32, kb 32] (fun _ => mixed) (l' := [ps 0 (.ssl (tns l) 0 l.length), ps 3 (nv i), ps 4 (.opt 32 0), ps 8 (.ssl (tns l) 0 l.length), ps 9 (nv l.length), ps 10 (nv i), ps 32 (bv (decide (1048576 < ((l.getD i dT).2.1)))), pb 32 41 (tnC (l.getD i dT))]) (obs := [(decide (((l.getD i dT).1) < 0)) = false, (decide (((l.getD i dT).1) < 0)) = false, (decide (((l.getD i dT).1) < 0)) = false, (decide (((l.getD i dT).1) < 0)) = false, (decide (((l.getD i dT).2.1) < 1)) = false, (decide (((l.getD i dT).2.1) < 1)) = false, (decide (((l.getD i dT).2.1) < 1)) = false, (decide (((l.getD i dT).2.1) < 1)) = false, (decide (1048576 < ((l.getD i dT).1))) = false, (decide (1048576 < ((l.getD i dT).1))) = false, (decide (1048576 < ((l.getD i dT).1))) = false, (decide (1048576 < ((l.getD i dT).1))) = false]) (by kernel_rfl) (obs_cons (decide_eq_false h3) (obs_cons (decide_eq_false h3) (obs_cons (decide_eq_false h3) (obs_cons (decide_eq_false h3) (obs_cons (decide_eq_false h4) (obs_cons (decide_eq_false h4) (obs_cons (decide_eq_false h4) (obs_cons (decide_eq_false h4) (obs_cons (decide_eq_false h5) (obs_cons (decide_eq_false h5) (obs_cons (decide_eq_false h5) (obs_cons (decide_eq_false h5) (obs_nil))))))))))))) ?_
            by_cases h6 : 1048576 < ((l.getD i dT).2.1)
            · refine T_then (b := (decide (1048576 < ((l.getD i dT).2.1)))) rfl (decide_eq_true h6) ?_
              refine T_seq ?_
              refine T_region [] [ks 2] (fun _ => mixed) (l' := [ps 2 (iv 3)]) (obs := []) (by kernel_rfl) (obs_nil) ?_
              have hw : wE l i = 3 := if_pos (by omega)
              refine T_wk (Wk.eq (show _ = [ps 2 (iv (wrongS l))] from by rw [show wrongS l = 3 from by unfold wrongS; rw [if_neg (by omega), fstE_stop hf (by omega) (by rw [hw]; decide), hw]])) ?_
              exact T_ret fun cx_ a_ hI_ => loop_ret (ret_ok (H' := []) (.inr rfl) (Wk.ren2 [ps 2 (iv (wrongS l))] 0 hc0 [] rfl rfl (by kernel_rfl) (by kernel_rfl)) rfl (obs_nil) (fun cx_ a_ hI_ => ret_res (l' := [ps 2 (iv (wrongS l))]) (by kernel_rfl) cx_ a_ hI_) hI_)
            · refine T_else (b := (decide (1048576 < ((l.getD i dT).2.1)))) rfl (decide_eq_false h6) ?_
              refine T_skip ?_
              refine T_seq ?_
              refine T_seq ?_
              refine T_region [(2, .call [] [(.agg [(iv ((l.getD i dT).2.2.1)), (iv ((l.getD i dT).2.2.2.1)), (iv ((l.getD i dT).2.2.2.2))])] [] (bv (rgt (l.getD i dT))) [])] [ks 0, ks 3, ks 4, ks 8, ks 9, ks 10, ks 36, kb 32] (fun _ => mixed) (l' := [ps 0 (.ssl (tns l) 0 l.length), ps 3 (nv i), ps 4 (.opt 32 0), ps 8 (.ssl (tns l) 0 l.length), ps 9 (nv l.length), ps 10 (nv i), ps 36 (bv (!(rgt (l.getD i dT)))), pb 32 41 (tnC (l.getD i dT))]) (obs := [PC Try.prog 25 [(.agg [(iv ((l.getD i dT).2.2.1)), (iv ((l.getD i dT).2.2.2.1)), (iv ((l.getD i dT).2.2.2.2))])] [] (bv (rgt (l.getD i dT))) [], [(.agg [(iv ((l.getD i dT).2.2.1)), (iv ((l.getD i dT).2.2.2.1)), (iv ((l.getD i dT).2.2.2.2))])] = renL (sigi [] 216) [(.agg [(iv ((l.getD i dT).2.2.1)), (iv ((l.getD i dT).2.2.2.1)), (iv ((l.getD i dT).2.2.2.2))])]]) (by kernel_rfl) (obs_cons (ref_pright_pc ((l.getD i dT).2.2.1) ((l.getD i dT).2.2.2.1) ((l.getD i dT).2.2.2.2) (hI i).2.2.2.1) (obs_cons rfl (obs_nil))) ?_
              by_cases h7 : (rgt (l.getD i dT)) = true
              · refine T_else (b := (!(rgt (l.getD i dT)))) rfl (congrArg Bool.not h7) ?_
                refine T_skip ?_
                refine T_seq ?_
                by_cases h8 : 0 < ((i : Nat) : Int)
                · refine T_regionD [(3, .gd true (.no)), (4, .gd true (.no)), (5, .gd true (.no)), (6, .gd true (.no)), (7, .gd true (.nat ((i - 1) * 5))), (8, .gd true (.cells (tnC (l.getD (i - 1) dT)))), (9, .gd true (.call [] [(.agg (tnC (l.getD i dT))), (.agg (tnC (l.getD (i - 1) dT)))] [] (bv (decide (ordS (l.getD i dT) (l.getD (i - 1) dT) < 0))) [])), (10, .yes true)] [[], [0], [0, 1], [0, 1, 2], [0, 1, 2], [0, 1, 2], [0, 1, 2, 5], [0, 1, 2, 4, 5, 6], [0, 1, 2, 4, 5, 6, 7], [0, 1, 2, 3, 4, 5, 6, 7, 8], [0, 1, 2, 3, 4, 5, 6, 7, 8, 9]] [([74], [6]), ([76], [74]), ([78], [76]), ([80], [8, 65, 78]), ([82], [0, 78]), ([84], [6, 78]), ([86], [78, 84]), ([88], [78, 82, 86]), ([90], [78, 88]), ([92], [78, 80, 90]), ([94], [78, 92])] [ks 0, ks 8, ks 9, ks 10, ks 47] (l' := [ps 0 (.ssl (tns l) 0 l.length), ps 8 (.ssl (tns l) 0 l.length), ps 9 (nv l.length), ps 10 (nv i), ps 47 (bv (decide (ordS (l.getD i dT) (l.getD (i - 1) dT) < 0)))]) (obs := [(decide (0 < ((i : Nat) : Int))) = true, (decide (0 < ((i : Nat) : Int))) = true, (decide (0 < ((i : Nat) : Int))) = true, (decide (0 < ((i : Nat) : Int))) = true, InK .i64 (((i : Nat) : Int) - 1), (decide (0 < ((i : Nat) : Int))) = true, (0 : Int) ≤ (((i : Nat) : Int) - 1) ∧ (((i : Nat) : Int) - 1) < ((l.length : Nat) : Int), 0 + ((((i : Nat) : Int) - 1) : Int).toNat * 5 = ((i - 1) * 5), (decide (0 < ((i : Nat) : Int))) = true, ((i - 1) * 5) + 5 ≤ ((tns l)).length ∧ (((tns l)).drop ((i - 1) * 5)).take 5 = (tnC (l.getD (i - 1) dT)), (decide (0 < ((i : Nat) : Int))) = true, PC Try.prog 26 [(.agg (tnC (l.getD i dT))), (.agg (tnC (l.getD (i - 1) dT)))] [] (bv (decide (ordS (l.getD i dT) (l.getD (i - 1) dT) < 0))) [], [(.agg (tnC (l.getD i dT))), (.agg (tnC (l.getD (i - 1) dT)))] = renL (sigi [] 304) [(.agg (tnC (l.getD i dT))), (.agg (tnC (l.getD (i - 1) dT)))], (decide (0 < ((i : Nat) : Int))) = true]) mixed (by kernel_rfl) (by kernel_rfl) (obs_cons (decide_eq_true h8) (obs_cons (decide_eq_true h8) (obs_cons (decide_eq_true h8) (obs_cons (decide_eq_true h8) (obs_cons (by simp only [InK]; omega) (obs_cons (decide_eq_true h8) (obs_cons (by omega) (obs_cons (by omega) (obs_cons (decide_eq_true h8) (obs_cons (flat_at tnC 5 (fun _ => rfl) dT l (i - 1) 0 5 (by omega) (by decide)) (obs_cons (decide_eq_true h8) (obs_cons (less_pc (l.getD i dT) (l.getD (i - 1) dT)) (obs_cons rfl (obs_cons (decide_eq_true h8) (obs_nil))))))))))))))) ?_
                  by_cases h9 : (decide (ordS (l.getD i dT) (l.getD (i - 1) dT) < 0)) = true
                  · refine T_then (b := (decide (ordS (l.getD i dT) (l.getD (i - 1) dT) < 0))) rfl h9 ?_
                    refine T_seq ?_
                    refine T_region [] [ks 2] (fun _ => mixed) (l' := [ps 2 (iv 8)]) (obs := []) (by kernel_rfl) (obs_nil) ?_
                    have hw : wE l i = 8 := by unfold wE; rw [if_neg (by omega), if_neg (by rw [h7]; decide), if_pos ⟨by omega, (by have h7 := h9; simp only [decide_eq_true_eq] at h7; have := less_le (t := l.getD i dT) (u := l.getD (i - 1) dT); omega)⟩]
                    refine T_wk (Wk.eq (show _ = [ps 2 (iv (wrongS l))] from by rw [show wrongS l = 8 from by unfold wrongS; rw [if_neg (by omega), fstE_stop hf (by omega) (by rw [hw]; decide), hw]])) ?_
                    exact T_ret fun cx_ a_ hI_ => loop_ret (ret_ok (H' := []) (.inr rfl) (Wk.ren2 [ps 2 (iv (wrongS l))] 0 hc0 [] rfl rfl (by kernel_rfl) (by kernel_rfl)) rfl (obs_nil) (fun cx_ a_ hI_ => ret_res (l' := [ps 2 (iv (wrongS l))]) (by kernel_rfl) cx_ a_ hI_) hI_)
                  · refine T_else (b := (decide (ordS (l.getD i dT) (l.getD (i - 1) dT) < 0))) rfl (Bool.eq_false_iff.2 h9) ?_
                    refine T_skip ?_
                    refine T_blk ?_
                    refine T_region [] [ks 0, ks 8, ks 9, ks 10] (fun _ => mixed) (l' := [ps 0 (.ssl (tns l) 0 l.length), ps 8 (.ssl (tns l) 0 l.length), ps 9 (nv l.length), ps 10 (iv (((i : Nat) : Int) + 1))]) (obs := [InK .i64 (((i : Nat) : Int) + 1)]) (by kernel_rfl) (obs_cons (by simp only [InK]; omega) (obs_nil)) ?_
                    have hw : wE l i = 0 := wE_of ⟨by omega, by omega, by omega, by omega, h7⟩ (fun h1 => (by have h7 := h9; simp only [decide_eq_true_eq] at h7; have := less_le (t := l.getD i dT) (u := l.getD (i - 1) dT); omega))
                    exact T_back ⟨i + 1, ⟨by omega, by rw [fstE_next hf]; exact hw⟩⟩ (Wk.ren2 [ps 0 (.ssl (tns l) 0 l.length), ps 8 (.ssl (tns l) 0 l.length), ps 9 (nv l.length), ps 10 (nv (i + 1))] 0 hc0 [] rfl rfl (by kernel_rfl) (by kernel_rfl)) (show l.length - (i + 1) < l.length - i from by omega)
                · refine T_regionD [(3, .gd false .no), (4, .gd false .no), (5, .gd false .no), (6, .gd false .no), (7, .gd false .no), (8, .gd false .no), (9, .gd false .no), (10, .yes false)] [[], [0], [0, 1], [0, 1, 2], [0, 1, 2], [0, 1, 2], [0, 1, 2, 5], [0, 1, 2, 4, 5, 6], [0, 1, 2, 4, 5, 6, 7], [0, 1, 2, 3, 4, 5, 6, 7, 8], [0, 1, 2, 3, 4, 5, 6, 7, 8, 9]] [([74], [6]), ([76], [74]), ([78], [76]), ([80], [78]), ([82], [78]), ([84], [78]), ([86], [78]), ([88], [78]), ([90], [78]), ([92], [78]), ([94], [78, 92])] [ks 0, ks 8, ks 9, ks 10, ks 47] (l' := [ps 0 (.ssl (tns l) 0 l.length), ps 8 (.ssl (tns l) 0 l.length), ps 9 (nv l.length), ps 10 (nv i), ps 47 (bv false)]) (obs := [(decide (0 < ((i : Nat) : Int))) = false, (decide (0 < ((i : Nat) : Int))) = false, (decide (0 < ((i : Nat) : Int))) = false, (decide (0 < ((i : Nat) : Int))) = false, (decide (0 < ((i : Nat) : Int))) = false, (decide (0 < ((i : Nat) : Int))) = false, (decide (0 < ((i : Nat) : Int))) = false, (decide (0 < ((i : Nat) : Int))) = false]) mixed (by kernel_rfl) (by kernel_rfl) (obs_cons (decide_eq_false h8) (obs_cons (decide_eq_false h8) (obs_cons (decide_eq_false h8) (obs_cons (decide_eq_false h8) (obs_cons (decide_eq_false h8) (obs_cons (decide_eq_false h8) (obs_cons (decide_eq_false h8) (obs_cons (decide_eq_false h8) (obs_nil))))))))) ?_
                  refine T_else (b := false) rfl rfl ?_
                  refine T_skip ?_
                  refine T_blk ?_
                  refine T_region [] [ks 0, ks 8, ks 9, ks 10] (fun _ => mixed) (l' := [ps 0 (.ssl (tns l) 0 l.length), ps 8 (.ssl (tns l) 0 l.length), ps 9 (nv l.length), ps 10 (iv (((i : Nat) : Int) + 1))]) (obs := [InK .i64 (((i : Nat) : Int) + 1)]) (by kernel_rfl) (obs_cons (by simp only [InK]; omega) (obs_nil)) ?_
                  have hw : wE l i = 0 := wE_of ⟨by omega, by omega, by omega, by omega, h7⟩ (fun h1 => by omega)
                  exact T_back ⟨i + 1, ⟨by omega, by rw [fstE_next hf]; exact hw⟩⟩ (Wk.ren2 [ps 0 (.ssl (tns l) 0 l.length), ps 8 (.ssl (tns l) 0 l.length), ps 9 (nv l.length), ps 10 (nv (i + 1))] 0 hc0 [] rfl rfl (by kernel_rfl) (by kernel_rfl)) (show l.length - (i + 1) < l.length - i from by omega)
              · refine T_then (b := (!(rgt (l.getD i dT)))) rfl (congrArg Bool.not (Bool.eq_false_iff.2 h7)) ?_
                refine T_seq ?_
                refine T_region [] [ks 2] (fun _ => mixed) (l' := [ps 2 (iv 2)]) (obs := []) (by kernel_rfl) (obs_nil) ?_
                have hw : wE l i = 2 := by unfold wE; rw [if_neg (by omega), if_pos (Bool.eq_false_iff.2 h7)]
                refine T_wk (Wk.eq (show _ = [ps 2 (iv (wrongS l))] from by rw [show wrongS l = 2 from by unfold wrongS; rw [if_neg (by omega), fstE_stop hf (by omega) (by rw [hw]; decide), hw]])) ?_
                exact T_ret fun cx_ a_ hI_ => loop_ret (ret_ok (H' := []) (.inr rfl) (Wk.ren2 [ps 2 (iv (wrongS l))] 0 hc0 [] rfl rfl (by kernel_rfl) (by kernel_rfl)) rfl (obs_nil) (fun cx_ a_ hI_ => ret_res (l' := [ps 2 (iv (wrongS l))]) (by kernel_rfl) cx_ a_ hI_) hI_)
    · refine T_else (b := (decide (((i : Nat) : Int) < ((l.length : Nat) : Int)))) rfl (decide_eq_false h2) ?_
      refine T_break rfl rfl ?_
      refine T_seq ?_
      refine T_region [] [ks 2] (fun _ => mixed) (l' := [ps 2 (iv 0)]) (obs := []) (by kernel_rfl) (obs_nil) ?_
      refine T_wk (Wk.eq (show _ = [ps 2 (iv (wrongS l))] from by rw [show wrongS l = 0 from by unfold wrongS; rw [if_neg (by omega), show l.length = i from by omega]; exact hf])) ?_
      exact T_ret fun cx_ a_ hI_ => ret_ok (H' := []) (.inr rfl) (Wk.ren2 [ps 2 (iv (wrongS l))] 0 hc0 [] rfl rfl (by kernel_rfl) (by kernel_rfl)) rfl (obs_nil) (fun cx_ a_ hI_ => ret_res (l' := [ps 2 (iv (wrongS l))]) (by kernel_rfl) cx_ a_ hI_) hI_
set_option maxRecDepth 100000 in
set_option maxHeartbeats 4000000 in
theorem end_pc (l : List Tn) (hl : LOk l) : PC Try.prog 15 [(.ssl (tns l) 0 l.length)] [] (iv (endS l)) [] := by
  have hlen := hl.len
  refine pc_intro Try.func15 rfl (by kernel_rfl) (Nat.le_of_ble_eq_true rfl) (by kernel_rfl) (l0 := [ps 0 (.ssl (tns l) 0 l.length)]) rfl (fun c0 Bor hc0 => ?_)
  refine T_seq ?_
  refine T_region [] [ks 0] (fun _ => mixed) (l' := [ps 0 (.ssl (tns l) 0 l.length)]) (obs := []) (by kernel_rfl) (obs_nil) ?_
  refine T_seq ?_
  refine T_region [] [ks 0, ks 3] (fun _ => mixed) (l' := [ps 0 (.ssl (tns l) 0 l.length), ps 3 (iv 0)]) (obs := []) (by kernel_rfl) (obs_nil) ?_
  refine T_seq ?_
  refine T_seq ?_
  refine T_region [] [ks 3, ks 6, ks 7, ks 8] (fun _ => mixed) (l' := [ps 3 (iv 0), ps 6 (.ssl (tns l) 0 l.length), ps 7 (nv l.length), ps 8 (iv 0)]) (obs := []) (by kernel_rfl) (obs_nil) ?_
  refine T_block ?_
  refine T_wk (Wk.eq (show _ = [ps 3 (iv (endN l 0)), ps 6 (.ssl (tns l) 0 l.length), ps 7 (nv l.length), ps 8 (iv 0)] from by rfl)) ?_
  refine T_loop (α := {x : Nat // x ≤ l.length}) (fun x => [ps 3 (iv (endN l x.1)), ps 6 (.ssl (tns l) 0 l.length), ps 7 (nv l.length), ps 8 (nv x.1)]) (fun x => l.length - x.1) 0 ⟨0, Nat.zero_le _⟩ (Wk.ren2 [ps 3 (iv (endN l 0)), ps 6 (.ssl (tns l) 0 l.length), ps 7 (nv l.length), ps 8 (nv 0)] 0 hc0 [] rfl rfl (by kernel_rfl) (by kernel_rfl)) ?_
  rintro ⟨i, hi⟩
  refine T_seq ?_
  refine T_region [] [ks 3, ks 6, ks 7, ks 8, ks 9] (fun _ => mixed) (l' := [ps 3 (iv (endN l i)), ps 6 (.ssl (tns l) 0 l.length), ps 7 (nv l.length), ps 8 (nv i), ps 9 (bv (decide (((i : Nat) : Int) < ((l.length : Nat) : Int))))]) (obs := []) (by kernel_rfl) (obs_nil) ?_
  refine T_seq ?_
  by_cases h1 : ((i : Nat) : Int) < ((l.length : Nat) : Int)
  · refine T_then (b := (decide (((i : Nat) : Int) < ((l.length : Nat) : Int)))) rfl (decide_eq_true h1) ?_
    refine T_skip ?_
    refine T_seq ?_
    refine T_block ?_
    refine T_seq ?_
    have hk := hl.at (i := i) (by omega)
    have ga0 := hk.a0
    have ga1 := hk.a1
    have gl0 := hk.l0
    have gl1 := hk.l1
    have he := endN_bd hl hi
    refine T_region [(0, .nat (i * 5)), (1, .cells (tnC (l.getD i dT)))] [ks 3, ks 5, ks 6, ks 7, ks 8, kb 24] (fun _ => mixed) (l' := [ps 3 (iv (endN l i)), ps 5 (.opt 24 0), ps 6 (.ssl (tns l) 0 l.length), ps 7 (nv l.length), ps 8 (nv i), pb 24 41 (tnC (l.getD i dT))]) (obs := [(0 : Int) ≤ ((i : Nat) : Int) ∧ ((i : Nat) : Int) < ((l.length : Nat) : Int), 0 + (((i : Nat) : Int) : Int).toNat * 5 = (i * 5), (i * 5) + 5 ≤ ((tns l)).length ∧ (((tns l)).drop (i * 5)).take 5 = (tnC (l.getD i dT))]) (by kernel_rfl) (obs_cons (by omega) (obs_cons (by omega) (obs_cons (flat_at tnC 5 (fun _ => rfl) dT l i 0 5 (by omega) (by decide)) (obs_nil)))) ?_
    refine T_region [] [ks 3, ks 6, ks 7, ks 8] (fun _ => mixed) (l' := [ps 3 (iv (max (endN l i) (((l.getD i dT).1) + ((l.getD i dT).2.1)))), ps 6 (.ssl (tns l) 0 l.length), ps 7 (nv l.length), ps 8 (nv i)]) (obs := [InK .i64 (((l.getD i dT).1) + ((l.getD i dT).2.1))]) (by kernel_rfl) (obs_cons (by simp only [InK]; omega) (obs_nil)) ?_
    refine T_blk ?_
    refine T_region [] [ks 3, ks 6, ks 7, ks 8] (fun _ => mixed) (l' := [ps 3 (iv (max (endN l i) (((l.getD i dT).1) + ((l.getD i dT).2.1)))), ps 6 (.ssl (tns l) 0 l.length), ps 7 (nv l.length), ps 8 (iv (((i : Nat) : Int) + 1))]) (obs := [InK .i64 (((i : Nat) : Int) + 1)]) (by kernel_rfl) (obs_cons (by simp only [InK]; omega) (obs_nil)) ?_
    exact T_back ⟨i + 1, by omega⟩ (Wk.trans (Wk.eq (show _ = [ps 3 (iv (endN l (i + 1))), ps 6 (.ssl (tns l) 0 l.length), ps 7 (nv l.length), ps 8 (iv (((i : Nat) : Int) + 1))] from by rw [show endN l (i + 1) = max (endN l i) (((l.getD i dT).1) + ((l.getD i dT).2.1)) from by first | rfl | (simp only [endN]; omega)])) (Wk.ren2 [ps 3 (iv (endN l (i + 1))), ps 6 (.ssl (tns l) 0 l.length), ps 7 (nv l.length), ps 8 (nv (i + 1))] 0 hc0 [] rfl rfl (by kernel_rfl) (by kernel_rfl))) (show l.length - (i + 1) < l.length - i from by omega)
  · refine T_else (b := (decide (((i : Nat) : Int) < ((l.length : Nat) : Int)))) rfl (decide_eq_false h1) ?_
    refine T_break rfl rfl ?_
    refine T_seq ?_
    refine T_region [] [ks 2] (fun _ => mixed) (l' := [ps 2 (iv (endN l i))]) (obs := []) (by kernel_rfl) (obs_nil) ?_
    refine T_wk (Wk.eq (show _ = [ps 2 (iv (endS l))] from by rw [show i = l.length from by omega]; rfl)) ?_
    exact T_ret fun cx_ a_ hI_ => ret_ok (H' := []) (.inr rfl) (Wk.ren2 [ps 2 (iv (endS l))] 0 hc0 [] rfl rfl (by kernel_rfl) (by kernel_rfl)) rfl (obs_nil) (fun cx_ a_ hI_ => ret_res (l' := [ps 2 (iv (endS l))]) (by kernel_rfl) cx_ a_ hI_) hI_
set_option maxRecDepth 100000 in
set_option maxHeartbeats 4000000 in
theorem ref_end_pc (l : List Tn) (hl : LOk l) : PC Try.prog 16 [(.ssl (tns l) 0 l.length)] [] (iv (endS l)) [] := by
  have hlen := hl.len
  refine pc_intro Try.func16 rfl (by kernel_rfl) (Nat.le_of_ble_eq_true rfl) (by kernel_rfl) (l0 := [ps 0 (.ssl (tns l) 0 l.length)]) rfl (fun c0 Bor hc0 => ?_)
  refine T_seq ?_
  refine T_region [] [ks 0] (fun _ => mixed) (l' := [ps 0 (.ssl (tns l) 0 l.length)]) (obs := []) (by kernel_rfl) (obs_nil) ?_
  refine T_seq ?_
  refine T_region [] [ks 0, ks 3] (fun _ => mixed) (l' := [ps 0 (.ssl (tns l) 0 l.length), ps 3 (iv 0)]) (obs := []) (by kernel_rfl) (obs_nil) ?_
  refine T_seq ?_
  refine T_seq ?_
  refine T_region [] [ks 3, ks 6, ks 7, ks 8] (fun _ => mixed) (l' := [ps 3 (iv 0), ps 6 (.ssl (tns l) 0 l.length), ps 7 (nv l.length), ps 8 (iv 0)]) (obs := []) (by kernel_rfl) (obs_nil) ?_
  refine T_block ?_
  refine T_wk (Wk.eq (show _ = [ps 3 (iv (endN l 0)), ps 6 (.ssl (tns l) 0 l.length), ps 7 (nv l.length), ps 8 (iv 0)] from by rfl)) ?_
  refine T_loop (α := {x : Nat // x ≤ l.length}) (fun x => [ps 3 (iv (endN l x.1)), ps 6 (.ssl (tns l) 0 l.length), ps 7 (nv l.length), ps 8 (nv x.1)]) (fun x => l.length - x.1) 0 ⟨0, Nat.zero_le _⟩ (Wk.ren2 [ps 3 (iv (endN l 0)), ps 6 (.ssl (tns l) 0 l.length), ps 7 (nv l.length), ps 8 (nv 0)] 0 hc0 [] rfl rfl (by kernel_rfl) (by kernel_rfl)) ?_
  rintro ⟨i, hi⟩
  refine T_seq ?_
  refine T_region [] [ks 3, ks 6, ks 7, ks 8, ks 9] (fun _ => mixed) (l' := [ps 3 (iv (endN l i)), ps 6 (.ssl (tns l) 0 l.length), ps 7 (nv l.length), ps 8 (nv i), ps 9 (bv (decide (((i : Nat) : Int) < ((l.length : Nat) : Int))))]) (obs := []) (by kernel_rfl) (obs_nil) ?_
  refine T_seq ?_
  by_cases h1 : ((i : Nat) : Int) < ((l.length : Nat) : Int)
  · refine T_then (b := (decide (((i : Nat) : Int) < ((l.length : Nat) : Int)))) rfl (decide_eq_true h1) ?_
    refine T_skip ?_
    refine T_seq ?_
    refine T_block ?_
    refine T_seq ?_
    have hk := hl.at (i := i) (by omega)
    have ga0 := hk.a0
    have ga1 := hk.a1
    have gl0 := hk.l0
    have gl1 := hk.l1
    have he := endN_bd hl hi
    refine T_region [(0, .nat (i * 5)), (1, .cells (tnC (l.getD i dT)))] [ks 3, ks 5, ks 6, ks 7, ks 8, kb 24] (fun _ => mixed) (l' := [ps 3 (iv (endN l i)), ps 5 (.opt 24 0), ps 6 (.ssl (tns l) 0 l.length), ps 7 (nv l.length), ps 8 (nv i), pb 24 41 (tnC (l.getD i dT))]) (obs := [(0 : Int) ≤ ((i : Nat) : Int) ∧ ((i : Nat) : Int) < ((l.length : Nat) : Int), 0 + (((i : Nat) : Int) : Int).toNat * 5 = (i * 5), (i * 5) + 5 ≤ ((tns l)).length ∧ (((tns l)).drop (i * 5)).take 5 = (tnC (l.getD i dT))]) (by kernel_rfl) (obs_cons (by omega) (obs_cons (by omega) (obs_cons (flat_at tnC 5 (fun _ => rfl) dT l i 0 5 (by omega) (by decide)) (obs_nil)))) ?_
    refine T_seq ?_
    refine T_region [] [ks 3, ks 5, ks 6, ks 7, ks 8, ks 18, kb 24] (fun _ => mixed) (l' := [ps 3 (iv (endN l i)), ps 5 (.opt 24 0), ps 6 (.ssl (tns l) 0 l.length), ps 7 (nv l.length), ps 8 (nv i), ps 18 (bv (decide ((endN l i) < (((l.getD i dT).1) + ((l.getD i dT).2.1))))), pb 24 41 (tnC (l.getD i dT))]) (obs := [InK .i64 (((l.getD i dT).1) + ((l.getD i dT).2.1))]) (by kernel_rfl) (obs_cons (by simp only [InK]; omega) (obs_nil)) ?_
    by_cases h2 : (endN l i) < (((l.getD i dT).1) + ((l.getD i dT).2.1))
    · refine T_then (b := (decide ((endN l i) < (((l.getD i dT).1) + ((l.getD i dT).2.1))))) rfl (decide_eq_true h2) ?_
      refine T_region [] [ks 3, ks 6, ks 7, ks 8] (fun _ => mixed) (l' := [ps 3 (iv (((l.getD i dT).1) + ((l.getD i dT).2.1))), ps 6 (.ssl (tns l) 0 l.length), ps 7 (nv l.length), ps 8 (nv i)]) (obs := [InK .i64 (((l.getD i dT).1) + ((l.getD i dT).2.1))]) (by kernel_rfl) (obs_cons (by simp only [InK]; omega) (obs_nil)) ?_
      refine T_blk ?_
      refine T_region [] [ks 3, ks 6, ks 7, ks 8] (fun _ => mixed) (l' := [ps 3 (iv (((l.getD i dT).1) + ((l.getD i dT).2.1))), ps 6 (.ssl (tns l) 0 l.length), ps 7 (nv l.length), ps 8 (iv (((i : Nat) : Int) + 1))]) (obs := [InK .i64 (((i : Nat) : Int) + 1)]) (by kernel_rfl) (obs_cons (by simp only [InK]; omega) (obs_nil)) ?_
      exact T_back ⟨i + 1, by omega⟩ (Wk.trans (Wk.eq (show _ = [ps 3 (iv (endN l (i + 1))), ps 6 (.ssl (tns l) 0 l.length), ps 7 (nv l.length), ps 8 (iv (((i : Nat) : Int) + 1))] from by rw [show endN l (i + 1) = ((l.getD i dT).1) + ((l.getD i dT).2.1) from by first | rfl | (simp only [endN]; omega)])) (Wk.ren2 [ps 3 (iv (endN l (i + 1))), ps 6 (.ssl (tns l) 0 l.length), ps 7 (nv l.length), ps 8 (nv (i + 1))] 0 hc0 [] rfl rfl (by kernel_rfl) (by kernel_rfl))) (show l.length - (i + 1) < l.length - i from by omega)
    · refine T_else (b := (decide ((endN l i) < (((l.getD i dT).1) + ((l.getD i dT).2.1))))) rfl (decide_eq_false h2) ?_
      refine T_skip ?_
      refine T_blk ?_
      refine T_region [] [ks 3, ks 6, ks 7, ks 8] (fun _ => mixed) (l' := [ps 3 (iv (endN l i)), ps 6 (.ssl (tns l) 0 l.length), ps 7 (nv l.length), ps 8 (iv (((i : Nat) : Int) + 1))]) (obs := [InK .i64 (((i : Nat) : Int) + 1)]) (by kernel_rfl) (obs_cons (by simp only [InK]; omega) (obs_nil)) ?_
      exact T_back ⟨i + 1, by omega⟩ (Wk.trans (Wk.eq (show _ = [ps 3 (iv (endN l (i + 1))), ps 6 (.ssl (tns l) 0 l.length), ps 7 (nv l.length), ps 8 (iv (((i : Nat) : Int) + 1))] from by rw [show endN l (i + 1) = endN l i from by first | rfl | (simp only [endN]; omega)])) (Wk.ren2 [ps 3 (iv (endN l (i + 1))), ps 6 (.ssl (tns l) 0 l.length), ps 7 (nv l.length), ps 8 (nv (i + 1))] 0 hc0 [] rfl rfl (by kernel_rfl) (by kernel_rfl))) (show l.length - (i + 1) < l.length - i from by omega)
  · refine T_else (b := (decide (((i : Nat) : Int) < ((l.length : Nat) : Int)))) rfl (decide_eq_false h1) ?_
    refine T_break rfl rfl ?_
    refine T_seq ?_
    refine T_region [] [ks 2] (fun _ => mixed) (l' := [ps 2 (iv (endN l i))]) (obs := []) (by kernel_rfl) (obs_nil) ?_
    refine T_wk (Wk.eq (show _ = [ps 2 (iv (endS l))] from by rw [show i = l.length from by omega]; rfl)) ?_
    exact T_ret fun cx_ a_ hI_ => ret_ok (H' := []) (.inr rfl) (Wk.ren2 [ps 2 (iv (endS l))] 0 hc0 [] rfl rfl (by kernel_rfl) (by kernel_rfl)) rfl (obs_nil) (fun cx_ a_ hI_ => ret_res (l' := [ps 2 (iv (endS l))]) (by kernel_rfl) cx_ a_ hI_) hI_
set_option maxRecDepth 100000 in
set_option maxHeartbeats 4000000 in
theorem same_pc (a b : List Tn) (hl : a.length ≤ 4611686018427387904) : PC Try.prog 9 [(.ssl (tns a) 0 a.length), (.ssl (tns b) 0 b.length)] [] (bv (decide (a = b))) [] := by
  refine pc_intro Try.func9 rfl (by kernel_rfl) (Nat.le_of_ble_eq_true rfl) (by kernel_rfl) (l0 := [ps 0 (.ssl (tns a) 0 a.length), ps 1 (.ssl (tns b) 0 b.length)]) rfl (fun c0 Bor hc0 => ?_)
  refine T_seq ?_
  refine T_region [] [ks 0, ks 1] (fun _ => mixed) (l' := [ps 0 (.ssl (tns a) 0 a.length), ps 1 (.ssl (tns b) 0 b.length)]) (obs := []) (by kernel_rfl) (obs_nil) ?_
  refine T_seq ?_
  refine T_seq ?_
  refine T_region [] [ks 0, ks 1, ks 10] (fun _ => mixed) (l' := [ps 0 (.ssl (tns a) 0 a.length), ps 1 (.ssl (tns b) 0 b.length), ps 10 (bv (!(decide (((a.length : Nat) : Int) = ((b.length : Nat) : Int)))))]) (obs := []) (by kernel_rfl) (obs_nil) ?_
  by_cases h1 : ((a.length : Nat) : Int) = ((b.length : Nat) : Int)
  · refine T_else (b := (!(decide (((a.length : Nat) : Int) = ((b.length : Nat) : Int))))) rfl (congrArg Bool.not (decide_eq_true h1)) ?_
    refine T_skip ?_
    refine T_seq ?_
    refine T_seq ?_
    refine T_region [] [ks 0, ks 1, ks 12, ks 13] (fun _ => mixed) (l' := [ps 0 (.ssl (tns a) 0 a.length), ps 1 (.ssl (tns b) 0 b.length), ps 12 (nv a.length), ps 13 (iv 0)]) (obs := []) (by kernel_rfl) (obs_nil) ?_
    refine T_block ?_
    refine T_loop (α := {x : Nat // x ≤ a.length ∧ (∀ k, k < x → a.getD k dT = b.getD k dT)}) (fun x => [ps 0 (.ssl (tns a) 0 a.length), ps 1 (.ssl (tns b) 0 b.length), ps 12 (nv a.length), ps 13 (nv x.1)]) (fun x => a.length - x.1) 0 ⟨0, ⟨Nat.zero_le _, fun k hk => absurd hk (Nat.not_lt_zero k)⟩⟩ (Wk.ren2 [ps 0 (.ssl (tns a) 0 a.length), ps 1 (.ssl (tns b) 0 b.length), ps 12 (nv a.length), ps 13 (nv 0)] 0 hc0 [] rfl rfl (by kernel_rfl) (by kernel_rfl)) ?_
    rintro ⟨i, ⟨hi, hE⟩⟩
    refine T_seq ?_
    refine T_region [] [ks 0, ks 1, ks 12, ks 13, ks 14] (fun _ => mixed) (l' := [ps 0 (.ssl (tns a) 0 a.length), ps 1 (.ssl (tns b) 0 b.length), ps 12 (nv a.length), ps 13 (nv i), ps 14 (bv (decide (((i : Nat) : Int) < ((a.length : Nat) : Int))))]) (obs := []) (by kernel_rfl) (obs_nil) ?_
    refine T_seq ?_
    by_cases h2 : ((i : Nat) : Int) < ((a.length : Nat) : Int)
    · refine T_then (b := (decide (((i : Nat) : Int) < ((a.length : Nat) : Int)))) rfl (decide_eq_true h2) ?_
      refine T_skip ?_
      refine T_seq ?_
      refine T_block ?_
      refine T_seq ?_
      refine T_region [] [ks 0, ks 1, ks 5, ks 12, ks 13] (fun _ => mixed) (l' := [ps 0 (.ssl (tns a) 0 a.length), ps 1 (.ssl (tns b) 0 b.length), ps 5 (nv i), ps 12 (nv a.length), ps 13 (nv i)]) (obs := []) (by kernel_rfl) (obs_nil) ?_
      refine T_seq ?_
      refine T_regionD [(2, .nat (i * 5)), (3, .cells (tnC (a.getD i dT))), (6, .nat (i * 5)), (7, .cells (tnC (b.getD i dT)))] [[], [], [0, 1], [0, 1, 2], [], [], [4, 5], [4, 5, 6], [0, 1, 2, 3, 4, 5, 6, 7]] [([32], [0]), ([34], [10]), ([36], [32, 34]), ([38], [36]), ([40], [2]), ([42], [10]), ([44], [40, 42]), ([46], [44]), ([48], [38, 46])] [ks 0, ks 1, ks 12, ks 13, ks 24] (l' := [ps 0 (.ssl (tns a) 0 a.length), ps 1 (.ssl (tns b) 0 b.length), ps 12 (nv a.length), ps 13 (nv i), ps 24 (bv (!((decide (((a.getD i dT).1) = ((b.getD i dT).1))) && ((decide (((a.getD i dT).2.1) = ((b.getD i dT).2.1))) && ((decide (((a.getD i dT).2.2.1) = ((b.getD i dT).2.2.1))) && ((decide (((a.getD i dT).2.2.2.1) = ((b.getD i dT).2.2.2.1))) && (decide (((a.getD i dT).2.2.2.2) = ((b.getD i dT).2.2.2.2)))))))))]) (obs := [(0 : Int) ≤ ((i : Nat) : Int) ∧ ((i : Nat) : Int) < ((a.length : Nat) : Int), 0 + (((i : Nat) : Int) : Int).toNat * 5 = (i * 5), (i * 5) + 5 ≤ ((tns a)).length ∧ (((tns a)).drop (i * 5)).take 5 = (tnC (a.getD i dT)), (0 : Int) ≤ ((i : Nat) : Int) ∧ ((i : Nat) : Int) < ((b.length : Nat) : Int), 0 + (((i : Nat) : Int) : Int).toNat * 5 = (i * 5), (i * 5) + 5 ≤ ((tns b)).length ∧ (((tns b)).drop (i * 5)).take 5 = (tnC (b.getD i dT))]) mixed (by kernel_rfl) (by kernel_rfl) (obs_cons (by omega) (obs_cons (by omega) (obs_cons (flat_at tnC 5 (fun _ => rfl) dT a i 0 5 (by omega) (by decide)) (obs_cons (by omega) (obs_cons (by omega) (obs_cons (flat_at tnC 5 (fun _ => rfl) dT b i 0 5 (by omega) (by decide)) (obs_nil))))))) ?_
      by_cases h3 : ((decide (((a.getD i dT).1) = ((b.getD i dT).1))) && ((decide (((a.getD i dT).2.1) = ((b.getD i dT).2.1))) && ((decide (((a.getD i dT).2.2.1) = ((b.getD i dT).2.2.1))) && ((decide (((a.getD i dT).2.2.2.1) = ((b.getD i dT).2.2.2.1))) && (decide (((a.getD i dT).2.2.2.2) = ((b.getD i dT).2.2.2.2))))))) = true
      · refine T_else (b := (!((decide (((a.getD i dT).1) = ((b.getD i dT).1))) && ((decide (((a.getD i dT).2.1) = ((b.getD i dT).2.1))) && ((decide (((a.getD i dT).2.2.1) = ((b.getD i dT).2.2.1))) && ((decide (((a.getD i dT).2.2.2.1) = ((b.getD i dT).2.2.2.1))) && (decide (((a.getD i dT).2.2.2.2) = ((b.getD i dT).2.2.2.2))))))))) rfl (congrArg Bool.not h3) ?_
        refine T_skip ?_
        refine T_blk ?_
        refine T_region [] [ks 0, ks 1, ks 12, ks 13] (fun _ => mixed) (l' := [ps 0 (.ssl (tns a) 0 a.length), ps 1 (.ssl (tns b) 0 b.length), ps 12 (nv a.length), ps 13 (iv (((i : Nat) : Int) + 1))]) (obs := [InK .i64 (((i : Nat) : Int) + 1)]) (by kernel_rfl) (obs_cons (by simp only [InK]; omega) (obs_nil)) ?_
        have h9 := h3
        simp only [Bool.and_eq_true, decide_eq_true_eq] at h9
        have h8 : a.getD i dT = b.getD i dT := tn_ext h9.1 h9.2.1 h9.2.2.1 h9.2.2.2.1 h9.2.2.2.2
        exact T_back ⟨i + 1, ⟨by omega, fun k hk => (Nat.lt_or_ge k i).elim (fun g => hE k g) (fun g => (show i = k from by omega) ▸ h8)⟩⟩ (Wk.ren2 [ps 0 (.ssl (tns a) 0 a.length), ps 1 (.ssl (tns b) 0 b.length), ps 12 (nv a.length), ps 13 (nv (i + 1))] 0 hc0 [] rfl rfl (by kernel_rfl) (by kernel_rfl)) (show a.length - (i + 1) < a.length - i from by omega)
      · refine T_then (b := (!((decide (((a.getD i dT).1) = ((b.getD i dT).1))) && ((decide (((a.getD i dT).2.1) = ((b.getD i dT).2.1))) && ((decide (((a.getD i dT).2.2.1) = ((b.getD i dT).2.2.1))) && ((decide (((a.getD i dT).2.2.2.1) = ((b.getD i dT).2.2.2.1))) && (decide (((a.getD i dT).2.2.2.2) = ((b.getD i dT).2.2.2.2))))))))) rfl (congrArg Bool.not (Bool.eq_false_iff.2 h3)) ?_
        refine T_seq ?_
        refine T_region [] [ks 4] (fun _ => mixed) (l' := [ps 4 (bv false)]) (obs := []) (by kernel_rfl) (obs_nil) ?_
        refine T_wk (Wk.eq (show _ = [ps 4 (bv (decide (a = b)))] from by rw [show decide (a = b) = false from decide_eq_false (ne_of_at (i := i) fun e => h3 (by rw [e]; simp only [decide_true, Bool.and_self]))])) ?_
        exact T_ret fun cx_ a_ hI_ => loop_ret (ret_ok (H' := []) (.inr rfl) (Wk.ren2 [ps 4 (bv (decide (a = b)))] 0 hc0 [] rfl rfl (by kernel_rfl) (by kernel_rfl)) rfl (obs_nil) (fun cx_ a_ hI_ => ret_res (l' := [ps 4 (bv (decide (a = b)))]) (by kernel_rfl) cx_ a_ hI_) hI_)
    · refine T_else (b := (decide (((i : Nat) : Int) < ((a.length : Nat) : Int)))) rfl (decide_eq_false h2) ?_
      refine T_break rfl rfl ?_
      refine T_seq ?_
      refine T_region [] [ks 4] (fun _ => mixed) (l' := [ps 4 (bv true)]) (obs := []) (by kernel_rfl) (obs_nil) ?_
      refine T_wk (Wk.eq (show _ = [ps 4 (bv (decide (a = b)))] from by rw [show decide (a = b) = true from decide_eq_true (eq_of_ats (by omega) fun k hk => hE k (by omega))])) ?_
      exact T_ret fun cx_ a_ hI_ => ret_ok (H' := []) (.inr rfl) (Wk.ren2 [ps 4 (bv (decide (a = b)))] 0 hc0 [] rfl rfl (by kernel_rfl) (by kernel_rfl)) rfl (obs_nil) (fun cx_ a_ hI_ => ret_res (l' := [ps 4 (bv (decide (a = b)))]) (by kernel_rfl) cx_ a_ hI_) hI_
  · refine T_then (b := (!(decide (((a.length : Nat) : Int) = ((b.length : Nat) : Int))))) rfl (congrArg Bool.not (decide_eq_false h1)) ?_
    refine T_seq ?_
    refine T_region [] [ks 4] (fun _ => mixed) (l' := [ps 4 (bv false)]) (obs := []) (by kernel_rfl) (obs_nil) ?_
    refine T_wk (Wk.eq (show _ = [ps 4 (bv (decide (a = b)))] from by rw [show decide (a = b) = false from decide_eq_false (fun e => absurd (congrArg List.length e) (by omega))])) ?_
    exact T_ret fun cx_ a_ hI_ => ret_ok (H' := []) (.inr rfl) (Wk.ren2 [ps 4 (bv (decide (a = b)))] 0 hc0 [] rfl rfl (by kernel_rfl) (by kernel_rfl)) rfl (obs_nil) (fun cx_ a_ hI_ => ret_res (l' := [ps 4 (bv (decide (a = b)))]) (by kernel_rfl) cx_ a_ hI_) hI_
set_option maxRecDepth 100000 in
set_option maxHeartbeats 4000000 in
theorem equal_pc (a b : List Tn) (hl : a.length ≤ 4611686018427387904) : PC Try.prog 31 [(.ssl (tns a) 0 a.length), (.ssl (tns b) 0 b.length)] [] (bv (decide (a = b))) [] := by
  refine pc_intro Try.func31 rfl (by kernel_rfl) (Nat.le_of_ble_eq_true rfl) (by kernel_rfl) (l0 := [ps 0 (.ssl (tns a) 0 a.length), ps 1 (.ssl (tns b) 0 b.length)]) rfl (fun c0 Bor hc0 => ?_)
  refine T_seq ?_
  refine T_region [] [ks 0, ks 1] (fun _ => mixed) (l' := [ps 0 (.ssl (tns a) 0 a.length), ps 1 (.ssl (tns b) 0 b.length)]) (obs := []) (by kernel_rfl) (obs_nil) ?_
  refine T_seq ?_
  refine T_seq ?_
  refine T_region [] [ks 0, ks 1, ks 10] (fun _ => mixed) (l' := [ps 0 (.ssl (tns a) 0 a.length), ps 1 (.ssl (tns b) 0 b.length), ps 10 (bv (!(decide (((a.length : Nat) : Int) = ((b.length : Nat) : Int)))))]) (obs := []) (by kernel_rfl) (obs_nil) ?_
  by_cases h1 : ((a.length : Nat) : Int) = ((b.length : Nat) : Int)
  · refine T_else (b := (!(decide (((a.length : Nat) : Int) = ((b.length : Nat) : Int))))) rfl (congrArg Bool.not (decide_eq_true h1)) ?_
    refine T_skip ?_
    refine T_seq ?_
    refine T_seq ?_
    refine T_region [] [ks 0, ks 1, ks 12, ks 13] (fun _ => mixed) (l' := [ps 0 (.ssl (tns a) 0 a.length), ps 1 (.ssl (tns b) 0 b.length), ps 12 (nv a.length), ps 13 (iv 0)]) (obs := []) (by kernel_rfl) (obs_nil) ?_
    refine T_block ?_
    refine T_loop (α := {x : Nat // x ≤ a.length ∧ (∀ k, k < x → a.getD k dT = b.getD k dT)}) (fun x => [ps 0 (.ssl (tns a) 0 a.length), ps 1 (.ssl (tns b) 0 b.length), ps 12 (nv a.length), ps 13 (nv x.1)]) (fun x => a.length - x.1) 0 ⟨0, ⟨Nat.zero_le _, fun k hk => absurd hk (Nat.not_lt_zero k)⟩⟩ (Wk.ren2 [ps 0 (.ssl (tns a) 0 a.length), ps 1 (.ssl (tns b) 0 b.length), ps 12 (nv a.length), ps 13 (nv 0)] 0 hc0 [] rfl rfl (by kernel_rfl) (by kernel_rfl)) ?_
    rintro ⟨i, ⟨hi, hE⟩⟩
    refine T_seq ?_
    refine T_region [] [ks 0, ks 1, ks 12, ks 13, ks 14] (fun _ => mixed) (l' := [ps 0 (.ssl (tns a) 0 a.length), ps 1 (.ssl (tns b) 0 b.length), ps 12 (nv a.length), ps 13 (nv i), ps 14 (bv (decide (((i : Nat) : Int) < ((a.length : Nat) : Int))))]) (obs := []) (by kernel_rfl) (obs_nil) ?_
    refine T_seq ?_
    by_cases h2 : ((i : Nat) : Int) < ((a.length : Nat) : Int)
    · refine T_then (b := (decide (((i : Nat) : Int) < ((a.length : Nat) : Int)))) rfl (decide_eq_true h2) ?_
      refine T_skip ?_
      refine T_seq ?_
      refine T_block ?_
      refine T_seq ?_
      refine T_region [] [ks 0, ks 1, ks 5, ks 12, ks 13] (fun _ => mixed) (l' := [ps 0 (.ssl (tns a) 0 a.length), ps 1 (.ssl (tns b) 0 b.length), ps 5 (nv i), ps 12 (nv a.length), ps 13 (nv i)]) (obs := []) (by kernel_rfl) (obs_nil) ?_
      refine T_seq ?_
      refine T_regionD [(2, .nat (i * 5)), (3, .cells (tnC (a.getD i dT))), (6, .nat (i * 5)), (7, .cells (tnC (b.getD i dT)))] [[], [], [0, 1], [0, 1, 2], [], [], [4, 5], [4, 5, 6], [0, 1, 2, 3, 4, 5, 6, 7]] [([32], [0]), ([34], [10]), ([36], [32, 34]), ([38], [36]), ([40], [2]), ([42], [10]), ([44], [40, 42]), ([46], [44]), ([48], [38, 46])] [ks 0, ks 1, ks 12, ks 13, ks 24] (l' := [ps 0 (.ssl (tns a) 0 a.length), ps 1 (.ssl (tns b) 0 b.length), ps 12 (nv a.length), ps 13 (nv i), ps 24 (bv (!((decide (((a.getD i dT).1) = ((b.getD i dT).1))) && ((decide (((a.getD i dT).2.1) = ((b.getD i dT).2.1))) && ((decide (((a.getD i dT).2.2.1) = ((b.getD i dT).2.2.1))) && ((decide (((a.getD i dT).2.2.2.1) = ((b.getD i dT).2.2.2.1))) && (decide (((a.getD i dT).2.2.2.2) = ((b.getD i dT).2.2.2.2)))))))))]) (obs := [(0 : Int) ≤ ((i : Nat) : Int) ∧ ((i : Nat) : Int) < ((a.length : Nat) : Int), 0 + (((i : Nat) : Int) : Int).toNat * 5 = (i * 5), (i * 5) + 5 ≤ ((tns a)).length ∧ (((tns a)).drop (i * 5)).take 5 = (tnC (a.getD i dT)), (0 : Int) ≤ ((i : Nat) : Int) ∧ ((i : Nat) : Int) < ((b.length : Nat) : Int), 0 + (((i : Nat) : Int) : Int).toNat * 5 = (i * 5), (i * 5) + 5 ≤ ((tns b)).length ∧ (((tns b)).drop (i * 5)).take 5 = (tnC (b.getD i dT))]) mixed (by kernel_rfl) (by kernel_rfl) (obs_cons (by omega) (obs_cons (by omega) (obs_cons (flat_at tnC 5 (fun _ => rfl) dT a i 0 5 (by omega) (by decide)) (obs_cons (by omega) (obs_cons (by omega) (obs_cons (flat_at tnC 5 (fun _ => rfl) dT b i 0 5 (by omega) (by decide)) (obs_nil))))))) ?_
      by_cases h3 : ((decide (((a.getD i dT).1) = ((b.getD i dT).1))) && ((decide (((a.getD i dT).2.1) = ((b.getD i dT).2.1))) && ((decide (((a.getD i dT).2.2.1) = ((b.getD i dT).2.2.1))) && ((decide (((a.getD i dT).2.2.2.1) = ((b.getD i dT).2.2.2.1))) && (decide (((a.getD i dT).2.2.2.2) = ((b.getD i dT).2.2.2.2))))))) = true
      · refine T_else (b := (!((decide (((a.getD i dT).1) = ((b.getD i dT).1))) && ((decide (((a.getD i dT).2.1) = ((b.getD i dT).2.1))) && ((decide (((a.getD i dT).2.2.1) = ((b.getD i dT).2.2.1))) && ((decide (((a.getD i dT).2.2.2.1) = ((b.getD i dT).2.2.2.1))) && (decide (((a.getD i dT).2.2.2.2) = ((b.getD i dT).2.2.2.2))))))))) rfl (congrArg Bool.not h3) ?_
        refine T_skip ?_
        refine T_blk ?_
        refine T_region [] [ks 0, ks 1, ks 12, ks 13] (fun _ => mixed) (l' := [ps 0 (.ssl (tns a) 0 a.length), ps 1 (.ssl (tns b) 0 b.length), ps 12 (nv a.length), ps 13 (iv (((i : Nat) : Int) + 1))]) (obs := [InK .i64 (((i : Nat) : Int) + 1)]) (by kernel_rfl) (obs_cons (by simp only [InK]; omega) (obs_nil)) ?_
        have h9 := h3
        simp only [Bool.and_eq_true, decide_eq_true_eq] at h9
        have h8 : a.getD i dT = b.getD i dT := tn_ext h9.1 h9.2.1 h9.2.2.1 h9.2.2.2.1 h9.2.2.2.2
        exact T_back ⟨i + 1, ⟨by omega, fun k hk => (Nat.lt_or_ge k i).elim (fun g => hE k g) (fun g => (show i = k from by omega) ▸ h8)⟩⟩ (Wk.ren2 [ps 0 (.ssl (tns a) 0 a.length), ps 1 (.ssl (tns b) 0 b.length), ps 12 (nv a.length), ps 13 (nv (i + 1))] 0 hc0 [] rfl rfl (by kernel_rfl) (by kernel_rfl)) (show a.length - (i + 1) < a.length - i from by omega)
      · refine T_then (b := (!((decide (((a.getD i dT).1) = ((b.getD i dT).1))) && ((decide (((a.getD i dT).2.1) = ((b.getD i dT).2.1))) && ((decide (((a.getD i dT).2.2.1) = ((b.getD i dT).2.2.1))) && ((decide (((a.getD i dT).2.2.2.1) = ((b.getD i dT).2.2.2.1))) && (decide (((a.getD i dT).2.2.2.2) = ((b.getD i dT).2.2.2.2))))))))) rfl (congrArg Bool.not (Bool.eq_false_iff.2 h3)) ?_
        refine T_seq ?_
        refine T_region [] [ks 4] (fun _ => mixed) (l' := [ps 4 (bv false)]) (obs := []) (by kernel_rfl) (obs_nil) ?_
        refine T_wk (Wk.eq (show _ = [ps 4 (bv (decide (a = b)))] from by rw [show decide (a = b) = false from decide_eq_false (ne_of_at (i := i) fun e => h3 (by rw [e]; simp only [decide_true, Bool.and_self]))])) ?_
        exact T_ret fun cx_ a_ hI_ => loop_ret (ret_ok (H' := []) (.inr rfl) (Wk.ren2 [ps 4 (bv (decide (a = b)))] 0 hc0 [] rfl rfl (by kernel_rfl) (by kernel_rfl)) rfl (obs_nil) (fun cx_ a_ hI_ => ret_res (l' := [ps 4 (bv (decide (a = b)))]) (by kernel_rfl) cx_ a_ hI_) hI_)
    · refine T_else (b := (decide (((i : Nat) : Int) < ((a.length : Nat) : Int)))) rfl (decide_eq_false h2) ?_
      refine T_break rfl rfl ?_
      refine T_seq ?_
      refine T_region [] [ks 4] (fun _ => mixed) (l' := [ps 4 (bv true)]) (obs := []) (by kernel_rfl) (obs_nil) ?_
      refine T_wk (Wk.eq (show _ = [ps 4 (bv (decide (a = b)))] from by rw [show decide (a = b) = true from decide_eq_true (eq_of_ats (by omega) fun k hk => hE k (by omega))])) ?_
      exact T_ret fun cx_ a_ hI_ => ret_ok (H' := []) (.inr rfl) (Wk.ren2 [ps 4 (bv (decide (a = b)))] 0 hc0 [] rfl rfl (by kernel_rfl) (by kernel_rfl)) rfl (obs_nil) (fun cx_ a_ hI_ => ret_res (l' := [ps 4 (bv (decide (a = b)))]) (by kernel_rfl) cx_ a_ hI_) hI_
  · refine T_then (b := (!(decide (((a.length : Nat) : Int) = ((b.length : Nat) : Int))))) rfl (congrArg Bool.not (decide_eq_false h1)) ?_
    refine T_seq ?_
    refine T_region [] [ks 4] (fun _ => mixed) (l' := [ps 4 (bv false)]) (obs := []) (by kernel_rfl) (obs_nil) ?_
    refine T_wk (Wk.eq (show _ = [ps 4 (bv (decide (a = b)))] from by rw [show decide (a = b) = false from decide_eq_false (fun e => absurd (congrArg List.length e) (by omega))])) ?_
    exact T_ret fun cx_ a_ hI_ => ret_ok (H' := []) (.inr rfl) (Wk.ren2 [ps 4 (bv (decide (a = b)))] 0 hc0 [] rfl rfl (by kernel_rfl) (by kernel_rfl)) rfl (obs_nil) (fun cx_ a_ hI_ => ret_res (l' := [ps 4 (bv (decide (a = b)))]) (by kernel_rfl) cx_ a_ hI_) hI_
end Go.Proofs.Ytjdblogapkbefaa.Pm
namespace Go.Proofs.Ytjdblogapkbefaa.Pm
open Go Go.Proofs.Ytjdblogapkbefaa.Pi

/-- A change: back to front, so many times slower, mirrored (on which pitch), moved by, later by. -/
structure Chg where
  bk : Bool
  sl : Int
  mi : Bool
  xl : Int
  xa : Int
  xo : Int
  s : Int
  h : Int
  d : Int
def chC (c : Chg) : List PV := [bv c.bk, iv c.sl, bv c.mi, iv c.xl, iv c.xa, iv c.xo, iv c.s, iv c.h, iv c.d]
abbrev mirT (c : Chg) (t : Tn) : Int × Int × Int × Int := Pi.mirror t.2.2.1 t.2.2.2.1 t.2.2.2.2 c.xl c.xa c.xo
abbrev mvN (c : Chg) (t : Tn) : Int × Int × Int × Int := Pi.move t.2.2.1 t.2.2.2.1 t.2.2.2.2 c.s c.h
abbrev mvM (c : Chg) (t : Tn) : Int × Int × Int × Int := Pi.move (mirT c t).1 (mirT c t).2.1 (mirT c t).2.2.1 c.s c.h
def f1 (E : Int) (t : Tn) : Tn × Int := ((E - t.1 - t.2.1, t.2.1, t.2.2.1, t.2.2.2.1, t.2.2.2.2), 0)
def f2 (sl : Int) (t : Tn) : Tn × Int := ((t.1 * sl, t.2.1 * sl, t.2.2.1, t.2.2.2.1, t.2.2.2.2), 0)
def fp (m : Int × Int × Int × Int) (t : Tn) : Tn × Int := ((t.1, t.2.1, m.1, m.2.1, m.2.2.1), m.2.2.2)
def f3 (xl xa xo : Int) (t : Tn) : Tn × Int := fp (Pi.mirror t.2.2.1 t.2.2.2.1 t.2.2.2.2 xl xa xo) t
def f4 (s h : Int) (t : Tn) : Tn × Int := fp (Pi.move t.2.2.1 t.2.2.2.1 t.2.2.2.2 s h) t
def f5 (d : Int) (t : Tn) : Tn × Int := ((t.1 + d, t.2.1, t.2.2.1, t.2.2.2.1, t.2.2.2.2), if 1048576 < t.1 + d ∨ 1048576 < t.2.1 then 4 else 0)
def fsOf (c : Chg) (E : Int) : List (Tn → Tn × Int) := (if c.bk then [f1 E] else []) ++ (f2 c.sl :: ((if c.mi then [f3 c.xl c.xa c.xo] else []) ++ [f4 c.s c.h, f5 c.d]))
/-- One behind the other, up to the first fault. -/
def runF : List (Tn → Tn × Int) → Tn → Tn × Int
  | [], x => (x, 0)
  | f :: fs, x => if (f x).2 = 0 then runF fs (f x).1 else (dT, (f x).2)
theorem runF_ok {f : Tn → Tn × Int} {fs : List (Tn → Tn × Int)} {x : Tn} (h : (f x).2 = 0) : runF (f :: fs) x = runF fs (f x).1 := if_pos h
theorem runF_err {f : Tn → Tn × Int} {fs : List (Tn → Tn × Int)} {x : Tn} (h : ¬ (f x).2 = 0) : runF (f :: fs) x = (dT, (f x).2) := if_neg h
def chT (c : Chg) (E : Int) (t : Tn) : Tn × Int := runF (fsOf c E) t
def chBad (c : Chg) : Prop := c.sl < 1 ∨ 16 < c.sl ∨ c.d < 0 ∨ 1048576 < c.d
instance (c : Chg) : Decidable (chBad c) := by unfold chBad; exact inferInstance
def appE (c : Chg) (l : List Tn) : Int := fstE (fun i => (chT c (endS l) (l.getD i dT)).2) l.length
def appS (c : Chg) (l : List Tn) : List Tn × Int :=
  if wrongS l = 0 then (if chBad c then ([], 3) else if appE c l = 0 then (sortT (l.map fun t => (chT c (endS l) t).1), 0) else ([], appE c l)) else ([], wrongS l)
def chgP (c : Chg) (l : List Tn) : PV := .tup [.ssl (tns (appS c l).1) 0 (appS c l).1.length, iv (appS c l).2]
theorem chgP_wrong {c : Chg} {l : List Tn} (h : ¬ wrongS l = 0) : chgP c l = .tup [.ssl [] 0 0, iv (wrongS l)] := by rw [chgP, appS, if_neg h]; rfl
theorem chgP_bad {c : Chg} {l : List Tn} (h : wrongS l = 0) (k : chBad c) : chgP c l = .tup [.ssl [] 0 0, iv 3] := by rw [chgP, appS, if_pos h, if_pos k]; rfl
theorem chgP_err {c : Chg} {l : List Tn} {i : Nat} {e : Int} (h : wrongS l = 0) (k : ¬ chBad c) (hf : fstE (fun i => (chT c (endS l) (l.getD i dT)).2) i = 0) (hi : i < l.length) (he : ¬ e = 0) (hc : (chT c (endS l) (l.getD i dT)).2 = e) : chgP c l = .tup [.ssl [] 0 0, iv e] := by
  have h1 : appE c l = e := by
    unfold appE
    rw [fstE_stop hf hi (by show (chT c (endS l) (l.getD i dT)).2 ≠ 0; rw [hc]; exact he)]; exact hc
  rw [chgP, appS, if_pos h, if_neg k, if_neg (by rw [h1]; exact he), h1]; rfl
theorem chgP_ok {c : Chg} {l : List Tn} (h : wrongS l = 0) (k : ¬ chBad c) (hf : fstE (fun i => (chT c (endS l) (l.getD i dT)).2) l.length = 0) :
    chgP c l = .tup [.ssl (tns (sortT (l.map fun t => (chT c (endS l) t).1))) 0 (sortT (l.map fun t => (chT c (endS l) t).1)).length, iv 0] := by
  rw [chgP, appS, if_pos h, if_neg k, if_pos (show appE c l = 0 from hf)]
theorem chT_err {c : Chg} {E : Int} {t x : Tn} {j : Nat} {f : Tn → Tn × Int} {fs : List (Tn → Tn × Int)} (hx : runF ((fsOf c E).drop j) x = chT c E t) (hd : (fsOf c E).drop j = f :: fs) (he : ¬ (f x).2 = 0) : (chT c E t).2 = (f x).2 := by
  rw [← hx, hd, runF_err he]
theorem chT_next {c : Chg} {E : Int} {t x : Tn} {j k : Nat} {f : Tn → Tn × Int} {fs : List (Tn → Tn × Int)} (hx : runF ((fsOf c E).drop j) x = chT c E t) (hd : (fsOf c E).drop j = f :: fs) (hk : (fsOf c E).drop k = fs) (he : (f x).2 = 0) : runF ((fsOf c E).drop k) (f x).1 = chT c E t := by
  rw [← hx, hd, runF_ok he, hk]
theorem mul_bd {a b : Int} (h1 : -4194304 ≤ a) (h2 : a ≤ 4194304) (h3 : 1 ≤ b) (h4 : b ≤ 16) : -67108864 ≤ a * b ∧ a * b ≤ 67108864 := by
  have h : b = 1 ∨ b = 2 ∨ b = 3 ∨ b = 4 ∨ b = 5 ∨ b = 6 ∨ b = 7 ∨ b = 8 ∨ b = 9 ∨ b = 10 ∨ b = 11 ∨ b = 12 ∨ b = 13 ∨ b = 14 ∨ b = 15 ∨ b = 16 := by omega
  rcases h with rfl | rfl | rfl | rfl | rfl | rfl | rfl | rfl | rfl | rfl | rfl | rfl | rfl | rfl | rfl | rfl <;> omega
/-- How far a tone may be on its way. -/
def Far (t : Tn) (n : Int) : Prop := (-n ≤ t.1 ∧ t.1 ≤ n) ∧ (-n ≤ t.2.1 ∧ t.2.1 ≤ n)
theorem map_next {f : Tn → Tn} {l : List Tn} {i : Nat} (h : i < l.length) {x : Tn} (hx : f (l.getD i dT) = x) : (l.take i).map f ++ [x] = (l.take (i + 1)).map f := by
  rw [List.take_succ_eq_append_getElem h, List.map_append, ← hx, gd_eq _ _ h]; rfl
/-- What comes out of a change of a right line is not far away. -/
theorem rgt_move {l a o s h : Int} {t : Tn} (e : t.2.2 = ((Pi.move l a o s h).1, (Pi.move l a o s h).2.1, (Pi.move l a o s h).2.2.1)) : rgt t = true := by
  have := move_right l a o s h
  unfold rgt; rw [e]; exact this

end Go.Proofs.Ytjdblogapkbefaa.Pm
namespace Go.Proofs.Ytjdblogapkbefaa.Pm
open Go Go.Proofs.Ytjdblogapkbefaa.Pi

set_option maxRecDepth 100000 in
set_option maxHeartbeats 4000000 in
theorem back_pc (E : Int) (t : Tn) (hE : 0 ≤ E ∧ E ≤ 2097152) (ht : Far t 4194304) : PC Try.prog 33 [(.agg (tnC t)), (.opt 0 0)] [some (3, [(iv E)])] (.tup [(.agg (tnC ((f1 E t).1))), (iv ((f1 E t).2))]) [some (3, [(iv E)]), none] := by
  unfold Far at ht
  refine pc_intro Try.func33 rfl (by kernel_rfl) (Nat.le_of_ble_eq_true rfl) (by kernel_rfl) (l0 := [ps 0 (.agg (tnC t)), ps 1 (.opt 0 0), pb 0 3 [(iv E)]]) rfl (fun c0 Bor hc0 => ?_)
  refine T_seq ?_
  refine T_region [] [ks 1, ks 2, ks 3, kb 0, kb 1, kb 9] (fun _ => mixed) (l' := [ps 1 (.opt 0 0), ps 2 (.opt 1 0), ps 3 (.opt 9 0), pb 0 3 [(iv E)], pb 1 41 (tnC t), pb 9 41 [(iv 0), (iv 0), (iv 0), (iv 0), (iv 0)]]) (obs := []) (by kernel_rfl) (obs_nil) ?_
  refine T_seq ?_
  refine T_region [] [ks 2, ks 3, kb 0, kb 1, kb 9] (fun _ => mixed) (l' := [ps 2 (.opt 1 0), ps 3 (.opt 9 0), pb 0 3 [(iv E)], pb 1 41 [(iv ((E - t.1) - t.2.1)), (iv t.2.1), (iv t.2.2.1), (iv t.2.2.2.1), (iv t.2.2.2.2)], pb 9 41 [(iv 0), (iv 0), (iv 0), (iv 0), (iv 0)]]) (obs := [InK .i64 (E - t.1), InK .i64 ((E - t.1) - t.2.1)]) (by kernel_rfl) (obs_cons (by simp only [InK]; omega) (obs_cons (by simp only [InK]; omega) (obs_nil))) ?_
  refine T_seq ?_
  refine T_region [] [ks 3, ks 4, kb 0, kb 9] (fun _ => mixed) (l' := [ps 3 (.opt 9 0), ps 4 (iv 0), pb 0 3 [(iv E)], pb 9 41 [(iv ((E - t.1) - t.2.1)), (iv t.2.1), (iv t.2.2.1), (iv t.2.2.2.1), (iv t.2.2.2.2)]]) (obs := []) (by kernel_rfl) (obs_nil) ?_
  exact T_ret fun cx_ a_ hI_ => ret_ok (H' := [some (3, [(iv E)]), none]) (.inr rfl) (Wk.ren2 [ps 3 (.opt 1 0), ps 4 (iv 0), pb 0 3 [(iv E)], pb 1 41 [(iv ((E - t.1) - t.2.1)), (iv t.2.1), (iv t.2.2.1), (iv t.2.2.2.1), (iv t.2.2.2.2)]] 1 hc0 [0, 9] rfl rfl (by kernel_rfl) (by kernel_rfl)) rfl (obs_cons rfl (obs_nil)) (fun cx_ a_ hI_ => ret_res (l' := [ps 3 (.opt 1 0), ps 4 (iv 0), pb 0 3 [(iv E)], pb 1 41 [(iv ((E - t.1) - t.2.1)), (iv t.2.1), (iv t.2.2.1), (iv t.2.2.2.1), (iv t.2.2.2.2)]]) (by kernel_rfl) cx_ a_ hI_) hI_
set_option maxRecDepth 100000 in
set_option maxHeartbeats 4000000 in
theorem slow_pc (bk mi : Bool) (sl xl xa xo s h d : Int) (t : Tn) (hs : 1 ≤ sl ∧ sl ≤ 16) (ht : Far t 4194304) : PC Try.prog 34 [(.agg (tnC t)), (.opt 0 0)] [some (29, (chC ⟨bk, sl, mi, xl, xa, xo, s, h, d⟩))] (.tup [(.agg (tnC ((f2 sl t).1))), (iv ((f2 sl t).2))]) [some (29, (chC ⟨bk, sl, mi, xl, xa, xo, s, h, d⟩)), none] := by
  unfold Far at ht
  have hm1 := mul_bd ht.1.1 ht.1.2 hs.1 hs.2
  have hm2 := mul_bd ht.2.1 ht.2.2 hs.1 hs.2
  refine pc_intro Try.func34 rfl (by kernel_rfl) (Nat.le_of_ble_eq_true rfl) (by kernel_rfl) (l0 := [ps 0 (.agg (tnC t)), ps 1 (.opt 0 0), pb 0 29 (chC ⟨bk, sl, mi, xl, xa, xo, s, h, d⟩)]) rfl (fun c0 Bor hc0 => ?_)
  refine T_seq ?_
  refine T_region [] [ks 1, ks 2, ks 3, kb 0, kb 1, kb 9] (fun _ => mixed) (l' := [ps 1 (.opt 0 0), ps 2 (.opt 1 0), ps 3 (.opt 9 0), pb 0 29 (chC ⟨bk, sl, mi, xl, xa, xo, s, h, d⟩), pb 1 41 (tnC t), pb 9 41 [(iv 0), (iv 0), (iv 0), (iv 0), (iv 0)]]) (obs := []) (by kernel_rfl) (obs_nil) ?_
  refine T_seq ?_
  refine T_regionD [] [[], [0], [], [2], [0, 1, 2, 3], [], [5], [], [7], [5, 6, 7, 8], [0, 1, 2, 3, 4, 5, 6], [0, 1, 2, 3, 4, 5, 6, 10], [0, 1, 2, 3, 4, 5, 6, 7, 8, 9, 10, 11], [0, 1, 2, 3, 4, 5, 6, 7, 8, 9, 10, 11, 12]] [([10], [4]), ([12], [3, 10]), ([14], [2]), ([16], [1, 14]), ([18], [12, 16]), ([20], [4]), ([22], [3, 20]), ([24], [2]), ([26], [1, 24]), ([28], [22, 26]), ([30], [4]), ([3], [3, 18, 30]), ([32], [4]), ([3], [3, 28, 32])] [ks 2, ks 3, kb 0, kb 1, kb 9] (l' := [ps 2 (.opt 1 0), ps 3 (.opt 9 0), pb 0 29 (chC ⟨bk, sl, mi, xl, xa, xo, s, h, d⟩), pb 1 41 [(iv (t.1 * sl)), (iv (t.2.1 * sl)), (iv t.2.2.1), (iv t.2.2.2.1), (iv t.2.2.2.2)], pb 9 41 [(iv 0), (iv 0), (iv 0), (iv 0), (iv 0)]]) (obs := [InK .i64 (t.1 * sl), InK .i64 (t.2.1 * sl)]) mixed (by kernel_rfl) (by kernel_rfl) (obs_cons (by simp only [InK]; omega) (obs_cons (by simp only [InK]; omega) (obs_nil))) ?_
  refine T_seq ?_
  refine T_region [] [ks 3, ks 4, kb 0, kb 9] (fun _ => mixed) (l' := [ps 3 (.opt 9 0), ps 4 (iv 0), pb 0 29 (chC ⟨bk, sl, mi, xl, xa, xo, s, h, d⟩), pb 9 41 [(iv (t.1 * sl)), (iv (t.2.1 * sl)), (iv t.2.2.1), (iv t.2.2.2.1), (iv t.2.2.2.2)]]) (obs := []) (by kernel_rfl) (obs_nil) ?_
  exact T_ret fun cx_ a_ hI_ => ret_ok (H' := [some (29, (chC ⟨bk, sl, mi, xl, xa, xo, s, h, d⟩)), none]) (.inr rfl) (Wk.ren2 [ps 3 (.opt 1 0), ps 4 (iv 0), pb 0 29 (chC ⟨bk, sl, mi, xl, xa, xo, s, h, d⟩), pb 1 41 [(iv (t.1 * sl)), (iv (t.2.1 * sl)), (iv t.2.2.1), (iv t.2.2.2.1), (iv t.2.2.2.2)]] 1 hc0 [0, 9] rfl rfl (by kernel_rfl) (by kernel_rfl)) rfl (obs_cons rfl (obs_nil)) (fun cx_ a_ hI_ => ret_res (l' := [ps 3 (.opt 1 0), ps 4 (iv 0), pb 0 29 (chC ⟨bk, sl, mi, xl, xa, xo, s, h, d⟩), pb 1 41 [(iv (t.1 * sl)), (iv (t.2.1 * sl)), (iv t.2.2.1), (iv t.2.2.2.1), (iv t.2.2.2.2)]]) (by kernel_rfl) cx_ a_ hI_) hI_
set_option maxRecDepth 100000 in
set_option maxHeartbeats 4000000 in
theorem mir_pc (bk mi : Bool) (sl xl xa xo s h d : Int) (l a o : Int) : PC Try.prog 36 [(.agg [(iv l), (iv a), (iv o)]), (.opt 0 0)] [some (29, (chC ⟨bk, sl, mi, xl, xa, xo, s, h, d⟩))] (.tup [(.agg [(iv ((Pi.mirror l a o xl xa xo).1)), (iv ((Pi.mirror l a o xl xa xo).2.1)), (iv ((Pi.mirror l a o xl xa xo).2.2.1))]), (iv ((Pi.mirror l a o xl xa xo).2.2.2))]) [some (29, (chC ⟨bk, sl, mi, xl, xa, xo, s, h, d⟩)), none] := by
  refine pc_intro Try.func36 rfl (by kernel_rfl) (Nat.le_of_ble_eq_true rfl) (by kernel_rfl) (l0 := [ps 0 (.agg [(iv l), (iv a), (iv o)]), ps 1 (.opt 0 0), pb 0 29 (chC ⟨bk, sl, mi, xl, xa, xo, s, h, d⟩)]) rfl (fun c0 Bor hc0 => ?_)
  refine T_seq ?_
  refine T_region [] [ks 1, ks 2, ks 3, kb 0, kb 1, kb 9] (fun _ => mixed) (l' := [ps 1 (.opt 0 0), ps 2 (.opt 1 0), ps 3 (.opt 9 0), pb 0 29 (chC ⟨bk, sl, mi, xl, xa, xo, s, h, d⟩), pb 1 26 [(iv l), (iv a), (iv o)], pb 9 26 [(iv 0), (iv 0), (iv 0)]]) (obs := []) (by kernel_rfl) (obs_nil) ?_
  refine T_seq ?_
  refine T_region [(3, .call [] [(.agg [(iv l), (iv a), (iv o)]), (.agg [(iv xl), (iv xa), (iv xo)])] [] (.tup [(.agg [(iv ((Pi.mirror l a o xl xa xo).1)), (iv ((Pi.mirror l a o xl xa xo).2.1)), (iv ((Pi.mirror l a o xl xa xo).2.2.1))]), (iv ((Pi.mirror l a o xl xa xo).2.2.2))]) [])] [ks 3, ks 4, kb 0, kb 9] (fun _ => mixed) (l' := [ps 3 (.opt 9 0), ps 4 (iv ((Pi.mirror l a o xl xa xo).2.2.2)), pb 0 29 (chC ⟨bk, sl, mi, xl, xa, xo, s, h, d⟩), pb 9 26 [(iv ((Pi.mirror l a o xl xa xo).1)), (iv ((Pi.mirror l a o xl xa xo).2.1)), (iv ((Pi.mirror l a o xl xa xo).2.2.1))]]) (obs := [PC Try.prog 37 [(.agg [(iv l), (iv a), (iv o)]), (.agg [(iv xl), (iv xa), (iv xo)])] [] (.tup [(.agg [(iv ((Pi.mirror l a o xl xa xo).1)), (iv ((Pi.mirror l a o xl xa xo).2.1)), (iv ((Pi.mirror l a o xl xa xo).2.2.1))]), (iv ((Pi.mirror l a o xl xa xo).2.2.2))]) [], [(.agg [(iv l), (iv a), (iv o)]), (.agg [(iv xl), (iv xa), (iv xo)])] = renL (sigi [] 49) [(.agg [(iv l), (iv a), (iv o)]), (.agg [(iv xl), (iv xa), (iv xo)])]]) (by kernel_rfl) (obs_cons (mirror_pc l a o xl xa xo) (obs_cons rfl (obs_nil))) ?_
  exact T_ret fun cx_ a_ hI_ => ret_ok (H' := [some (29, (chC ⟨bk, sl, mi, xl, xa, xo, s, h, d⟩)), none]) (.inr rfl) (Wk.ren2 [ps 3 (.opt 1 0), ps 4 (iv ((Pi.mirror l a o xl xa xo).2.2.2)), pb 0 29 (chC ⟨bk, sl, mi, xl, xa, xo, s, h, d⟩), pb 1 26 [(iv ((Pi.mirror l a o xl xa xo).1)), (iv ((Pi.mirror l a o xl xa xo).2.1)), (iv ((Pi.mirror l a o xl xa xo).2.2.1))]] 1 hc0 [0, 9] rfl rfl (by kernel_rfl) (by kernel_rfl)) rfl (obs_cons rfl (obs_nil)) (fun cx_ a_ hI_ => ret_res (l' := [ps 3 (.opt 1 0), ps 4 (iv ((Pi.mirror l a o xl xa xo).2.2.2)), pb 0 29 (chC ⟨bk, sl, mi, xl, xa, xo, s, h, d⟩), pb 1 26 [(iv ((Pi.mirror l a o xl xa xo).1)), (iv ((Pi.mirror l a o xl xa xo).2.1)), (iv ((Pi.mirror l a o xl xa xo).2.2.1))]]) (by kernel_rfl) cx_ a_ hI_) hI_
set_option maxRecDepth 100000 in
set_option maxHeartbeats 4000000 in
theorem mov_pc (bk mi : Bool) (sl xl xa xo s h d : Int) (l a o : Int) (hs : I64 s) (hh : I64 h) : PC Try.prog 38 [(.agg [(iv l), (iv a), (iv o)]), (.opt 0 0)] [some (29, (chC ⟨bk, sl, mi, xl, xa, xo, s, h, d⟩))] (.tup [(.agg [(iv ((Pi.move l a o s h).1)), (iv ((Pi.move l a o s h).2.1)), (iv ((Pi.move l a o s h).2.2.1))]), (iv ((Pi.move l a o s h).2.2.2))]) [some (29, (chC ⟨bk, sl, mi, xl, xa, xo, s, h, d⟩)), none] := by
  refine pc_intro Try.func38 rfl (by kernel_rfl) (Nat.le_of_ble_eq_true rfl) (by kernel_rfl) (l0 := [ps 0 (.agg [(iv l), (iv a), (iv o)]), ps 1 (.opt 0 0), pb 0 29 (chC ⟨bk, sl, mi, xl, xa, xo, s, h, d⟩)]) rfl (fun c0 Bor hc0 => ?_)
  refine T_seq ?_
  refine T_region [] [ks 1, ks 2, ks 3, kb 0, kb 1, kb 9] (fun _ => mixed) (l' := [ps 1 (.opt 0 0), ps 2 (.opt 1 0), ps 3 (.opt 9 0), pb 0 29 (chC ⟨bk, sl, mi, xl, xa, xo, s, h, d⟩), pb 1 26 [(iv l), (iv a), (iv o)], pb 9 26 [(iv 0), (iv 0), (iv 0)]]) (obs := []) (by kernel_rfl) (obs_nil) ?_
  refine T_seq ?_
  refine T_region [(3, .call [] [(.agg [(iv l), (iv a), (iv o)]), (.agg [(iv s), (iv h)])] [] (.tup [(.agg [(iv ((Pi.move l a o s h).1)), (iv ((Pi.move l a o s h).2.1)), (iv ((Pi.move l a o s h).2.2.1))]), (iv ((Pi.move l a o s h).2.2.2))]) [])] [ks 3, ks 4, kb 0, kb 9] (fun _ => mixed) (l' := [ps 3 (.opt 9 0), ps 4 (iv ((Pi.move l a o s h).2.2.2)), pb 0 29 (chC ⟨bk, sl, mi, xl, xa, xo, s, h, d⟩), pb 9 26 [(iv ((Pi.move l a o s h).1)), (iv ((Pi.move l a o s h).2.1)), (iv ((Pi.move l a o s h).2.2.1))]]) (obs := [PC Try.prog 39 [(.agg [(iv l), (iv a), (iv o)]), (.agg [(iv s), (iv h)])] [] (.tup [(.agg [(iv ((Pi.move l a o s h).1)), (iv ((Pi.move l a o s h).2.1)), (iv ((Pi.move l a o s h).2.2.1))]), (iv ((Pi.move l a o s h).2.2.2))]) [], [(.agg [(iv l), (iv a), (iv o)]), (.agg [(iv s), (iv h)])] = renL (sigi [] 49) [(.agg [(iv l), (iv a), (iv o)]), (.agg [(iv s), (iv h)])]]) (by kernel_rfl) (obs_cons (move_pc l a o s h hs hh) (obs_cons rfl (obs_nil))) ?_
  exact T_ret fun cx_ a_ hI_ => ret_ok (H' := [some (29, (chC ⟨bk, sl, mi, xl, xa, xo, s, h, d⟩)), none]) (.inr rfl) (Wk.ren2 [ps 3 (.opt 1 0), ps 4 (iv ((Pi.move l a o s h).2.2.2)), pb 0 29 (chC ⟨bk, sl, mi, xl, xa, xo, s, h, d⟩), pb 1 26 [(iv ((Pi.move l a o s h).1)), (iv ((Pi.move l a o s h).2.1)), (iv ((Pi.move l a o s h).2.2.1))]] 1 hc0 [0, 9] rfl rfl (by kernel_rfl) (by kernel_rfl)) rfl (obs_cons rfl (obs_nil)) (fun cx_ a_ hI_ => ret_res (l' := [ps 3 (.opt 1 0), ps 4 (iv ((Pi.move l a o s h).2.2.2)), pb 0 29 (chC ⟨bk, sl, mi, xl, xa, xo, s, h, d⟩), pb 1 26 [(iv ((Pi.move l a o s h).1)), (iv ((Pi.move l a o s h).2.1)), (iv ((Pi.move l a o s h).2.2.1))]]) (by kernel_rfl) cx_ a_ hI_) hI_
set_option maxRecDepth 100000 in
set_option maxHeartbeats 4000000 in
theorem late_pc (bk mi : Bool) (sl xl xa xo s h d : Int) (t : Tn) (hd : 0 ≤ d ∧ d ≤ 1048576) (ht : Far t 67108864) : PC Try.prog 40 [(.agg (tnC t)), (.opt 0 0)] [some (29, (chC ⟨bk, sl, mi, xl, xa, xo, s, h, d⟩))] (.tup [(.agg (tnC ((f5 d t).1))), (iv ((f5 d t).2))]) [some (29, (chC ⟨bk, sl, mi, xl, xa, xo, s, h, d⟩)), none] := by
  unfold Far at ht
  refine pc_intro Try.func40 rfl (by kernel_rfl) (Nat.le_of_ble_eq_true rfl) (by kernel_rfl) (l0 := [ps 0 (.agg (tnC t)), ps 1 (.opt 0 0), pb 0 29 (chC ⟨bk, sl, mi, xl, xa, xo, s, h, d⟩)]) rfl (fun c0 Bor hc0 => ?_)
  refine T_seq ?_
  refine T_region [] [ks 1, ks 2, ks 3, kb 0, kb 1, kb 9] (fun _ => mixed) (l' := [ps 1 (.opt 0 0), ps 2 (.opt 1 0), ps 3 (.opt 9 0), pb 0 29 (chC ⟨bk, sl, mi, xl, xa, xo, s, h, d⟩), pb 1 41 (tnC t), pb 9 41 [(iv 0), (iv 0), (iv 0), (iv 0), (iv 0)]]) (obs := []) (by kernel_rfl) (obs_nil) ?_
  refine T_seq ?_
  refine T_seq ?_
  refine T_region [] [ks 2, ks 3, kb 0, kb 1, kb 9] (fun _ => mixed) (l' := [ps 2 (.opt 1 0), ps 3 (.opt 9 0), pb 0 29 (chC ⟨bk, sl, mi, xl, xa, xo, s, h, d⟩), pb 1 41 [(iv (t.1 + d)), (iv t.2.1), (iv t.2.2.1), (iv t.2.2.2.1), (iv t.2.2.2.2)], pb 9 41 [(iv 0), (iv 0), (iv 0), (iv 0), (iv 0)]]) (obs := [InK .i64 (t.1 + d)]) (by kernel_rfl) (obs_cons (by simp only [InK]; omega) (obs_nil)) ?_
  refine T_seq ?_
  by_cases h1 : 1048576 < (t.1 + d)
  · refine T_region [(4, .gd true .no), (5, .gd true .no), (6, .gd true .no), (7, .yes true)] [ks 2, ks 3, ks 18, kb 0, kb 1, kb 9] (fun _ => mixed) (l' := [ps 2 (.opt 1 0), ps 3 (.opt 9 0), ps 18 (bv true), pb 0 29 (chC ⟨bk, sl, mi, xl, xa, xo, s, h, d⟩), pb 1 41 [(iv (t.1 + d)), (iv t.2.1), (iv t.2.2.1), (iv t.2.2.2.1), (iv t.2.2.2.2)], pb 9 41 [(iv 0), (iv 0), (iv 0), (iv 0), (iv 0)]]) (obs := [(decide (1048576 < (t.1 + d))) = true, (decide (1048576 < (t.1 + d))) = true, (decide (1048576 < (t.1 + d))) = true, (decide (1048576 < (t.1 + d))) = true]) (by kernel_rfl) (obs_cons (decide_eq_true h1) (obs_cons (decide_eq_true h1) (obs_cons (decide_eq_true h1) (obs_cons (decide_eq_true h1) (obs_nil))))) ?_
    refine T_then (b := true) rfl rfl ?_
    refine T_seq ?_
    refine T_region [] [ks 3, ks 4, kb 0, kb 9] (fun _ => mixed) (l' := [ps 3 (.opt 9 0), ps 4 (iv 4), pb 0 29 (chC ⟨bk, sl, mi, xl, xa, xo, s, h, d⟩), pb 9 41 [(iv (t.1 + d)), (iv t.2.1), (iv t.2.2.1), (iv t.2.2.2.1), (iv t.2.2.2.2)]]) (obs := []) (by kernel_rfl) (obs_nil) ?_
    refine T_wk (Wk.eq (show _ = [ps 3 (.opt 9 0), ps 4 (iv ((f5 d t).2)), pb 0 29 (chC ⟨bk, sl, mi, xl, xa, xo, s, h, d⟩), pb 9 41 [(iv (t.1 + d)), (iv t.2.1), (iv t.2.2.1), (iv t.2.2.2.1), (iv t.2.2.2.2)]] from by rw [show (f5 d t).2 = 4 from if_pos (by omega)])) ?_
    exact T_ret fun cx_ a_ hI_ => ret_ok (H' := [some (29, (chC ⟨bk, sl, mi, xl, xa, xo, s, h, d⟩)), none]) (.inr rfl) (Wk.ren2 [ps 3 (.opt 1 0), ps 4 (iv ((f5 d t).2)), pb 0 29 (chC ⟨bk, sl, mi, xl, xa, xo, s, h, d⟩), pb 1 41 [(iv (t.1 + d)), (iv t.2.1), (iv t.2.2.1), (iv t.2.2.2.1), (iv t.2.2.2.2)]] 1 hc0 [0, 9] rfl rfl (by kernel_rfl) (by kernel_rfl)) rfl (obs_cons rfl (obs_nil)) (fun cx_ a_ hI_ => ret_res (l' := [ps 3 (.opt 1 0), ps 4 (iv ((f5 d t).2)), pb 0 29 (chC ⟨bk, sl, mi, xl, xa, xo, s, h, d⟩), pb 1 41 [(iv (t.1 + d)), (iv t.2.1), (iv t.2.2.1), (iv t.2.2.2.1), (iv t.2.2.2.2)]]) (by kernel_rfl) cx_ a_ hI_) hI_
  · refine T_region [(4, .gd false (.no)), (5, .gd false (.no)), (6, .gd false (.no)), (7, .yes false)] [ks 2, ks 3, ks 18, kb 0, kb 1, kb 9] (fun _ => mixed) (l' := [ps 2 (.opt 1 0), ps 3 (.opt 9 0), ps 18 (bv (decide (1048576 < t.2.1))), pb 0 29 (chC ⟨bk, sl, mi, xl, xa, xo, s, h, d⟩), pb 1 41 [(iv (t.1 + d)), (iv t.2.1), (iv t.2.2.1), (iv t.2.2.2.1), (iv t.2.2.2.2)], pb 9 41 [(iv 0), (iv 0), (iv 0), (iv 0), (iv 0)]]) (obs := [(decide (1048576 < (t.1 + d))) = false, (decide (1048576 < (t.1 + d))) = false, (decide (1048576 < (t.1 + d))) = false, (decide (1048576 < (t.1 + d))) = false]) (by kernel_rfl) (obs_cons (decide_eq_false h1) (obs_cons (decide_eq_false h1) (obs_cons (decide_eq_false h1) (obs_cons (decide_eq_false h1) (obs_nil))))) ?_
    by_cases h2 : 1048576 < t.2.1
    · refine T_then (b := (decide (1048576 < t.2.1))) rfl (decide_eq_true h2) ?_
      refine T_seq ?_
      refine T_region [] [ks 3, ks 4, kb 0, kb 9] (fun _ => mixed) (l' := [ps 3 (.opt 9 0), ps 4 (iv 4), pb 0 29 (chC ⟨bk, sl, mi, xl, xa, xo, s, h, d⟩), pb 9 41 [(iv (t.1 + d)), (iv t.2.1), (iv t.2.2.1), (iv t.2.2.2.1), (iv t.2.2.2.2)]]) (obs := []) (by kernel_rfl) (obs_nil) ?_
      refine T_wk (Wk.eq (show _ = [ps 3 (.opt 9 0), ps 4 (iv ((f5 d t).2)), pb 0 29 (chC ⟨bk, sl, mi, xl, xa, xo, s, h, d⟩), pb 9 41 [(iv (t.1 + d)), (iv t.2.1), (iv t.2.2.1), (iv t.2.2.2.1), (iv t.2.2.2.2)]] from by rw [show (f5 d t).2 = 4 from if_pos (by omega)])) ?_
      exact T_ret fun cx_ a_ hI_ => ret_ok (H' := [some (29, (chC ⟨bk, sl, mi, xl, xa, xo, s, h, d⟩)), none]) (.inr rfl) (Wk.ren2 [ps 3 (.opt 1 0), ps 4 (iv ((f5 d t).2)), pb 0 29 (chC ⟨bk, sl, mi, xl, xa, xo, s, h, d⟩), pb 1 41 [(iv (t.1 + d)), (iv t.2.1), (iv t.2.2.1), (iv t.2.2.2.1), (iv t.2.2.2.2)]] 1 hc0 [0, 9] rfl rfl (by kernel_rfl) (by kernel_rfl)) rfl (obs_cons rfl (obs_nil)) (fun cx_ a_ hI_ => ret_res (l' := [ps 3 (.opt 1 0), ps 4 (iv ((f5 d t).2)), pb 0 29 (chC ⟨bk, sl, mi, xl, xa, xo, s, h, d⟩), pb 1 41 [(iv (t.1 + d)), (iv t.2.1), (iv t.2.2.1), (iv t.2.2.2.1), (iv t.2.2.2.2)]]) (by kernel_rfl) cx_ a_ hI_) hI_
    · refine T_else (b := (decide (1048576 < t.2.1))) rfl (decide_eq_false h2) ?_
      refine T_skip ?_
      refine T_seq ?_
      refine T_region [] [ks 3, ks 4, kb 0, kb 9] (fun _ => mixed) (l' := [ps 3 (.opt 9 0), ps 4 (iv 0), pb 0 29 (chC ⟨bk, sl, mi, xl, xa, xo, s, h, d⟩), pb 9 41 [(iv (t.1 + d)), (iv t.2.1), (iv t.2.2.1), (iv t.2.2.2.1), (iv t.2.2.2.2)]]) (obs := []) (by kernel_rfl) (obs_nil) ?_
      refine T_wk (Wk.eq (show _ = [ps 3 (.opt 9 0), ps 4 (iv ((f5 d t).2)), pb 0 29 (chC ⟨bk, sl, mi, xl, xa, xo, s, h, d⟩), pb 9 41 [(iv (t.1 + d)), (iv t.2.1), (iv t.2.2.1), (iv t.2.2.2.1), (iv t.2.2.2.2)]] from by rw [show (f5 d t).2 = 0 from if_neg (by omega)])) ?_
      exact T_ret fun cx_ a_ hI_ => ret_ok (H' := [some (29, (chC ⟨bk, sl, mi, xl, xa, xo, s, h, d⟩)), none]) (.inr rfl) (Wk.ren2 [ps 3 (.opt 1 0), ps 4 (iv ((f5 d t).2)), pb 0 29 (chC ⟨bk, sl, mi, xl, xa, xo, s, h, d⟩), pb 1 41 [(iv (t.1 + d)), (iv t.2.1), (iv t.2.2.1), (iv t.2.2.2.1), (iv t.2.2.2.2)]] 1 hc0 [0, 9] rfl rfl (by kernel_rfl) (by kernel_rfl)) rfl (obs_cons rfl (obs_nil)) (fun cx_ a_ hI_ => ret_res (l' := [ps 3 (.opt 1 0), ps 4 (iv ((f5 d t).2)), pb 0 29 (chC ⟨bk, sl, mi, xl, xa, xo, s, h, d⟩), pb 1 41 [(iv (t.1 + d)), (iv t.2.1), (iv t.2.2.1), (iv t.2.2.2.1), (iv t.2.2.2.2)]]) (by kernel_rfl) cx_ a_ hI_) hI_
set_option maxRecDepth 100000 in
set_option maxHeartbeats 4000000 in
theorem mmir_pc (bk mi : Bool) (sl xl xa xo s h d : Int) (t : Tn) : PC Try.prog 49 [(.agg (tnC t)), (.opt 0 0)] [some (65, [(PV.fn (.func 36) [] [(.opt 1 0)])]), some (29, (chC ⟨bk, sl, mi, xl, xa, xo, s, h, d⟩))] (.tup [(.agg (tnC ((f3 xl xa xo t).1))), (iv ((f3 xl xa xo t).2))]) [some (65, [(PV.fn (.func 36) [] [(.opt 1 0)])]), some (29, (chC ⟨bk, sl, mi, xl, xa, xo, s, h, d⟩)), none] := by
  refine pc_intro Try.func49 rfl (by kernel_rfl) (Nat.le_of_ble_eq_true rfl) (by kernel_rfl) (l0 := [ps 0 (.agg (tnC t)), ps 1 (.opt 0 0), pb 0 65 [(PV.fn (.func 36) [] [(.opt 1 0)])], pb 1 29 (chC ⟨bk, sl, mi, xl, xa, xo, s, h, d⟩)]) rfl (fun c0 Bor hc0 => ?_)
  refine T_seq ?_
  refine T_region [] [ks 1, ks 2, ks 3, kb 0, kb 1, kb 2, kb 10] (fun _ => mixed) (l' := [ps 1 (.opt 0 0), ps 2 (.opt 2 0), ps 3 (.opt 10 0), pb 0 65 [(PV.fn (.func 36) [] [(.opt 1 0)])], pb 1 29 (chC ⟨bk, sl, mi, xl, xa, xo, s, h, d⟩), pb 2 41 (tnC t), pb 10 41 [(iv 0), (iv 0), (iv 0), (iv 0), (iv 0)]]) (obs := []) (by kernel_rfl) (obs_nil) ?_
  refine T_seq ?_
  refine T_region [(3, .call [1] [(.agg [(iv t.2.2.1), (iv t.2.2.2.1), (iv t.2.2.2.2)]), (.opt 0 0)] [some (29, (chC ⟨bk, sl, mi, xl, xa, xo, s, h, d⟩))] (.tup [(.agg [(iv ((Pi.mirror t.2.2.1 t.2.2.2.1 t.2.2.2.2 xl xa xo).1)), (iv ((Pi.mirror t.2.2.1 t.2.2.2.1 t.2.2.2.2 xl xa xo).2.1)), (iv ((Pi.mirror t.2.2.1 t.2.2.2.1 t.2.2.2.2 xl xa xo).2.2.1))]), (iv ((Pi.mirror t.2.2.1 t.2.2.2.1 t.2.2.2.2 xl xa xo).2.2.2))]) [some (29, (chC ⟨bk, sl, mi, xl, xa, xo, s, h, d⟩)), none])] [ks 2, ks 3, ks 5, ks 6, kb 0, kb 1, kb 2, kb 10, kb 82] (fun _ => mixed) (l' := [ps 2 (.opt 2 0), ps 3 (.opt 10 0), ps 5 (.opt 82 0), ps 6 (iv ((Pi.mirror t.2.2.1 t.2.2.2.1 t.2.2.2.2 xl xa xo).2.2.2)), pb 0 65 [(PV.fn (.func 36) [] [(.opt 1 0)])], pb 1 29 (chC ⟨bk, sl, mi, xl, xa, xo, s, h, d⟩), pb 2 41 (tnC t), pb 10 41 [(iv 0), (iv 0), (iv 0), (iv 0), (iv 0)], pb 82 26 [(iv ((Pi.mirror t.2.2.1 t.2.2.2.1 t.2.2.2.2 xl xa xo).1)), (iv ((Pi.mirror t.2.2.1 t.2.2.2.1 t.2.2.2.2 xl xa xo).2.1)), (iv ((Pi.mirror t.2.2.1 t.2.2.2.1 t.2.2.2.2 xl xa xo).2.2.1))]]) (obs := [PC Try.prog 36 [(.agg [(iv t.2.2.1), (iv t.2.2.2.1), (iv t.2.2.2.2)]), (.opt 0 0)] [some (29, (chC ⟨bk, sl, mi, xl, xa, xo, s, h, d⟩))] (.tup [(.agg [(iv ((Pi.mirror t.2.2.1 t.2.2.2.1 t.2.2.2.2 xl xa xo).1)), (iv ((Pi.mirror t.2.2.1 t.2.2.2.1 t.2.2.2.2 xl xa xo).2.1)), (iv ((Pi.mirror t.2.2.1 t.2.2.2.1 t.2.2.2.2 xl xa xo).2.2.1))]), (iv ((Pi.mirror t.2.2.1 t.2.2.2.1 t.2.2.2.2 xl xa xo).2.2.2))]) [some (29, (chC ⟨bk, sl, mi, xl, xa, xo, s, h, d⟩)), none], [(.agg [(iv t.2.2.1), (iv t.2.2.2.1), (iv t.2.2.2.2)]), (.opt 1 0)] = renL (sigi [1] 50) [(.agg [(iv t.2.2.1), (iv t.2.2.2.1), (iv t.2.2.2.2)]), (.opt 0 0)], (chC ⟨bk, sl, mi, xl, xa, xo, s, h, d⟩) = renL (sigi [1] 50) (chC ⟨bk, sl, mi, xl, xa, xo, s, h, d⟩)]) (by kernel_rfl) (obs_cons (mir_pc bk mi sl xl xa xo s h d t.2.2.1 t.2.2.2.1 t.2.2.2.2) (obs_cons rfl (obs_cons rfl (obs_nil)))) ?_
  refine T_seq ?_
  refine T_region [] [ks 2, ks 3, ks 6, kb 0, kb 1, kb 2, kb 10] (fun _ => mixed) (l' := [ps 2 (.opt 2 0), ps 3 (.opt 10 0), ps 6 (iv ((Pi.mirror t.2.2.1 t.2.2.2.1 t.2.2.2.2 xl xa xo).2.2.2)), pb 0 65 [(PV.fn (.func 36) [] [(.opt 1 0)])], pb 1 29 (chC ⟨bk, sl, mi, xl, xa, xo, s, h, d⟩), pb 2 41 [(iv t.1), (iv t.2.1), (iv ((Pi.mirror t.2.2.1 t.2.2.2.1 t.2.2.2.2 xl xa xo).1)), (iv ((Pi.mirror t.2.2.1 t.2.2.2.1 t.2.2.2.2 xl xa xo).2.1)), (iv ((Pi.mirror t.2.2.1 t.2.2.2.1 t.2.2.2.2 xl xa xo).2.2.1))], pb 10 41 [(iv 0), (iv 0), (iv 0), (iv 0), (iv 0)]]) (obs := []) (by kernel_rfl) (obs_nil) ?_
  refine T_seq ?_
  refine T_region [] [ks 3, ks 4, kb 0, kb 1, kb 10] (fun _ => mixed) (l' := [ps 3 (.opt 10 0), ps 4 (iv ((Pi.mirror t.2.2.1 t.2.2.2.1 t.2.2.2.2 xl xa xo).2.2.2)), pb 0 65 [(PV.fn (.func 36) [] [(.opt 1 0)])], pb 1 29 (chC ⟨bk, sl, mi, xl, xa, xo, s, h, d⟩), pb 10 41 [(iv t.1), (iv t.2.1), (iv ((Pi.mirror t.2.2.1 t.2.2.2.1 t.2.2.2.2 xl xa xo).1)), (iv ((Pi.mirror t.2.2.1 t.2.2.2.1 t.2.2.2.2 xl xa xo).2.1)), (iv ((Pi.mirror t.2.2.1 t.2.2.2.1 t.2.2.2.2 xl xa xo).2.2.1))]]) (obs := []) (by kernel_rfl) (obs_nil) ?_
  exact T_ret fun cx_ a_ hI_ => ret_ok (H' := [some (65, [(PV.fn (.func 36) [] [(.opt 1 0)])]), some (29, (chC ⟨bk, sl, mi, xl, xa, xo, s, h, d⟩)), none]) (.inr rfl) (Wk.ren2 [ps 3 (.opt 2 0), ps 4 (iv ((Pi.mirror t.2.2.1 t.2.2.2.1 t.2.2.2.2 xl xa xo).2.2.2)), pb 0 65 [(PV.fn (.func 36) [] [(.opt 1 0)])], pb 1 29 (chC ⟨bk, sl, mi, xl, xa, xo, s, h, d⟩), pb 2 41 [(iv t.1), (iv t.2.1), (iv ((Pi.mirror t.2.2.1 t.2.2.2.1 t.2.2.2.2 xl xa xo).1)), (iv ((Pi.mirror t.2.2.1 t.2.2.2.1 t.2.2.2.2 xl xa xo).2.1)), (iv ((Pi.mirror t.2.2.1 t.2.2.2.1 t.2.2.2.2 xl xa xo).2.2.1))]] 2 hc0 [0, 1, 10] rfl rfl (by kernel_rfl) (by kernel_rfl)) rfl (obs_cons rfl (obs_cons rfl (obs_nil))) (fun cx_ a_ hI_ => ret_res (l' := [ps 3 (.opt 2 0), ps 4 (iv ((Pi.mirror t.2.2.1 t.2.2.2.1 t.2.2.2.2 xl xa xo).2.2.2)), pb 0 65 [(PV.fn (.func 36) [] [(.opt 1 0)])], pb 1 29 (chC ⟨bk, sl, mi, xl, xa, xo, s, h, d⟩), pb 2 41 [(iv t.1), (iv t.2.1), (iv ((Pi.mirror t.2.2.1 t.2.2.2.1 t.2.2.2.2 xl xa xo).1)), (iv ((Pi.mirror t.2.2.1 t.2.2.2.1 t.2.2.2.2 xl xa xo).2.1)), (iv ((Pi.mirror t.2.2.1 t.2.2.2.1 t.2.2.2.2 xl xa xo).2.2.1))]]) (by kernel_rfl) cx_ a_ hI_) hI_
set_option maxRecDepth 100000 in
set_option maxHeartbeats 4000000 in
theorem moving36_pc (bk mi : Bool) (sl xl xa xo s h d : Int) : PC Try.prog 35 [(PV.fn (.func 36) [] [(.opt 0 0)])] [some (29, (chC ⟨bk, sl, mi, xl, xa, xo, s, h, d⟩))] (PV.fn (.func 49) [] [(.opt 1 0)]) [some (29, (chC ⟨bk, sl, mi, xl, xa, xo, s, h, d⟩)), some (65, [(PV.fn (.func 36) [] [(.opt 0 0)])])] := by
  refine pc_intro Try.func35 rfl (by kernel_rfl) (Nat.le_of_ble_eq_true rfl) (by kernel_rfl) (l0 := [ps 0 (PV.fn (.func 36) [] [(.opt 0 0)]), pb 0 29 (chC ⟨bk, sl, mi, xl, xa, xo, s, h, d⟩)]) rfl (fun c0 Bor hc0 => ?_)
  refine T_seq ?_
  refine T_region [] [ks 1, kb 0, kb 1] (fun _ => mixed) (l' := [ps 1 (.opt 1 0), pb 0 29 (chC ⟨bk, sl, mi, xl, xa, xo, s, h, d⟩), pb 1 65 [(PV.fn (.func 36) [] [(.opt 0 0)])]]) (obs := []) (by kernel_rfl) (obs_nil) ?_
  refine T_seq ?_
  refine T_region [] [ks 2, kb 0, kb 1] (fun _ => mixed) (l' := [ps 2 (PV.fn (.func 49) [] [(.opt 1 0)]), pb 0 29 (chC ⟨bk, sl, mi, xl, xa, xo, s, h, d⟩), pb 1 65 [(PV.fn (.func 36) [] [(.opt 0 0)])]]) (obs := []) (by kernel_rfl) (obs_nil) ?_
  exact T_ret fun cx_ a_ hI_ => ret_ok (H' := [some (29, (chC ⟨bk, sl, mi, xl, xa, xo, s, h, d⟩)), some (65, [(PV.fn (.func 36) [] [(.opt 0 0)])])]) (.inr rfl) (Wk.ren2 [ps 2 (PV.fn (.func 49) [] [(.opt 1 0)]), pb 0 29 (chC ⟨bk, sl, mi, xl, xa, xo, s, h, d⟩), pb 1 65 [(PV.fn (.func 36) [] [(.opt 0 0)])]] 1 hc0 [0, 1] rfl rfl (by kernel_rfl) (by kernel_rfl)) rfl (obs_cons rfl (obs_cons rfl (obs_nil))) (fun cx_ a_ hI_ => ret_res (l' := [ps 2 (PV.fn (.func 49) [] [(.opt 1 0)]), pb 0 29 (chC ⟨bk, sl, mi, xl, xa, xo, s, h, d⟩), pb 1 65 [(PV.fn (.func 36) [] [(.opt 0 0)])]]) (by kernel_rfl) cx_ a_ hI_) hI_
set_option maxRecDepth 100000 in
set_option maxHeartbeats 4000000 in
theorem mmov_pc (bk mi : Bool) (sl xl xa xo s h d : Int) (t : Tn) (hs : I64 s) (hh : I64 h) : PC Try.prog 49 [(.agg (tnC t)), (.opt 0 0)] [some (65, [(PV.fn (.func 38) [] [(.opt 1 0)])]), some (29, (chC ⟨bk, sl, mi, xl, xa, xo, s, h, d⟩))] (.tup [(.agg (tnC ((f4 s h t).1))), (iv ((f4 s h t).2))]) [some (65, [(PV.fn (.func 38) [] [(.opt 1 0)])]), some (29, (chC ⟨bk, sl, mi, xl, xa, xo, s, h, d⟩)), none] := by
  refine pc_intro Try.func49 rfl (by kernel_rfl) (Nat.le_of_ble_eq_true rfl) (by kernel_rfl) (l0 := [ps 0 (.agg (tnC t)), ps 1 (.opt 0 0), pb 0 65 [(PV.fn (.func 38) [] [(.opt 1 0)])], pb 1 29 (chC ⟨bk, sl, mi, xl, xa, xo, s, h, d⟩)]) rfl (fun c0 Bor hc0 => ?_)
  refine T_seq ?_
  refine T_region [] [ks 1, ks 2, ks 3, kb 0, kb 1, kb 2, kb 10] (fun _ => mixed) (l' := [ps 1 (.opt 0 0), ps 2 (.opt 2 0), ps 3 (.opt 10 0), pb 0 65 [(PV.fn (.func 38) [] [(.opt 1 0)])], pb 1 29 (chC ⟨bk, sl, mi, xl, xa, xo, s, h, d⟩), pb 2 41 (tnC t), pb 10 41 [(iv 0), (iv 0), (iv 0), (iv 0), (iv 0)]]) (obs := []) (by kernel_rfl) (obs_nil) ?_
  refine T_seq ?_
  refine T_region [(3, .call [1] [(.agg [(iv t.2.2.1), (iv t.2.2.2.1), (iv t.2.2.2.2)]), (.opt 0 0)] [some (29, (chC ⟨bk, sl, mi, xl, xa, xo, s, h, d⟩))] (.tup [(.agg [(iv ((Pi.move t.2.2.1 t.2.2.2.1 t.2.2.2.2 s h).1)), (iv ((Pi.move t.2.2.1 t.2.2.2.1 t.2.2.2.2 s h).2.1)), (iv ((Pi.move t.2.2.1 t.2.2.2.1 t.2.2.2.2 s h).2.2.1))]), (iv ((Pi.move t.2.2.1 t.2.2.2.1 t.2.2.2.2 s h).2.2.2))]) [some (29, (chC ⟨bk, sl, mi, xl, xa, xo, s, h, d⟩)), none])] [ks 2, ks 3, ks 5, ks 6, kb 0, kb 1, kb 2, kb 10, kb 82] (fun _ => mixed) (l' := [ps 2 (.opt 2 0), ps 3 (.opt 10 0), ps 5 (.opt 82 0), ps 6 (iv ((Pi.move t.2.2.1 t.2.2.2.1 t.2.2.2.2 s h).2.2.2)), pb 0 65 [(PV.fn (.func 38) [] [(.opt 1 0)])], pb 1 29 (chC ⟨bk, sl, mi, xl, xa, xo, s, h, d⟩), pb 2 41 (tnC t), pb 10 41 [(iv 0), (iv 0), (iv 0), (iv 0), (iv 0)], pb 82 26 [(iv ((Pi.move t.2.2.1 t.2.2.2.1 t.2.2.2.2 s h).1)), (iv ((Pi.move t.2.2.1 t.2.2.2.1 t.2.2.2.2 s h).2.1)), (iv ((Pi.move t.2.2.1 t.2.2.2.1 t.2.2.2.2 s h).2.2.1))]]) (obs := [PC Try.prog 38 [(.agg [(iv t.2.2.1), (iv t.2.2.2.1), (iv t.2.2.2.2)]), (.opt 0 0)] [some (29, (chC ⟨bk, sl, mi, xl, xa, xo, s, h, d⟩))] (.tup [(.agg [(iv ((Pi.move t.2.2.1 t.2.2.2.1 t.2.2.2.2 s h).1)), (iv ((Pi.move t.2.2.1 t.2.2.2.1 t.2.2.2.2 s h).2.1)), (iv ((Pi.move t.2.2.1 t.2.2.2.1 t.2.2.2.2 s h).2.2.1))]), (iv ((Pi.move t.2.2.1 t.2.2.2.1 t.2.2.2.2 s h).2.2.2))]) [some (29, (chC ⟨bk, sl, mi, xl, xa, xo, s, h, d⟩)), none], [(.agg [(iv t.2.2.1), (iv t.2.2.2.1), (iv t.2.2.2.2)]), (.opt 1 0)] = renL (sigi [1] 50) [(.agg [(iv t.2.2.1), (iv t.2.2.2.1), (iv t.2.2.2.2)]), (.opt 0 0)], (chC ⟨bk, sl, mi, xl, xa, xo, s, h, d⟩) = renL (sigi [1] 50) (chC ⟨bk, sl, mi, xl, xa, xo, s, h, d⟩)]) (by kernel_rfl) (obs_cons (mov_pc bk mi sl xl xa xo s h d t.2.2.1 t.2.2.2.1 t.2.2.2.2 hs hh) (obs_cons rfl (obs_cons rfl (obs_nil)))) ?_
  refine T_seq ?_
  refine T_region [] [ks 2, ks 3, ks 6, kb 0, kb 1, kb 2, kb 10] (fun _ => mixed) (l' := [ps 2 (.opt 2 0), ps 3 (.opt 10 0), ps 6 (iv ((Pi.move t.2.2.1 t.2.2.2.1 t.2.2.2.2 s h).2.2.2)), pb 0 65 [(PV.fn (.func 38) [] [(.opt 1 0)])], pb 1 29 (chC ⟨bk, sl, mi, xl, xa, xo, s, h, d⟩), pb 2 41 [(iv t.1), (iv t.2.1), (iv ((Pi.move t.2.2.1 t.2.2.2.1 t.2.2.2.2 s h).1)), (iv ((Pi.move t.2.2.1 t.2.2.2.1 t.2.2.2.2 s h).2.1)), (iv ((Pi.move t.2.2.1 t.2.2.2.1 t.2.2.2.2 s h).2.2.1))], pb 10 41 [(iv 0), (iv 0), (iv 0), (iv 0), (iv 0)]]) (obs := []) (by kernel_rfl) (obs_nil) ?_
  refine T_seq ?_
  refine T_region [] [ks 3, ks 4, kb 0, kb 1, kb 10] (fun _ => mixed) (l' := [ps 3 (.opt 10 0), ps 4 (iv ((Pi.move t.2.2.1 t.2.2.2.1 t.2.2.2.2 s h).2.2.2)), pb 0 65 [(PV.fn (.func 38) [] [(.opt 1 0)])], pb 1 29 (chC ⟨bk, sl, mi, xl, xa, xo, s, h, d⟩), pb 10 41 [(iv t.1), (iv t.2.1), (iv ((Pi.move t.2.2.1 t.2.2.2.1 t.2.2.2.2 s h).1)), (iv ((Pi.move t.2.2.1 t.2.2.2.1 t.2.2.2.2 s h).2.1)), (iv ((Pi.move t.2.2.1 t.2.2.2.1 t.2.2.2.2 s h).2.2.1))]]) (obs := []) (by kernel_rfl) (obs_nil) ?_
  exact T_ret fun cx_ a_ hI_ => ret_ok (H' := [some (65, [(PV.fn (.func 38) [] [(.opt 1 0)])]), some (29, (chC ⟨bk, sl, mi, xl, xa, xo, s, h, d⟩)), none]) (.inr rfl) (Wk.ren2 [ps 3 (.opt 2 0), ps 4 (iv ((Pi.move t.2.2.1 t.2.2.2.1 t.2.2.2.2 s h).2.2.2)), pb 0 65 [(PV.fn (.func 38) [] [(.opt 1 0)])], pb 1 29 (chC ⟨bk, sl, mi, xl, xa, xo, s, h, d⟩), pb 2 41 [(iv t.1), (iv t.2.1), (iv ((Pi.move t.2.2.1 t.2.2.2.1 t.2.2.2.2 s h).1)), (iv ((Pi.move t.2.2.1 t.2.2.2.1 t.2.2.2.2 s h).2.1)), (iv ((Pi.move t.2.2.1 t.2.2.2.1 t.2.2.2.2 s h).2.2.1))]] 2 hc0 [0, 1, 10] rfl rfl (by kernel_rfl) (by kernel_rfl)) rfl (obs_cons rfl (obs_cons rfl (obs_nil))) (fun cx_ a_ hI_ => ret_res (l' := [ps 3 (.opt 2 0), ps 4 (iv ((Pi.move t.2.2.1 t.2.2.2.1 t.2.2.2.2 s h).2.2.2)), pb 0 65 [(PV.fn (.func 38) [] [(.opt 1 0)])], pb 1 29 (chC ⟨bk, sl, mi, xl, xa, xo, s, h, d⟩), pb 2 41 [(iv t.1), (iv t.2.1), (iv ((Pi.move t.2.2.1 t.2.2.2.1 t.2.2.2.2 s h).1)), (iv ((Pi.move t.2.2.1 t.2.2.2.1 t.2.2.2.2 s h).2.1)), (iv ((Pi.move t.2.2.1 t.2.2.2.1 t.2.2.2.2 s h).2.2.1))]]) (by kernel_rfl) cx_ a_ hI_) hI_
set_option maxRecDepth 100000 in
set_option maxHeartbeats 4000000 in
theorem moving38_pc (bk mi : Bool) (sl xl xa xo s h d : Int) : PC Try.prog 35 [(PV.fn (.func 38) [] [(.opt 0 0)])] [some (29, (chC ⟨bk, sl, mi, xl, xa, xo, s, h, d⟩))] (PV.fn (.func 49) [] [(.opt 1 0)]) [some (29, (chC ⟨bk, sl, mi, xl, xa, xo, s, h, d⟩)), some (65, [(PV.fn (.func 38) [] [(.opt 0 0)])])] := by
  refine pc_intro Try.func35 rfl (by kernel_rfl) (Nat.le_of_ble_eq_true rfl) (by kernel_rfl) (l0 := [ps 0 (PV.fn (.func 38) [] [(.opt 0 0)]), pb 0 29 (chC ⟨bk, sl, mi, xl, xa, xo, s, h, d⟩)]) rfl (fun c0 Bor hc0 => ?_)
  refine T_seq ?_
  refine T_region [] [ks 1, kb 0, kb 1] (fun _ => mixed) (l' := [ps 1 (.opt 1 0), pb 0 29 (chC ⟨bk, sl, mi, xl, xa, xo, s, h, d⟩), pb 1 65 [(PV.fn (.func 38) [] [(.opt 0 0)])]]) (obs := []) (by kernel_rfl) (obs_nil) ?_
  refine T_seq ?_
  refine T_region [] [ks 2, kb 0, kb 1] (fun _ => mixed) (l' := [ps 2 (PV.fn (.func 49) [] [(.opt 1 0)]), pb 0 29 (chC ⟨bk, sl, mi, xl, xa, xo, s, h, d⟩), pb 1 65 [(PV.fn (.func 38) [] [(.opt 0 0)])]]) (obs := []) (by kernel_rfl) (obs_nil) ?_
  exact T_ret fun cx_ a_ hI_ => ret_ok (H' := [some (29, (chC ⟨bk, sl, mi, xl, xa, xo, s, h, d⟩)), some (65, [(PV.fn (.func 38) [] [(.opt 0 0)])])]) (.inr rfl) (Wk.ren2 [ps 2 (PV.fn (.func 49) [] [(.opt 1 0)]), pb 0 29 (chC ⟨bk, sl, mi, xl, xa, xo, s, h, d⟩), pb 1 65 [(PV.fn (.func 38) [] [(.opt 0 0)])]] 1 hc0 [0, 1] rfl rfl (by kernel_rfl) (by kernel_rfl)) rfl (obs_cons rfl (obs_cons rfl (obs_nil))) (fun cx_ a_ hI_ => ret_res (l' := [ps 2 (PV.fn (.func 49) [] [(.opt 1 0)]), pb 0 29 (chC ⟨bk, sl, mi, xl, xa, xo, s, h, d⟩), pb 1 65 [(PV.fn (.func 38) [] [(.opt 0 0)])]]) (by kernel_rfl) cx_ a_ hI_) hI_
set_option maxRecDepth 100000 in
set_option maxHeartbeats 4000000 in
theorem steps_00 (sl xl xa xo s h d E : Int) : PC Try.prog 20 [(.agg (chC ⟨false, sl, false, xl, xa, xo, s, h, d⟩)), (iv E)] [] (.osl 2 0 3) [some (29, (chC ⟨false, sl, false, xl, xa, xo, s, h, d⟩)), some (65, [(PV.fn (.func 38) [] [(.opt 0 0)])]), some (51, [(PV.fn (.func 34) [] [(.opt 0 0)]), (PV.fn (.func 49) [] [(.opt 1 0)]), (PV.fn (.func 40) [] [(.opt 0 0)])])] := by
  refine pc_intro Try.func20 rfl (by kernel_rfl) (Nat.le_of_ble_eq_true rfl) (by kernel_rfl) (l0 := [ps 0 (.agg (chC ⟨false, sl, false, xl, xa, xo, s, h, d⟩)), ps 1 (iv E)]) rfl (fun c0 Bor hc0 => ?_)
  refine T_seq ?_
  refine T_region [] [ks 2, ks 3, kb 0, kb 8] (fun _ => mixed) (l' := [ps 2 (.opt 0 0), ps 3 (.opt 8 0), pb 0 29 (chC ⟨false, sl, false, xl, xa, xo, s, h, d⟩), pb 8 3 [(iv E)]]) (obs := []) (by kernel_rfl) (obs_nil) ?_
  refine T_seq ?_
  refine T_region [] [ks 2, ks 3, ks 5, kb 0, kb 8] (fun _ => mixed) (l' := [ps 2 (.opt 0 0), ps 3 (.opt 8 0), ps 5 (.av (.slice none 0 0)), pb 0 29 (chC ⟨false, sl, false, xl, xa, xo, s, h, d⟩), pb 8 3 [(iv E)]]) (obs := []) (by kernel_rfl) (obs_nil) ?_
  refine T_seq ?_
  refine T_seq ?_
  refine T_region [] [ks 2, ks 3, ks 5, ks 7, kb 0, kb 8] (fun _ => mixed) (l' := [ps 2 (.opt 0 0), ps 3 (.opt 8 0), ps 5 (.av (.slice none 0 0)), ps 7 (bv false), pb 0 29 (chC ⟨false, sl, false, xl, xa, xo, s, h, d⟩), pb 8 3 [(iv E)]]) (obs := []) (by kernel_rfl) (obs_nil) ?_
  refine T_else (b := false) rfl rfl ?_
  refine T_skip ?_
  refine T_seq ?_
  refine T_region [(3, .app none none)] [ks 2, ks 5, kb 0, kb 72] (fun _ => mixed) (l' := [ps 2 (.opt 0 0), ps 5 (.osl 72 0 1), pb 0 29 (chC ⟨false, sl, false, xl, xa, xo, s, h, d⟩), pb 72 51 [(PV.fn (.func 34) [] [(.opt 0 0)])]]) (obs := [(0 + 1) * 8 ≤ 140737488355328 ∧ 0 + 1 ≤ 9223372036854775807]) (by kernel_rfl) (obs_cons (by decide) (obs_nil)) ?_
  refine T_seq ?_
  refine T_seq ?_
  refine T_region [] [ks 2, ks 5, ks 17, kb 0, kb 72] (fun _ => mixed) (l' := [ps 2 (.opt 0 0), ps 5 (.osl 72 0 1), ps 17 (bv false), pb 0 29 (chC ⟨false, sl, false, xl, xa, xo, s, h, d⟩), pb 72 51 [(PV.fn (.func 34) [] [(.opt 0 0)])]]) (obs := []) (by kernel_rfl) (obs_nil) ?_
  refine T_else (b := false) rfl rfl ?_
  refine T_skip ?_
  refine T_seq ?_
  refine T_region [(2, .call [0] [(PV.fn (.func 38) [] [(.opt 0 0)])] [some (29, (chC ⟨false, sl, false, xl, xa, xo, s, h, d⟩))] (PV.fn (.func 49) [] [(.opt 1 0)]) [some (29, (chC ⟨false, sl, false, xl, xa, xo, s, h, d⟩)), some (65, [(PV.fn (.func 38) [] [(.opt 0 0)])])]), (4, .app none none)] [ks 2, ks 5, kb 0, kb 120, kb 136] (fun _ => mixed) (l' := [ps 2 (.opt 0 0), ps 5 (.osl 136 0 2), pb 0 29 (chC ⟨false, sl, false, xl, xa, xo, s, h, d⟩), pb 120 65 [(PV.fn (.func 38) [] [(.opt 0 0)])], pb 136 51 [(PV.fn (.func 34) [] [(.opt 0 0)]), (PV.fn (.func 49) [] [(.opt 120 0)])]]) (obs := [PC Try.prog 35 [(PV.fn (.func 38) [] [(.opt 0 0)])] [some (29, (chC ⟨false, sl, false, xl, xa, xo, s, h, d⟩))] (PV.fn (.func 49) [] [(.opt 1 0)]) [some (29, (chC ⟨false, sl, false, xl, xa, xo, s, h, d⟩)), some (65, [(PV.fn (.func 38) [] [(.opt 0 0)])])], [(PV.fn (.func 38) [] [(.opt 0 0)])] = renL (sigi [0] 120) [(PV.fn (.func 38) [] [(.opt 0 0)])], (chC ⟨false, sl, false, xl, xa, xo, s, h, d⟩) = renL (sigi [0] 120) (chC ⟨false, sl, false, xl, xa, xo, s, h, d⟩), ([(PV.fn (.func 34) [] [(.opt 0 0)])]).length = 1 * 1, (1 + 1) * 8 ≤ 140737488355328 ∧ 1 + 1 ≤ 9223372036854775807]) (by kernel_rfl) (obs_cons (moving38_pc false false sl xl xa xo s h d) (obs_cons rfl (obs_cons rfl (obs_cons rfl (obs_cons (by decide) (obs_nil)))))) ?_
  refine T_seq ?_
  refine T_region [(3, .app none none)] [ks 4, kb 0, kb 120, kb 176] (fun _ => mixed) (l' := [ps 4 (.osl 176 0 3), pb 0 29 (chC ⟨false, sl, false, xl, xa, xo, s, h, d⟩), pb 120 65 [(PV.fn (.func 38) [] [(.opt 0 0)])], pb 176 51 [(PV.fn (.func 34) [] [(.opt 0 0)]), (PV.fn (.func 49) [] [(.opt 120 0)]), (PV.fn (.func 40) [] [(.opt 0 0)])]]) (obs := [([(PV.fn (.func 34) [] [(.opt 0 0)]), (PV.fn (.func 49) [] [(.opt 120 0)])]).length = 2 * 1, (2 + 1) * 8 ≤ 140737488355328 ∧ 2 + 1 ≤ 9223372036854775807]) (by kernel_rfl) (obs_cons rfl (obs_cons (by decide) (obs_nil))) ?_
  exact T_ret fun cx_ a_ hI_ => ret_ok (H' := [some (29, (chC ⟨false, sl, false, xl, xa, xo, s, h, d⟩)), some (65, [(PV.fn (.func 38) [] [(.opt 0 0)])]), some (51, [(PV.fn (.func 34) [] [(.opt 0 0)]), (PV.fn (.func 49) [] [(.opt 1 0)]), (PV.fn (.func 40) [] [(.opt 0 0)])])]) (.inr rfl) (Wk.ren2 [ps 4 (.osl 2 0 3), pb 0 29 (chC ⟨false, sl, false, xl, xa, xo, s, h, d⟩), pb 1 65 [(PV.fn (.func 38) [] [(.opt 0 0)])], pb 2 51 [(PV.fn (.func 34) [] [(.opt 0 0)]), (PV.fn (.func 49) [] [(.opt 1 0)]), (PV.fn (.func 40) [] [(.opt 0 0)])]] 0 hc0 [0, 120, 176] rfl rfl (by kernel_rfl) (by kernel_rfl)) rfl (obs_cons rfl (obs_cons rfl (obs_cons rfl (obs_nil)))) (fun cx_ a_ hI_ => ret_res (l' := [ps 4 (.osl 2 0 3), pb 0 29 (chC ⟨false, sl, false, xl, xa, xo, s, h, d⟩), pb 1 65 [(PV.fn (.func 38) [] [(.opt 0 0)])], pb 2 51 [(PV.fn (.func 34) [] [(.opt 0 0)]), (PV.fn (.func 49) [] [(.opt 1 0)]), (PV.fn (.func 40) [] [(.opt 0 0)])]]) (by kernel_rfl) cx_ a_ hI_) hI_
set_option maxRecDepth 100000 in
set_option maxHeartbeats 4000000 in
theorem steps_01 (sl xl xa xo s h d E : Int) : PC Try.prog 20 [(.agg (chC ⟨false, sl, true, xl, xa, xo, s, h, d⟩)), (iv E)] [] (.osl 3 0 4) [some (29, (chC ⟨false, sl, true, xl, xa, xo, s, h, d⟩)), some (65, [(PV.fn (.func 38) [] [(.opt 0 0)])]), some (65, [(PV.fn (.func 36) [] [(.opt 0 0)])]), some (51, [(PV.fn (.func 34) [] [(.opt 0 0)]), (PV.fn (.func 49) [] [(.opt 2 0)]), (PV.fn (.func 49) [] [(.opt 1 0)]), (PV.fn (.func 40) [] [(.opt 0 0)])])] := by
  refine pc_intro Try.func20 rfl (by kernel_rfl) (Nat.le_of_ble_eq_true rfl) (by kernel_rfl) (l0 := [ps 0 (.agg (chC ⟨false, sl, true, xl, xa, xo, s, h, d⟩)), ps 1 (iv E)]) rfl (fun c0 Bor hc0 => ?_)
  refine T_seq ?_
  refine T_region [] [ks 2, ks 3, kb 0, kb 8] (fun _ => mixed) (l' := [ps 2 (.opt 0 0), ps 3 (.opt 8 0), pb 0 29 (chC ⟨false, sl, true, xl, xa, xo, s, h, d⟩), pb 8 3 [(iv E)]]) (obs := []) (by kernel_rfl) (obs_nil) ?_
  refine T_seq ?_
  refine T_region [] [ks 2, ks 3, ks 5, kb 0, kb 8] (fun _ => mixed) (l' := [ps 2 (.opt 0 0), ps 3 (.opt 8 0), ps 5 (.av (.slice none 0 0)), pb 0 29 (chC ⟨false, sl, true, xl, xa, xo, s, h, d⟩), pb 8 3 [(iv E)]]) (obs := []) (by kernel_rfl) (obs_nil) ?_
  refine T_seq ?_
  refine T_seq ?_
  refine T_region [] [ks 2, ks 3, ks 5, ks 7, kb 0, kb 8] (fun _ => mixed) (l' := [ps 2 (.opt 0 0), ps 3 (.opt 8 0), ps 5 (.av (.slice none 0 0)), ps 7 (bv false), pb 0 29 (chC ⟨false, sl, true, xl, xa, xo, s, h, d⟩), pb 8 3 [(iv E)]]) (obs := []) (by kernel_rfl) (obs_nil) ?_
  refine T_else (b := false) rfl rfl ?_
  refine T_skip ?_
  refine T_seq ?_
  refine T_region [(3, .app none none)] [ks 2, ks 5, kb 0, kb 72] (fun _ => mixed) (l' := [ps 2 (.opt 0 0), ps 5 (.osl 72 0 1), pb 0 29 (chC ⟨false, sl, true, xl, xa, xo, s, h, d⟩), pb 72 51 [(PV.fn (.func 34) [] [(.opt 0 0)])]]) (obs := [(0 + 1) * 8 ≤ 140737488355328 ∧ 0 + 1 ≤ 9223372036854775807]) (by kernel_rfl) (obs_cons (by decide) (obs_nil)) ?_
  refine T_seq ?_
  refine T_seq ?_
  refine T_region [] [ks 2, ks 5, ks 17, kb 0, kb 72] (fun _ => mixed) (l' := [ps 2 (.opt 0 0), ps 5 (.osl 72 0 1), ps 17 (bv true), pb 0 29 (chC ⟨false, sl, true, xl, xa, xo, s, h, d⟩), pb 72 51 [(PV.fn (.func 34) [] [(.opt 0 0)])]]) (obs := []) (by kernel_rfl) (obs_nil) ?_
  refine T_then (b := true) rfl rfl ?_
  refine T_region [(2, .call [0] [(PV.fn (.func 36) [] [(.opt 0 0)])] [some (29, (chC ⟨false, sl, true, xl, xa, xo, s, h, d⟩))] (PV.fn (.func 49) [] [(.opt 1 0)]) [some (29, (chC ⟨false, sl, true, xl, xa, xo, s, h, d⟩)), some (65, [(PV.fn (.func 36) [] [(.opt 0 0)])])]), (4, .app none none)] [ks 2, ks 5, kb 0, kb 120, kb 136] (fun _ => mixed) (l' := [ps 2 (.opt 0 0), ps 5 (.osl 136 0 2), pb 0 29 (chC ⟨false, sl, true, xl, xa, xo, s, h, d⟩), pb 120 65 [(PV.fn (.func 36) [] [(.opt 0 0)])], pb 136 51 [(PV.fn (.func 34) [] [(.opt 0 0)]), (PV.fn (.func 49) [] [(.opt 120 0)])]]) (obs := [PC Try.prog 35 [(PV.fn (.func 36) [] [(.opt 0 0)])] [some (29, (chC ⟨false, sl, true, xl, xa, xo, s, h, d⟩))] (PV.fn (.func 49) [] [(.opt 1 0)]) [some (29, (chC ⟨false, sl, true, xl, xa, xo, s, h, d⟩)), some (65, [(PV.fn (.func 36) [] [(.opt 0 0)])])], [(PV.fn (.func 36) [] [(.opt 0 0)])] = renL (sigi [0] 120) [(PV.fn (.func 36) [] [(.opt 0 0)])], (chC ⟨false, sl, true, xl, xa, xo, s, h, d⟩) = renL (sigi [0] 120) (chC ⟨false, sl, true, xl, xa, xo, s, h, d⟩), ([(PV.fn (.func 34) [] [(.opt 0 0)])]).length = 1 * 1, (1 + 1) * 8 ≤ 140737488355328 ∧ 1 + 1 ≤ 9223372036854775807]) (by kernel_rfl) (obs_cons (moving36_pc false true sl xl xa xo s h d) (obs_cons rfl (obs_cons rfl (obs_cons rfl (obs_cons (by decide) (obs_nil)))))) ?_
  refine T_seq ?_
  refine T_region [(2, .call [0] [(PV.fn (.func 38) [] [(.opt 0 0)])] [some (29, (chC ⟨false, sl, true, xl, xa, xo, s, h, d⟩))] (PV.fn (.func 49) [] [(.opt 1 0)]) [some (29, (chC ⟨false, sl, true, xl, xa, xo, s, h, d⟩)), some (65, [(PV.fn (.func 38) [] [(.opt 0 0)])])]), (4, .app none none)] [ks 2, ks 5, kb 0, kb 120, kb 168, kb 184] (fun _ => mixed) (l' := [ps 2 (.opt 0 0), ps 5 (.osl 184 0 3), pb 0 29 (chC ⟨false, sl, true, xl, xa, xo, s, h, d⟩), pb 120 65 [(PV.fn (.func 36) [] [(.opt 0 0)])], pb 168 65 [(PV.fn (.func 38) [] [(.opt 0 0)])], pb 184 51 [(PV.fn (.func 34) [] [(.opt 0 0)]), (PV.fn (.func 49) [] [(.opt 120 0)]), (PV.fn (.func 49) [] [(.opt 168 0)])]]) (obs := [PC Try.prog 35 [(PV.fn (.func 38) [] [(.opt 0 0)])] [some (29, (chC ⟨false, sl, true, xl, xa, xo, s, h, d⟩))] (PV.fn (.func 49) [] [(.opt 1 0)]) [some (29, (chC ⟨false, sl, true, xl, xa, xo, s, h, d⟩)), some (65, [(PV.fn (.func 38) [] [(.opt 0 0)])])], [(PV.fn (.func 38) [] [(.opt 0 0)])] = renL (sigi [0] 168) [(PV.fn (.func 38) [] [(.opt 0 0)])], (chC ⟨false, sl, true, xl, xa, xo, s, h, d⟩) = renL (sigi [0] 168) (chC ⟨false, sl, true, xl, xa, xo, s, h, d⟩), ([(PV.fn (.func 34) [] [(.opt 0 0)]), (PV.fn (.func 49) [] [(.opt 120 0)])]).length = 2 * 1, (2 + 1) * 8 ≤ 140737488355328 ∧ 2 + 1 ≤ 9223372036854775807]) (by kernel_rfl) (obs_cons (moving38_pc false true sl xl xa xo s h d) (obs_cons rfl (obs_cons rfl (obs_cons rfl (obs_cons (by decide) (obs_nil)))))) ?_
  refine T_seq ?_
  refine T_region [(3, .app none none)] [ks 4, kb 0, kb 120, kb 168, kb 224] (fun _ => mixed) (l' := [ps 4 (.osl 224 0 4), pb 0 29 (chC ⟨false, sl, true, xl, xa, xo, s, h, d⟩), pb 120 65 [(PV.fn (.func 36) [] [(.opt 0 0)])], pb 168 65 [(PV.fn (.func 38) [] [(.opt 0 0)])], pb 224 51 [(PV.fn (.func 34) [] [(.opt 0 0)]), (PV.fn (.func 49) [] [(.opt 120 0)]), (PV.fn (.func 49) [] [(.opt 168 0)]), (PV.fn (.func 40) [] [(.opt 0 0)])]]) (obs := [([(PV.fn (.func 34) [] [(.opt 0 0)]), (PV.fn (.func 49) [] [(.opt 120 0)]), (PV.fn (.func 49) [] [(.opt 168 0)])]).length = 3 * 1, (3 + 1) * 8 ≤ 140737488355328 ∧ 3 + 1 ≤ 9223372036854775807]) (by kernel_rfl) (obs_cons rfl (obs_cons (by decide) (obs_nil))) ?_
  exact T_ret fun cx_ a_ hI_ => ret_ok (H' := [some (29, (chC ⟨false, sl, true, xl, xa, xo, s, h, d⟩)), some (65, [(PV.fn (.func 38) [] [(.opt 0 0)])]), some (65, [(PV.fn (.func 36) [] [(.opt 0 0)])]), some (51, [(PV.fn (.func 34) [] [(.opt 0 0)]), (PV.fn (.func 49) [] [(.opt 2 0)]), (PV.fn (.func 49) [] [(.opt 1 0)]), (PV.fn (.func 40) [] [(.opt 0 0)])])]) (.inr rfl) (Wk.ren2 [ps 4 (.osl 3 0 4), pb 0 29 (chC ⟨false, sl, true, xl, xa, xo, s, h, d⟩), pb 1 65 [(PV.fn (.func 38) [] [(.opt 0 0)])], pb 2 65 [(PV.fn (.func 36) [] [(.opt 0 0)])], pb 3 51 [(PV.fn (.func 34) [] [(.opt 0 0)]), (PV.fn (.func 49) [] [(.opt 2 0)]), (PV.fn (.func 49) [] [(.opt 1 0)]), (PV.fn (.func 40) [] [(.opt 0 0)])]] 0 hc0 [0, 168, 120, 224] rfl rfl (by kernel_rfl) (by kernel_rfl)) rfl (obs_cons rfl (obs_cons rfl (obs_cons rfl (obs_cons rfl (obs_nil))))) (fun cx_ a_ hI_ => ret_res (l' := [ps 4 (.osl 3 0 4), pb 0 29 (chC ⟨false, sl, true, xl, xa, xo, s, h, d⟩), pb 1 65 [(PV.fn (.func 38) [] [(.opt 0 0)])], pb 2 65 [(PV.fn (.func 36) [] [(.opt 0 0)])], pb 3 51 [(PV.fn (.func 34) [] [(.opt 0 0)]), (PV.fn (.func 49) [] [(.opt 2 0)]), (PV.fn (.func 49) [] [(.opt 1 0)]), (PV.fn (.func 40) [] [(.opt 0 0)])]]) (by kernel_rfl) cx_ a_ hI_) hI_
set_option maxRecDepth 100000 in
set_option maxHeartbeats 4000000 in
theorem steps_10 (sl xl xa xo s h d E : Int) : PC Try.prog 20 [(.agg (chC ⟨true, sl, false, xl, xa, xo, s, h, d⟩)), (iv E)] [] (.osl 3 0 4) [some (29, (chC ⟨true, sl, false, xl, xa, xo, s, h, d⟩)), some (65, [(PV.fn (.func 38) [] [(.opt 0 0)])]), some (3, [(iv E)]), some (51, [(PV.fn (.func 33) [] [(.opt 2 0)]), (PV.fn (.func 34) [] [(.opt 0 0)]), (PV.fn (.func 49) [] [(.opt 1 0)]), (PV.fn (.func 40) [] [(.opt 0 0)])])] := by
  refine pc_intro Try.func20 rfl (by kernel_rfl) (Nat.le_of_ble_eq_true rfl) (by kernel_rfl) (l0 := [ps 0 (.agg (chC ⟨true, sl, false, xl, xa, xo, s, h, d⟩)), ps 1 (iv E)]) rfl (fun c0 Bor hc0 => ?_)
  refine T_seq ?_
  refine T_region [] [ks 2, ks 3, kb 0, kb 8] (fun _ => mixed) (l' := [ps 2 (.opt 0 0), ps 3 (.opt 8 0), pb 0 29 (chC ⟨true, sl, false, xl, xa, xo, s, h, d⟩), pb 8 3 [(iv E)]]) (obs := []) (by kernel_rfl) (obs_nil) ?_
  refine T_seq ?_
  refine T_region [] [ks 2, ks 3, ks 5, kb 0, kb 8] (fun _ => mixed) (l' := [ps 2 (.opt 0 0), ps 3 (.opt 8 0), ps 5 (.av (.slice none 0 0)), pb 0 29 (chC ⟨true, sl, false, xl, xa, xo, s, h, d⟩), pb 8 3 [(iv E)]]) (obs := []) (by kernel_rfl) (obs_nil) ?_
  refine T_seq ?_
  refine T_seq ?_
  refine T_region [] [ks 2, ks 3, ks 5, ks 7, kb 0, kb 8] (fun _ => mixed) (l' := [ps 2 (.opt 0 0), ps 3 (.opt 8 0), ps 5 (.av (.slice none 0 0)), ps 7 (bv true), pb 0 29 (chC ⟨true, sl, false, xl, xa, xo, s, h, d⟩), pb 8 3 [(iv E)]]) (obs := []) (by kernel_rfl) (obs_nil) ?_
  refine T_then (b := true) rfl rfl ?_
  refine T_region [(3, .app none none)] [ks 2, ks 5, kb 0, kb 8, kb 72] (fun _ => mixed) (l' := [ps 2 (.opt 0 0), ps 5 (.osl 72 0 1), pb 0 29 (chC ⟨true, sl, false, xl, xa, xo, s, h, d⟩), pb 8 3 [(iv E)], pb 72 51 [(PV.fn (.func 33) [] [(.opt 8 0)])]]) (obs := [(0 + 1) * 8 ≤ 140737488355328 ∧ 0 + 1 ≤ 9223372036854775807]) (by kernel_rfl) (obs_cons (by decide) (obs_nil)) ?_
  refine T_seq ?_
  refine T_region [(3, .app none none)] [ks 2, ks 5, kb 0, kb 8, kb 112] (fun _ => mixed) (l' := [ps 2 (.opt 0 0), ps 5 (.osl 112 0 2), pb 0 29 (chC ⟨true, sl, false, xl, xa, xo, s, h, d⟩), pb 8 3 [(iv E)], pb 112 51 [(PV.fn (.func 33) [] [(.opt 8 0)]), (PV.fn (.func 34) [] [(.opt 0 0)])]]) (obs := [([(PV.fn (.func 33) [] [(.opt 8 0)])]).length = 1 * 1, (1 + 1) * 8 ≤ 140737488355328 ∧ 1 + 1 ≤ 9223372036854775807]) (by kernel_rfl) (obs_cons rfl (obs_cons (by decide) (obs_nil))) ?_
  refine T_seq ?_
  refine T_seq ?_
  refine T_region [] [ks 2, ks 5, ks 17, kb 0, kb 8, kb 112] (fun _ => mixed) (l' := [ps 2 (.opt 0 0), ps 5 (.osl 112 0 2), ps 17 (bv false), pb 0 29 (chC ⟨true, sl, false, xl, xa, xo, s, h, d⟩), pb 8 3 [(iv E)], pb 112 51 [(PV.fn (.func 33) [] [(.opt 8 0)]), (PV.fn (.func 34) [] [(.opt 0 0)])]]) (obs := []) (by kernel_rfl) (obs_nil) ?_
  refine T_else (b := false) rfl rfl ?_
  refine T_skip ?_
  refine T_seq ?_
  refine T_region [(2, .call [0] [(PV.fn (.func 38) [] [(.opt 0 0)])] [some (29, (chC ⟨true, sl, false, xl, xa, xo, s, h, d⟩))] (PV.fn (.func 49) [] [(.opt 1 0)]) [some (29, (chC ⟨true, sl, false, xl, xa, xo, s, h, d⟩)), some (65, [(PV.fn (.func 38) [] [(.opt 0 0)])])]), (4, .app none none)] [ks 2, ks 5, kb 0, kb 8, kb 160, kb 176] (fun _ => mixed) (l' := [ps 2 (.opt 0 0), ps 5 (.osl 176 0 3), pb 0 29 (chC ⟨true, sl, false, xl, xa, xo, s, h, d⟩), pb 8 3 [(iv E)], pb 160 65 [(PV.fn (.func 38) [] [(.opt 0 0)])], pb 176 51 [(PV.fn (.func 33) [] [(.opt 8 0)]), (PV.fn (.func 34) [] [(.opt 0 0)]), (PV.fn (.func 49) [] [(.opt 160 0)])]]) (obs := [PC Try.prog 35 [(PV.fn (.func 38) [] [(.opt 0 0)])] [some (29, (chC ⟨true, sl, false, xl, xa, xo, s, h, d⟩))] (PV.fn (.func 49) [] [(.opt 1 0)]) [some (29, (chC ⟨true, sl, false, xl, xa, xo, s, h, d⟩)), some (65, [(PV.fn (.func 38) [] [(.opt 0 0)])])], [(PV.fn (.func 38) [] [(.opt 0 0)])] = renL (sigi [0] 160) [(PV.fn (.func 38) [] [(.opt 0 0)])], (chC ⟨true, sl, false, xl, xa, xo, s, h, d⟩) = renL (sigi [0] 160) (chC ⟨true, sl, false, xl, xa, xo, s, h, d⟩), ([(PV.fn (.func 33) [] [(.opt 8 0)]), (PV.fn (.func 34) [] [(.opt 0 0)])]).length = 2 * 1, (2 + 1) * 8 ≤ 140737488355328 ∧ 2 + 1 ≤ 9223372036854775807]) (by kernel_rfl) (obs_cons (moving38_pc true false sl xl xa xo s h d) (obs_cons rfl (obs_cons rfl (obs_cons rfl (obs_cons (by decide) (obs_nil)))))) ?_
  refine T_seq ?_
  refine T_region [(3, .app none none)] [ks 4, kb 0, kb 8, kb 160, kb 216] (fun _ => mixed) (l' := [ps 4 (.osl 216 0 4), pb 0 29 (chC ⟨true, sl, false, xl, xa, xo, s, h, d⟩), pb 8 3 [(iv E)], pb 160 65 [(PV.fn (.func 38) [] [(.opt 0 0)])], pb 216 51 [(PV.fn (.func 33) [] [(.opt 8 0)]), (PV.fn (.func 34) [] [(.opt 0 0)]), (PV.fn (.func 49) [] [(.opt 160 0)]), (PV.fn (.func 40) [] [(.opt 0 0)])]]) (obs := [([(PV.fn (.func 33) [] [(.opt 8 0)]), (PV.fn (.func 34) [] [(.opt 0 0)]), (PV.fn (.func 49) [] [(.opt 160 0)])]).length = 3 * 1, (3 + 1) * 8 ≤ 140737488355328 ∧ 3 + 1 ≤ 9223372036854775807]) (by kernel_rfl) (obs_cons rfl (obs_cons (by decide) (obs_nil))) ?_
  exact T_ret fun cx_ a_ hI_ => ret_ok (H' := [some (29, (chC ⟨true, sl, false, xl, xa, xo, s, h, d⟩)), some (65, [(PV.fn (.func 38) [] [(.opt 0 0)])]), some (3, [(iv E)]), some (51, [(PV.fn (.func 33) [] [(.opt 2 0)]), (PV.fn (.func 34) [] [(.opt 0 0)]), (PV.fn (.func 49) [] [(.opt 1 0)]), (PV.fn (.func 40) [] [(.opt 0 0)])])]) (.inr rfl) (Wk.ren2 [ps 4 (.osl 3 0 4), pb 0 29 (chC ⟨true, sl, false, xl, xa, xo, s, h, d⟩), pb 1 65 [(PV.fn (.func 38) [] [(.opt 0 0)])], pb 2 3 [(iv E)], pb 3 51 [(PV.fn (.func 33) [] [(.opt 2 0)]), (PV.fn (.func 34) [] [(.opt 0 0)]), (PV.fn (.func 49) [] [(.opt 1 0)]), (PV.fn (.func 40) [] [(.opt 0 0)])]] 0 hc0 [0, 160, 8, 216] rfl rfl (by kernel_rfl) (by kernel_rfl)) rfl (obs_cons rfl (obs_cons rfl (obs_cons rfl (obs_cons rfl (obs_nil))))) (fun cx_ a_ hI_ => ret_res (l' := [ps 4 (.osl 3 0 4), pb 0 29 (chC ⟨true, sl, false, xl, xa, xo, s, h, d⟩), pb 1 65 [(PV.fn (.func 38) [] [(.opt 0 0)])], pb 2 3 [(iv E)], pb 3 51 [(PV.fn (.func 33) [] [(.opt 2 0)]), (PV.fn (.func 34) [] [(.opt 0 0)]), (PV.fn (.func 49) [] [(.opt 1 0)]), (PV.fn (.func 40) [] [(.opt 0 0)])]]) (by kernel_rfl) cx_ a_ hI_) hI_
set_option maxRecDepth 100000 in
set_option maxHeartbeats 4000000 in
theorem steps_11 (sl xl xa xo s h d E : Int) : PC Try.prog 20 [(.agg (chC ⟨true, sl, true, xl, xa, xo, s, h, d⟩)), (iv E)] [] (.osl 4 0 5) [some (29, (chC ⟨true, sl, true, xl, xa, xo, s, h, d⟩)), some (65, [(PV.fn (.func 38) [] [(.opt 0 0)])]), some (65, [(PV.fn (.func 36) [] [(.opt 0 0)])]), some (3, [(iv E)]), some (51, [(PV.fn (.func 33) [] [(.opt 3 0)]), (PV.fn (.func 34) [] [(.opt 0 0)]), (PV.fn (.func 49) [] [(.opt 2 0)]), (PV.fn (.func 49) [] [(.opt 1 0)]), (PV.fn (.func 40) [] [(.opt 0 0)])])] := by
  refine pc_intro Try.func20 rfl (by kernel_rfl) (Nat.le_of_ble_eq_true rfl) (by kernel_rfl) (l0 := [ps 0 (.agg (chC ⟨true, sl, true, xl, xa, xo, s, h, d⟩)), ps 1 (iv E)]) rfl (fun c0 Bor hc0 => ?_)
  refine T_seq ?_
  refine T_region [] [ks 2, ks 3, kb 0, kb 8] (fun _ => mixed) (l' := [ps 2 (.opt 0 0), ps 3 (.opt 8 0), pb 0 29 (chC ⟨true, sl, true, xl, xa, xo, s, h, d⟩), pb 8 3 [(iv E)]]) (obs := []) (by kernel_rfl) (obs_nil) ?_
  refine T_seq ?_
  refine T_region [] [ks 2, ks 3, ks 5, kb 0, kb 8] (fun _ => mixed) (l' := [ps 2 (.opt 0 0), ps 3 (.opt 8 0), ps 5 (.av (.slice none 0 0)), pb 0 29 (chC ⟨true, sl, true, xl, xa, xo, s, h, d⟩), pb 8 3 [(iv E)]]) (obs := []) (by kernel_rfl) (obs_nil) ?_
  refine T_seq ?_
  refine T_seq ?_
  refine T_region [] [ks 2, ks 3, ks 5, ks 7, kb 0, kb 8] (fun _ => mixed) (l' := [ps 2 (.opt 0 0), ps 3 (.opt 8 0), ps 5 (.av (.slice none 0 0)), ps 7 (bv true), pb 0 29 (chC ⟨true, sl, true, xl, xa, xo, s, h, d⟩), pb 8 3 [(iv E)]]) (obs := []) (by kernel_rfl) (obs_nil) ?_
  refine T_then (b := true) rfl rfl ?_
  refine T_region [(3, .app none none)] [ks 2, ks 5, kb 0, kb 8, kb 72] (fun _ => mixed) (l' := [ps 2 (.opt 0 0), ps 5 (.osl 72 0 1), pb 0 29 (chC ⟨true, sl, true, xl, xa, xo, s, h, d⟩), pb 8 3 [(iv E)], pb 72 51 [(PV.fn (.func 33) [] [(.opt 8 0)])]]) (obs := [(0 + 1) * 8 ≤ 140737488355328 ∧ 0 + 1 ≤ 9223372036854775807]) (by kernel_rfl) (obs_cons (by decide) (obs_nil)) ?_
  refine T_seq ?_
  refine T_region [(3, .app none none)] [ks 2, ks 5, kb 0, kb 8, kb 112] (fun _ => mixed) (l' := [ps 2 (.opt 0 0), ps 5 (.osl 112 0 2), pb 0 29 (chC ⟨true, sl, true, xl, xa, xo, s, h, d⟩), pb 8 3 [(iv E)], pb 112 51 [(PV.fn (.func 33) [] [(.opt 8 0)]), (PV.fn (.func 34) [] [(.opt 0 0)])]]) (obs := [([(PV.fn (.func 33) [] [(.opt 8 0)])]).length = 1 * 1, (1 + 1) * 8 ≤ 140737488355328 ∧ 1 + 1 ≤ 9223372036854775807]) (by kernel_rfl) (obs_cons rfl (obs_cons (by decide) (obs_nil))) ?_
  refine T_seq ?_
  refine T_seq ?_
  refine T_region [] [ks 2, ks 5, ks 17, kb 0, kb 8, kb 112] (fun _ => mixed) (l' := [ps 2 (.opt 0 0), ps 5 (.osl 112 0 2), ps 17 (bv true), pb 0 29 (chC ⟨true, sl, true, xl, xa, xo, s, h, d⟩), pb 8 3 [(iv E)], pb 112 51 [(PV.fn (.func 33) [] [(.opt 8 0)]), (PV.fn (.func 34) [] [(.opt 0 0)])]]) (obs := []) (by kernel_rfl) (obs_nil) ?_
  refine T_then (b := true) rfl rfl ?_
  refine T_region [(2, .call [0] [(PV.fn (.func 36) [] [(.opt 0 0)])] [some (29, (chC ⟨true, sl, true, xl, xa, xo, s, h, d⟩))] (PV.fn (.func 49) [] [(.opt 1 0)]) [some (29, (chC ⟨true, sl, true, xl, xa, xo, s, h, d⟩)), some (65, [(PV.fn (.func 36) [] [(.opt 0 0)])])]), (4, .app none none)] [ks 2, ks 5, kb 0, kb 8, kb 160, kb 176] (fun _ => mixed) (l' := [ps 2 (.opt 0 0), ps 5 (.osl 176 0 3), pb 0 29 (chC ⟨true, sl, true, xl, xa, xo, s, h, d⟩), pb 8 3 [(iv E)], pb 160 65 [(PV.fn (.func 36) [] [(.opt 0 0)])], pb 176 51 [(PV.fn (.func 33) [] [(.opt 8 0)]), (PV.fn (.func 34) [] [(.opt 0 0)]), (PV.fn (.func 49) [] [(.opt 160 0)])]]) (obs := [PC Try.prog 35 [(PV.fn (.func 36) [] [(.opt 0 0)])] [some (29, (chC ⟨true, sl, true, xl, xa, xo, s, h, d⟩))] (PV.fn (.func 49) [] [(.opt 1 0)]) [some (29, (chC ⟨true, sl, true, xl, xa, xo, s, h, d⟩)), some (65, [(PV.fn (.func 36) [] [(.opt 0 0)])])], [(PV.fn (.func 36) [] [(.opt 0 0)])] = renL (sigi [0] 160) [(PV.fn (.func 36) [] [(.opt 0 0)])], (chC ⟨true, sl, true, xl, xa, xo, s, h, d⟩) = renL (sigi [0] 160) (chC ⟨true, sl, true, xl, xa, xo, s, h, d⟩), ([(PV.fn (.func 33) [] [(.opt 8 0)]), (PV.fn (.func 34) [] [(.opt 0 0)])]).length = 2 * 1, (2 + 1) * 8 ≤ 140737488355328 ∧ 2 + 1 ≤ 9223372036854775807]) (by kernel_rfl) (obs_cons (moving36_pc true true sl xl xa xo s h d) (obs_cons rfl (obs_cons rfl (obs_cons rfl (obs_cons (by decide) (obs_nil)))))) ?_
  refine T_seq ?_
  refine T_region [(2, .call [0] [(PV.fn (.func 38) [] [(.opt 0 0)])] [some (29, (chC ⟨true, sl, true, xl, xa, xo, s, h, d⟩))] (PV.fn (.func 49) [] [(.opt 1 0)]) [some (29, (chC ⟨true, sl, true, xl, xa, xo, s, h, d⟩)), some (65, [(PV.fn (.func 38) [] [(.opt 0 0)])])]), (4, .app none none)] [ks 2, ks 5, kb 0, kb 8, kb 160, kb 208, kb 224] (fun _ => mixed) (l' := [ps 2 (.opt 0 0), ps 5 (.osl 224 0 4), pb 0 29 (chC ⟨true, sl, true, xl, xa, xo, s, h, d⟩), pb 8 3 [(iv E)], pb 160 65 [(PV.fn (.func 36) [] [(.opt 0 0)])], pb 208 65 [(PV.fn (.func 38) [] [(.opt 0 0)])], pb 224 51 [(PV.fn (.func 33) [] [(.opt 8 0)]), (PV.fn (.func 34) [] [(.opt 0 0)]), (PV.fn (.func 49) [] [(.opt 160 0)]), (PV.fn (.func 49) [] [(.opt 208 0)])]]) (obs := [PC Try.prog 35 [(PV.fn (.func 38) [] [(.opt 0 0)])] [some (29, (chC ⟨true, sl, true, xl, xa, xo, s, h, d⟩))] (PV.fn (.func 49) [] [(.opt 1 0)]) [some (29, (chC ⟨true, sl, true, xl, xa, xo, s, h, d⟩)), some (65, [(PV.fn (.func 38) [] [(.opt 0 0)])])], [(PV.fn (.func 38) [] [(.opt 0 0)])] = renL (sigi [0] 208) [(PV.fn (.func 38) [] [(.opt 0 0)])], (chC ⟨true, sl, true, xl, xa, xo, s, h, d⟩) = renL (sigi [0] 208) (chC ⟨true, sl, true, xl, xa, xo, s, h, d⟩), ([(PV.fn (.func 33) [] [(.opt 8 0)]), (PV.fn (.func 34) [] [(.opt 0 0)]), (PV.fn (.func 49) [] [(.opt 160 0)])]).length = 3 * 1, (3 + 1) * 8 ≤ 140737488355328 ∧ 3 + 1 ≤ 9223372036854775807]) (by kernel_rfl) (obs_cons (moving38_pc true true sl xl xa xo s h d) (obs_cons rfl (obs_cons rfl (obs_cons rfl (obs_cons (by decide) (obs_nil)))))) ?_
  refine T_seq ?_
  refine T_region [(3, .app none none)] [ks 4, kb 0, kb 8, kb 160, kb 208, kb 264] (fun _ => mixed) (l' := [ps 4 (.osl 264 0 5), pb 0 29 (chC ⟨true, sl, true, xl, xa, xo, s, h, d⟩), pb 8 3 [(iv E)], pb 160 65 [(PV.fn (.func 36) [] [(.opt 0 0)])], pb 208 65 [(PV.fn (.func 38) [] [(.opt 0 0)])], pb 264 51 [(PV.fn (.func 33) [] [(.opt 8 0)]), (PV.fn (.func 34) [] [(.opt 0 0)]), (PV.fn (.func 49) [] [(.opt 160 0)]), (PV.fn (.func 49) [] [(.opt 208 0)]), (PV.fn (.func 40) [] [(.opt 0 0)])]]) (obs := [([(PV.fn (.func 33) [] [(.opt 8 0)]), (PV.fn (.func 34) [] [(.opt 0 0)]), (PV.fn (.func 49) [] [(.opt 160 0)]), (PV.fn (.func 49) [] [(.opt 208 0)])]).length = 4 * 1, (4 + 1) * 8 ≤ 140737488355328 ∧ 4 + 1 ≤ 9223372036854775807]) (by kernel_rfl) (obs_cons rfl (obs_cons (by decide) (obs_nil))) ?_
  exact T_ret fun cx_ a_ hI_ => ret_ok (H' := [some (29, (chC ⟨true, sl, true, xl, xa, xo, s, h, d⟩)), some (65, [(PV.fn (.func 38) [] [(.opt 0 0)])]), some (65, [(PV.fn (.func 36) [] [(.opt 0 0)])]), some (3, [(iv E)]), some (51, [(PV.fn (.func 33) [] [(.opt 3 0)]), (PV.fn (.func 34) [] [(.opt 0 0)]), (PV.fn (.func 49) [] [(.opt 2 0)]), (PV.fn (.func 49) [] [(.opt 1 0)]), (PV.fn (.func 40) [] [(.opt 0 0)])])]) (.inr rfl) (Wk.ren2 [ps 4 (.osl 4 0 5), pb 0 29 (chC ⟨true, sl, true, xl, xa, xo, s, h, d⟩), pb 1 65 [(PV.fn (.func 38) [] [(.opt 0 0)])], pb 2 65 [(PV.fn (.func 36) [] [(.opt 0 0)])], pb 3 3 [(iv E)], pb 4 51 [(PV.fn (.func 33) [] [(.opt 3 0)]), (PV.fn (.func 34) [] [(.opt 0 0)]), (PV.fn (.func 49) [] [(.opt 2 0)]), (PV.fn (.func 49) [] [(.opt 1 0)]), (PV.fn (.func 40) [] [(.opt 0 0)])]] 0 hc0 [0, 208, 160, 8, 264] rfl rfl (by kernel_rfl) (by kernel_rfl)) rfl (obs_cons rfl (obs_cons rfl (obs_cons rfl (obs_cons rfl (obs_cons rfl (obs_nil)))))) (fun cx_ a_ hI_ => ret_res (l' := [ps 4 (.osl 4 0 5), pb 0 29 (chC ⟨true, sl, true, xl, xa, xo, s, h, d⟩), pb 1 65 [(PV.fn (.func 38) [] [(.opt 0 0)])], pb 2 65 [(PV.fn (.func 36) [] [(.opt 0 0)])], pb 3 3 [(iv E)], pb 4 51 [(PV.fn (.func 33) [] [(.opt 3 0)]), (PV.fn (.func 34) [] [(.opt 0 0)]), (PV.fn (.func 49) [] [(.opt 2 0)]), (PV.fn (.func 49) [] [(.opt 1 0)]), (PV.fn (.func 40) [] [(.opt 0 0)])]]) (by kernel_rfl) cx_ a_ hI_) hI_
end Go.Proofs.Ytjdblogapkbefaa.Pm
namespace Go.Proofs.Ytjdblogapkbefaa.Pm
open Go Go.Proofs.Ytjdblogapkbefaa.Pi

/-- What a change does to a pitch. -/
def ptc (c : Chg) (l a o : Int) : Int × Int × Int × Int :=
  if c.mi = true then (if (Pi.mirror l a o c.xl c.xa c.xo).2.2.2 = 0 then Pi.move (Pi.mirror l a o c.xl c.xa c.xo).1 (Pi.mirror l a o c.xl c.xa c.xo).2.1 (Pi.mirror l a o c.xl c.xa c.xo).2.2.1 c.s c.h else (0, 0, 0, (Pi.mirror l a o c.xl c.xa c.xo).2.2.2))
  else Pi.move l a o c.s c.h
abbrev ptcT (c : Chg) (t : Tn) : Int × Int × Int × Int := ptc c t.2.2.1 t.2.2.2.1 t.2.2.2.2
/-- What a change does to a time. -/
def timA (c : Chg) (E : Int) (t : Tn) : Int := (if c.bk = true then E - t.1 - t.2.1 else t.1) * c.sl + c.d
def timL (c : Chg) (t : Tn) : Int := t.2.1 * c.sl
theorem chT_def (c : Chg) (E : Int) (t : Tn) : chT c E t = if (ptcT c t).2.2.2 = 0 then (if 1048576 < timA c E t ∨ 1048576 < timL c t then (dT, 4) else ((timA c E t, timL c t, (ptcT c t).1, (ptcT c t).2.1, (ptcT c t).2.2.1), 0)) else (dT, (ptcT c t).2.2.2) := by
  obtain ⟨bk, sl, mi, xl, xa, xo, s, h, d⟩ := c
  cases bk <;> cases mi <;> simp only [chT, fsOf, runF, ptcT, ptc, timA, timL, f1, f2, f3, f4, f5, fp, if_true, Bool.false_eq_true, if_false, List.nil_append, List.cons_append]
  · by_cases h1 : (Pi.move t.2.2.1 t.2.2.2.1 t.2.2.2.2 s h).2.2.2 = 0
    · simp only [h1, if_true]
      by_cases h2 : 1048576 < t.1 * sl + d ∨ 1048576 < t.2.1 * sl
      · simp [h2]
      · simp [h2]
    · simp [h1]
  · by_cases h0 : (Pi.mirror t.2.2.1 t.2.2.2.1 t.2.2.2.2 xl xa xo).2.2.2 = 0
    · simp only [h0, if_true]
      by_cases h1 : (Pi.move (Pi.mirror t.2.2.1 t.2.2.2.1 t.2.2.2.2 xl xa xo).1 (Pi.mirror t.2.2.1 t.2.2.2.1 t.2.2.2.2 xl xa xo).2.1 (Pi.mirror t.2.2.1 t.2.2.2.1 t.2.2.2.2 xl xa xo).2.2.1 s h).2.2.2 = 0
      · simp only [h1, if_true]
        by_cases h2 : 1048576 < t.1 * sl + d ∨ 1048576 < t.2.1 * sl
        · simp [h2]
        · simp [h2]
      · simp [h1]
    · simp [h0]
  · by_cases h1 : (Pi.move t.2.2.1 t.2.2.2.1 t.2.2.2.2 s h).2.2.2 = 0
    · simp only [h1, if_true]
      by_cases h2 : 1048576 < (E - t.1 - t.2.1) * sl + d ∨ 1048576 < t.2.1 * sl
      · simp [h2]
      · simp [h2]
    · simp [h1]
  · by_cases h0 : (Pi.mirror t.2.2.1 t.2.2.2.1 t.2.2.2.2 xl xa xo).2.2.2 = 0
    · simp only [h0, if_true]
      by_cases h1 : (Pi.move (Pi.mirror t.2.2.1 t.2.2.2.1 t.2.2.2.2 xl xa xo).1 (Pi.mirror t.2.2.1 t.2.2.2.1 t.2.2.2.2 xl xa xo).2.1 (Pi.mirror t.2.2.1 t.2.2.2.1 t.2.2.2.2 xl xa xo).2.2.1 s h).2.2.2 = 0
      · simp only [h1, if_true]
        by_cases h2 : 1048576 < (E - t.1 - t.2.1) * sl + d ∨ 1048576 < t.2.1 * sl
        · simp [h2]
        · simp [h2]
      · simp [h1]
    · simp [h0]
theorem endN_mono {l : List Tn} {n m : Nat} (h : n ≤ m) : endN l n ≤ endN l m := by
  induction m with
  | zero => rw [show n = 0 from by omega]; exact Int.le_refl _
  | succ m ih =>
    rcases Nat.lt_or_ge n (m + 1) with g | g
    · exact Int.le_trans (ih (by omega)) (by simp only [endN]; omega)
    · rw [show n = m + 1 from by omega]; exact Int.le_refl _
theorem endS_ge {l : List Tn} {t : Tn} (h : t ∈ l) : t.1 + t.2.1 ≤ endS l := by
  obtain ⟨i, hi, rfl⟩ := List.mem_iff_getElem.1 h
  have h1 := endN_mono (l := l) (show i + 1 ≤ l.length from hi)
  have h2 : (l.getD i dT).1 + (l.getD i dT).2.1 ≤ endN l (i + 1) := by simp only [endN]; omega
  rw [gd_eq _ _ hi] at h2
  exact Int.le_trans h2 h1
theorem ptc_right {c : Chg} {l a o : Int} (h : (ptc c l a o).2.2.2 = 0) : rightB (ptc c l a o).1 (ptc c l a o).2.1 (ptc c l a o).2.2.1 = true := by
  unfold ptc at *
  by_cases h0 : c.mi = true
  · rw [if_pos h0] at *
    by_cases h1 : (Pi.mirror l a o c.xl c.xa c.xo).2.2.2 = 0
    · rw [if_pos h1] at *; exact move_right _ _ _ _ _
    · rw [if_neg h1] at h; exact absurd h h1
  · rw [if_neg h0] at *; exact move_right _ _ _ _ _
/-- What a change that is told makes of a tone of a right line is a right tone. -/
theorem chT_ok {c : Chg} {E : Int} {t : Tn} (h : (chT c E t).2 = 0) : (ptcT c t).2.2.2 = 0 ∧ timA c E t ≤ 1048576 ∧ timL c t ≤ 1048576 ∧ (chT c E t).1 = (timA c E t, timL c t, (ptcT c t).1, (ptcT c t).2.1, (ptcT c t).2.2.1) := by
  rw [chT_def] at *
  by_cases h1 : (ptcT c t).2.2.2 = 0
  · rw [if_pos h1] at *
    by_cases h2 : 1048576 < timA c E t ∨ 1048576 < timL c t
    · rw [if_pos h2] at h; exact absurd h (by show ¬ (4 : Int) = 0; decide)
    · rw [if_neg h2]; exact ⟨h1, by omega, by omega, rfl⟩
  · rw [if_neg h1] at h; exact absurd h h1
theorem chT_of {c : Chg} {E : Int} {t : Tn} (h1 : (ptcT c t).2.2.2 = 0) (h2 : timA c E t ≤ 1048576) (h3 : timL c t ≤ 1048576) : chT c E t = ((timA c E t, timL c t, (ptcT c t).1, (ptcT c t).2.1, (ptcT c t).2.2.1), 0) := by
  rw [chT_def, if_pos h1, if_neg (by omega)]
theorem chT_ptc {c : Chg} {E : Int} {t : Tn} (h : ¬ (ptcT c t).2.2.2 = 0) : (chT c E t).2 = (ptcT c t).2.2.2 := by rw [chT_def, if_neg h]
theorem chT_late {c : Chg} {E : Int} {t : Tn} (h : (ptcT c t).2.2.2 = 0) (k : 1048576 < timA c E t ∨ 1048576 < timL c t) : (chT c E t).2 = 4 := by rw [chT_def, if_pos h, if_pos k]
theorem mul_nn {a b : Int} (h1 : 0 ≤ a) (h3 : 1 ≤ b) : 0 ≤ a * b := Int.mul_nonneg h1 (by omega)
theorem mul_pos' {a b : Int} (h1 : 1 ≤ a) (h3 : 1 ≤ b) : 1 ≤ a * b := by
  have := Int.mul_le_mul h1 h3 (by decide) (by omega)
  omega
theorem chT_tok {c : Chg} {l : List Tn} {t : Tn} (hl : LOk l) (ht : t ∈ l) (hc : ¬ chBad c) (h : (chT c (endS l) t).2 = 0) : TOk (chT c (endS l) t).1 := by
  obtain ⟨h1, h2, h3, h4⟩ := chT_ok h
  have k := hl.t t ht
  have e := endS_ge ht
  have k1 := k.a0; have k2 := k.l0
  unfold chBad at hc
  rw [h4]
  refine ⟨?_, h2, ?_, h3, ?_⟩
  · show 0 ≤ timA c (endS l) t
    unfold timA
    have : 0 ≤ (if c.bk = true then endS l - t.1 - t.2.1 else t.1) * c.sl := mul_nn (by split <;> omega) (by omega)
    omega
  · show 1 ≤ timL c t
    unfold timL
    exact mul_pos' k2 (by omega)
  · show rightB _ _ _ = true
    exact ptc_right h1
theorem map_bd {c : Chg} {l : List Tn} (hl : LOk l) (hc : ¬ chBad c) (hf : fstE (fun i => (chT c (endS l) (l.getD i dT)).2) l.length = 0) : ∀ x ∈ l.map (fun t => (chT c (endS l) t).1), TOk x := by
  intro x hx
  obtain ⟨t, ht, rfl⟩ := List.mem_map.1 hx
  refine chT_tok hl ht hc ?_
  obtain ⟨i, hi, rfl⟩ := List.mem_iff_getElem.1 ht
  have := fstE_none hf hi
  simp only [gd_eq _ _ hi] at this
  exact this
theorem far_of {t : Tn} (h : TOk t) {n : Int} (hn : 1048576 ≤ n) : Far t n := by
  have := h.a0; have := h.a1; have := h.l0; have := h.l1
  unfold Far; omega
theorem far_f1 {E : Int} {t : Tn} (hE : 0 ≤ E ∧ E ≤ 2097152) (h : Far t 1048576) : Far (f1 E t).1 4194304 := by
  unfold Far at *
  show (-4194304 ≤ E - t.1 - t.2.1 ∧ E - t.1 - t.2.1 ≤ 4194304) ∧ (-4194304 ≤ t.2.1 ∧ t.2.1 ≤ 4194304)
  omega
theorem far_f2 {sl : Int} {t : Tn} (hs : 1 ≤ sl ∧ sl ≤ 16) (h : Far t 4194304) : Far (f2 sl t).1 67108864 :=
  ⟨mul_bd h.1.1 h.1.2 hs.1 hs.2, mul_bd h.2.1 h.2.2 hs.1 hs.2⟩
theorem far_fp {m : Int × Int × Int × Int} {t : Tn} {n : Int} (h : Far t n) : Far (fp m t).1 n := h
theorem far_f5 {d : Int} {t : Tn} (hd : 0 ≤ d ∧ d ≤ 1048576) (h : Far t 67108864) : Far (f5 d t).1 134217728 := by
  unfold Far at *
  show (-134217728 ≤ t.1 + d ∧ t.1 + d ≤ 134217728) ∧ (-134217728 ≤ t.2.1 ∧ t.2.1 ≤ 134217728)
  omega
theorem far_more {t : Tn} {n m : Int} (h : Far t n) (k : n ≤ m) : Far t m := by unfold Far at *; omega

end Go.Proofs.Ytjdblogapkbefaa.Pm
namespace Go.Proofs.Ytjdblogapkbefaa.Pm
open Go Go.Proofs.Ytjdblogapkbefaa.Pi

set_option maxRecDepth 100000 in
set_option maxHeartbeats 4000000 in
theorem apply_00 (sl xl xa xo s h d : Int) (l : List Tn) (is : I64 s) (ih : I64 h) : PC Try.prog 8 [(.agg (chC ⟨false, sl, false, xl, xa, xo, s, h, d⟩)), (.ssl (tns l) 0 l.length)] [] (chgP ⟨false, sl, false, xl, xa, xo, s, h, d⟩ l) [] := by
  refine pc_intro Try.func8 rfl (by kernel_rfl) (Nat.le_of_ble_eq_true rfl) (by kernel_rfl) (l0 := [ps 0 (.agg (chC ⟨false, sl, false, xl, xa, xo, s, h, d⟩)), ps 1 (.ssl (tns l) 0 l.length)]) rfl (fun c0 Bor hc0 => ?_)
  refine T_seq ?_
  refine T_region [] [ks 1, ks 2, kb 0] (fun _ => mixed) (l' := [ps 1 (.ssl (tns l) 0 l.length), ps 2 (.opt 0 0), pb 0 29 (chC ⟨false, sl, false, xl, xa, xo, s, h, d⟩)]) (obs := []) (by kernel_rfl) (obs_nil) ?_
  refine T_seq ?_
  refine T_seq ?_
  refine T_region [(1, .call [] [(.ssl (tns l) 0 l.length)] [] (iv (wrongS l)) [])] [ks 1, ks 2, ks 6, kb 0] (fun _ => mixed) (l' := [ps 1 (.ssl (tns l) 0 l.length), ps 2 (.opt 0 0), ps 6 (iv (wrongS l)), pb 0 29 (chC ⟨false, sl, false, xl, xa, xo, s, h, d⟩)]) (obs := [PC Try.prog 10 [(.ssl (tns l) 0 l.length)] [] (iv (wrongS l)) [], [(.ssl (tns l) 0 l.length)] = renL (sigi [] 32) [(.ssl (tns l) 0 l.length)]]) (by kernel_rfl) (obs_cons (wrong_pc l) (obs_cons rfl (obs_nil))) ?_
  refine T_seq ?_
  refine T_region [] [ks 1, ks 2, ks 6, ks 17, kb 0] (fun _ => mixed) (l' := [ps 1 (.ssl (tns l) 0 l.length), ps 2 (.opt 0 0), ps 6 (iv (wrongS l)), ps 17 (bv (!(decide ((wrongS l) = 0)))), pb 0 29 (chC ⟨false, sl, false, xl, xa, xo, s, h, d⟩)]) (obs := []) (by kernel_rfl) (obs_nil) ?_
  by_cases h1 : (wrongS l) = 0
  · refine T_else (b := (!(decide ((wrongS l) = 0)))) rfl (congrArg Bool.not (decide_eq_true h1)) ?_
    refine T_skip ?_
    refine T_seq ?_
    refine T_seq ?_
    by_cases h2 : sl < 1
    · refine T_region [(4, .gd true .no), (5, .gd true .no), (6, .gd true .no), (7, .yes true), (9, .gd true .no), (10, .gd true .no), (11, .gd true .no), (14, .gd true .no), (15, .gd true .no), (16, .gd true .no)] [ks 1, ks 2, ks 36, kb 0] (fun _ => mixed) (l' := [ps 1 (.ssl (tns l) 0 l.length), ps 2 (.opt 0 0), ps 36 (bv true), pb 0 29 (chC ⟨false, sl, false, xl, xa, xo, s, h, d⟩)]) (obs := [(decide (sl < 1)) = true, (decide (sl < 1)) = true, (decide (sl < 1)) = true, (decide (sl < 1)) = true, true = true, true = true, true = true, true = true, true = true, true = true]) (by kernel_rfl) (obs_cons (decide_eq_true h2) (obs_cons (decide_eq_true h2) (obs_cons (decide_eq_true h2) (obs_cons (decide_eq_true h2) (obs_cons rfl (obs_cons rfl (obs_cons rfl (obs_cons rfl (obs_cons rfl (obs_cons rfl (obs_nil))))))))))) ?_
      refine T_then (b := true) rfl rfl ?_
      refine T_seq ?_
      refine T_region [] [ks 4, ks 5] (fun _ => mixed) (l' := [ps 4 (.av (.slice none 0 0)), ps 5 (iv 3)]) (obs := []) (by kernel_rfl) (obs_nil) ?_
      rw [chgP_bad h1 (by unfold chBad; show sl < 1 ∨ 16 < sl ∨ d < 0 ∨ 1048576 < d; omega)]
      exact T_ret fun cx_ a_ hI_ => ret_ok (H' := []) (.inr rfl) (Wk.ren2 [ps 4 (.av (.slice none 0 0)), ps 5 (iv 3)] 0 hc0 [] rfl rfl (by kernel_rfl) (by kernel_rfl)) rfl (obs_nil) (fun cx_ a_ hI_ => ret_res (l' := [ps 4 (.av (.slice none 0 0)), ps 5 (iv 3)]) (by kernel_rfl) cx_ a_ hI_) hI_
    · by_cases h3 : 16 < sl
      · refine T_region [(4, .gd false (.no)), (5, .gd false (.no)), (6, .gd false (.no)), (7, .yes false), (9, .gd true .no), (10, .gd true .no), (11, .gd true .no), (12, .yes true), (14, .gd true .no), (15, .gd true .no), (16, .gd true .no)] [ks 1, ks 2, ks 36, kb 0] (fun _ => mixed) (l' := [ps 1 (.ssl (tns l) 0 l.length), ps 2 (.opt 0 0), ps 36 (bv true), pb 0 29 (chC ⟨false, sl, false, xl, xa, xo, s, h, d⟩)]) (obs := [(decide (sl < 1)) = false, (decide (sl < 1)) = false, (decide (sl < 1)) = false, (decide (sl < 1)) = false, (decide (16 < sl)) = true, (decide (16 < sl)) = true, (decide (16 < sl)) = true, (decide (16 < sl)) = true, true = true, true = true, true = true]) (by kernel_rfl) (obs_cons (decide_eq_false h2) (obs_cons (decide_eq_false h2) (obs_cons (decide_eq_false h2) (obs_cons (decide_eq_false h2) (obs_cons (decide_eq_true h3) (obs_cons (decide_eq_true h3) (obs_cons (decide_eq_true h3) (obs_cons (decide_eq_true h3) (obs_cons rfl (obs_cons rfl (obs_cons rfl (obs_nil)))))))))))) ?_
        refine T_then (b := true) rfl rfl ?_
        refine T_seq ?_
        refine T_region [] [ks 4, ks 5] (fun _ => mixed) (l' := [ps 4 (.av (.slice none 0 0)), ps 5 (iv 3)]) (obs := []) (by kernel_rfl) (obs_nil) ?_
        rw [chgP_bad h1 (by unfold chBad; show sl < 1 ∨ 16 < sl ∨ d < 0 ∨ 1048576 < d; omega)]
        exact T_ret fun cx_ a_ hI_ => ret_ok (H' := []) (.inr rfl) (Wk.ren2 [ps 4 (.av (.slice none 0 0)), ps 5 (iv 3)] 0 hc0 [] rfl rfl (by kernel_rfl) (by kernel_rfl)) rfl (obs_nil) (fun cx_ a_ hI_ => ret_res (l' := [ps 4 (.av (.slice none 0 0)), ps 5 (iv 3)]) (by kernel_rfl) cx_ a_ hI_) hI_
      · by_cases h4 : d < 0
        · refine T_region [(4, .gd false (.no)), (5, .gd false (.no)), (6, .gd false (.no)), (7, .yes false), (9, .gd false (.no)), (10, .gd false (.no)), (11, .gd false (.no)), (12, .yes false), (14, .gd true .no), (15, .gd true .no), (16, .gd true .no), (17, .yes true)] [ks 1, ks 2, ks 36, kb 0] (fun _ => mixed) (l' := [ps 1 (.ssl (tns l) 0 l.length), ps 2 (.opt 0 0), ps 36 (bv true), pb 0 29 (chC ⟨false, sl, false, xl, xa, xo, s, h, d⟩)]) (obs := [(decide (sl < 1)) = false, (decide (sl < 1)) = false, (decide (sl < 1)) = false, (decide (sl < 1)) = false, (decide (16 < sl)) = false, (decide (16 < sl)) = false, (decide (16 < sl)) = false, (decide (16 < sl)) = false, (decide (d < 0)) = true, (decide (d < 0)) = true, (decide (d < 0)) = true, (decide (d < 0)) = true]) (by kernel_rfl) (obs_cons (decide_eq_false h2) (obs_cons (decide_eq_false h2) (obs_cons (decide_eq_false h2) (obs_cons (decide_eq_false h2) (obs_cons (decide_eq_false h3) (obs_cons (decide_eq_false h3) (obs_cons (decide_eq_false h3) (obs_cons (decide_eq_false h3) (obs_cons (decide_eq_true h4) (obs_cons (decide_eq_true h4) (obs_cons (decide_eq_true h4) (obs_cons (decide_eq_true h4) (obs_nil))))))))))))) ?_
          refine T_then (b := true) rfl rfl ?_
          refine T_seq ?_
          refine T_region [] [ks 4, ks 5] (fun _ => mixed) (l' := [ps 4 (.av (.slice none 0 0)), ps 5 (iv 3)]) (obs := []) (by kernel_rfl) (obs_nil) ?_
          rw [chgP_bad h1 (by unfold chBad; show sl < 1 ∨ 16 < sl ∨ d < 0 ∨ 1048576 < d; omega)]
          exact T_ret fun cx_ a_ hI_ => ret_ok (H' := []) (.inr rfl) (Wk.ren2 [ps 4 (.av (.slice none 0 0)), ps 5 (iv 3)] 0 hc0 [] rfl rfl (by kernel_rfl) (by kernel_rfl)) rfl (obs_nil) (fun cx_ a_ hI_ => ret_res (l' := [ps 4 (.av (.slice none 0 0)), ps 5 (iv 3)]) (by kernel_rfl) cx_ a_ hI_) hI_
        · refine T_region [(4, .gd false (.no)), (5, .gd false (.no)), (6, .gd false (.no)), (7, .yes false), (9, .gd false (.no)), (10, .gd false (.no)), (11, .gd false (.no)), (12, .yes false), (14, .gd false (.no)), (15, .gd false (.no)), (16, .gd false (.no)), (17, .yes false)] [ks 1, ks 2, ks 36, kb 0] (fun _ => mixed) (l' := [ps 1 (.ssl (tns l) 0 l.length), ps 2 (.opt 0 0), ps 36 (bv (decide (1048576 < d))), pb 0 29 (chC ⟨false, sl, false, xl, xa, xo, s, h, d⟩)]) (obs := [(decide (sl < 1)) = false, (decide (sl < 1)) = false, (decide (sl < 1)) = false, (decide (sl < 1)) = false, (decide (16 < sl)) = false, (decide (16 < sl)) = false, (decide (16 < sl)) = false, (decide (16 < sl)) = false, (decide (d < 0)) = false, (decide (d < 0)) = false, (decide (d < 0)) = false, (decide (d < 0)) = false]) (by kernel_rfl) (obs_cons (decide_eq_false h2) (obs_cons (decide_eq_false h2) (obs_cons (decide_eq_false h2) (obs_cons (decide_eq_false h2) (obs_cons (decide_eq_false h3) (obs_cons (decide_eq_false h3) (obs_cons (decide_eq_false h3) (obs_cons (decide_eq_false h3) (obs_cons (decide_eq_false h4) (obs_cons (decide_eq_false h4) (obs_cons (decide_eq_false h4) (obs_cons (decide_eq_false h4) (obs_nil))))))))))))) ?_
          by_cases h5 : 1048576 < d
          · refine T_then (b := (decide (1048576 < d))) rfl (decide_eq_true h5) ?_
            refine T_seq ?_
            refine T_region [] [ks 4, ks 5] (fun _ => mixed) (l' := [ps 4 (.av (.slice none 0 0)), ps 5 (iv 3)]) (obs := []) (by kernel_rfl) (obs_nil) ?_
            rw [chgP_bad h1 (by unfold chBad; show sl < 1 ∨ 16 < sl ∨ d < 0 ∨ 1048576 < d; omega)]
            exact T_ret fun cx_ a_ hI_ => ret_ok (H' := []) (.inr rfl) (Wk.ren2 [ps 4 (.av (.slice none 0 0)), ps 5 (iv 3)] 0 hc0 [] rfl rfl (by kernel_rfl) (by kernel_rfl)) rfl (obs_nil) (fun cx_ a_ hI_ => ret_res (l' := [ps 4 (.av (.slice none 0 0)), ps 5 (iv 3)]) (by kernel_rfl) cx_ a_ hI_) hI_
          · refine T_else (b := (decide (1048576 < d))) rfl (decide_eq_false h5) ?_
            refine T_skip ?_
            refine T_seq ?_
            refine T_region [] [ks 1, ks 2, ks 7, kb 0] (fun _ => mixed) (l' := [ps 1 (.ssl (tns l) 0 l.length), ps 2 (.opt 0 0), ps 7 (.av (.slice none 0 0)), pb 0 29 (chC ⟨false, sl, false, xl, xa, xo, s, h, d⟩)]) (obs := []) (by kernel_rfl) (obs_nil) ?_
            refine T_seq ?_
            have hl := wrong_iff.1 h1
            have hlen := hl.len
            have hE := endN_bd hl (Nat.le_refl l.length)
            have hs : 1 ≤ sl ∧ sl ≤ 16 := by omega
            have hd : 0 ≤ d ∧ d ≤ 1048576 := by omega
            have hc : ¬ chBad ⟨false, sl, false, xl, xa, xo, s, h, d⟩ := by unfold chBad; show ¬ (sl < 1 ∨ 16 < sl ∨ d < 0 ∨ 1048576 < d); omega
            refine T_regionD [(2, .call [] [(.ssl (tns l) 0 l.length)] [] (iv (endS l)) []), (3, .call [] [(.agg (chC ⟨false, sl, false, xl, xa, xo, s, h, d⟩)), (iv (endS l))] [] (.osl 2 0 3) [some (29, (chC ⟨false, sl, false, xl, xa, xo, s, h, d⟩)), some (65, [(PV.fn (.func 38) [] [(.opt 0 0)])]), some (51, [(PV.fn (.func 34) [] [(.opt 0 0)]), (PV.fn (.func 49) [] [(.opt 1 0)]), (PV.fn (.func 40) [] [(.opt 0 0)])])])] [[], [], [1], [0, 1, 2], [0, 1, 2, 3]] [([74], [1, 4]), ([76], [2]), ([78], [76]), ([80, 481, 483, 485], [74, 78]), ([16], [80])] [ks 1, ks 7, ks 8, kb 240, kb 241, kb 242] (l' := [ps 1 (.ssl (tns l) 0 l.length), ps 7 (.av (.slice none 0 0)), ps 8 (.osl 242 0 3), pb 240 29 (chC ⟨false, sl, false, xl, xa, xo, s, h, d⟩), pb 241 65 [(PV.fn (.func 38) [] [(.opt 240 0)])], pb 242 51 [(PV.fn (.func 34) [] [(.opt 240 0)]), (PV.fn (.func 49) [] [(.opt 241 0)]), (PV.fn (.func 40) [] [(.opt 240 0)])]]) (obs := [PC Try.prog 15 [(.ssl (tns l) 0 l.length)] [] (iv (endS l)) [], [(.ssl (tns l) 0 l.length)] = renL (sigi [] 232) [(.ssl (tns l) 0 l.length)], PC Try.prog 20 [(.agg (chC ⟨false, sl, false, xl, xa, xo, s, h, d⟩)), (iv (endS l))] [] (.osl 2 0 3) [some (29, (chC ⟨false, sl, false, xl, xa, xo, s, h, d⟩)), some (65, [(PV.fn (.func 38) [] [(.opt 0 0)])]), some (51, [(PV.fn (.func 34) [] [(.opt 0 0)]), (PV.fn (.func 49) [] [(.opt 1 0)]), (PV.fn (.func 40) [] [(.opt 0 0)])])], [(.agg (chC ⟨false, sl, false, xl, xa, xo, s, h, d⟩)), (iv (endS l))] = renL (sigi [] 240) [(.agg (chC ⟨false, sl, false, xl, xa, xo, s, h, d⟩)), (iv (endS l))]]) mixed (by kernel_rfl) (by kernel_rfl) (obs_cons (end_pc l (wrong_iff.1 h1)) (obs_cons rfl (obs_cons (steps_00 sl xl xa xo s h d (endS l)) (obs_cons rfl (obs_nil))))) ?_
            refine T_seq ?_
            refine T_seq ?_
            refine T_region [] [ks 7, ks 8, ks 41, ks 42, ks 43, kb 240, kb 241, kb 242] (fun _ => mixed) (l' := [ps 7 (.av (.slice none 0 0)), ps 8 (.osl 242 0 3), ps 41 (.ssl (tns l) 0 l.length), ps 42 (nv l.length), ps 43 (iv 0), pb 240 29 (chC ⟨false, sl, false, xl, xa, xo, s, h, d⟩), pb 241 65 [(PV.fn (.func 38) [] [(.opt 240 0)])], pb 242 51 [(PV.fn (.func 34) [] [(.opt 240 0)]), (PV.fn (.func 49) [] [(.opt 241 0)]), (PV.fn (.func 40) [] [(.opt 240 0)])]]) (obs := []) (by kernel_rfl) (obs_nil) ?_
            refine T_block ?_
            refine T_wk (Wk.nil (s := 7) 41 (by kernel_rfl)) ?_
            refine T_wk (Wk.less (l' := [ps 7 (.osl 280 0 0), ps 8 (.osl 242 0 3), ps 41 (.ssl (tns l) 0 l.length), ps 42 (nv l.length), ps 43 (iv 0), pb 240 29 (chC ⟨false, sl, false, xl, xa, xo, s, h, d⟩), pb 241 65 [(PV.fn (.func 38) [] [(.opt 240 0)])], pb 242 51 [(PV.fn (.func 34) [] [(.opt 240 0)]), (PV.fn (.func 49) [] [(.opt 241 0)]), (PV.fn (.func 40) [] [(.opt 240 0)])], pb 280 41 []]) 281 (by kernel_rfl) (by kernel_rfl)) ?_
            refine T_wk (Wk.eq (show _ = [ps 7 (.osl 280 0 0), ps 8 (.osl 242 0 3), ps 41 (.ssl (tns l) 0 l.length), ps 42 (nv l.length), ps 43 (iv 0), pb 240 29 (chC ⟨false, sl, false, xl, xa, xo, s, h, d⟩), pb 241 65 [(PV.fn (.func 38) [] [(.opt 240 0)])], pb 242 51 [(PV.fn (.func 34) [] [(.opt 240 0)]), (PV.fn (.func 49) [] [(.opt 241 0)]), (PV.fn (.func 40) [] [(.opt 240 0)])], pb 280 41 (tns ((l.take 0).map (fun t => (chT ⟨false, sl, false, xl, xa, xo, s, h, d⟩ (endS l) t).1)))] from by rfl)) ?_
            refine T_loop (α := {x : Nat // x ≤ l.length ∧ fstE (fun x => (chT ⟨false, sl, false, xl, xa, xo, s, h, d⟩ (endS l) (l.getD x dT)).2) x = 0}) (fun x => [ps 7 (.osl 0 0 x.1), ps 8 (.osl 1 0 3), ps 41 (.ssl (tns l) 0 l.length), ps 42 (nv l.length), ps 43 (nv x.1), pb 0 41 (tns ((l.take x.1).map (fun t => (chT ⟨false, sl, false, xl, xa, xo, s, h, d⟩ (endS l) t).1))), pb 1 51 [(PV.fn (.func 34) [] [(.opt 2 0)]), (PV.fn (.func 49) [] [(.opt 3 0)]), (PV.fn (.func 40) [] [(.opt 2 0)])], pb 2 29 (chC ⟨false, sl, false, xl, xa, xo, s, h, d⟩), pb 3 65 [(PV.fn (.func 38) [] [(.opt 2 0)])]]) (fun x => l.length - x.1) 4 ⟨0, ⟨Nat.zero_le _, rfl⟩⟩ (Wk.ren3 [ps 7 (.osl 0 0 0), ps 8 (.osl 1 0 3), ps 41 (.ssl (tns l) 0 l.length), ps 42 (nv l.length), ps 43 (nv 0), pb 0 41 (tns ((l.take 0).map (fun t => (chT ⟨false, sl, false, xl, xa, xo, s, h, d⟩ (endS l) t).1))), pb 1 51 [(PV.fn (.func 34) [] [(.opt 2 0)]), (PV.fn (.func 49) [] [(.opt 3 0)]), (PV.fn (.func 40) [] [(.opt 2 0)])], pb 2 29 (chC ⟨false, sl, false, xl, xa, xo, s, h, d⟩), pb 3 65 [(PV.fn (.func 38) [] [(.opt 2 0)])]] 0 hc0 [280, 242, 240, 241] [(kb 0, (tns ((l.take 0).map (fun t => (chT ⟨false, sl, false, xl, xa, xo, s, h, d⟩ (endS l) t).1))))] (obs_cons (tns_shd _) (obs_nil)) (by kernel_rfl) rfl rfl (by kernel_rfl) (by kernel_rfl)) ?_
            rintro ⟨i, ⟨hi, hf⟩⟩
            refine T_seq ?_
            refine T_region [] [ks 7, ks 8, ks 41, ks 42, ks 43, ks 44, kb 0, kb 1, kb 2, kb 3] (fun _ => mixed) (l' := [ps 7 (.osl 0 0 i), ps 8 (.osl 1 0 3), ps 41 (.ssl (tns l) 0 l.length), ps 42 (nv l.length), ps 43 (nv i), ps 44 (bv (decide (((i : Nat) : Int) < ((l.length : Nat) : Int)))), pb 0 41 (tns ((l.take i).map (fun t => (chT ⟨false, sl, false, xl, xa, xo, s, h, d⟩ (endS l) t).1))), pb 1 51 [(PV.fn (.func 34) [] [(.opt 2 0)]), (PV.fn (.func 49) [] [(.opt 3 0)]), (PV.fn (.func 40) [] [(.opt 2 0)])], pb 2 29 (chC ⟨false, sl, false, xl, xa, xo, s, h, d⟩), pb 3 65 [(PV.fn (.func 38) [] [(.opt 2 0)])]]) (obs := []) (by kernel_rfl) (obs_nil) ?_
            refine T_seq ?_
            by_cases h6 : ((i : Nat) : Int) < ((l.length : Nat) : Int)
            · refine T_then (b := (decide (((i : Nat) : Int) < ((l.length : Nat) : Int)))) rfl (decide_eq_true h6) ?_
              refine T_skip ?_
              refine T_seq ?_
              refine T_block ?_
              refine T_seq ?_
              refine T_region [(0, .nat (i * 5)), (1, .cells (tnC (l.getD i dT)))] [ks 7, ks 8, ks 10, ks 41, ks 42, ks 43, kb 0, kb 1, kb 2, kb 3, kb 28] (fun _ => mixed) (l' := [ps 7 (.osl 0 0 i), ps 8 (.osl 1 0 3), ps 10 (.opt 28 0), ps 41 (.ssl (tns l) 0 l.length), ps 42 (nv l.length), ps 43 (nv i), pb 0 41 (tns ((l.take i).map (fun t => (chT ⟨false, sl, false, xl, xa, xo, s, h, d⟩ (endS l) t).1))), pb 1 51 [(PV.fn (.func 34) [] [(.opt 2 0)]), (PV.fn (.func 49) [] [(.opt 3 0)]), (PV.fn (.func 40) [] [(.opt 2 0)])], pb 2 29 (chC ⟨false, sl, false, xl, xa, xo, s, h, d⟩), pb 3 65 [(PV.fn (.func 38) [] [(.opt 2 0)])], pb 28 41 (tnC (l.getD i dT))]) (obs := [(0 : Int) ≤ ((i : Nat) : Int) ∧ ((i : Nat) : Int) < ((l.length : Nat) : Int), 0 + (((i : Nat) : Int) : Int).toNat * 5 = (i * 5), (i * 5) + 5 ≤ ((tns l)).length ∧ (((tns l)).drop (i * 5)).take 5 = (tnC (l.getD i dT))]) (by kernel_rfl) (obs_cons (by omega) (obs_cons (by omega) (obs_cons (flat_at tnC 5 (fun _ => rfl) dT l i 0 5 (by omega) (by decide)) (obs_nil)))) ?_
              refine T_seq ?_
              refine T_region [] [ks 7, ks 8, ks 10, ks 41, ks 42, ks 43, kb 0, kb 1, kb 2, kb 3, kb 28] (fun _ => mixed) (l' := [ps 7 (.osl 0 0 i), ps 8 (.osl 1 0 3), ps 10 (.opt 28 0), ps 41 (.ssl (tns l) 0 l.length), ps 42 (nv l.length), ps 43 (nv i), pb 0 41 (tns ((l.take i).map (fun t => (chT ⟨false, sl, false, xl, xa, xo, s, h, d⟩ (endS l) t).1))), pb 1 51 [(PV.fn (.func 34) [] [(.opt 2 0)]), (PV.fn (.func 49) [] [(.opt 3 0)]), (PV.fn (.func 40) [] [(.opt 2 0)])], pb 2 29 (chC ⟨false, sl, false, xl, xa, xo, s, h, d⟩), pb 3 65 [(PV.fn (.func 38) [] [(.opt 2 0)])], pb 28 41 (tnC (l.getD i dT))]) (obs := []) (by kernel_rfl) (obs_nil) ?_
              refine T_seq ?_
              refine T_seq ?_
              refine T_region [] [ks 7, ks 8, ks 10, ks 41, ks 42, ks 43, ks 47, ks 48, ks 49, kb 0, kb 1, kb 2, kb 3, kb 28] (fun _ => mixed) (l' := [ps 7 (.osl 0 0 i), ps 8 (.osl 1 0 3), ps 10 (.opt 28 0), ps 41 (.ssl (tns l) 0 l.length), ps 42 (nv l.length), ps 43 (nv i), ps 47 (.osl 1 0 3), ps 48 (iv 3), ps 49 (iv 0), pb 0 41 (tns ((l.take i).map (fun t => (chT ⟨false, sl, false, xl, xa, xo, s, h, d⟩ (endS l) t).1))), pb 1 51 [(PV.fn (.func 34) [] [(.opt 2 0)]), (PV.fn (.func 49) [] [(.opt 3 0)]), (PV.fn (.func 40) [] [(.opt 2 0)])], pb 2 29 (chC ⟨false, sl, false, xl, xa, xo, s, h, d⟩), pb 3 65 [(PV.fn (.func 38) [] [(.opt 2 0)])], pb 28 41 (tnC (l.getD i dT))]) (obs := []) (by kernel_rfl) (obs_nil) ?_
              refine T_block ?_
              refine T_loop (α := {x : Nat × Tn // x.1 ≤ 3 ∧ runF ((fsOf ⟨false, sl, false, xl, xa, xo, s, h, d⟩ (endS l)).drop x.1) x.2 = chT ⟨false, sl, false, xl, xa, xo, s, h, d⟩ (endS l) (l.getD i dT) ∧ Far x.2 (([4194304, 67108864, 67108864, 134217728] : List Int).getD x.1 0)}) (fun x => [ps 7 (.osl 1 0 i), ps 8 (.osl 2 0 3), ps 10 (.opt 0 0), ps 41 (.ssl (tns l) 0 l.length), ps 42 (nv l.length), ps 43 (nv i), ps 47 (.osl 2 0 3), ps 48 (iv 3), ps 49 (nv x.1.1), pb 0 41 (tnC x.1.2), pb 1 41 (tns ((l.take i).map (fun t => (chT ⟨false, sl, false, xl, xa, xo, s, h, d⟩ (endS l) t).1))), pb 2 51 [(PV.fn (.func 34) [] [(.opt 3 0)]), (PV.fn (.func 49) [] [(.opt 4 0)]), (PV.fn (.func 40) [] [(.opt 3 0)])], pb 3 29 (chC ⟨false, sl, false, xl, xa, xo, s, h, d⟩), pb 4 65 [(PV.fn (.func 38) [] [(.opt 3 0)])]]) (fun x => 3 - x.1.1) 5 ⟨(0, l.getD i dT), ⟨Nat.zero_le _, rfl, far_of (hl.at (by omega)) (by show (1048576 : Int) ≤ 4194304; decide)⟩⟩ (Wk.ren3 [ps 7 (.osl 1 0 i), ps 8 (.osl 2 0 3), ps 10 (.opt 0 0), ps 41 (.ssl (tns l) 0 l.length), ps 42 (nv l.length), ps 43 (nv i), ps 47 (.osl 2 0 3), ps 48 (iv 3), ps 49 (nv 0), pb 0 41 (tnC (l.getD i dT)), pb 1 41 (tns ((l.take i).map (fun t => (chT ⟨false, sl, false, xl, xa, xo, s, h, d⟩ (endS l) t).1))), pb 2 51 [(PV.fn (.func 34) [] [(.opt 3 0)]), (PV.fn (.func 49) [] [(.opt 4 0)]), (PV.fn (.func 40) [] [(.opt 3 0)])], pb 3 29 (chC ⟨false, sl, false, xl, xa, xo, s, h, d⟩), pb 4 65 [(PV.fn (.func 38) [] [(.opt 3 0)])]] 0 hc0 [28, 0, 1, 2, 3] [(kb 1, (tns ((l.take i).map (fun t => (chT ⟨false, sl, false, xl, xa, xo, s, h, d⟩ (endS l) t).1))))] (obs_cons (tns_shd _) (obs_nil)) (by kernel_rfl) rfl rfl (by kernel_rfl) (by kernel_rfl)) ?_
              rintro ⟨⟨j, x⟩, ⟨hj, hx, hF⟩⟩
              dsimp only at hj hx hF
              refine T_seq ?_
              refine T_region [] [ks 7, ks 8, ks 10, ks 41, ks 42, ks 43, ks 47, ks 48, ks 49, ks 50, kb 0, kb 1, kb 2, kb 3, kb 4] (fun _ => mixed) (l' := [ps 7 (.osl 1 0 i), ps 8 (.osl 2 0 3), ps 10 (.opt 0 0), ps 41 (.ssl (tns l) 0 l.length), ps 42 (nv l.length), ps 43 (nv i), ps 47 (.osl 2 0 3), ps 48 (iv 3), ps 49 (nv j), ps 50 (bv (decide (((j : Nat) : Int) < 3))), pb 0 41 (tnC x), pb 1 41 (tns ((l.take i).map (fun t => (chT ⟨false, sl, false, xl, xa, xo, s, h, d⟩ (endS l) t).1))), pb 2 51 [(PV.fn (.func 34) [] [(.opt 3 0)]), (PV.fn (.func 49) [] [(.opt 4 0)]), (PV.fn (.func 40) [] [(.opt 3 0)])], pb 3 29 (chC ⟨false, sl, false, xl, xa, xo, s, h, d⟩), pb 4 65 [(PV.fn (.func 38) [] [(.opt 3 0)])]]) (obs := []) (by kernel_rfl) (obs_nil) ?_
              refine T_seq ?_
              by_cases h7 : ((j : Nat) : Int) < 3
              · refine T_then (b := (decide (((j : Nat) : Int) < 3))) rfl (decide_eq_true h7) ?_
                refine T_skip ?_
                refine T_seq ?_
                refine T_block ?_
                refine T_seq ?_
                by_cases h8 : j = 0
                · refine T_region [(0, .nat 0)] [ks 7, ks 8, ks 10, ks 13, ks 41, ks 42, ks 43, ks 47, ks 48, ks 49, kb 0, kb 1, kb 2, kb 3, kb 4] (fun _ => mixed) (l' := [ps 7 (.osl 1 0 i), ps 8 (.osl 2 0 3), ps 10 (.opt 0 0), ps 13 (PV.fn (.func 34) [] [(.opt 3 0)]), ps 41 (.ssl (tns l) 0 l.length), ps 42 (nv l.length), ps 43 (nv i), ps 47 (.osl 2 0 3), ps 48 (iv 3), ps 49 (nv j), pb 0 41 (tnC x), pb 1 41 (tns ((l.take i).map (fun t => (chT ⟨false, sl, false, xl, xa, xo, s, h, d⟩ (endS l) t).1))), pb 2 51 [(PV.fn (.func 34) [] [(.opt 3 0)]), (PV.fn (.func 49) [] [(.opt 4 0)]), (PV.fn (.func 40) [] [(.opt 3 0)])], pb 3 29 (chC ⟨false, sl, false, xl, xa, xo, s, h, d⟩), pb 4 65 [(PV.fn (.func 38) [] [(.opt 3 0)])]]) (obs := [(0 : Int) ≤ ((j : Nat) : Int) ∧ ((j : Nat) : Int) < ((3 : Nat) : Int), 0 + (((j : Nat) : Int) : Int).toNat * 1 = 0]) (by kernel_rfl) (obs_cons (by omega) (obs_cons (by omega) (obs_nil))) ?_
                  refine T_seq ?_
                  refine T_region [(2, .call [3] [(.agg (tnC x)), (.opt 0 0)] [some (29, (chC ⟨false, sl, false, xl, xa, xo, s, h, d⟩))] (.tup [(.agg (tnC ((f2 sl x).1))), (iv ((f2 sl x).2))]) [some (29, (chC ⟨false, sl, false, xl, xa, xo, s, h, d⟩)), none])] [ks 7, ks 8, ks 10, ks 11, ks 41, ks 42, ks 43, ks 47, ks 48, ks 49, kb 0, kb 1, kb 2, kb 3, kb 4] (fun _ => mixed) (l' := [ps 7 (.osl 1 0 i), ps 8 (.osl 2 0 3), ps 10 (.opt 0 0), ps 11 (iv ((f2 sl x).2)), ps 41 (.ssl (tns l) 0 l.length), ps 42 (nv l.length), ps 43 (nv i), ps 47 (.osl 2 0 3), ps 48 (iv 3), ps 49 (nv j), pb 0 41 (tnC ((f2 sl x).1)), pb 1 41 (tns ((l.take i).map (fun t => (chT ⟨false, sl, false, xl, xa, xo, s, h, d⟩ (endS l) t).1))), pb 2 51 [(PV.fn (.func 34) [] [(.opt 3 0)]), (PV.fn (.func 49) [] [(.opt 4 0)]), (PV.fn (.func 40) [] [(.opt 3 0)])], pb 3 29 (chC ⟨false, sl, false, xl, xa, xo, s, h, d⟩), pb 4 65 [(PV.fn (.func 38) [] [(.opt 3 0)])]]) (obs := [PC Try.prog 34 [(.agg (tnC x)), (.opt 0 0)] [some (29, (chC ⟨false, sl, false, xl, xa, xo, s, h, d⟩))] (.tup [(.agg (tnC ((f2 sl x).1))), (iv ((f2 sl x).2))]) [some (29, (chC ⟨false, sl, false, xl, xa, xo, s, h, d⟩)), none], [(.agg (tnC x)), (.opt 3 0)] = renL (sigi [3] 53) [(.agg (tnC x)), (.opt 0 0)], (chC ⟨false, sl, false, xl, xa, xo, s, h, d⟩) = renL (sigi [3] 53) (chC ⟨false, sl, false, xl, xa, xo, s, h, d⟩)]) (by kernel_rfl) (obs_cons (slow_pc false false sl xl xa xo s h d x hs (by rw [h8] at hF; exact hF)) (obs_cons rfl (obs_cons rfl (obs_nil)))) ?_
                  refine T_seq ?_
                  refine T_region [] [ks 7, ks 8, ks 10, ks 11, ks 41, ks 42, ks 43, ks 47, ks 48, ks 49, ks 60, kb 0, kb 1, kb 2, kb 3, kb 4] (fun _ => mixed) (l' := [ps 7 (.osl 1 0 i), ps 8 (.osl 2 0 3), ps 10 (.opt 0 0), ps 11 (iv ((f2 sl x).2)), ps 41 (.ssl (tns l) 0 l.length), ps 42 (nv l.length), ps 43 (nv i), ps 47 (.osl 2 0 3), ps 48 (iv 3), ps 49 (nv j), ps 60 (bv (!(decide (((f2 sl x).2) = 0)))), pb 0 41 (tnC ((f2 sl x).1)), pb 1 41 (tns ((l.take i).map (fun t => (chT ⟨false, sl, false, xl, xa, xo, s, h, d⟩ (endS l) t).1))), pb 2 51 [(PV.fn (.func 34) [] [(.opt 3 0)]), (PV.fn (.func 49) [] [(.opt 4 0)]), (PV.fn (.func 40) [] [(.opt 3 0)])], pb 3 29 (chC ⟨false, sl, false, xl, xa, xo, s, h, d⟩), pb 4 65 [(PV.fn (.func 38) [] [(.opt 3 0)])]]) (obs := []) (by kernel_rfl) (obs_nil) ?_
                  by_cases h9 : ((f2 sl x).2) = 0
                  · refine T_else (b := (!(decide (((f2 sl x).2) = 0)))) rfl (congrArg Bool.not (decide_eq_true h9)) ?_
                    refine T_skip ?_
                    refine T_blk ?_
                    refine T_region [] [ks 7, ks 8, ks 10, ks 41, ks 42, ks 43, ks 47, ks 48, ks 49, kb 0, kb 1, kb 2, kb 3, kb 4] (fun _ => mixed) (l' := [ps 7 (.osl 1 0 i), ps 8 (.osl 2 0 3), ps 10 (.opt 0 0), ps 41 (.ssl (tns l) 0 l.length), ps 42 (nv l.length), ps 43 (nv i), ps 47 (.osl 2 0 3), ps 48 (iv 3), ps 49 (iv (((j : Nat) : Int) + 1)), pb 0 41 (tnC ((f2 sl x).1)), pb 1 41 (tns ((l.take i).map (fun t => (chT ⟨false, sl, false, xl, xa, xo, s, h, d⟩ (endS l) t).1))), pb 2 51 [(PV.fn (.func 34) [] [(.opt 3 0)]), (PV.fn (.func 49) [] [(.opt 4 0)]), (PV.fn (.func 40) [] [(.opt 3 0)])], pb 3 29 (chC ⟨false, sl, false, xl, xa, xo, s, h, d⟩), pb 4 65 [(PV.fn (.func 38) [] [(.opt 3 0)])]]) (obs := [InK .i64 (((j : Nat) : Int) + 1)]) (by kernel_rfl) (obs_cons (by simp only [InK]; omega) (obs_nil)) ?_
                    have hF2 : Far (f2 sl x).1 67108864 := far_f2 hs (by rw [h8] at hF; exact hF)
                    exact T_back ⟨(j + 1, (f2 sl x).1), ⟨by omega, chT_next (f := f2 sl) hx (by rw [h8]; rfl) (by rw [h8]; rfl) h9, by rw [h8]; exact hF2⟩⟩ (Wk.ren3 [ps 7 (.osl 1 0 i), ps 8 (.osl 2 0 3), ps 10 (.opt 0 0), ps 41 (.ssl (tns l) 0 l.length), ps 42 (nv l.length), ps 43 (nv i), ps 47 (.osl 2 0 3), ps 48 (iv 3), ps 49 (nv (j + 1)), pb 0 41 (tnC ((f2 sl x).1)), pb 1 41 (tns ((l.take i).map (fun t => (chT ⟨false, sl, false, xl, xa, xo, s, h, d⟩ (endS l) t).1))), pb 2 51 [(PV.fn (.func 34) [] [(.opt 3 0)]), (PV.fn (.func 49) [] [(.opt 4 0)]), (PV.fn (.func 40) [] [(.opt 3 0)])], pb 3 29 (chC ⟨false, sl, false, xl, xa, xo, s, h, d⟩), pb 4 65 [(PV.fn (.func 38) [] [(.opt 3 0)])]] 0 hc0 [0, 1, 2, 3, 4] [(kb 1, (tns ((l.take i).map (fun t => (chT ⟨false, sl, false, xl, xa, xo, s, h, d⟩ (endS l) t).1))))] (obs_cons (tns_shd _) (obs_nil)) (by kernel_rfl) rfl rfl (by kernel_rfl) (by kernel_rfl)) (show 3 - (j + 1) < 3 - j from by omega)
                  · refine T_then (b := (!(decide (((f2 sl x).2) = 0)))) rfl (congrArg Bool.not (decide_eq_false h9)) ?_
                    refine T_seq ?_
                    refine T_region [] [ks 4, ks 5] (fun _ => mixed) (l' := [ps 4 (.av (.slice none 0 0)), ps 5 (iv ((f2 sl x).2))]) (obs := []) (by kernel_rfl) (obs_nil) ?_
                    rw [chgP_err h1 hc hf (by omega) h9 (chT_err (f := f2 sl) hx (by rw [h8]; rfl) h9)]
                    exact T_ret fun cx_ a_ hI_ => loop_ret (loop_ret (ret_ok (H' := []) (.inr rfl) (Wk.ren2 [ps 4 (.av (.slice none 0 0)), ps 5 (iv ((f2 sl x).2))] 0 hc0 [] rfl rfl (by kernel_rfl) (by kernel_rfl)) rfl (obs_nil) (fun cx_ a_ hI_ => ret_res (l' := [ps 4 (.av (.slice none 0 0)), ps 5 (iv ((f2 sl x).2))]) (by kernel_rfl) cx_ a_ hI_) hI_))
                · by_cases h10 : j = 1
                  · refine T_region [(0, .nat 1)] [ks 7, ks 8, ks 10, ks 13, ks 41, ks 42, ks 43, ks 47, ks 48, ks 49, kb 0, kb 1, kb 2, kb 3, kb 4] (fun _ => mixed) (l' := [ps 7 (.osl 1 0 i), ps 8 (.osl 2 0 3), ps 10 (.opt 0 0), ps 13 (PV.fn (.func 49) [] [(.opt 4 0)]), ps 41 (.ssl (tns l) 0 l.length), ps 42 (nv l.length), ps 43 (nv i), ps 47 (.osl 2 0 3), ps 48 (iv 3), ps 49 (nv j), pb 0 41 (tnC x), pb 1 41 (tns ((l.take i).map (fun t => (chT ⟨false, sl, false, xl, xa, xo, s, h, d⟩ (endS l) t).1))), pb 2 51 [(PV.fn (.func 34) [] [(.opt 3 0)]), (PV.fn (.func 49) [] [(.opt 4 0)]), (PV.fn (.func 40) [] [(.opt 3 0)])], pb 3 29 (chC ⟨false, sl, false, xl, xa, xo, s, h, d⟩), pb 4 65 [(PV.fn (.func 38) [] [(.opt 3 0)])]]) (obs := [(0 : Int) ≤ ((j : Nat) : Int) ∧ ((j : Nat) : Int) < ((3 : Nat) : Int), 0 + (((j : Nat) : Int) : Int).toNat * 1 = 1]) (by kernel_rfl) (obs_cons (by omega) (obs_cons (by omega) (obs_nil))) ?_
                    refine T_seq ?_
                    refine T_region [(2, .call [4, 3] [(.agg (tnC x)), (.opt 0 0)] [some (65, [(PV.fn (.func 38) [] [(.opt 1 0)])]), some (29, (chC ⟨false, sl, false, xl, xa, xo, s, h, d⟩))] (.tup [(.agg (tnC ((f4 s h x).1))), (iv ((f4 s h x).2))]) [some (65, [(PV.fn (.func 38) [] [(.opt 1 0)])]), some (29, (chC ⟨false, sl, false, xl, xa, xo, s, h, d⟩)), none])] [ks 7, ks 8, ks 10, ks 11, ks 41, ks 42, ks 43, ks 47, ks 48, ks 49, kb 0, kb 1, kb 2, kb 3, kb 4] (fun _ => mixed) (l' := [ps 7 (.osl 1 0 i), ps 8 (.osl 2 0 3), ps 10 (.opt 0 0), ps 11 (iv ((f4 s h x).2)), ps 41 (.ssl (tns l) 0 l.length), ps 42 (nv l.length), ps 43 (nv i), ps 47 (.osl 2 0 3), ps 48 (iv 3), ps 49 (nv j), pb 0 41 (tnC ((f4 s h x).1)), pb 1 41 (tns ((l.take i).map (fun t => (chT ⟨false, sl, false, xl, xa, xo, s, h, d⟩ (endS l) t).1))), pb 2 51 [(PV.fn (.func 34) [] [(.opt 3 0)]), (PV.fn (.func 49) [] [(.opt 4 0)]), (PV.fn (.func 40) [] [(.opt 3 0)])], pb 3 29 (chC ⟨false, sl, false, xl, xa, xo, s, h, d⟩), pb 4 65 [(PV.fn (.func 38) [] [(.opt 3 0)])]]) (obs := [PC Try.prog 49 [(.agg (tnC x)), (.opt 0 0)] [some (65, [(PV.fn (.func 38) [] [(.opt 1 0)])]), some (29, (chC ⟨false, sl, false, xl, xa, xo, s, h, d⟩))] (.tup [(.agg (tnC ((f4 s h x).1))), (iv ((f4 s h x).2))]) [some (65, [(PV.fn (.func 38) [] [(.opt 1 0)])]), some (29, (chC ⟨false, sl, false, xl, xa, xo, s, h, d⟩)), none], [(.agg (tnC x)), (.opt 4 0)] = renL (sigi [4, 3] 53) [(.agg (tnC x)), (.opt 0 0)], [(PV.fn (.func 38) [] [(.opt 3 0)])] = renL (sigi [4, 3] 53) [(PV.fn (.func 38) [] [(.opt 1 0)])], (chC ⟨false, sl, false, xl, xa, xo, s, h, d⟩) = renL (sigi [4, 3] 53) (chC ⟨false, sl, false, xl, xa, xo, s, h, d⟩)]) (by kernel_rfl) (obs_cons (mmov_pc false false sl xl xa xo s h d x is ih) (obs_cons rfl (obs_cons rfl (obs_cons rfl (obs_nil))))) ?_
                    refine T_seq ?_
                    refine T_region [] [ks 7, ks 8, ks 10, ks 11, ks 41, ks 42, ks 43, ks 47, ks 48, ks 49, ks 60, kb 0, kb 1, kb 2, kb 3, kb 4] (fun _ => mixed) (l' := [ps 7 (.osl 1 0 i), ps 8 (.osl 2 0 3), ps 10 (.opt 0 0), ps 11 (iv ((f4 s h x).2)), ps 41 (.ssl (tns l) 0 l.length), ps 42 (nv l.length), ps 43 (nv i), ps 47 (.osl 2 0 3), ps 48 (iv 3), ps 49 (nv j), ps 60 (bv (!(decide (((f4 s h x).2) = 0)))), pb 0 41 (tnC ((f4 s h x).1)), pb 1 41 (tns ((l.take i).map (fun t => (chT ⟨false, sl, false, xl, xa, xo, s, h, d⟩ (endS l) t).1))), pb 2 51 [(PV.fn (.func 34) [] [(.opt 3 0)]), (PV.fn (.func 49) [] [(.opt 4 0)]), (PV.fn (.func 40) [] [(.opt 3 0)])], pb 3 29 (chC ⟨false, sl, false, xl, xa, xo, s, h, d⟩), pb 4 65 [(PV.fn (.func 38) [] [(.opt 3 0)])]]) (obs := []) (by kernel_rfl) (obs_nil) ?_
                    by_cases h11 : ((f4 s h x).2) = 0
                    · refine T_else (b := (!(decide (((f4 s h x).2) = 0)))) rfl (congrArg Bool.not (decide_eq_true h11)) ?_
                      refine T_skip ?_
                      refine T_blk ?_
                      refine T_region [] [ks 7, ks 8, ks 10, ks 41, ks 42, ks 43, ks 47, ks 48, ks 49, kb 0, kb 1, kb 2, kb 3, kb 4] (fun _ => mixed) (l' := [ps 7 (.osl 1 0 i), ps 8 (.osl 2 0 3), ps 10 (.opt 0 0), ps 41 (.ssl (tns l) 0 l.length), ps 42 (nv l.length), ps 43 (nv i), ps 47 (.osl 2 0 3), ps 48 (iv 3), ps 49 (iv (((j : Nat) : Int) + 1)), pb 0 41 (tnC ((f4 s h x).1)), pb 1 41 (tns ((l.take i).map (fun t => (chT ⟨false, sl, false, xl, xa, xo, s, h, d⟩ (endS l) t).1))), pb 2 51 [(PV.fn (.func 34) [] [(.opt 3 0)]), (PV.fn (.func 49) [] [(.opt 4 0)]), (PV.fn (.func 40) [] [(.opt 3 0)])], pb 3 29 (chC ⟨false, sl, false, xl, xa, xo, s, h, d⟩), pb 4 65 [(PV.fn (.func 38) [] [(.opt 3 0)])]]) (obs := [InK .i64 (((j : Nat) : Int) + 1)]) (by kernel_rfl) (obs_cons (by simp only [InK]; omega) (obs_nil)) ?_
                      have hF2 : Far (f4 s h x).1 67108864 := far_fp (by rw [h10] at hF; exact hF)
                      exact T_back ⟨(j + 1, (f4 s h x).1), ⟨by omega, chT_next (f := f4 s h) hx (by rw [h10]; rfl) (by rw [h10]; rfl) h11, by rw [h10]; exact hF2⟩⟩ (Wk.ren3 [ps 7 (.osl 1 0 i), ps 8 (.osl 2 0 3), ps 10 (.opt 0 0), ps 41 (.ssl (tns l) 0 l.length), ps 42 (nv l.length), ps 43 (nv i), ps 47 (.osl 2 0 3), ps 48 (iv 3), ps 49 (nv (j + 1)), pb 0 41 (tnC ((f4 s h x).1)), pb 1 41 (tns ((l.take i).map (fun t => (chT ⟨false, sl, false, xl, xa, xo, s, h, d⟩ (endS l) t).1))), pb 2 51 [(PV.fn (.func 34) [] [(.opt 3 0)]), (PV.fn (.func 49) [] [(.opt 4 0)]), (PV.fn (.func 40) [] [(.opt 3 0)])], pb 3 29 (chC ⟨false, sl, false, xl, xa, xo, s, h, d⟩), pb 4 65 [(PV.fn (.func 38) [] [(.opt 3 0)])]] 0 hc0 [0, 1, 2, 3, 4] [(kb 1, (tns ((l.take i).map (fun t => (chT ⟨false, sl, false, xl, xa, xo, s, h, d⟩ (endS l) t).1))))] (obs_cons (tns_shd _) (obs_nil)) (by kernel_rfl) rfl rfl (by kernel_rfl) (by kernel_rfl)) (show 3 - (j + 1) < 3 - j from by omega)
                    · refine T_then (b := (!(decide (((f4 s h x).2) = 0)))) rfl (congrArg Bool.not (decide_eq_false h11)) ?_
                      refine T_seq ?_
                      refine T_region [] [ks 4, ks 5] (fun _ => mixed) (l' := [ps 4 (.av (.slice none 0 0)), ps 5 (iv ((f4 s h x).2))]) (obs := []) (by kernel_rfl) (obs_nil) ?_
                      rw [chgP_err h1 hc hf (by omega) h11 (chT_err (f := f4 s h) hx (by rw [h10]; rfl) h11)]
                      exact T_ret fun cx_ a_ hI_ => loop_ret (loop_ret (ret_ok (H' := []) (.inr rfl) (Wk.ren2 [ps 4 (.av (.slice none 0 0)), ps 5 (iv ((f4 s h x).2))] 0 hc0 [] rfl rfl (by kernel_rfl) (by kernel_rfl)) rfl (obs_nil) (fun cx_ a_ hI_ => ret_res (l' := [ps 4 (.av (.slice none 0 0)), ps 5 (iv ((f4 s h x).2))]) (by kernel_rfl) cx_ a_ hI_) hI_))
                  · by_cases h12 : j = 2
                    · refine T_region [(0, .nat 2)] [ks 7, ks 8, ks 10, ks 13, ks 41, ks 42, ks 43, ks 47, ks 48, ks 49, kb 0, kb 1, kb 2, kb 3, kb 4] (fun _ => mixed) (l' := [ps 7 (.osl 1 0 i), ps 8 (.osl 2 0 3), ps 10 (.opt 0 0), ps 13 (PV.fn (.func 40) [] [(.opt 3 0)]), ps 41 (.ssl (tns l) 0 l.length), ps 42 (nv l.length), ps 43 (nv i), ps 47 (.osl 2 0 3), ps 48 (iv 3), ps 49 (nv j), pb 0 41 (tnC x), pb 1 41 (tns ((l.take i).map (fun t => (chT ⟨false, sl, false, xl, xa, xo, s, h, d⟩ (endS l) t).1))), pb 2 51 [(PV.fn (.func 34) [] [(.opt 3 0)]), (PV.fn (.func 49) [] [(.opt 4 0)]), (PV.fn (.func 40) [] [(.opt 3 0)])], pb 3 29 (chC ⟨false, sl, false, xl, xa, xo, s, h, d⟩), pb 4 65 [(PV.fn (.func 38) [] [(.opt 3 0)])]]) (obs := [(0 : Int) ≤ ((j : Nat) : Int) ∧ ((j : Nat) : Int) < ((3 : Nat) : Int), 0 + (((j : Nat) : Int) : Int).toNat * 1 = 2]) (by kernel_rfl) (obs_cons (by omega) (obs_cons (by omega) (obs_nil))) ?_
                      refine T_seq ?_
                      refine T_region [(2, .call [3] [(.agg (tnC x)), (.opt 0 0)] [some (29, (chC ⟨false, sl, false, xl, xa, xo, s, h, d⟩))] (.tup [(.agg (tnC ((f5 d x).1))), (iv ((f5 d x).2))]) [some (29, (chC ⟨false, sl, false, xl, xa, xo, s, h, d⟩)), none])] [ks 7, ks 8, ks 10, ks 11, ks 41, ks 42, ks 43, ks 47, ks 48, ks 49, kb 0, kb 1, kb 2, kb 3, kb 4] (fun _ => mixed) (l' := [ps 7 (.osl 1 0 i), ps 8 (.osl 2 0 3), ps 10 (.opt 0 0), ps 11 (iv ((f5 d x).2)), ps 41 (.ssl (tns l) 0 l.length), ps 42 (nv l.length), ps 43 (nv i), ps 47 (.osl 2 0 3), ps 48 (iv 3), ps 49 (nv j), pb 0 41 (tnC ((f5 d x).1)), pb 1 41 (tns ((l.take i).map (fun t => (chT ⟨false, sl, false, xl, xa, xo, s, h, d⟩ (endS l) t).1))), pb 2 51 [(PV.fn (.func 34) [] [(.opt 3 0)]), (PV.fn (.func 49) [] [(.opt 4 0)]), (PV.fn (.func 40) [] [(.opt 3 0)])], pb 3 29 (chC ⟨false, sl, false, xl, xa, xo, s, h, d⟩), pb 4 65 [(PV.fn (.func 38) [] [(.opt 3 0)])]]) (obs := [PC Try.prog 40 [(.agg (tnC x)), (.opt 0 0)] [some (29, (chC ⟨false, sl, false, xl, xa, xo, s, h, d⟩))] (.tup [(.agg (tnC ((f5 d x).1))), (iv ((f5 d x).2))]) [some (29, (chC ⟨false, sl, false, xl, xa, xo, s, h, d⟩)), none], [(.agg (tnC x)), (.opt 3 0)] = renL (sigi [3] 53) [(.agg (tnC x)), (.opt 0 0)], (chC ⟨false, sl, false, xl, xa, xo, s, h, d⟩) = renL (sigi [3] 53) (chC ⟨false, sl, false, xl, xa, xo, s, h, d⟩)]) (by kernel_rfl) (obs_cons (late_pc false false sl xl xa xo s h d x hd (by rw [h12] at hF; exact hF)) (obs_cons rfl (obs_cons rfl (obs_nil)))) ?_
                      refine T_seq ?_
                      refine T_region [] [ks 7, ks 8, ks 10, ks 11, ks 41, ks 42, ks 43, ks 47, ks 48, ks 49, ks 60, kb 0, kb 1, kb 2, kb 3, kb 4] (fun _ => mixed) (l' := [ps 7 (.osl 1 0 i), ps 8 (.osl 2 0 3), ps 10 (.opt 0 0), ps 11 (iv ((f5 d x).2)), ps 41 (.ssl (tns l) 0 l.length), ps 42 (nv l.length), ps 43 (nv i), ps 47 (.osl 2 0 3), ps 48 (iv 3), ps 49 (nv j), ps 60 (bv (!(decide (((f5 d x).2) = 0)))), pb 0 41 (tnC ((f5 d x).1)), pb 1 41 (tns ((l.take i).map (fun t => (chT ⟨false, sl, false, xl, xa, xo, s, h, d⟩ (endS l) t).1))), pb 2 51 [(PV.fn (.func 34) [] [(.opt 3 0)]), (PV.fn (.func 49) [] [(.opt 4 0)]), (PV.fn (.func 40) [] [(.opt 3 0)])], pb 3 29 (chC ⟨false, sl, false, xl, xa, xo, s, h, d⟩), pb 4 65 [(PV.fn (.func 38) [] [(.opt 3 0)])]]) (obs := []) (by kernel_rfl) (obs_nil) ?_
                      by_cases h13 : ((f5 d x).2) = 0
                      · refine T_else (b := (!(decide (((f5 d x).2) = 0)))) rfl (congrArg Bool.not (decide_eq_true h13)) ?_
                        refine T_skip ?_
                        refine T_blk ?_
                        refine T_region [] [ks 7, ks 8, ks 10, ks 41, ks 42, ks 43, ks 47, ks 48, ks 49, kb 0, kb 1, kb 2, kb 3, kb 4] (fun _ => mixed) (l' := [ps 7 (.osl 1 0 i), ps 8 (.osl 2 0 3), ps 10 (.opt 0 0), ps 41 (.ssl (tns l) 0 l.length), ps 42 (nv l.length), ps 43 (nv i), ps 47 (.osl 2 0 3), ps 48 (iv 3), ps 49 (iv (((j : Nat) : Int) + 1)), pb 0 41 (tnC ((f5 d x).1)), pb 1 41 (tns ((l.take i).map (fun t => (chT ⟨false, sl, false, xl, xa, xo, s, h, d⟩ (endS l) t).1))), pb 2 51 [(PV.fn (.func 34) [] [(.opt 3 0)]), (PV.fn (.func 49) [] [(.opt 4 0)]), (PV.fn (.func 40) [] [(.opt 3 0)])], pb 3 29 (chC ⟨false, sl, false, xl, xa, xo, s, h, d⟩), pb 4 65 [(PV.fn (.func 38) [] [(.opt 3 0)])]]) (obs := [InK .i64 (((j : Nat) : Int) + 1)]) (by kernel_rfl) (obs_cons (by simp only [InK]; omega) (obs_nil)) ?_
                        have hF2 : Far (f5 d x).1 134217728 := far_f5 hd (by rw [h12] at hF; exact hF)
                        exact T_back ⟨(j + 1, (f5 d x).1), ⟨by omega, chT_next (f := f5 d) hx (by rw [h12]; rfl) (by rw [h12]; rfl) h13, by rw [h12]; exact hF2⟩⟩ (Wk.ren3 [ps 7 (.osl 1 0 i), ps 8 (.osl 2 0 3), ps 10 (.opt 0 0), ps 41 (.ssl (tns l) 0 l.length), ps 42 (nv l.length), ps 43 (nv i), ps 47 (.osl 2 0 3), ps 48 (iv 3), ps 49 (nv (j + 1)), pb 0 41 (tnC ((f5 d x).1)), pb 1 41 (tns ((l.take i).map (fun t => (chT ⟨false, sl, false, xl, xa, xo, s, h, d⟩ (endS l) t).1))), pb 2 51 [(PV.fn (.func 34) [] [(.opt 3 0)]), (PV.fn (.func 49) [] [(.opt 4 0)]), (PV.fn (.func 40) [] [(.opt 3 0)])], pb 3 29 (chC ⟨false, sl, false, xl, xa, xo, s, h, d⟩), pb 4 65 [(PV.fn (.func 38) [] [(.opt 3 0)])]] 0 hc0 [0, 1, 2, 3, 4] [(kb 1, (tns ((l.take i).map (fun t => (chT ⟨false, sl, false, xl, xa, xo, s, h, d⟩ (endS l) t).1))))] (obs_cons (tns_shd _) (obs_nil)) (by kernel_rfl) rfl rfl (by kernel_rfl) (by kernel_rfl)) (show 3 - (j + 1) < 3 - j from by omega)
                      · refine T_then (b := (!(decide (((f5 d x).2) = 0)))) rfl (congrArg Bool.not (decide_eq_false h13)) ?_
                        refine T_seq ?_
                        refine T_region [] [ks 4, ks 5] (fun _ => mixed) (l' := [ps 4 (.av (.slice none 0 0)), ps 5 (iv ((f5 d x).2))]) (obs := []) (by kernel_rfl) (obs_nil) ?_
                        rw [chgP_err h1 hc hf (by omega) h13 (chT_err (f := f5 d) hx (by rw [h12]; rfl) h13)]
                        exact T_ret fun cx_ a_ hI_ => loop_ret (loop_ret (ret_ok (H' := []) (.inr rfl) (Wk.ren2 [ps 4 (.av (.slice none 0 0)), ps 5 (iv ((f5 d x).2))] 0 hc0 [] rfl rfl (by kernel_rfl) (by kernel_rfl)) rfl (obs_nil) (fun cx_ a_ hI_ => ret_res (l' := [ps 4 (.av (.slice none 0 0)), ps 5 (iv ((f5 d x).2))]) (by kernel_rfl) cx_ a_ hI_) hI_))
                    · exfalso; omega
              · refine T_else (b := (decide (((j : Nat) : Int) < 3))) rfl (decide_eq_false h7) ?_
                refine T_break rfl rfl ?_
                refine T_region [(3, .app none (some (tns (((l.take i).map (fun t => (chT ⟨false, sl, false, xl, xa, xo, s, h, d⟩ (endS l) t).1)) ++ [x]))))] [ks 7, ks 8, ks 41, ks 42, ks 43, kb 2, kb 3, kb 4, kb 37] (fun _ => mixed) (l' := [ps 7 (.osl 37 0 (i + 1)), ps 8 (.osl 2 0 3), ps 41 (.ssl (tns l) 0 l.length), ps 42 (nv l.length), ps 43 (nv i), pb 2 51 [(PV.fn (.func 34) [] [(.opt 3 0)]), (PV.fn (.func 49) [] [(.opt 4 0)]), (PV.fn (.func 40) [] [(.opt 3 0)])], pb 3 29 (chC ⟨false, sl, false, xl, xa, xo, s, h, d⟩), pb 4 65 [(PV.fn (.func 38) [] [(.opt 3 0)])], pb 37 41 (tns (((l.take i).map (fun t => (chT ⟨false, sl, false, xl, xa, xo, s, h, d⟩ (endS l) t).1)) ++ [x]))]) (obs := [((tns ((l.take i).map (fun t => (chT ⟨false, sl, false, xl, xa, xo, s, h, d⟩ (endS l) t).1)))).length = i * 5, (i + 1) * 40 ≤ 140737488355328 ∧ i + 1 ≤ 9223372036854775807, (tns ((l.take i).map (fun t => (chT ⟨false, sl, false, xl, xa, xo, s, h, d⟩ (endS l) t).1))) ++ (tnC x) = (tns (((l.take i).map (fun t => (chT ⟨false, sl, false, xl, xa, xo, s, h, d⟩ (endS l) t).1)) ++ [x]))]) (by kernel_rfl) (obs_cons (by simp only [tns_len, List.length_map, List.length_take]; omega) (obs_cons (by omega) (obs_cons (flat_app tnC ((l.take i).map (fun t => (chT ⟨false, sl, false, xl, xa, xo, s, h, d⟩ (endS l) t).1)) [x]).symm (obs_nil)))) ?_
                refine T_blk ?_
                refine T_region [] [ks 7, ks 8, ks 41, ks 42, ks 43, kb 2, kb 3, kb 4, kb 37] (fun _ => mixed) (l' := [ps 7 (.osl 37 0 (i + 1)), ps 8 (.osl 2 0 3), ps 41 (.ssl (tns l) 0 l.length), ps 42 (nv l.length), ps 43 (iv (((i : Nat) : Int) + 1)), pb 2 51 [(PV.fn (.func 34) [] [(.opt 3 0)]), (PV.fn (.func 49) [] [(.opt 4 0)]), (PV.fn (.func 40) [] [(.opt 3 0)])], pb 3 29 (chC ⟨false, sl, false, xl, xa, xo, s, h, d⟩), pb 4 65 [(PV.fn (.func 38) [] [(.opt 3 0)])], pb 37 41 (tns (((l.take i).map (fun t => (chT ⟨false, sl, false, xl, xa, xo, s, h, d⟩ (endS l) t).1)) ++ [x]))]) (obs := [InK .i64 (((i : Nat) : Int) + 1)]) (by kernel_rfl) (obs_cons (by simp only [InK]; omega) (obs_nil)) ?_
                have hxe : chT ⟨false, sl, false, xl, xa, xo, s, h, d⟩ (endS l) (l.getD i dT) = (x, 0) := by rw [← hx, show j = 3 from by omega]; rfl
                exact T_back ⟨i + 1, ⟨by omega, by rw [fstE_next hf, hxe]⟩⟩ (Wk.trans (Wk.eq (show _ = [ps 7 (.osl 37 0 (i + 1)), ps 8 (.osl 2 0 3), ps 41 (.ssl (tns l) 0 l.length), ps 42 (nv l.length), ps 43 (iv (((i : Nat) : Int) + 1)), pb 2 51 [(PV.fn (.func 34) [] [(.opt 3 0)]), (PV.fn (.func 49) [] [(.opt 4 0)]), (PV.fn (.func 40) [] [(.opt 3 0)])], pb 3 29 (chC ⟨false, sl, false, xl, xa, xo, s, h, d⟩), pb 4 65 [(PV.fn (.func 38) [] [(.opt 3 0)])], pb 37 41 (tns ((l.take (i + 1)).map (fun t => (chT ⟨false, sl, false, xl, xa, xo, s, h, d⟩ (endS l) t).1)))] from by rw [map_next (f := (fun t => (chT ⟨false, sl, false, xl, xa, xo, s, h, d⟩ (endS l) t).1)) (show i < l.length from by omega) (x := x) (by rw [hxe])])) (Wk.ren3 [ps 7 (.osl 0 0 (i + 1)), ps 8 (.osl 1 0 3), ps 41 (.ssl (tns l) 0 l.length), ps 42 (nv l.length), ps 43 (nv (i + 1)), pb 0 41 (tns ((l.take (i + 1)).map (fun t => (chT ⟨false, sl, false, xl, xa, xo, s, h, d⟩ (endS l) t).1))), pb 1 51 [(PV.fn (.func 34) [] [(.opt 2 0)]), (PV.fn (.func 49) [] [(.opt 3 0)]), (PV.fn (.func 40) [] [(.opt 2 0)])], pb 2 29 (chC ⟨false, sl, false, xl, xa, xo, s, h, d⟩), pb 3 65 [(PV.fn (.func 38) [] [(.opt 2 0)])]] 0 hc0 [37, 2, 3, 4] [(kb 0, (tns ((l.take (i + 1)).map (fun t => (chT ⟨false, sl, false, xl, xa, xo, s, h, d⟩ (endS l) t).1))))] (obs_cons (tns_shd _) (obs_nil)) (by kernel_rfl) rfl rfl (by kernel_rfl) (by kernel_rfl))) (show l.length - (i + 1) < l.length - i from by omega)
            · refine T_else (b := (decide (((i : Nat) : Int) < ((l.length : Nat) : Int)))) rfl (decide_eq_false h6) ?_
              refine T_break rfl rfl ?_
              refine T_seq ?_
              have hil : i = l.length := by omega
              rw [hil] at hf
              have hBd : Bd (l.map (fun t => (chT ⟨false, sl, false, xl, xa, xo, s, h, d⟩ (endS l) t).1)) := fun x hx => (map_bd hl hc hf x hx).bd
              refine T_wk (Wk.eq (show _ = [ps 7 (.osl 0 0 l.length), ps 8 (.osl 1 0 3), ps 41 (.ssl (tns l) 0 l.length), ps 42 (nv l.length), ps 43 (nv i), ps 44 (bv (decide (((i : Nat) : Int) < ((l.length : Nat) : Int)))), pb 0 41 (tns (l.map (fun t => (chT ⟨false, sl, false, xl, xa, xo, s, h, d⟩ (endS l) t).1))), pb 1 51 [(PV.fn (.func 34) [] [(.opt 2 0)]), (PV.fn (.func 49) [] [(.opt 3 0)]), (PV.fn (.func 40) [] [(.opt 2 0)])], pb 2 29 (chC ⟨false, sl, false, xl, xa, xo, s, h, d⟩), pb 3 65 [(PV.fn (.func 38) [] [(.opt 2 0)])]] from by rw [hil, List.take_length])) ?_
              refine T_region [(1, .call [0] [(.osl 0 0 l.length), (fv 22)] [some (41, (tns (l.map (fun t => (chT ⟨false, sl, false, xl, xa, xo, s, h, d⟩ (endS l) t).1))))] (.tup []) [some (41, (tns (sortT (l.map (fun t => (chT ⟨false, sl, false, xl, xa, xo, s, h, d⟩ (endS l) t).1)))))])] [ks 7, kb 0] (fun _ => mixed) (l' := [ps 7 (.osl 0 0 l.length), pb 0 41 (renL (sigo [0] 20) (tns (sortT (l.map (fun t => (chT ⟨false, sl, false, xl, xa, xo, s, h, d⟩ (endS l) t).1)))))]) (obs := [PC Try.prog 21 [(.osl 0 0 l.length), (fv 22)] [some (41, (tns (l.map (fun t => (chT ⟨false, sl, false, xl, xa, xo, s, h, d⟩ (endS l) t).1))))] (.tup []) [some (41, (tns (sortT (l.map (fun t => (chT ⟨false, sl, false, xl, xa, xo, s, h, d⟩ (endS l) t).1)))))], [(.osl 0 0 l.length), (fv 22)] = renL (sigi [0] 20) [(.osl 0 0 l.length), (fv 22)], (tns (l.map (fun t => (chT ⟨false, sl, false, xl, xa, xo, s, h, d⟩ (endS l) t).1))) = renL (sigi [0] 20) (tns (l.map (fun t => (chT ⟨false, sl, false, xl, xa, xo, s, h, d⟩ (endS l) t).1)))]) (by kernel_rfl) (obs_cons (sort_pc (l.map (fun t => (chT ⟨false, sl, false, xl, xa, xo, s, h, d⟩ (endS l) t).1)) l.length (by rw [List.length_map]) (by omega) hBd) (obs_cons rfl (obs_cons (renL_shd (tns_shd _)).symm (obs_nil)))) ?_
              refine T_wk (Wk.eq (show _ = [ps 7 (.osl 0 0 l.length), pb 0 41 (tns (sortT (l.map (fun t => (chT ⟨false, sl, false, xl, xa, xo, s, h, d⟩ (endS l) t).1))))] from by simp only [renL_shd (tns_shd _)])) ?_
              refine T_seq ?_
              refine T_region [] [ks 4, ks 5, kb 0] (fun _ => mixed) (l' := [ps 4 (.osl 0 0 l.length), ps 5 (iv 0), pb 0 41 (tns (sortT (l.map (fun t => (chT ⟨false, sl, false, xl, xa, xo, s, h, d⟩ (endS l) t).1))))]) (obs := []) (by kernel_rfl) (obs_nil) ?_
              refine T_wk (Wk.eq (show _ = [ps 4 (.osl 0 0 ((sortT (l.map (fun t => (chT ⟨false, sl, false, xl, xa, xo, s, h, d⟩ (endS l) t).1))).length)), ps 5 (iv 0), pb 0 41 (tns (sortT (l.map (fun t => (chT ⟨false, sl, false, xl, xa, xo, s, h, d⟩ (endS l) t).1))))] from by rw [sortT_len, List.length_map])) ?_
              refine T_wk (Wk.frz (l' := [ps 4 (.ssl (tns (sortT (l.map (fun t => (chT ⟨false, sl, false, xl, xa, xo, s, h, d⟩ (endS l) t).1)))) 0 ((sortT (l.map (fun t => (chT ⟨false, sl, false, xl, xa, xo, s, h, d⟩ (endS l) t).1))).length)), ps 5 (iv 0), (kb 0, none)]) 0 (T := 41) (cs := (tns (sortT (l.map (fun t => (chT ⟨false, sl, false, xl, xa, xo, s, h, d⟩ (endS l) t).1))))) (by kernel_rfl) (tns_shd _) (by kernel_rfl)) ?_
              refine T_wk (Wk.less (l' := [ps 4 (.ssl (tns (sortT (l.map (fun t => (chT ⟨false, sl, false, xl, xa, xo, s, h, d⟩ (endS l) t).1)))) 0 ((sortT (l.map (fun t => (chT ⟨false, sl, false, xl, xa, xo, s, h, d⟩ (endS l) t).1))).length)), ps 5 (iv 0)]) 52 (by kernel_rfl) (by kernel_rfl)) ?_
              rw [chgP_ok h1 hc hf]
              exact T_ret fun cx_ a_ hI_ => ret_ok (H' := []) (.inr rfl) (Wk.ren2 [ps 4 (.ssl (tns (sortT (l.map (fun t => (chT ⟨false, sl, false, xl, xa, xo, s, h, d⟩ (endS l) t).1)))) 0 ((sortT (l.map (fun t => (chT ⟨false, sl, false, xl, xa, xo, s, h, d⟩ (endS l) t).1))).length)), ps 5 (iv 0)] 0 hc0 [] rfl rfl (by kernel_rfl) (by kernel_rfl)) rfl (obs_nil) (fun cx_ a_ hI_ => ret_res (l' := [ps 4 (.ssl (tns (sortT (l.map (fun t => (chT ⟨false, sl, false, xl, xa, xo, s, h, d⟩ (endS l) t).1)))) 0 ((sortT (l.map (fun t => (chT ⟨false, sl, false, xl, xa, xo, s, h, d⟩ (endS l) t).1))).length)), ps 5 (iv 0)]) (by kernel_rfl) cx_ a_ hI_) hI_
  · refine T_then (b := (!(decide ((wrongS l) = 0)))) rfl (congrArg Bool.not (decide_eq_false h1)) ?_
    refine T_seq ?_
    refine T_region [] [ks 4, ks 5] (fun _ => mixed) (l' := [ps 4 (.av (.slice none 0 0)), ps 5 (iv (wrongS l))]) (obs := []) (by kernel_rfl) (obs_nil) ?_
    rw [chgP_wrong h1]
    exact T_ret fun cx_ a_ hI_ => ret_ok (H' := []) (.inr rfl) (Wk.ren2 [ps 4 (.av (.slice none 0 0)), ps 5 (iv (wrongS l))] 0 hc0 [] rfl rfl (by kernel_rfl) (by kernel_rfl)) rfl (obs_nil) (fun cx_ a_ hI_ => ret_res (l' := [ps 4 (.av (.slice none 0 0)), ps 5 (iv (wrongS l))]) (by kernel_rfl) cx_ a_ hI_) hI_
end Go.Proofs.Ytjdblogapkbefaa.Pm
