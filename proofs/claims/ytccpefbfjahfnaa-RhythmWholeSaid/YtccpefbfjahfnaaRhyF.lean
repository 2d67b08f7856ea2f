/-
  THE LAW RhythmWrites: walks. (Printed by wip/pm.)
-/
import Derived.Test.YtccpefbfjahfnaaRhyE
namespace Go.Proofs.Ytccpefbfjahfnaa.Pm
open Go Fr

theorem same_vals (l : List (Int × Int)) (hl : l.length ≤ 9223372036854775807) : PC Try.prog 11 [(.ssl (vals l) 0 l.length), (.ssl (vals l) 0 l.length)] [] (bv true) [] := by
  refine pc_intro Try.func11 rfl (by kernel_rfl) (Nat.le_of_ble_eq_true rfl) (by kernel_rfl) (l0 := [ps 0 (.ssl (vals l) 0 l.length), ps 1 (.ssl (vals l) 0 l.length)]) rfl (fun c0 Bor hc0 => ?_)
  refine T_seq ?_
  refine T_region [] [ks 0, ks 1] (fun _ => mixed) (l' := [ps 0 (.ssl (vals l) 0 l.length), ps 1 (.ssl (vals l) 0 l.length)]) (obs := []) (by kernel_rfl) (obs_nil) ?_
  refine T_seq ?_
  refine T_seq ?_
  refine T_region [] [ks 0, ks 1, ks 10] (fun _ => mixed) (l' := [ps 0 (.ssl (vals l) 0 l.length), ps 1 (.ssl (vals l) 0 l.length), ps 10 (bv (!(decide (((l.length : Nat) : Int) = ((l.length : Nat) : Int)))))]) (obs := []) (by kernel_rfl) (obs_nil) ?_
  have h1 : ((l.length : Nat) : Int) = ((l.length : Nat) : Int) := rfl
  refine T_else (b := (!(decide (((l.length : Nat) : Int) = ((l.length : Nat) : Int))))) rfl (congrArg Bool.not (decide_eq_true h1)) ?_
  refine T_skip ?_
  refine T_seq ?_
  refine T_seq ?_
  refine T_region [] [ks 0, ks 1, ks 12, ks 13] (fun _ => mixed) (l' := [ps 0 (.ssl (vals l) 0 l.length), ps 1 (.ssl (vals l) 0 l.length), ps 12 (iv ((l.length : Nat) : Int)), ps 13 (iv 0)]) (obs := []) (by kernel_rfl) (obs_nil) ?_
  refine T_block ?_
  refine T_loop (α := {x : Nat // x ≤ l.length}) (fun x => [ps 0 (.ssl (vals l) 0 l.length), ps 1 (.ssl (vals l) 0 l.length), ps 12 (iv ((l.length : Nat) : Int)), ps 13 (iv ((x.1 : Nat) : Int))]) (fun x => l.length - x.1) 0 ⟨0, Nat.zero_le _⟩ (Wk.ren2 [ps 0 (.ssl (vals l) 0 l.length), ps 1 (.ssl (vals l) 0 l.length), ps 12 (iv ((l.length : Nat) : Int)), ps 13 (iv ((0 : Nat) : Int))] 0 hc0 [] rfl rfl (by kernel_rfl) (by kernel_rfl)) ?_
  rintro ⟨i, hi⟩
  refine T_seq ?_
  refine T_region [] [ks 0, ks 1, ks 12, ks 13, ks 14] (fun _ => mixed) (l' := [ps 0 (.ssl (vals l) 0 l.length), ps 1 (.ssl (vals l) 0 l.length), ps 12 (iv ((l.length : Nat) : Int)), ps 13 (iv ((i : Nat) : Int)), ps 14 (bv (decide (((i : Nat) : Int) < ((l.length : Nat) : Int))))]) (obs := []) (by kernel_rfl) (obs_nil) ?_
  refine T_seq ?_
  by_cases h2 : ((i : Nat) : Int) < ((l.length : Nat) : Int)
  · refine T_then (b := (decide (((i : Nat) : Int) < ((l.length : Nat) : Int)))) rfl (decide_eq_true h2) ?_
    refine T_skip ?_
    refine T_seq ?_
    refine T_block ?_
    refine T_seq ?_
    refine T_region [] [ks 0, ks 1, ks 5, ks 12, ks 13] (fun _ => mixed) (l' := [ps 0 (.ssl (vals l) 0 l.length), ps 1 (.ssl (vals l) 0 l.length), ps 5 (iv ((i : Nat) : Int)), ps 12 (iv ((l.length : Nat) : Int)), ps 13 (iv ((i : Nat) : Int))]) (obs := []) (by kernel_rfl) (obs_nil) ?_
    refine T_seq ?_
    refine T_region [(2, .nat (i * 2)), (3, .cells [(iv ((l.getD i (0, 0)).1)), (iv ((l.getD i (0, 0)).2))]), (6, .nat (i * 2)), (7, .cells [(iv ((l.getD i (0, 0)).1)), (iv ((l.getD i (0, 0)).2))])] [ks 0, ks 1, ks 12, ks 13, ks 24] (fun _ => mixed) (l' := [ps 0 (.ssl (vals l) 0 l.length), ps 1 (.ssl (vals l) 0 l.length), ps 12 (iv ((l.length : Nat) : Int)), ps 13 (iv ((i : Nat) : Int)), ps 24 (bv (!((decide (((l.getD i (0, 0)).1) = ((l.getD i (0, 0)).1))) && (decide (((l.getD i (0, 0)).2) = ((l.getD i (0, 0)).2))))))]) (obs := [(0 : Int) ≤ ((i : Nat) : Int) ∧ ((i : Nat) : Int) < ((l.length : Nat) : Int), 0 + (((i : Nat) : Int) : Int).toNat * 2 = (i * 2), (i * 2) + 2 ≤ ((vals l)).length ∧ (((vals l)).drop (i * 2)).take 2 = [(iv ((l.getD i (0, 0)).1)), (iv ((l.getD i (0, 0)).2))], (0 : Int) ≤ ((i : Nat) : Int) ∧ ((i : Nat) : Int) < ((l.length : Nat) : Int), 0 + (((i : Nat) : Int) : Int).toNat * 2 = (i * 2), (i * 2) + 2 ≤ ((vals l)).length ∧ (((vals l)).drop (i * 2)).take 2 = [(iv ((l.getD i (0, 0)).1)), (iv ((l.getD i (0, 0)).2))]]) (by kernel_rfl) (obs_cons (p := (0 : Int) ≤ ((i : Nat) : Int) ∧ ((i : Nat) : Int) < ((l.length : Nat) : Int)) (by omega) (obs_cons (p := 0 + (((i : Nat) : Int) : Int).toNat * 2 = (i * 2)) (by omega) (obs_cons (p := (i * 2) + 2 ≤ ((vals l)).length ∧ (((vals l)).drop (i * 2)).take 2 = [(iv ((l.getD i (0, 0)).1)), (iv ((l.getD i (0, 0)).2))]) (flat_at valC 2 (fun _ => rfl) (0, 0) l i 0 2 (by omega) (by decide)) (obs_cons (p := (0 : Int) ≤ ((i : Nat) : Int) ∧ ((i : Nat) : Int) < ((l.length : Nat) : Int)) (by omega) (obs_cons (p := 0 + (((i : Nat) : Int) : Int).toNat * 2 = (i * 2)) (by omega) (obs_cons (p := (i * 2) + 2 ≤ ((vals l)).length ∧ (((vals l)).drop (i * 2)).take 2 = [(iv ((l.getD i (0, 0)).1)), (iv ((l.getD i (0, 0)).2))]) (flat_at valC 2 (fun _ => rfl) (0, 0) l i 0 2 (by omega) (by decide)) (obs_nil))))))) ?_
    have h3 : ((decide (((l.getD i (0, 0)).1) = ((l.getD i (0, 0)).1))) && (decide (((l.getD i (0, 0)).2) = ((l.getD i (0, 0)).2)))) = true := by simp
    refine T_else (b := (!((decide (((l.getD i (0, 0)).1) = ((l.getD i (0, 0)).1))) && (decide (((l.getD i (0, 0)).2) = ((l.getD i (0, 0)).2)))))) rfl (congrArg Bool.not h3) ?_
    refine T_skip ?_
    refine T_blk ?_
    refine T_region [] [ks 0, ks 1, ks 12, ks 13] (fun _ => mixed) (l' := [ps 0 (.ssl (vals l) 0 l.length), ps 1 (.ssl (vals l) 0 l.length), ps 12 (iv ((l.length : Nat) : Int)), ps 13 (iv (((i : Nat) : Int) + 1))]) (obs := [InK .i64 (((i : Nat) : Int) + 1)]) (by kernel_rfl) (obs_cons (p := InK .i64 (((i : Nat) : Int) + 1)) (by simp only [InK]; omega) (obs_nil)) ?_
    exact T_back ⟨i + 1, by omega⟩ (Wk.ren2 [ps 0 (.ssl (vals l) 0 l.length), ps 1 (.ssl (vals l) 0 l.length), ps 12 (iv ((l.length : Nat) : Int)), ps 13 (iv (((i + 1) : Nat) : Int))] 0 hc0 [] rfl rfl (by kernel_rfl) (by kernel_rfl)) (show l.length - (i + 1) < l.length - i from by omega)
  · refine T_else (b := (decide (((i : Nat) : Int) < ((l.length : Nat) : Int)))) rfl (decide_eq_false h2) ?_
    refine T_break rfl rfl ?_
    refine T_seq ?_
    refine T_region [] [ks 4] (fun _ => mixed) (l' := [ps 4 (bv true)]) (obs := []) (by kernel_rfl) (obs_nil) ?_
    exact T_ret fun cx_ a_ hI_ => ret_ok (H' := []) (.inr rfl) (Wk.ren2 [ps 4 (bv true)] 0 hc0 [] rfl rfl (by kernel_rfl) (by kernel_rfl)) rfl (obs_nil) (fun cx_ a_ hI_ => ret_res (l' := [ps 4 (bv true)]) (by kernel_rfl) cx_ a_ hI_) hI_
theorem write_yes (u d : Int) (hu : I64 u) (hd : I64 d) (h : writeE u d = 0) : PC Try.prog 9 [.agg [iv u, iv d]] [] (.tup [.ssl (vals (valsS (writeN u d))) 0 (valsS (writeN u d)).length, iv 0]) [] := by rw [← writeP_yes h]; exact write_pc u d hu hd
theorem write_no (u d : Int) (hu : I64 u) (hd : I64 d) (h : ¬ writeE u d = 0) : PC Try.prog 9 [.agg [iv u, iv d]] [] (.tup [.ssl [] 0 0, iv (writeE u d)]) [] := by rw [← writeP_no rfl h]; exact write_pc u d hu hd
theorem ref_write_yes (u d : Int) (hu : I64 u) (hd : I64 d) (h : writeE u d = 0) : PC Try.prog 10 [.agg [iv u, iv d]] [] (.tup [.ssl (vals (valsS (writeN u d))) 0 (valsS (writeN u d)).length, iv 0]) [] := by rw [← writeP_yes h]; exact ref_write_pc u d hu hd
theorem ref_write_no (u d : Int) (hu : I64 u) (hd : I64 d) (h : ¬ writeE u d = 0) : PC Try.prog 10 [.agg [iv u, iv d]] [] (.tup [.ssl [] 0 0, iv (writeE u d)]) [] := by rw [← writeP_no rfl h]; exact ref_write_pc u d hu hd
theorem pt_len (n : Nat) : ∀ r s, (pt n r s).length ≤ r
  | 0, _ => Nat.le_refl _
  | r + 1, s + 1 => by rw [pt]; exact Nat.le_succ_of_le (pt_len n r s)
  | r + 1, 0 => by
    rw [pt]
    split
    · rw [List.length_cons]; exact Nat.succ_le_succ (pt_len n r _)
    · exact Nat.le_succ_of_le (pt_len n r 0)
theorem valsS_len {u d : Int} (h : writeE u d = 0) : (valsS (writeN u d)).length ≤ 70000 := by
  have h1 := (write_num h).2.2
  have h2 := pt_len (writeN u d) 10 0
  unfold valsS
  rw [List.length_append, List.length_replicate]
  omega
set_option maxRecDepth 100000 in
theorem law_writes (h e u d : Int) (hh : I64 h) (he : I64 e) (hu : I64 u) (hd : I64 d) : PC Try.prog 3 [(.agg [(iv h), (iv e)]), (.agg [(iv u), (iv d)])] [] (bv true) [] := by
  refine pc_intro Try.func3 rfl (by kernel_rfl) (Nat.le_of_ble_eq_true rfl) (by kernel_rfl) (l0 := [ps 0 (.agg [(iv h), (iv e)]), ps 1 (.agg [(iv u), (iv d)])]) rfl (fun c0 Bor hc0 => ?_)
  refine T_seq ?_
  refine T_region [] [ks 2, ks 3, kb 0, kb 8] (fun _ => mixed) (l' := [ps 2 (.opt 0 0), ps 3 (.opt 8 0), pb 0 23 [(iv h), (iv e)], pb 8 25 [(iv u), (iv d)]]) (obs := []) (by kernel_rfl) (obs_nil) ?_
  refine T_seq ?_
  refine T_region [(1, .call [] [(.agg [(iv h), (iv e)])] [] (.tup [(.agg [(iv ((lenS h e).1)), (iv ((lenS h e).2.1))]), (iv ((lenS h e).2.2))]) [])] [ks 2, ks 3, ks 5, ks 6, kb 0, kb 8, kb 64] (fun _ => mixed) (l' := [ps 2 (.opt 0 0), ps 3 (.opt 8 0), ps 5 (.opt 64 0), ps 6 (iv ((lenS h e).2.2)), pb 0 23 [(iv h), (iv e)], pb 8 25 [(iv u), (iv d)], pb 64 25 [(iv ((lenS h e).1)), (iv ((lenS h e).2.1))]]) (obs := [PC Try.prog 7 [(.agg [(iv h), (iv e)])] [] (.tup [(.agg [(iv ((lenS h e).1)), (iv ((lenS h e).2.1))]), (iv ((lenS h e).2.2))]) [], [(.agg [(iv h), (iv e)])] = renL (sigi [] 32) [(.agg [(iv h), (iv e)])]]) (by kernel_rfl) (obs_cons (p := PC Try.prog 7 [(.agg [(iv h), (iv e)])] [] (.tup [(.agg [(iv ((lenS h e).1)), (iv ((lenS h e).2.1))]), (iv ((lenS h e).2.2))]) []) (length_pc h e hh he) (obs_cons (p := [(.agg [(iv h), (iv e)])] = renL (sigi [] 32) [(.agg [(iv h), (iv e)])]) rfl (obs_nil))) ?_
  refine T_seq ?_
  refine T_region [(1, .call [] [(.agg [(iv h), (iv e)])] [] (.tup [(.agg [(iv ((lenS h e).1)), (iv ((lenS h e).2.1))]), (iv ((lenS h e).2.2))]) [])] [ks 3, ks 5, ks 6, ks 7, ks 8, kb 8, kb 64, kb 128] (fun _ => mixed) (l' := [ps 3 (.opt 8 0), ps 5 (.opt 64 0), ps 6 (iv ((lenS h e).2.2)), ps 7 (.opt 128 0), ps 8 (iv ((lenS h e).2.2)), pb 8 25 [(iv u), (iv d)], pb 64 25 [(iv ((lenS h e).1)), (iv ((lenS h e).2.1))], pb 128 25 [(iv ((lenS h e).1)), (iv ((lenS h e).2.1))]]) (obs := [PC Try.prog 8 [(.agg [(iv h), (iv e)])] [] (.tup [(.agg [(iv ((lenS h e).1)), (iv ((lenS h e).2.1))]), (iv ((lenS h e).2.2))]) [], [(.agg [(iv h), (iv e)])] = renL (sigi [] 96) [(.agg [(iv h), (iv e)])]]) (by kernel_rfl) (obs_cons (p := PC Try.prog 8 [(.agg [(iv h), (iv e)])] [] (.tup [(.agg [(iv ((lenS h e).1)), (iv ((lenS h e).2.1))]), (iv ((lenS h e).2.2))]) []) (ref_length_pc h e) (obs_cons (p := [(.agg [(iv h), (iv e)])] = renL (sigi [] 96) [(.agg [(iv h), (iv e)])]) rfl (obs_nil))) ?_
  refine T_seq ?_
  refine T_seq ?_
  have h1 : ((decide (((lenS h e).1) = ((lenS h e).1))) && (decide (((lenS h e).2.1) = ((lenS h e).2.1)))) = true := by simp
  refine T_region [(4, .gd false (.no)), (5, .gd false (.no)), (6, .gd false (.no)), (7, .yes false)] [ks 3, ks 28, kb 8] (fun _ => mixed) (l' := [ps 3 (.opt 8 0), ps 28 (bv (!(decide (((lenS h e).2.2) = ((lenS h e).2.2))))), pb 8 25 [(iv u), (iv d)]]) (obs := [(!((decide (((lenS h e).1) = ((lenS h e).1))) && (decide (((lenS h e).2.1) = ((lenS h e).2.1))))) = false, (!((decide (((lenS h e).1) = ((lenS h e).1))) && (decide (((lenS h e).2.1) = ((lenS h e).2.1))))) = false, (!((decide (((lenS h e).1) = ((lenS h e).1))) && (decide (((lenS h e).2.1) = ((lenS h e).2.1))))) = false, (!((decide (((lenS h e).1) = ((lenS h e).1))) && (decide (((lenS h e).2.1) = ((lenS h e).2.1))))) = false]) (by kernel_rfl) (obs_cons (p := (!((decide (((lenS h e).1) = ((lenS h e).1))) && (decide (((lenS h e).2.1) = ((lenS h e).2.1))))) = false) (congrArg Bool.not h1) (obs_cons (p := (!((decide (((lenS h e).1) = ((lenS h e).1))) && (decide (((lenS h e).2.1) = ((lenS h e).2.1))))) = false) (congrArg Bool.not h1) (obs_cons (p := (!((decide (((lenS h e).1) = ((lenS h e).1))) && (decide (((lenS h e).2.1) = ((lenS h e).2.1))))) = false) (congrArg Bool.not h1) (obs_cons (p := (!((decide (((lenS h e).1) = ((lenS h e).1))) && (decide (((lenS h e).2.1) = ((lenS h e).2.1))))) = false) (congrArg Bool.not h1) (obs_nil))))) ?_
  have h2 : ((lenS h e).2.2) = ((lenS h e).2.2) := rfl
  refine T_else (b := (!(decide (((lenS h e).2.2) = ((lenS h e).2.2))))) rfl (congrArg Bool.not (decide_eq_true h2)) ?_
  refine T_skip ?_
  refine T_seq ?_
  by_cases h3 : writeE u d = 0
  · refine T_region [(1, .call [] [(.agg [(iv u), (iv d)])] [] (.tup [(.ssl (vals (valsS (writeN u d))) 0 ((valsS (writeN u d)).length)), (iv 0)]) [])] [ks 3, ks 6, ks 9, kb 8] (fun _ => mixed) (l' := [ps 3 (.opt 8 0), ps 6 (iv 0), ps 9 (.ssl (vals (valsS (writeN u d))) 0 ((valsS (writeN u d)).length)), pb 8 25 [(iv u), (iv d)]]) (obs := [PC Try.prog 9 [(.agg [(iv u), (iv d)])] [] (.tup [(.ssl (vals (valsS (writeN u d))) 0 ((valsS (writeN u d)).length)), (iv 0)]) [], [(.agg [(iv u), (iv d)])] = renL (sigi [] 224) [(.agg [(iv u), (iv d)])]]) (by kernel_rfl) (obs_cons (p := PC Try.prog 9 [(.agg [(iv u), (iv d)])] [] (.tup [(.ssl (vals (valsS (writeN u d))) 0 ((valsS (writeN u d)).length)), (iv 0)]) []) (write_yes u d hu hd h3) (obs_cons (p := [(.agg [(iv u), (iv d)])] = renL (sigi [] 224) [(.agg [(iv u), (iv d)])]) rfl (obs_nil))) ?_
    refine T_seq ?_
    refine T_region [(1, .call [] [(.agg [(iv u), (iv d)])] [] (.tup [(.ssl (vals (valsS (writeN u d))) 0 ((valsS (writeN u d)).length)), (iv 0)]) [])] [ks 6, ks 8, ks 9, ks 10] (fun _ => mixed) (l' := [ps 6 (iv 0), ps 8 (iv 0), ps 9 (.ssl (vals (valsS (writeN u d))) 0 ((valsS (writeN u d)).length)), ps 10 (.ssl (vals (valsS (writeN u d))) 0 ((valsS (writeN u d)).length))]) (obs := [PC Try.prog 10 [(.agg [(iv u), (iv d)])] [] (.tup [(.ssl (vals (valsS (writeN u d))) 0 ((valsS (writeN u d)).length)), (iv 0)]) [], [(.agg [(iv u), (iv d)])] = renL (sigi [] 280) [(.agg [(iv u), (iv d)])]]) (by kernel_rfl) (obs_cons (p := PC Try.prog 10 [(.agg [(iv u), (iv d)])] [] (.tup [(.ssl (vals (valsS (writeN u d))) 0 ((valsS (writeN u d)).length)), (iv 0)]) []) (ref_write_yes u d hu hd h3) (obs_cons (p := [(.agg [(iv u), (iv d)])] = renL (sigi [] 280) [(.agg [(iv u), (iv d)])]) rfl (obs_nil))) ?_
    refine T_seq ?_
    refine T_region [(2, .call [] [(.ssl (vals (valsS (writeN u d))) 0 ((valsS (writeN u d)).length)), (.ssl (vals (valsS (writeN u d))) 0 ((valsS (writeN u d)).length))] [] (bv true) []), (4, .gd true (.no)), (5, .gd true (.no)), (6, .gd true (.no))] [ks 4] (fun _ => mixed) (l' := [ps 4 (bv true)]) (obs := [PC Try.prog 11 [(.ssl (vals (valsS (writeN u d))) 0 ((valsS (writeN u d)).length)), (.ssl (vals (valsS (writeN u d))) 0 ((valsS (writeN u d)).length))] [] (bv true) [], [(.ssl (vals (valsS (writeN u d))) 0 ((valsS (writeN u d)).length)), (.ssl (vals (valsS (writeN u d))) 0 ((valsS (writeN u d)).length))] = renL (sigi [] 344) [(.ssl (vals (valsS (writeN u d))) 0 ((valsS (writeN u d)).length)), (.ssl (vals (valsS (writeN u d))) 0 ((valsS (writeN u d)).length))], true = true, true = true, true = true]) (by kernel_rfl) (obs_cons (p := PC Try.prog 11 [(.ssl (vals (valsS (writeN u d))) 0 ((valsS (writeN u d)).length)), (.ssl (vals (valsS (writeN u d))) 0 ((valsS (writeN u d)).length))] [] (bv true) []) (same_vals (valsS (writeN u d)) (by have := valsS_len h3; omega)) (obs_cons (p := [(.ssl (vals (valsS (writeN u d))) 0 ((valsS (writeN u d)).length)), (.ssl (vals (valsS (writeN u d))) 0 ((valsS (writeN u d)).length))] = renL (sigi [] 344) [(.ssl (vals (valsS (writeN u d))) 0 ((valsS (writeN u d)).length)), (.ssl (vals (valsS (writeN u d))) 0 ((valsS (writeN u d)).length))]) rfl (obs_cons (p := true = true) rfl (obs_cons (p := true = true) rfl (obs_cons (p := true = true) rfl (obs_nil)))))) ?_
    exact T_ret fun cx_ a_ hI_ => ret_ok (H' := []) (.inr rfl) (Wk.ren2 [ps 4 (bv true)] 0 hc0 [] rfl rfl (by kernel_rfl) (by kernel_rfl)) rfl (obs_nil) (fun cx_ a_ hI_ => ret_res (l' := [ps 4 (bv true)]) (by kernel_rfl) cx_ a_ hI_) hI_
  · refine T_region [(1, .call [] [(.agg [(iv u), (iv d)])] [] (.tup [(.ssl [] 0 0), (iv (writeE u d))]) [])] [ks 3, ks 6, ks 9, kb 8] (fun _ => mixed) (l' := [ps 3 (.opt 8 0), ps 6 (iv (writeE u d)), ps 9 (.ssl [] 0 0), pb 8 25 [(iv u), (iv d)]]) (obs := [PC Try.prog 9 [(.agg [(iv u), (iv d)])] [] (.tup [(.ssl [] 0 0), (iv (writeE u d))]) [], [(.agg [(iv u), (iv d)])] = renL (sigi [] 224) [(.agg [(iv u), (iv d)])]]) (by kernel_rfl) (obs_cons (p := PC Try.prog 9 [(.agg [(iv u), (iv d)])] [] (.tup [(.ssl [] 0 0), (iv (writeE u d))]) []) (write_no u d hu hd h3) (obs_cons (p := [(.agg [(iv u), (iv d)])] = renL (sigi [] 224) [(.agg [(iv u), (iv d)])]) rfl (obs_nil))) ?_
    refine T_seq ?_
    refine T_region [(1, .call [] [(.agg [(iv u), (iv d)])] [] (.tup [(.ssl [] 0 0), (iv (writeE u d))]) [])] [ks 6, ks 8, ks 9, ks 10] (fun _ => mixed) (l' := [ps 6 (iv (writeE u d)), ps 8 (iv (writeE u d)), ps 9 (.ssl [] 0 0), ps 10 (.ssl [] 0 0)]) (obs := [PC Try.prog 10 [(.agg [(iv u), (iv d)])] [] (.tup [(.ssl [] 0 0), (iv (writeE u d))]) [], [(.agg [(iv u), (iv d)])] = renL (sigi [] 280) [(.agg [(iv u), (iv d)])]]) (by kernel_rfl) (obs_cons (p := PC Try.prog 10 [(.agg [(iv u), (iv d)])] [] (.tup [(.ssl [] 0 0), (iv (writeE u d))]) []) (ref_write_no u d hu hd h3) (obs_cons (p := [(.agg [(iv u), (iv d)])] = renL (sigi [] 280) [(.agg [(iv u), (iv d)])]) rfl (obs_nil))) ?_
    refine T_seq ?_
    refine T_region [(2, .call [] [(.ssl [] 0 0), (.ssl [] 0 0)] [] (bv true) []), (4, .gd true (.no)), (5, .gd true (.no)), (6, .gd true (.no))] [ks 4] (fun _ => mixed) (l' := [ps 4 (bv (decide ((writeE u d) = (writeE u d))))]) (obs := [PC Try.prog 11 [(.ssl [] 0 0), (.ssl [] 0 0)] [] (bv true) [], [(.ssl [] 0 0), (.ssl [] 0 0)] = renL (sigi [] 344) [(.ssl [] 0 0), (.ssl [] 0 0)], true = true, true = true, true = true]) (by kernel_rfl) (obs_cons (p := PC Try.prog 11 [(.ssl [] 0 0), (.ssl [] 0 0)] [] (bv true) []) (same_vals [] (Nat.zero_le _)) (obs_cons (p := [(.ssl [] 0 0), (.ssl [] 0 0)] = renL (sigi [] 344) [(.ssl [] 0 0), (.ssl [] 0 0)]) rfl (obs_cons (p := true = true) rfl (obs_cons (p := true = true) rfl (obs_cons (p := true = true) rfl (obs_nil)))))) ?_
    refine T_wk (Wk.eq (show [ps 4 (bv (decide ((writeE u d) = (writeE u d))))] = [ps 4 (bv true)] from by rw [decide_eq_true rfl])) ?_
    exact T_ret fun cx_ a_ hI_ => ret_ok (H' := []) (.inr rfl) (Wk.ren2 [ps 4 (bv true)] 0 hc0 [] rfl rfl (by kernel_rfl) (by kernel_rfl)) rfl (obs_nil) (fun cx_ a_ hI_ => ret_res (l' := [ps 4 (bv true)]) (by kernel_rfl) cx_ a_ hI_) hI_
end Go.Proofs.Ytccpefbfjahfnaa.Pm
