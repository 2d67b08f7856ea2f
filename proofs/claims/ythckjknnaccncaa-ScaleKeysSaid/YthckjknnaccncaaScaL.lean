/-
  KEYS OF THE KEYBOARD: walks. (Printed by wip/pm.)
-/
import Derived.Test.YthckjknnaccncaaScaK
namespace Go.Proofs.Ythckjknnaccncaa.Pm
open Go

theorem ref_halves_pc (l a o : Int) (hl : 0 ≤ l ∧ l < 7) (ha : -1000 ≤ a ∧ a ≤ 1000) (ho : -1000 ≤ o ∧ o ≤ 1000) : PC Try.prog 34 [(.agg [(iv l), (iv a), (iv o)])] [] (iv (halvesS l a o)) [] := by
  refine pc_intro Try.func34 rfl (by kernel_rfl) (Nat.le_of_ble_eq_true rfl) (by kernel_rfl) (l0 := [ps 0 (.agg [(iv l), (iv a), (iv o)])]) rfl (fun c0 Bor hc0 => ?_)
  refine T_seq ?_
  refine T_region [] [ks 1, kb 0] (fun _ => mixed) (l' := [ps 1 (.opt 0 0), pb 0 23 [(iv l), (iv a), (iv o)]]) (obs := []) (by kernel_rfl) (obs_nil) ?_
  refine T_seq ?_
  refine T_region [(1, .call [] [(.agg [(iv l), (iv a), (iv o)])] [] (iv (stepsS l o)) []), (2, .call [] [(iv (stepsS l o))] [] (iv (whiteW (stepsS l o))) [])] [ks 2] (fun _ => mixed) (l' := [ps 2 (iv ((whiteW (stepsS l o)) + a))]) (obs := [PC Try.prog 37 [(.agg [(iv l), (iv a), (iv o)])] [] (iv (stepsS l o)) [], [(.agg [(iv l), (iv a), (iv o)])] = renL (sigi [] 24) [(.agg [(iv l), (iv a), (iv o)])], PC Try.prog 36 [(iv (stepsS l o))] [] (iv (whiteW (stepsS l o))) [], [(iv (stepsS l o))] = renL (sigi [] 32) [(iv (stepsS l o))], InK .i64 ((whiteW (stepsS l o)) + a)]) (by kernel_rfl) (obs_cons (p := PC Try.prog 37 [(.agg [(iv l), (iv a), (iv o)])] [] (iv (stepsS l o)) []) (ref_steps_pc l a o (by omega) (by omega)) (obs_cons (p := [(.agg [(iv l), (iv a), (iv o)])] = renL (sigi [] 24) [(.agg [(iv l), (iv a), (iv o)])]) rfl (obs_cons (p := PC Try.prog 36 [(iv (stepsS l o))] [] (iv (whiteW (stepsS l o))) []) (white_pc (stepsS l o) (by unfold stepsS; omega)) (obs_cons (p := [(iv (stepsS l o))] = renL (sigi [] 32) [(iv (stepsS l o))]) rfl (obs_cons (p := InK .i64 ((whiteW (stepsS l o)) + a)) (by have := white_bd (stepsS l o) (by unfold stepsS; omega); simp only [InK]; omega) (obs_nil)))))) ?_
  refine T_wk (Wk.eq (show [ps 2 (iv ((whiteW (stepsS l o)) + a))] = [ps 2 (iv (halvesS l a o))] from by rw [white_halves hl])) ?_
  exact T_ret fun cx_ a_ hI_ => ret_ok (H' := []) (.inr rfl) (Wk.ren2 [ps 2 (iv (halvesS l a o))] 0 hc0 [] rfl rfl (by kernel_rfl) (by kernel_rfl)) rfl (obs_nil) (fun cx_ a_ hI_ => ret_res (l' := [ps 2 (iv (halvesS l a o))]) (by kernel_rfl) cx_ a_ hI_) hI_
theorem key_pc (l a o : Int) : PC Try.prog 26 [(.agg [(iv l), (iv a), (iv o)])] [] (.tup [iv (keyS l a o).1, iv (keyS l a o).2]) [] := by
  refine pc_intro Try.func26 rfl (by kernel_rfl) (Nat.le_of_ble_eq_true rfl) (by kernel_rfl) (l0 := [ps 0 (.agg [(iv l), (iv a), (iv o)])]) rfl (fun c0 Bor hc0 => ?_)
  refine T_seq ?_
  refine T_region [] [ks 1, kb 0] (fun _ => mixed) (l' := [ps 1 (.opt 0 0), pb 0 23 [(iv l), (iv a), (iv o)]]) (obs := []) (by kernel_rfl) (obs_nil) ?_
  refine T_seq ?_
  refine T_seq ?_
  refine T_region [(1, .call [] [(.agg [(iv l), (iv a), (iv o)])] [] (bv (rightQ l a o)) [])] [ks 1, ks 6, kb 0] (fun _ => mixed) (l' := [ps 1 (.opt 0 0), ps 6 (bv (!(rightQ l a o))), pb 0 23 [(iv l), (iv a), (iv o)]]) (obs := [PC Try.prog 15 [(.agg [(iv l), (iv a), (iv o)])] [] (bv (rightQ l a o)) [], [(.agg [(iv l), (iv a), (iv o)])] = renL (sigi [] 32) [(.agg [(iv l), (iv a), (iv o)])]]) (by kernel_rfl) (obs_cons (p := PC Try.prog 15 [(.agg [(iv l), (iv a), (iv o)])] [] (bv (rightQ l a o)) []) (right_pc l a o) (obs_cons (p := [(.agg [(iv l), (iv a), (iv o)])] = renL (sigi [] 32) [(.agg [(iv l), (iv a), (iv o)])]) rfl (obs_nil))) ?_
  by_cases h1 : (rightQ l a o) = true
  · refine T_else (b := (!(rightQ l a o))) rfl (congrArg Bool.not h1) ?_
    refine T_skip ?_
    refine T_seq ?_
    have hR := rightQ_iff.1 h1
    have hb := halves_bd l a o (by omega) (by omega)
    refine T_region [(1, .call [] [(.agg [(iv l), (iv a), (iv o)])] [] (iv (halvesS l a o)) [])] [ks 2, ks 3] (fun _ => mixed) (l' := [ps 2 (iv ((halvesS l a o) + 12)), ps 3 (iv 0)]) (obs := [PC Try.prog 29 [(.agg [(iv l), (iv a), (iv o)])] [] (iv (halvesS l a o)) [], [(.agg [(iv l), (iv a), (iv o)])] = renL (sigi [] 56) [(.agg [(iv l), (iv a), (iv o)])], InK .i64 ((halvesS l a o) + 12)]) (by kernel_rfl) (obs_cons (p := PC Try.prog 29 [(.agg [(iv l), (iv a), (iv o)])] [] (iv (halvesS l a o)) []) (halves_pc l a o (by omega) (by omega) (by omega)) (obs_cons (p := [(.agg [(iv l), (iv a), (iv o)])] = renL (sigi [] 56) [(.agg [(iv l), (iv a), (iv o)])]) rfl (obs_cons (p := InK .i64 ((halvesS l a o) + 12)) (by simp only [InK]; omega) (obs_nil)))) ?_
    rw [show keyS l a o = (halvesS l a o + 12, 0) from if_pos h1]
    exact T_ret fun cx_ a_ hI_ => ret_ok (H' := []) (.inr rfl) (Wk.ren2 [ps 2 (iv ((halvesS l a o) + 12)), ps 3 (iv 0)] 0 hc0 [] rfl rfl (by kernel_rfl) (by kernel_rfl)) rfl (obs_nil) (fun cx_ a_ hI_ => ret_res (l' := [ps 2 (iv ((halvesS l a o) + 12)), ps 3 (iv 0)]) (by kernel_rfl) cx_ a_ hI_) hI_
  · refine T_then (b := (!(rightQ l a o))) rfl (congrArg Bool.not (Bool.eq_false_iff.2 h1)) ?_
    refine T_seq ?_
    refine T_region [] [ks 2, ks 3] (fun _ => mixed) (l' := [ps 2 (iv 0), ps 3 (iv 2)]) (obs := []) (by kernel_rfl) (obs_nil) ?_
    rw [show keyS l a o = (0, 2) from if_neg h1]
    exact T_ret fun cx_ a_ hI_ => ret_ok (H' := []) (.inr rfl) (Wk.ren2 [ps 2 (iv 0), ps 3 (iv 2)] 0 hc0 [] rfl rfl (by kernel_rfl) (by kernel_rfl)) rfl (obs_nil) (fun cx_ a_ hI_ => ret_res (l' := [ps 2 (iv 0), ps 3 (iv 2)]) (by kernel_rfl) cx_ a_ hI_) hI_
theorem ref_key_pc (l a o : Int) : PC Try.prog 27 [(.agg [(iv l), (iv a), (iv o)])] [] (.tup [iv (keyS l a o).1, iv (keyS l a o).2]) [] := by
  refine pc_intro Try.func27 rfl (by kernel_rfl) (Nat.le_of_ble_eq_true rfl) (by kernel_rfl) (l0 := [ps 0 (.agg [(iv l), (iv a), (iv o)])]) rfl (fun c0 Bor hc0 => ?_)
  refine T_seq ?_
  refine T_region [] [ks 1, kb 0] (fun _ => mixed) (l' := [ps 1 (.opt 0 0), pb 0 23 [(iv l), (iv a), (iv o)]]) (obs := []) (by kernel_rfl) (obs_nil) ?_
  refine T_seq ?_
  refine T_seq ?_
  refine T_region [(1, .call [] [(.agg [(iv l), (iv a), (iv o)])] [] (bv (rightQ l a o)) [])] [ks 1, ks 6, kb 0] (fun _ => mixed) (l' := [ps 1 (.opt 0 0), ps 6 (bv (!(rightQ l a o))), pb 0 23 [(iv l), (iv a), (iv o)]]) (obs := [PC Try.prog 25 [(.agg [(iv l), (iv a), (iv o)])] [] (bv (rightQ l a o)) [], [(.agg [(iv l), (iv a), (iv o)])] = renL (sigi [] 32) [(.agg [(iv l), (iv a), (iv o)])]]) (by kernel_rfl) (obs_cons (p := PC Try.prog 25 [(.agg [(iv l), (iv a), (iv o)])] [] (bv (rightQ l a o)) []) (ref_right_pc l a o) (obs_cons (p := [(.agg [(iv l), (iv a), (iv o)])] = renL (sigi [] 32) [(.agg [(iv l), (iv a), (iv o)])]) rfl (obs_nil))) ?_
  by_cases h1 : (rightQ l a o) = true
  · refine T_else (b := (!(rightQ l a o))) rfl (congrArg Bool.not h1) ?_
    refine T_skip ?_
    refine T_seq ?_
    have hR := rightQ_iff.1 h1
    have hb := halves_bd l a o (by omega) (by omega)
    refine T_region [(1, .call [] [(.agg [(iv l), (iv a), (iv o)])] [] (iv (halvesS l a o)) [])] [ks 2, ks 3] (fun _ => mixed) (l' := [ps 2 (iv ((halvesS l a o) + 12)), ps 3 (iv 0)]) (obs := [PC Try.prog 34 [(.agg [(iv l), (iv a), (iv o)])] [] (iv (halvesS l a o)) [], [(.agg [(iv l), (iv a), (iv o)])] = renL (sigi [] 56) [(.agg [(iv l), (iv a), (iv o)])], InK .i64 ((halvesS l a o) + 12)]) (by kernel_rfl) (obs_cons (p := PC Try.prog 34 [(.agg [(iv l), (iv a), (iv o)])] [] (iv (halvesS l a o)) []) (ref_halves_pc l a o (by omega) (by omega) (by omega)) (obs_cons (p := [(.agg [(iv l), (iv a), (iv o)])] = renL (sigi [] 56) [(.agg [(iv l), (iv a), (iv o)])]) rfl (obs_cons (p := InK .i64 ((halvesS l a o) + 12)) (by simp only [InK]; omega) (obs_nil)))) ?_
    rw [show keyS l a o = (halvesS l a o + 12, 0) from if_pos h1]
    exact T_ret fun cx_ a_ hI_ => ret_ok (H' := []) (.inr rfl) (Wk.ren2 [ps 2 (iv ((halvesS l a o) + 12)), ps 3 (iv 0)] 0 hc0 [] rfl rfl (by kernel_rfl) (by kernel_rfl)) rfl (obs_nil) (fun cx_ a_ hI_ => ret_res (l' := [ps 2 (iv ((halvesS l a o) + 12)), ps 3 (iv 0)]) (by kernel_rfl) cx_ a_ hI_) hI_
  · refine T_then (b := (!(rightQ l a o))) rfl (congrArg Bool.not (Bool.eq_false_iff.2 h1)) ?_
    refine T_seq ?_
    refine T_region [] [ks 2, ks 3] (fun _ => mixed) (l' := [ps 2 (iv 0), ps 3 (iv 2)]) (obs := []) (by kernel_rfl) (obs_nil) ?_
    rw [show keyS l a o = (0, 2) from if_neg h1]
    exact T_ret fun cx_ a_ hI_ => ret_ok (H' := []) (.inr rfl) (Wk.ren2 [ps 2 (iv 0), ps 3 (iv 2)] 0 hc0 [] rfl rfl (by kernel_rfl) (by kernel_rfl)) rfl (obs_nil) (fun cx_ a_ hI_ => ret_res (l' := [ps 2 (iv 0), ps 3 (iv 2)]) (by kernel_rfl) cx_ a_ hI_) hI_
theorem same_vals (l : List (Int × Int)) (hl : l.length ≤ 9223372036854775807) : PC Try.prog 9 [(.ssl (vals l) 0 l.length), (.ssl (vals l) 0 l.length)] [] (bv true) [] := by
  refine pc_intro Try.func9 rfl (by kernel_rfl) (Nat.le_of_ble_eq_true rfl) (by kernel_rfl) (l0 := [ps 0 (.ssl (vals l) 0 l.length), ps 1 (.ssl (vals l) 0 l.length)]) rfl (fun c0 Bor hc0 => ?_)
  refine T_seq ?_
  refine T_region [] [ks 0, ks 1] (fun _ => mixed) (l' := [ps 0 (.ssl (vals l) 0 l.length), ps 1 (.ssl (vals l) 0 l.length)]) (obs := []) (by kernel_rfl) (obs_nil) ?_
  refine T_seq ?_
  refine T_seq ?_
  refine T_region [] [ks 0, ks 1, ks 10] (fun _ => mixed) (l' := [ps 0 (.ssl (vals l) 0 l.length), ps 1 (.ssl (vals l) 0 l.length), ps 10 (bv (!(decide (((l.length : Nat) : Int) = ((l.length : Nat) : Int)))))]) (obs := []) (by kernel_rfl) (obs_nil) ?_
  have h1 : ((l.length : Nat) : Int) = ((l.length : Nat) : Int) := rfl
  refine T_else (b := (!(decide (((l.length : Nat) : Int) = ((l.length : Nat) : Int))))) rfl (congrArg Bool.not (decide_eq_true h1)) ?_
  refine T_skip ?_
  refine T_seq ?_
  refine T_seq ?_
  refine T_region [] [ks 0, ks 1, ks 12, ks 13] (fun _ => mixed) (l' := [ps 0 (.ssl (vals l) 0 l.length), ps 1 (.ssl (vals l) 0 l.length), ps 12 (iv ((l.length : Nat) : Int)), ps 13 (iv 0)]) (obs := []) (by kernel_rfl) (obs_nil) ?_
  refine T_block ?_
  refine T_loop (α := {x : Nat // x ≤ l.length}) (fun x => [ps 0 (.ssl (vals l) 0 l.length), ps 1 (.ssl (vals l) 0 l.length), ps 12 (iv ((l.length : Nat) : Int)), ps 13 (iv ((x.1 : Nat) : Int))]) (fun x => l.length - x.1) 0 ⟨0, Nat.zero_le _⟩ (Wk.ren2 [ps 0 (.ssl (vals l) 0 l.length), ps 1 (.ssl (vals l) 0 l.length), ps 12 (iv ((l.length : Nat) : Int)), ps 13 (iv ((0 : Nat) : Int))] 0 hc0 [] rfl rfl (by kernel_rfl) (by kernel_rfl)) ?_
  rintro ⟨i, hi⟩
  refine T_seq ?_
  refine T_region [] [ks 0, ks 1, ks 12, ks 13, ks 14] (fun _ => mixed) (l' := [ps 0 (.ssl (vals l) 0 l.length), ps 1 (.ssl (vals l) 0 l.length), ps 12 (iv ((l.length : Nat) : Int)), ps 13 (iv ((i : Nat) : Int)), ps 14 (bv (decide (((i : Nat) : Int) < ((l.length : Nat) : Int))))]) (obs := []) (by kernel_rfl) (obs_nil) ?_
  refine T_seq ?_
  by_cases h2 : ((i : Nat) : Int) < ((l.length : Nat) : Int)
  · refine T_then (b := (decide (((i : Nat) : Int) < ((l.length : Nat) : Int)))) rfl (decide_eq_true h2) ?_
    refine T_skip ?_
    refine T_seq ?_
    refine T_block ?_
    refine T_seq ?_
    refine T_region [] [ks 0, ks 1, ks 5, ks 12, ks 13] (fun _ => mixed) (l' := [ps 0 (.ssl (vals l) 0 l.length), ps 1 (.ssl (vals l) 0 l.length), ps 5 (iv ((i : Nat) : Int)), ps 12 (iv ((l.length : Nat) : Int)), ps 13 (iv ((i : Nat) : Int))]) (obs := []) (by kernel_rfl) (obs_nil) ?_
    refine T_seq ?_
    refine T_region [(2, .nat (i * 2)), (3, .cells [(iv ((l.getD i (0, 0)).1)), (iv ((l.getD i (0, 0)).2))]), (6, .nat (i * 2)), (7, .cells [(iv ((l.getD i (0, 0)).1)), (iv ((l.getD i (0, 0)).2))])] [ks 0, ks 1, ks 12, ks 13, ks 24] (fun _ => mixed) (l' := [ps 0 (.ssl (vals l) 0 l.length), ps 1 (.ssl (vals l) 0 l.length), ps 12 (iv ((l.length : Nat) : Int)), ps 13 (iv ((i : Nat) : Int)), ps 24 (bv (!((decide (((l.getD i (0, 0)).1) = ((l.getD i (0, 0)).1))) && (decide (((l.getD i (0, 0)).2) = ((l.getD i (0, 0)).2))))))]) (obs := [(0 : Int) ≤ ((i : Nat) : Int) ∧ ((i : Nat) : Int) < ((l.length : Nat) : Int), 0 + (((i : Nat) : Int) : Int).toNat * 2 = (i * 2), (i * 2) + 2 ≤ ((vals l)).length ∧ (((vals l)).drop (i * 2)).take 2 = [(iv ((l.getD i (0, 0)).1)), (iv ((l.getD i (0, 0)).2))], (0 : Int) ≤ ((i : Nat) : Int) ∧ ((i : Nat) : Int) < ((l.length : Nat) : Int), 0 + (((i : Nat) : Int) : Int).toNat * 2 = (i * 2), (i * 2) + 2 ≤ ((vals l)).length ∧ (((vals l)).drop (i * 2)).take 2 = [(iv ((l.getD i (0, 0)).1)), (iv ((l.getD i (0, 0)).2))]]) (by kernel_rfl) (obs_cons (p := (0 : Int) ≤ ((i : Nat) : Int) ∧ ((i : Nat) : Int) < ((l.length : Nat) : Int)) (by omega) (obs_cons (p := 0 + (((i : Nat) : Int) : Int).toNat * 2 = (i * 2)) (by omega) (obs_cons (p := (i * 2) + 2 ≤ ((vals l)).length ∧ (((vals l)).drop (i * 2)).take 2 = [(iv ((l.getD i (0, 0)).1)), (iv ((l.getD i (0, 0)).2))]) (flat_at valC 2 (fun _ => rfl) (0, 0) l i 0 2 (by omega) (by decide)) (obs_cons (p := (0 : Int) ≤ ((i : Nat) : Int) ∧ ((i : Nat) : Int) < ((l.length : Nat) : Int)) (by omega) (obs_cons (p := 0 + (((i : Nat) : Int) : Int).toNat * 2 = (i * 2)) (by omega) (obs_cons (p := (i * 2) + 2 ≤ ((vals l)).length ∧ (((vals l)).drop (i * 2)).take 2 = [(iv ((l.getD i (0, 0)).1)), (iv ((l.getD i (0, 0)).2))]) (flat_at valC 2 (fun _ => rfl) (0, 0) l i 0 2 (by omega) (by decide)) (obs_nil))))))) ?_
    have h3 : ((decide (((l.getD i (0, 0)).1) = ((l.getD i (0, 0)).1))) && (decide (((l.getD i (0, 0)).2) = ((l.getD i (0, 0)).2)))) = true := by simp
    refine T_else (b := (!((decide (((l.getD i (0, 0)).1) = ((l.getD i (0, 0)).1))) && (decide (((l.getD i (0, 0)).2) = ((l.getD i (0, 0)).2)))))) rfl (congrArg Bool.not h3) ?_
    refine T_skip ?_
    refine T_blk ?_
    refine T_region [] [ks 0, ks 1, ks 12, ks 13] (fun _ => mixed) (l' := [ps 0 (.ssl (vals l) 0 l.length), ps 1 (.ssl (vals l) 0 l.length), ps 12 (iv ((l.length : Nat) : Int)), ps 13 (iv (((i : Nat) : Int) + 1))]) (obs := [InK .i64 (((i : Nat) : Int) + 1)]) (by kernel_rfl) (obs_cons (p := InK .i64 (((i : Nat) : Int) + 1)) (by simp only [InK]; omega) (obs_nil)) ?_
    exact T_back ⟨i + 1, by omega⟩ (Wk.ren2 [ps 0 (.ssl (vals l) 0 l.length), ps 1 (.ssl (vals l) 0 l.length), ps 12 (iv ((l.length : Nat) : Int)), ps 13 (iv (((i + 1) : Nat) : Int))] 0 hc0 [] rfl rfl (by kernel_rfl) (by kernel_rfl)) (show l.length - (i + 1) < l.length - i from by omega)
  · refine T_else (b := (decide (((i : Nat) : Int) < ((l.length : Nat) : Int)))) rfl (decide_eq_false h2) ?_
    refine T_break rfl rfl ?_
    refine T_seq ?_
    refine T_region [] [ks 4] (fun _ => mixed) (l' := [ps 4 (bv true)]) (obs := []) (by kernel_rfl) (obs_nil) ?_
    exact T_ret fun cx_ a_ hI_ => ret_ok (H' := []) (.inr rfl) (Wk.ren2 [ps 4 (bv true)] 0 hc0 [] rfl rfl (by kernel_rfl) (by kernel_rfl)) rfl (obs_nil) (fun cx_ a_ hI_ => ret_res (l' := [ps 4 (bv true)]) (by kernel_rfl) cx_ a_ hI_) hI_
end Go.Proofs.Ythckjknnaccncaa.Pm
