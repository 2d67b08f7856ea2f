/-
  KEYS, THE DOCUMENT'S: walks. (Printed by wip/pm.)
-/
import Derived.Test.YthckjknnaccncaaScaU
namespace Go.Proofs.Ythckjknnaccncaa.Pm
open Go

theorem sharps_pc  : PC Try.prog 32 [] [] (.ssl (ints sharpL) 0 7) [] := by
  refine pc_intro Try.func32 rfl (by kernel_rfl) (Nat.le_of_ble_eq_true rfl) (by kernel_rfl) (l0 := []) rfl (fun c0 Bor hc0 => ?_)
  refine T_seq ?_
  refine T_region [] [] (fun _ => mixed) (l' := []) (obs := []) (by kernel_rfl) (obs_nil) ?_
  refine T_seq ?_
  refine T_region [] [ks 0, kb 8] (fun _ => mixed) (l' := [ps 0 (.osl 8 0 7), pb 8 3 [(iv 3), (iv 0), (iv 4), (iv 1), (iv 5), (iv 2), (iv 6)]]) (obs := []) (by kernel_rfl) (obs_nil) ?_
  refine T_wk (Wk.eq (show [ps 0 (.osl 8 0 7), pb 8 3 [(iv 3), (iv 0), (iv 4), (iv 1), (iv 5), (iv 2), (iv 6)]] = [ps 0 (.osl 8 0 7), pb 8 3 (ints sharpL)] from by rfl)) ?_
  refine T_wk (Wk.frz (l' := [ps 0 (.ssl (ints sharpL) 0 7), (kb 8, none)]) 8 (T := 3) (cs := (ints sharpL)) (by kernel_rfl) (ints_shd _) (by kernel_rfl)) ?_
  refine T_wk (Wk.less (l' := [ps 0 (.ssl (ints sharpL) 0 7)]) 24 (by kernel_rfl) (by kernel_rfl)) ?_
  exact T_ret fun cx_ a_ hI_ => ret_ok (H' := []) (.inr rfl) (Wk.ren2 [ps 0 (.ssl (ints sharpL) 0 7)] 0 hc0 [] rfl rfl (by kernel_rfl) (by kernel_rfl)) rfl (obs_nil) (fun cx_ a_ hI_ => ret_res (l' := [ps 0 (.ssl (ints sharpL) 0 7)]) (by kernel_rfl) cx_ a_ hI_) hI_
theorem major_pc (n : Int) (hn : -7 ≤ n ∧ n ≤ 7) : PC Try.prog 23 [(iv n)] [] (.ssl (ints (majorL n)) 0 7) [] := by
  refine pc_intro Try.func23 rfl (by kernel_rfl) (Nat.le_of_ble_eq_true rfl) (by kernel_rfl) (l0 := [ps 0 (iv n)]) rfl (fun c0 Bor hc0 => ?_)
  refine T_seq ?_
  refine T_region [] [ks 0] (fun _ => mixed) (l' := [ps 0 (iv n)]) (obs := []) (by kernel_rfl) (obs_nil) ?_
  refine T_seq ?_
  refine T_region [] [ks 0, ks 3, kb 8] (fun _ => mixed) (l' := [ps 0 (iv n), ps 3 (.osl 8 0 7), pb 8 3 [(iv 0), (iv 0), (iv 0), (iv 0), (iv 0), (iv 0), (iv 0)]]) (obs := [(0 : Int) ≤ (7 : Int) ∧ (7 : Int) ≤ (7 : Int) ∧ (7 : Int) ≤ 140737488355328 ∧ ((8 : Nat) : Int) * (7 : Int) ≤ 140737488355328]) (by kernel_rfl) (obs_cons (p := (0 : Int) ≤ (7 : Int) ∧ (7 : Int) ≤ (7 : Int) ∧ (7 : Int) ≤ 140737488355328 ∧ ((8 : Nat) : Int) * (7 : Int) ≤ 140737488355328) (by omega) (obs_nil)) ?_
  refine T_seq ?_
  refine T_seq ?_
  refine T_region [] [ks 0, ks 3, ks 4, kb 8] (fun _ => mixed) (l' := [ps 0 (iv n), ps 3 (.osl 8 0 7), ps 4 (iv 0), pb 8 3 [(iv 0), (iv 0), (iv 0), (iv 0), (iv 0), (iv 0), (iv 0)]]) (obs := []) (by kernel_rfl) (obs_nil) ?_
  refine T_block ?_
  refine T_wk (Wk.eq (show [ps 0 (iv n), ps 3 (.osl 8 0 7), ps 4 (iv 0), pb 8 3 [(iv 0), (iv 0), (iv 0), (iv 0), (iv 0), (iv 0), (iv 0)]] = [ps 0 (iv n), ps 3 (.osl 8 0 7), ps 4 (iv 0), pb 8 3 (ints (majUp 0))] from by rfl)) ?_
  refine T_loop (α := {x : Nat // x ≤ 7 ∧ (0 < x → (x : Int) ≤ n)}) (fun x => [ps 0 (iv n), ps 3 (.osl 0 0 7), ps 4 (iv ((x.1 : Nat) : Int)), pb 0 3 (ints (majUp x.1))]) (fun x => 7 - x.1) 1 ⟨0, ⟨Nat.zero_le _, fun h => absurd h (Nat.lt_irrefl 0)⟩⟩ (Wk.ren3 [ps 0 (iv n), ps 3 (.osl 0 0 7), ps 4 (iv ((0 : Nat) : Int)), pb 0 3 (ints (majUp 0))] 0 hc0 [8] [(kb 0, (ints (majUp 0)))] (obs_cons (ints_shd _) (obs_nil)) (by kernel_rfl) rfl rfl (by kernel_rfl) (by kernel_rfl)) ?_
  rintro ⟨k, ⟨hk, hkn⟩⟩
  refine T_seq ?_
  refine T_seq ?_
  refine T_region [] [ks 0, ks 3, ks 4, ks 9, kb 0] (fun _ => mixed) (l' := [ps 0 (iv n), ps 3 (.osl 0 0 7), ps 4 (iv ((k : Nat) : Int)), ps 9 (bv (decide (((k : Nat) : Int) < n))), pb 0 3 (ints (majUp k))]) (obs := []) (by kernel_rfl) (obs_nil) ?_
  by_cases h1 : ((k : Nat) : Int) < n
  · refine T_then (b := (decide (((k : Nat) : Int) < n))) rfl (decide_eq_true h1) ?_
    refine T_skip ?_
    refine T_seq ?_
    refine T_block ?_
    refine T_region [(1, .call [] [] [] (.ssl (ints sharpL) 0 7) []), (3, .nat k), (4, .val (iv (sharpL.getD k 0))), (5, .nat ((sharpL.getD k 0).toNat)), (6, .cells (ints (majUp (k + 1))))] [ks 0, ks 3, ks 4, kb 0] (fun _ => mixed) (l' := [ps 0 (iv n), ps 3 (.osl 0 0 7), ps 4 (iv ((k : Nat) : Int)), pb 0 3 (ints (majUp (k + 1)))]) (obs := [PC Try.prog 32 [] [] (.ssl (ints sharpL) 0 7) [], [] = renL (sigi [] 33) [], (0 : Int) ≤ ((k : Nat) : Int) ∧ ((k : Nat) : Int) < ((7 : Nat) : Int), 0 + (((k : Nat) : Int) : Int).toNat * 1 = k, k + 1 ≤ ((ints sharpL)).length ∧ (((ints sharpL)).drop k).take 1 = [(iv (sharpL.getD k 0))], (0 : Int) ≤ (sharpL.getD k 0) ∧ (sharpL.getD k 0) < ((7 : Nat) : Int), 0 + ((sharpL.getD k 0) : Int).toNat * 1 = ((sharpL.getD k 0).toNat), ((sharpL.getD k 0).toNat) + 1 ≤ ((ints (majUp k))).length ∧ splice (ints (majUp k)) ((sharpL.getD k 0).toNat) [(iv 1)] = (ints (majUp (k + 1)))]) (by kernel_rfl) (obs_cons (p := PC Try.prog 32 [] [] (.ssl (ints sharpL) 0 7) []) sharps_pc (obs_cons (p := [] = renL (sigi [] 33) []) rfl (obs_cons (p := (0 : Int) ≤ ((k : Nat) : Int) ∧ ((k : Nat) : Int) < ((7 : Nat) : Int)) (by omega) (obs_cons (p := 0 + (((k : Nat) : Int) : Int).toNat * 1 = k) (by omega) (obs_cons (p := k + 1 ≤ ((ints sharpL)).length ∧ (((ints sharpL)).drop k).take 1 = [(iv (sharpL.getD k 0))]) (ints_at (by show _ < 7; omega)) (obs_cons (p := (0 : Int) ≤ (sharpL.getD k 0) ∧ (sharpL.getD k 0) < ((7 : Nat) : Int)) (by have := sharp_bd k (by omega); omega) (obs_cons (p := 0 + ((sharpL.getD k 0) : Int).toNat * 1 = ((sharpL.getD k 0).toNat)) (by omega) (obs_cons (p := ((sharpL.getD k 0).toNat) + 1 ≤ ((ints (majUp k))).length ∧ splice (ints (majUp k)) ((sharpL.getD k 0).toNat) [(iv 1)] = (ints (majUp (k + 1)))) (ints_splice (by rw [majUp_len]; have := sharp_bd k (by omega); omega)) (obs_nil))))))))) ?_
    refine T_blk ?_
    refine T_region [] [ks 0, ks 3, ks 4, kb 0] (fun _ => mixed) (l' := [ps 0 (iv n), ps 3 (.osl 0 0 7), ps 4 (iv (((k : Nat) : Int) + 1)), pb 0 3 (ints (majUp (k + 1)))]) (obs := [InK .i64 (((k : Nat) : Int) + 1)]) (by kernel_rfl) (obs_cons (p := InK .i64 (((k : Nat) : Int) + 1)) (by simp only [InK]; omega) (obs_nil)) ?_
    exact T_back ⟨k + 1, ⟨by omega, fun _ => by omega⟩⟩ (Wk.ren3 [ps 0 (iv n), ps 3 (.osl 0 0 7), ps 4 (iv (((k + 1) : Nat) : Int)), pb 0 3 (ints (majUp (k + 1)))] 0 hc0 [0] [(kb 0, (ints (majUp (k + 1))))] (obs_cons (ints_shd _) (obs_nil)) (by kernel_rfl) rfl rfl (by kernel_rfl) (by kernel_rfl)) (show 7 - (k + 1) < 7 - k from by omega)
  · refine T_else (b := (decide (((k : Nat) : Int) < n))) rfl (decide_eq_false h1) ?_
    refine T_break rfl rfl ?_
    refine T_seq ?_
    refine T_seq ?_
    refine T_region [] [ks 0, ks 3, ks 5, kb 0] (fun _ => mixed) (l' := [ps 0 (iv n), ps 3 (.osl 0 0 7), ps 5 (iv 0), pb 0 3 (ints (majUp k))]) (obs := []) (by kernel_rfl) (obs_nil) ?_
    refine T_block ?_
    have hk0 : k = n.toNat := by omega
    refine T_wk (Wk.eq (show [ps 0 (iv n), ps 3 (.osl 0 0 7), ps 5 (iv 0), pb 0 3 (ints (majUp k))] = [ps 0 (iv n), ps 3 (.osl 0 0 7), ps 5 (iv 0), pb 0 3 (ints (if 0 ≤ n then majUp n.toNat else majDn 0))] from by rw [maj_base hk0])) ?_
    refine T_loop (α := {x : Nat // x ≤ 7 ∧ (0 < x → (x : Int) ≤ -n)}) (fun x => [ps 0 (iv n), ps 3 (.osl 0 0 7), ps 5 (iv ((x.1 : Nat) : Int)), pb 0 3 (ints (if 0 ≤ n then majUp n.toNat else majDn x.1))]) (fun x => 7 - x.1) 1 ⟨0, ⟨Nat.zero_le _, fun h => absurd h (Nat.lt_irrefl 0)⟩⟩ (Wk.ren3 [ps 0 (iv n), ps 3 (.osl 0 0 7), ps 5 (iv ((0 : Nat) : Int)), pb 0 3 (ints (if 0 ≤ n then majUp n.toNat else majDn 0))] 0 hc0 [0] [(kb 0, (ints (if 0 ≤ n then majUp n.toNat else majDn 0)))] (obs_cons (ints_shd _) (obs_nil)) (by kernel_rfl) rfl rfl (by kernel_rfl) (by kernel_rfl)) ?_
    rintro ⟨k2, ⟨hk2, hkn2⟩⟩
    refine T_seq ?_
    refine T_seq ?_
    refine T_region [] [ks 0, ks 3, ks 5, ks 21, kb 0] (fun _ => mixed) (l' := [ps 0 (iv n), ps 3 (.osl 0 0 7), ps 5 (iv ((k2 : Nat) : Int)), ps 21 (bv (decide (((k2 : Nat) : Int) < (0 - n)))), pb 0 3 (ints (if 0 ≤ n then majUp n.toNat else majDn k2))]) (obs := [InK .i64 (0 - n)]) (by kernel_rfl) (obs_cons (p := InK .i64 (0 - n)) (by simp only [InK]; omega) (obs_nil)) ?_
    by_cases h2 : ((k2 : Nat) : Int) < (0 - n)
    · refine T_then (b := (decide (((k2 : Nat) : Int) < (0 - n)))) rfl (decide_eq_true h2) ?_
      refine T_skip ?_
      refine T_seq ?_
      refine T_block ?_
      refine T_region [(1, .call [] [] [] (.ssl (ints sharpL) 0 7) []), (4, .nat ((6 - ((k2 : Nat) : Int)).toNat)), (5, .val (iv (sharpL.getD ((6 - ((k2 : Nat) : Int)).toNat) 0))), (6, .nat ((sharpL.getD ((6 - ((k2 : Nat) : Int)).toNat) 0).toNat)), (7, .cells (ints (if 0 ≤ n then majUp n.toNat else majDn (k2 + 1))))] [ks 0, ks 3, ks 5, kb 0] (fun _ => mixed) (l' := [ps 0 (iv n), ps 3 (.osl 0 0 7), ps 5 (iv ((k2 : Nat) : Int)), pb 0 3 (ints (if 0 ≤ n then majUp n.toNat else majDn (k2 + 1)))]) (obs := [PC Try.prog 32 [] [] (.ssl (ints sharpL) 0 7) [], [] = renL (sigi [] 41) [], InK .i64 (6 - ((k2 : Nat) : Int)), (0 : Int) ≤ (6 - ((k2 : Nat) : Int)) ∧ (6 - ((k2 : Nat) : Int)) < ((7 : Nat) : Int), 0 + ((6 - ((k2 : Nat) : Int)) : Int).toNat * 1 = ((6 - ((k2 : Nat) : Int)).toNat), ((6 - ((k2 : Nat) : Int)).toNat) + 1 ≤ ((ints sharpL)).length ∧ (((ints sharpL)).drop ((6 - ((k2 : Nat) : Int)).toNat)).take 1 = [(iv (sharpL.getD ((6 - ((k2 : Nat) : Int)).toNat) 0))], (0 : Int) ≤ (sharpL.getD ((6 - ((k2 : Nat) : Int)).toNat) 0) ∧ (sharpL.getD ((6 - ((k2 : Nat) : Int)).toNat) 0) < ((7 : Nat) : Int), 0 + ((sharpL.getD ((6 - ((k2 : Nat) : Int)).toNat) 0) : Int).toNat * 1 = ((sharpL.getD ((6 - ((k2 : Nat) : Int)).toNat) 0).toNat), ((sharpL.getD ((6 - ((k2 : Nat) : Int)).toNat) 0).toNat) + 1 ≤ ((ints (if 0 ≤ n then majUp n.toNat else majDn k2))).length ∧ splice (ints (if 0 ≤ n then majUp n.toNat else majDn k2)) ((sharpL.getD ((6 - ((k2 : Nat) : Int)).toNat) 0).toNat) [(iv (-1))] = (ints (if 0 ≤ n then majUp n.toNat else majDn (k2 + 1)))]) (by kernel_rfl) (obs_cons (p := PC Try.prog 32 [] [] (.ssl (ints sharpL) 0 7) []) sharps_pc (obs_cons (p := [] = renL (sigi [] 41) []) rfl (obs_cons (p := InK .i64 (6 - ((k2 : Nat) : Int))) (by simp only [InK]; omega) (obs_cons (p := (0 : Int) ≤ (6 - ((k2 : Nat) : Int)) ∧ (6 - ((k2 : Nat) : Int)) < ((7 : Nat) : Int)) (by omega) (obs_cons (p := 0 + ((6 - ((k2 : Nat) : Int)) : Int).toNat * 1 = ((6 - ((k2 : Nat) : Int)).toNat)) (by omega) (obs_cons (p := ((6 - ((k2 : Nat) : Int)).toNat) + 1 ≤ ((ints sharpL)).length ∧ (((ints sharpL)).drop ((6 - ((k2 : Nat) : Int)).toNat)).take 1 = [(iv (sharpL.getD ((6 - ((k2 : Nat) : Int)).toNat) 0))]) (ints_at (by show _ < 7; omega)) (obs_cons (p := (0 : Int) ≤ (sharpL.getD ((6 - ((k2 : Nat) : Int)).toNat) 0) ∧ (sharpL.getD ((6 - ((k2 : Nat) : Int)).toNat) 0) < ((7 : Nat) : Int)) (by have := sharp_bd (6 - ((k2 : Nat) : Int)).toNat (by omega); omega) (obs_cons (p := 0 + ((sharpL.getD ((6 - ((k2 : Nat) : Int)).toNat) 0) : Int).toNat * 1 = ((sharpL.getD ((6 - ((k2 : Nat) : Int)).toNat) 0).toNat)) (by omega) (obs_cons (p := ((sharpL.getD ((6 - ((k2 : Nat) : Int)).toNat) 0).toNat) + 1 ≤ ((ints (if 0 ≤ n then majUp n.toNat else majDn k2))).length ∧ splice (ints (if 0 ≤ n then majUp n.toNat else majDn k2)) ((sharpL.getD ((6 - ((k2 : Nat) : Int)).toNat) 0).toNat) [(iv (-1))] = (ints (if 0 ≤ n then majUp n.toNat else majDn (k2 + 1)))) (by rw [if_neg (by omega), if_neg (by omega), show (6 - ((k2 : Nat) : Int)).toNat = 6 - k2 from by omega]; exact ints_splice (by rw [majDn_len]; have := sharp_bd (6 - k2) (by omega); omega)) (obs_nil)))))))))) ?_
      refine T_blk ?_
      refine T_region [] [ks 0, ks 3, ks 5, kb 0] (fun _ => mixed) (l' := [ps 0 (iv n), ps 3 (.osl 0 0 7), ps 5 (iv (((k2 : Nat) : Int) + 1)), pb 0 3 (ints (if 0 ≤ n then majUp n.toNat else majDn (k2 + 1)))]) (obs := [InK .i64 (((k2 : Nat) : Int) + 1)]) (by kernel_rfl) (obs_cons (p := InK .i64 (((k2 : Nat) : Int) + 1)) (by simp only [InK]; omega) (obs_nil)) ?_
      exact T_back ⟨k2 + 1, ⟨by omega, fun _ => by omega⟩⟩ (Wk.ren3 [ps 0 (iv n), ps 3 (.osl 0 0 7), ps 5 (iv (((k2 + 1) : Nat) : Int)), pb 0 3 (ints (if 0 ≤ n then majUp n.toNat else majDn (k2 + 1)))] 0 hc0 [0] [(kb 0, (ints (if 0 ≤ n then majUp n.toNat else majDn (k2 + 1))))] (obs_cons (ints_shd _) (obs_nil)) (by kernel_rfl) rfl rfl (by kernel_rfl) (by kernel_rfl)) (show 7 - (k2 + 1) < 7 - k2 from by omega)
    · refine T_else (b := (decide (((k2 : Nat) : Int) < (0 - n)))) rfl (decide_eq_false h2) ?_
      refine T_break rfl rfl ?_
      refine T_seq ?_
      refine T_region [] [ks 2, kb 0] (fun _ => mixed) (l' := [ps 2 (.osl 0 0 7), pb 0 3 (ints (if 0 ≤ n then majUp n.toNat else majDn k2))]) (obs := []) (by kernel_rfl) (obs_nil) ?_
      have hk3 : n < 0 → k2 = (-n).toNat := by omega
      refine T_wk (Wk.eq (show [ps 2 (.osl 0 0 7), pb 0 3 (ints (if 0 ≤ n then majUp n.toNat else majDn k2))] = [ps 2 (.osl 0 0 7), pb 0 3 (ints (majorL n))] from by rw [maj_end hk3])) ?_
      refine T_wk (Wk.frz (l' := [ps 2 (.ssl (ints (majorL n)) 0 7), (kb 0, none)]) 0 (T := 3) (cs := (ints (majorL n))) (by kernel_rfl) (ints_shd _) (by kernel_rfl)) ?_
      refine T_wk (Wk.less (l' := [ps 2 (.ssl (ints (majorL n)) 0 7)]) 49 (by kernel_rfl) (by kernel_rfl)) ?_
      exact T_ret fun cx_ a_ hI_ => ret_ok (H' := []) (.inr rfl) (Wk.ren2 [ps 2 (.ssl (ints (majorL n)) 0 7)] 0 hc0 [] rfl rfl (by kernel_rfl) (by kernel_rfl)) rfl (obs_nil) (fun cx_ a_ hI_ => ret_res (l' := [ps 2 (.ssl (ints (majorL n)) 0 7)]) (by kernel_rfl) cx_ a_ hI_) hI_
end Go.Proofs.Ythckjknnaccncaa.Pm
