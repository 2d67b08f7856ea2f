/-
  HALF TONES BY STEPPING: walks. (Printed by wip/pm.)
-/
import Derived.Test.YthckjknnaccncaaScaX
namespace Go.Proofs.Ythckjknnaccncaa.Pm
open Go

theorem up_pc (x : Int) : PC Try.prog 38 [(iv x)] [] (iv (upS x)) [] := by
  refine pc_intro Try.func38 rfl (by kernel_rfl) (Nat.le_of_ble_eq_true rfl) (by kernel_rfl) (l0 := [ps 0 (iv x)]) rfl (fun c0 Bor hc0 => ?_)
  refine T_seq ?_
  refine T_region [] [ks 0] (fun _ => mixed) (l' := [ps 0 (iv x)]) (obs := []) (by kernel_rfl) (obs_nil) ?_
  refine T_seq ?_
  refine T_seq ?_
  by_cases h1 : x = 2
  · refine T_region [(3, .gd true .no), (4, .gd true .no), (5, .yes true)] [ks 8] (fun _ => mixed) (l' := [ps 8 (bv true)]) (obs := [(decide (x = 2)) = true, (decide (x = 2)) = true, (decide (x = 2)) = true]) (by kernel_rfl) (obs_cons (p := (decide (x = 2)) = true) (decide_eq_true h1) (obs_cons (p := (decide (x = 2)) = true) (decide_eq_true h1) (obs_cons (p := (decide (x = 2)) = true) (decide_eq_true h1) (obs_nil)))) ?_
    refine T_then (b := true) rfl rfl ?_
    refine T_seq ?_
    refine T_region [] [ks 2] (fun _ => mixed) (l' := [ps 2 (iv 1)]) (obs := []) (by kernel_rfl) (obs_nil) ?_
    rw [show upS x = 1 from by unfold upS; first | exact if_pos (by omega) | exact if_neg (by omega)]
    exact T_ret fun cx_ a_ hI_ => ret_ok (H' := []) (.inr rfl) (Wk.ren2 [ps 2 (iv 1)] 0 hc0 [] rfl rfl (by kernel_rfl) (by kernel_rfl)) rfl (obs_nil) (fun cx_ a_ hI_ => ret_res (l' := [ps 2 (iv 1)]) (by kernel_rfl) cx_ a_ hI_) hI_
  · refine T_region [(3, .gd false (.no)), (4, .gd false (.no)), (5, .yes false)] [ks 8] (fun _ => mixed) (l' := [ps 8 (bv (decide (x = 6)))]) (obs := [(decide (x = 2)) = false, (decide (x = 2)) = false, (decide (x = 2)) = false]) (by kernel_rfl) (obs_cons (p := (decide (x = 2)) = false) (decide_eq_false h1) (obs_cons (p := (decide (x = 2)) = false) (decide_eq_false h1) (obs_cons (p := (decide (x = 2)) = false) (decide_eq_false h1) (obs_nil)))) ?_
    by_cases h2 : x = 6
    · refine T_then (b := (decide (x = 6))) rfl (decide_eq_true h2) ?_
      refine T_seq ?_
      refine T_region [] [ks 2] (fun _ => mixed) (l' := [ps 2 (iv 1)]) (obs := []) (by kernel_rfl) (obs_nil) ?_
      rw [show upS x = 1 from by unfold upS; first | exact if_pos (by omega) | exact if_neg (by omega)]
      exact T_ret fun cx_ a_ hI_ => ret_ok (H' := []) (.inr rfl) (Wk.ren2 [ps 2 (iv 1)] 0 hc0 [] rfl rfl (by kernel_rfl) (by kernel_rfl)) rfl (obs_nil) (fun cx_ a_ hI_ => ret_res (l' := [ps 2 (iv 1)]) (by kernel_rfl) cx_ a_ hI_) hI_
    · refine T_else (b := (decide (x = 6))) rfl (decide_eq_false h2) ?_
      refine T_skip ?_
      refine T_seq ?_
      refine T_region [] [ks 2] (fun _ => mixed) (l' := [ps 2 (iv 2)]) (obs := []) (by kernel_rfl) (obs_nil) ?_
      rw [show upS x = 2 from by unfold upS; first | exact if_pos (by omega) | exact if_neg (by omega)]
      exact T_ret fun cx_ a_ hI_ => ret_ok (H' := []) (.inr rfl) (Wk.ren2 [ps 2 (iv 2)] 0 hc0 [] rfl rfl (by kernel_rfl) (by kernel_rfl)) rfl (obs_nil) (fun cx_ a_ hI_ => ret_res (l' := [ps 2 (iv 2)]) (by kernel_rfl) cx_ a_ hI_) hI_
theorem ref_steps_pc (l a o : Int) (hl : 0 ≤ l ∧ l < 7) (ho : -1000 ≤ o ∧ o ≤ 1000) : PC Try.prog 37 [(.agg [(iv l), (iv a), (iv o)])] [] (iv (stepsS l o)) [] := by
  refine pc_intro Try.func37 rfl (by kernel_rfl) (Nat.le_of_ble_eq_true rfl) (by kernel_rfl) (l0 := [ps 0 (.agg [(iv l), (iv a), (iv o)])]) rfl (fun c0 Bor hc0 => ?_)
  refine T_seq ?_
  refine T_region [] [ks 1, kb 0] (fun _ => mixed) (l' := [ps 1 (.opt 0 0), pb 0 23 [(iv l), (iv a), (iv o)]]) (obs := []) (by kernel_rfl) (obs_nil) ?_
  refine T_seq ?_
  refine T_region [] [ks 2] (fun _ => mixed) (l' := [ps 2 (iv ((7 * o) + l))]) (obs := [InK .i64 (7 * o), InK .i64 ((7 * o) + l)]) (by kernel_rfl) (obs_cons (p := InK .i64 (7 * o)) (by simp only [InK]; omega) (obs_cons (p := InK .i64 ((7 * o) + l)) (by simp only [InK]; omega) (obs_nil))) ?_
  exact T_ret fun cx_ a_ hI_ => ret_ok (H' := []) (.inr rfl) (Wk.ren2 [ps 2 (iv ((7 * o) + l))] 0 hc0 [] rfl rfl (by kernel_rfl) (by kernel_rfl)) rfl (obs_nil) (fun cx_ a_ hI_ => ret_res (l' := [ps 2 (iv ((7 * o) + l))]) (by kernel_rfl) cx_ a_ hI_) hI_
theorem white_pc (s : Int) (hs : -10000 ≤ s ∧ s ≤ 10000) : PC Try.prog 36 [(iv s)] [] (iv (whiteW s)) [] := by
  refine pc_intro Try.func36 rfl (by kernel_rfl) (Nat.le_of_ble_eq_true rfl) (by kernel_rfl) (l0 := [ps 0 (iv s)]) rfl (fun c0 Bor hc0 => ?_)
  refine T_seq ?_
  refine T_region [] [ks 0] (fun _ => mixed) (l' := [ps 0 (iv s)]) (obs := []) (by kernel_rfl) (obs_nil) ?_
  refine T_seq ?_
  refine T_region [] [ks 0, ks 3, ks 4] (fun _ => mixed) (l' := [ps 0 (iv s), ps 3 (iv 0), ps 4 (iv 0)]) (obs := []) (by kernel_rfl) (obs_nil) ?_
  refine T_seq ?_
  refine T_block ?_
  refine T_wk (Wk.eq (show [ps 0 (iv s), ps 3 (iv 0), ps 4 (iv 0)] = [ps 0 (iv s), ps 3 (iv (whiteW 0)), ps 4 (iv (0 % 7))] from by rfl)) ?_
  refine T_loop (α := {x : Int × Int // x.1 + x.2 = s ∧ -10000 ≤ x.2 ∧ x.2 ≤ 10000}) (fun x => [ps 0 (iv x.1.2), ps 3 (iv (whiteW x.1.1)), ps 4 (iv (x.1.1 % 7))]) (fun x => x.1.2.toNat) 0 ⟨(0, s), ⟨(by first | omega | (simp only <;> omega)), (by first | omega | (simp only <;> omega)), (by first | omega | (simp only <;> omega))⟩⟩ (Wk.ren2 [ps 0 (iv s), ps 3 (iv (whiteW 0)), ps 4 (iv (0 % 7))] 0 hc0 [] rfl rfl (by kernel_rfl) (by kernel_rfl)) ?_
  rintro ⟨⟨t, c⟩, ⟨ht1, ha1, hb1⟩⟩
  dsimp only at ht1 ha1 hb1
  refine T_seq ?_
  refine T_seq ?_
  refine T_region [] [ks 0, ks 3, ks 4, ks 6] (fun _ => mixed) (l' := [ps 0 (iv c), ps 3 (iv (whiteW t)), ps 4 (iv (t % 7)), ps 6 (bv (decide (0 < c)))]) (obs := []) (by kernel_rfl) (obs_nil) ?_
  by_cases h1 : 0 < c
  · refine T_then (b := (decide (0 < c))) rfl (decide_eq_true h1) ?_
    refine T_skip ?_
    refine T_seq ?_
    refine T_block ?_
    refine T_seq ?_
    refine T_region [(2, .call [] [(iv (t % 7))] [] (iv (upS (t % 7))) [])] [ks 0, ks 3, ks 4] (fun _ => mixed) (l' := [ps 0 (iv c), ps 3 (iv ((whiteW t) + (upS (t % 7)))), ps 4 (iv (t % 7))]) (obs := [PC Try.prog 38 [(iv (t % 7))] [] (iv (upS (t % 7))) [], [(iv (t % 7))] = renL (sigi [] 32) [(iv (t % 7))], InK .i64 ((whiteW t) + (upS (t % 7)))]) (by kernel_rfl) (obs_cons (p := PC Try.prog 38 [(iv (t % 7))] [] (iv (upS (t % 7))) []) (up_pc (t % 7)) (obs_cons (p := [(iv (t % 7))] = renL (sigi [] 32) [(iv (t % 7))]) rfl (obs_cons (p := InK .i64 ((whiteW t) + (upS (t % 7)))) (by have g1 := white_bd t (by omega); have g2 := upS_bd (t % 7); have g3 := upS_bd ((t % 7 + 6).tmod 7); simp only [InK]; omega) (obs_nil)))) ?_
    refine T_region [] [ks 0, ks 3, ks 4] (fun _ => mixed) (l' := [ps 0 (iv c), ps 3 (iv ((whiteW t) + (upS (t % 7)))), ps 4 (iv ((((t % 7) + 1)).tmod 7))]) (obs := [InK .i64 ((t % 7) + 1), 7 ≠ (0 : Int)]) (by kernel_rfl) (obs_cons (p := InK .i64 ((t % 7) + 1)) (by simp only [InK]; omega) (obs_cons (p := 7 ≠ (0 : Int)) (by decide) (obs_nil))) ?_
    refine T_blk ?_
    refine T_region [] [ks 0, ks 3, ks 4] (fun _ => mixed) (l' := [ps 0 (iv (c - 1)), ps 3 (iv ((whiteW t) + (upS (t % 7)))), ps 4 (iv ((((t % 7) + 1)).tmod 7))]) (obs := [InK .i64 (c - 1)]) (by kernel_rfl) (obs_cons (p := InK .i64 (c - 1)) (by simp only [InK]; omega) (obs_nil)) ?_
    exact T_back ⟨(t + 1, c - 1), ⟨(by first | omega | (simp only <;> omega)), (by first | omega | (simp only <;> omega)), (by first | omega | (simp only <;> omega))⟩⟩ (Wk.trans (Wk.eq (show [ps 0 (iv (c - 1)), ps 3 (iv ((whiteW t) + (upS (t % 7)))), ps 4 (iv ((((t % 7) + 1)).tmod 7))] = [ps 0 (iv (c - 1)), ps 3 (iv (whiteW (t + 1))), ps 4 (iv ((t + 1) % 7))] from by rw [white_next, show (t % 7 + 1).tmod 7 = (t + 1) % 7 from by rw [Int.tmod_eq_emod_of_nonneg (by omega)]; omega])) (Wk.ren2 [ps 0 (iv (c - 1)), ps 3 (iv (whiteW (t + 1))), ps 4 (iv ((t + 1) % 7))] 0 hc0 [] rfl rfl (by kernel_rfl) (by kernel_rfl))) (show (c - 1).toNat < c.toNat from by omega)
  · refine T_else (b := (decide (0 < c))) rfl (decide_eq_false h1) ?_
    refine T_break rfl rfl ?_
    refine T_seq ?_
    refine T_block ?_
    refine T_loop (α := {x : Int × Int // x.1 + x.2 = s ∧ -10000 ≤ x.2 ∧ x.2 ≤ 0}) (fun x => [ps 0 (iv x.1.2), ps 3 (iv (whiteW x.1.1)), ps 4 (iv (x.1.1 % 7))]) (fun x => (-x.1.2).toNat) 0 ⟨(t, c), ⟨(by first | omega | (simp only <;> omega)), (by first | omega | (simp only <;> omega)), (by first | omega | (simp only <;> omega))⟩⟩ (Wk.ren2 [ps 0 (iv c), ps 3 (iv (whiteW t)), ps 4 (iv (t % 7))] 0 hc0 [] rfl rfl (by kernel_rfl) (by kernel_rfl)) ?_
    rintro ⟨⟨t, c⟩, ⟨ht2, ha2, hb2⟩⟩
    dsimp only at ht2 ha2 hb2
    refine T_seq ?_
    refine T_seq ?_
    refine T_region [] [ks 0, ks 3, ks 4, ks 17] (fun _ => mixed) (l' := [ps 0 (iv c), ps 3 (iv (whiteW t)), ps 4 (iv (t % 7)), ps 17 (bv (decide (c < 0)))]) (obs := []) (by kernel_rfl) (obs_nil) ?_
    by_cases h2 : c < 0
    · refine T_then (b := (decide (c < 0))) rfl (decide_eq_true h2) ?_
      refine T_skip ?_
      refine T_seq ?_
      refine T_block ?_
      refine T_seq ?_
      refine T_region [] [ks 0, ks 3, ks 4] (fun _ => mixed) (l' := [ps 0 (iv c), ps 3 (iv (whiteW t)), ps 4 (iv ((((t % 7) + 6)).tmod 7))]) (obs := [InK .i64 ((t % 7) + 6), 7 ≠ (0 : Int)]) (by kernel_rfl) (obs_cons (p := InK .i64 ((t % 7) + 6)) (by simp only [InK]; omega) (obs_cons (p := 7 ≠ (0 : Int)) (by decide) (obs_nil))) ?_
      refine T_region [(2, .call [] [(iv ((((t % 7) + 6)).tmod 7))] [] (iv (upS ((((t % 7) + 6)).tmod 7))) [])] [ks 0, ks 3, ks 4] (fun _ => mixed) (l' := [ps 0 (iv c), ps 3 (iv ((whiteW t) - (upS ((((t % 7) + 6)).tmod 7)))), ps 4 (iv ((((t % 7) + 6)).tmod 7))]) (obs := [PC Try.prog 38 [(iv ((((t % 7) + 6)).tmod 7))] [] (iv (upS ((((t % 7) + 6)).tmod 7))) [], [(iv ((((t % 7) + 6)).tmod 7))] = renL (sigi [] 64) [(iv ((((t % 7) + 6)).tmod 7))], InK .i64 ((whiteW t) - (upS ((((t % 7) + 6)).tmod 7)))]) (by kernel_rfl) (obs_cons (p := PC Try.prog 38 [(iv ((((t % 7) + 6)).tmod 7))] [] (iv (upS ((((t % 7) + 6)).tmod 7))) []) (up_pc ((((t % 7) + 6)).tmod 7)) (obs_cons (p := [(iv ((((t % 7) + 6)).tmod 7))] = renL (sigi [] 64) [(iv ((((t % 7) + 6)).tmod 7))]) rfl (obs_cons (p := InK .i64 ((whiteW t) - (upS ((((t % 7) + 6)).tmod 7)))) (by have g1 := white_bd t (by omega); have g2 := upS_bd (t % 7); have g3 := upS_bd ((t % 7 + 6).tmod 7); simp only [InK]; omega) (obs_nil)))) ?_
      refine T_blk ?_
      refine T_region [] [ks 0, ks 3, ks 4] (fun _ => mixed) (l' := [ps 0 (iv (c + 1)), ps 3 (iv ((whiteW t) - (upS ((((t % 7) + 6)).tmod 7)))), ps 4 (iv ((((t % 7) + 6)).tmod 7))]) (obs := [InK .i64 (c + 1)]) (by kernel_rfl) (obs_cons (p := InK .i64 (c + 1)) (by simp only [InK]; omega) (obs_nil)) ?_
      exact T_back ⟨(t - 1, c + 1), ⟨(by first | omega | (simp only <;> omega)), (by first | omega | (simp only <;> omega)), (by first | omega | (simp only <;> omega))⟩⟩ (Wk.trans (Wk.eq (show [ps 0 (iv (c + 1)), ps 3 (iv ((whiteW t) - (upS ((((t % 7) + 6)).tmod 7)))), ps 4 (iv ((((t % 7) + 6)).tmod 7))] = [ps 0 (iv (c + 1)), ps 3 (iv (whiteW (t - 1))), ps 4 (iv ((t - 1) % 7))] from by rw [show (t % 7 + 6).tmod 7 = (t - 1) % 7 from by rw [Int.tmod_eq_emod_of_nonneg (by omega)]; omega, show whiteW t - upS ((t - 1) % 7) = whiteW (t - 1) from by have := white_next (t - 1); rw [show t - 1 + 1 = t from by omega] at this; omega])) (Wk.ren2 [ps 0 (iv (c + 1)), ps 3 (iv (whiteW (t - 1))), ps 4 (iv ((t - 1) % 7))] 0 hc0 [] rfl rfl (by kernel_rfl) (by kernel_rfl))) (show (-(c + 1)).toNat < (-c).toNat from by omega)
    · refine T_else (b := (decide (c < 0))) rfl (decide_eq_false h2) ?_
      refine T_break rfl rfl ?_
      refine T_seq ?_
      refine T_region [] [ks 2] (fun _ => mixed) (l' := [ps 2 (iv (whiteW t))]) (obs := []) (by kernel_rfl) (obs_nil) ?_
      obtain rfl : c = 0 := by omega
      obtain rfl : t = s := by omega
      exact T_ret fun cx_ a_ hI_ => ret_ok (H' := []) (.inr rfl) (Wk.ren2 [ps 2 (iv (whiteW t))] 0 hc0 [] rfl rfl (by kernel_rfl) (by kernel_rfl)) rfl (obs_nil) (fun cx_ a_ hI_ => ret_res (l' := [ps 2 (iv (whiteW t))]) (by kernel_rfl) cx_ a_ hI_) hI_
end Go.Proofs.Ythckjknnaccncaa.Pm
