/-
  PITCHES AND INTERVALS of a key: walks. (Printed by wip/pm.)
-/
import Derived.Test.YthckjknnaccncaaScaR
namespace Go.Proofs.Ythckjknnaccncaa.Pm
open Go

theorem natural_pc (l : Int) (hl : 0 ≤ l ∧ l < 7) : PC Try.prog 35 [(iv l)] [] (iv (natL.getD l.toNat 0)) [] := by
  refine pc_intro Try.func35 rfl (by kernel_rfl) (Nat.le_of_ble_eq_true rfl) (by kernel_rfl) (l0 := [ps 0 (iv l)]) rfl (fun c0 Bor hc0 => ?_)
  refine T_seq ?_
  refine T_region [] [ks 0] (fun _ => mixed) (l' := [ps 0 (iv l)]) (obs := []) (by kernel_rfl) (obs_nil) ?_
  refine T_seq ?_
  refine T_seq ?_
  refine T_region [] [ks 3] (fun _ => mixed) (l' := [ps 3 (iv l)]) (obs := []) (by kernel_rfl) (obs_nil) ?_
  refine T_block ?_
  refine T_seq ?_
  refine T_region [] [ks 3, ks 4] (fun _ => mixed) (l' := [ps 3 (iv l), ps 4 (bv (decide (l = 0)))]) (obs := []) (by kernel_rfl) (obs_nil) ?_
  by_cases h1 : l = 0
  · refine T_then (b := (decide (l = 0))) rfl (decide_eq_true h1) ?_
    refine T_seq ?_
    refine T_region [] [ks 2] (fun _ => mixed) (l' := [ps 2 (iv 0)]) (obs := []) (by kernel_rfl) (obs_nil) ?_
    rw [show natL.getD l.toNat 0 = 0 from by rw [h1]; rfl]
    exact T_ret fun cx_ a_ hI_ => ret_ok (H' := []) (.inr rfl) (Wk.ren2 [ps 2 (iv 0)] 0 hc0 [] rfl rfl (by kernel_rfl) (by kernel_rfl)) rfl (obs_nil) (fun cx_ a_ hI_ => ret_res (l' := [ps 2 (iv 0)]) (by kernel_rfl) cx_ a_ hI_) hI_
  · refine T_else (b := (decide (l = 0))) rfl (decide_eq_false h1) ?_
    refine T_seq ?_
    refine T_region [] [ks 3, ks 6] (fun _ => mixed) (l' := [ps 3 (iv l), ps 6 (bv (decide (l = 1)))]) (obs := []) (by kernel_rfl) (obs_nil) ?_
    by_cases h2 : l = 1
    · refine T_then (b := (decide (l = 1))) rfl (decide_eq_true h2) ?_
      refine T_seq ?_
      refine T_region [] [ks 2] (fun _ => mixed) (l' := [ps 2 (iv 2)]) (obs := []) (by kernel_rfl) (obs_nil) ?_
      rw [show natL.getD l.toNat 0 = 2 from by rw [h2]; rfl]
      exact T_ret fun cx_ a_ hI_ => ret_ok (H' := []) (.inr rfl) (Wk.ren2 [ps 2 (iv 2)] 0 hc0 [] rfl rfl (by kernel_rfl) (by kernel_rfl)) rfl (obs_nil) (fun cx_ a_ hI_ => ret_res (l' := [ps 2 (iv 2)]) (by kernel_rfl) cx_ a_ hI_) hI_
    · refine T_else (b := (decide (l = 1))) rfl (decide_eq_false h2) ?_
      refine T_seq ?_
      refine T_region [] [ks 3, ks 8] (fun _ => mixed) (l' := [ps 3 (iv l), ps 8 (bv (decide (l = 2)))]) (obs := []) (by kernel_rfl) (obs_nil) ?_
      by_cases h3 : l = 2
      · refine T_then (b := (decide (l = 2))) rfl (decide_eq_true h3) ?_
        refine T_seq ?_
        refine T_region [] [ks 2] (fun _ => mixed) (l' := [ps 2 (iv 4)]) (obs := []) (by kernel_rfl) (obs_nil) ?_
        rw [show natL.getD l.toNat 0 = 4 from by rw [h3]; rfl]
        exact T_ret fun cx_ a_ hI_ => ret_ok (H' := []) (.inr rfl) (Wk.ren2 [ps 2 (iv 4)] 0 hc0 [] rfl rfl (by kernel_rfl) (by kernel_rfl)) rfl (obs_nil) (fun cx_ a_ hI_ => ret_res (l' := [ps 2 (iv 4)]) (by kernel_rfl) cx_ a_ hI_) hI_
      · refine T_else (b := (decide (l = 2))) rfl (decide_eq_false h3) ?_
        refine T_seq ?_
        refine T_region [] [ks 3, ks 10] (fun _ => mixed) (l' := [ps 3 (iv l), ps 10 (bv (decide (l = 3)))]) (obs := []) (by kernel_rfl) (obs_nil) ?_
        by_cases h4 : l = 3
        · refine T_then (b := (decide (l = 3))) rfl (decide_eq_true h4) ?_
          refine T_seq ?_
          refine T_region [] [ks 2] (fun _ => mixed) (l' := [ps 2 (iv 5)]) (obs := []) (by kernel_rfl) (obs_nil) ?_
          rw [show natL.getD l.toNat 0 = 5 from by rw [h4]; rfl]
          exact T_ret fun cx_ a_ hI_ => ret_ok (H' := []) (.inr rfl) (Wk.ren2 [ps 2 (iv 5)] 0 hc0 [] rfl rfl (by kernel_rfl) (by kernel_rfl)) rfl (obs_nil) (fun cx_ a_ hI_ => ret_res (l' := [ps 2 (iv 5)]) (by kernel_rfl) cx_ a_ hI_) hI_
        · refine T_else (b := (decide (l = 3))) rfl (decide_eq_false h4) ?_
          refine T_seq ?_
          refine T_region [] [ks 3, ks 12] (fun _ => mixed) (l' := [ps 3 (iv l), ps 12 (bv (decide (l = 4)))]) (obs := []) (by kernel_rfl) (obs_nil) ?_
          by_cases h5 : l = 4
          · refine T_then (b := (decide (l = 4))) rfl (decide_eq_true h5) ?_
            refine T_seq ?_
            refine T_region [] [ks 2] (fun _ => mixed) (l' := [ps 2 (iv 7)]) (obs := []) (by kernel_rfl) (obs_nil) ?_
            rw [show natL.getD l.toNat 0 = 7 from by rw [h5]; rfl]
            exact T_ret fun cx_ a_ hI_ => ret_ok (H' := []) (.inr rfl) (Wk.ren2 [ps 2 (iv 7)] 0 hc0 [] rfl rfl (by kernel_rfl) (by kernel_rfl)) rfl (obs_nil) (fun cx_ a_ hI_ => ret_res (l' := [ps 2 (iv 7)]) (by kernel_rfl) cx_ a_ hI_) hI_
          · refine T_else (b := (decide (l = 4))) rfl (decide_eq_false h5) ?_
            refine T_seq ?_
            refine T_region [] [ks 14] (fun _ => mixed) (l' := [ps 14 (bv (decide (l = 5)))]) (obs := []) (by kernel_rfl) (obs_nil) ?_
            by_cases h6 : l = 5
            · refine T_then (b := (decide (l = 5))) rfl (decide_eq_true h6) ?_
              refine T_seq ?_
              refine T_region [] [ks 2] (fun _ => mixed) (l' := [ps 2 (iv 9)]) (obs := []) (by kernel_rfl) (obs_nil) ?_
              rw [show natL.getD l.toNat 0 = 9 from by rw [h6]; rfl]
              exact T_ret fun cx_ a_ hI_ => ret_ok (H' := []) (.inr rfl) (Wk.ren2 [ps 2 (iv 9)] 0 hc0 [] rfl rfl (by kernel_rfl) (by kernel_rfl)) rfl (obs_nil) (fun cx_ a_ hI_ => ret_res (l' := [ps 2 (iv 9)]) (by kernel_rfl) cx_ a_ hI_) hI_
            · refine T_else (b := (decide (l = 5))) rfl (decide_eq_false h6) ?_
              refine T_skip ?_
              refine T_blk ?_
              refine T_seq ?_
              refine T_region [] [ks 2] (fun _ => mixed) (l' := [ps 2 (iv 11)]) (obs := []) (by kernel_rfl) (obs_nil) ?_
              rw [show natL.getD l.toNat 0 = 11 from by rw [show l = 6 from by omega]; rfl]
              exact T_ret fun cx_ a_ hI_ => ret_ok (H' := []) (.inr rfl) (Wk.ren2 [ps 2 (iv 11)] 0 hc0 [] rfl rfl (by kernel_rfl) (by kernel_rfl)) rfl (obs_nil) (fun cx_ a_ hI_ => ret_res (l' := [ps 2 (iv 11)]) (by kernel_rfl) cx_ a_ hI_) hI_
theorem halves_pc (l a o : Int) (hl : 0 ≤ l ∧ l < 7) (ha : -1000 ≤ a ∧ a ≤ 1000) (ho : -1000 ≤ o ∧ o ≤ 1000) : PC Try.prog 29 [(.agg [(iv l), (iv a), (iv o)])] [] (iv (halvesS l a o)) [] := by
  refine pc_intro Try.func29 rfl (by kernel_rfl) (Nat.le_of_ble_eq_true rfl) (by kernel_rfl) (l0 := [ps 0 (.agg [(iv l), (iv a), (iv o)])]) rfl (fun c0 Bor hc0 => ?_)
  refine T_seq ?_
  refine T_region [] [ks 1, kb 0] (fun _ => mixed) (l' := [ps 1 (.opt 0 0), pb 0 23 [(iv l), (iv a), (iv o)]]) (obs := []) (by kernel_rfl) (obs_nil) ?_
  refine T_seq ?_
  refine T_region [(5, .call [] [(iv l)] [] (iv (natL.getD l.toNat 0)) [])] [ks 2] (fun _ => mixed) (l' := [ps 2 (iv (((12 * o) + (natL.getD l.toNat 0)) + a))]) (obs := [InK .i64 (12 * o), PC Try.prog 35 [(iv l)] [] (iv (natL.getD l.toNat 0)) [], [(iv l)] = renL (sigi [] 56) [(iv l)], InK .i64 ((12 * o) + (natL.getD l.toNat 0)), InK .i64 (((12 * o) + (natL.getD l.toNat 0)) + a)]) (by kernel_rfl) (obs_cons (p := InK .i64 (12 * o)) (by have := nat_bd l.toNat; simp only [InK]; omega) (obs_cons (p := PC Try.prog 35 [(iv l)] [] (iv (natL.getD l.toNat 0)) []) (natural_pc l (by omega)) (obs_cons (p := [(iv l)] = renL (sigi [] 56) [(iv l)]) rfl (obs_cons (p := InK .i64 ((12 * o) + (natL.getD l.toNat 0))) (by have := nat_bd l.toNat; simp only [InK]; omega) (obs_cons (p := InK .i64 (((12 * o) + (natL.getD l.toNat 0)) + a)) (by have := nat_bd l.toNat; simp only [InK]; omega) (obs_nil)))))) ?_
  exact T_ret fun cx_ a_ hI_ => ret_ok (H' := []) (.inr rfl) (Wk.ren2 [ps 2 (iv (((12 * o) + (natL.getD l.toNat 0)) + a))] 0 hc0 [] rfl rfl (by kernel_rfl) (by kernel_rfl)) rfl (obs_nil) (fun cx_ a_ hI_ => ret_res (l' := [ps 2 (iv (((12 * o) + (natL.getD l.toNat 0)) + a))]) (by kernel_rfl) cx_ a_ hI_) hI_
theorem steps_pc (l a o : Int) (hl : 0 ≤ l ∧ l < 7) (ho : -1000 ≤ o ∧ o ≤ 1000) : PC Try.prog 28 [(.agg [(iv l), (iv a), (iv o)])] [] (iv (stepsS l o)) [] := by
  refine pc_intro Try.func28 rfl (by kernel_rfl) (Nat.le_of_ble_eq_true rfl) (by kernel_rfl) (l0 := [ps 0 (.agg [(iv l), (iv a), (iv o)])]) rfl (fun c0 Bor hc0 => ?_)
  refine T_seq ?_
  refine T_region [] [ks 1, kb 0] (fun _ => mixed) (l' := [ps 1 (.opt 0 0), pb 0 23 [(iv l), (iv a), (iv o)]]) (obs := []) (by kernel_rfl) (obs_nil) ?_
  refine T_seq ?_
  refine T_region [] [ks 2] (fun _ => mixed) (l' := [ps 2 (iv ((7 * o) + l))]) (obs := [InK .i64 (7 * o), InK .i64 ((7 * o) + l)]) (by kernel_rfl) (obs_cons (p := InK .i64 (7 * o)) (by simp only [InK]; omega) (obs_cons (p := InK .i64 ((7 * o) + l)) (by simp only [InK]; omega) (obs_nil))) ?_
  exact T_ret fun cx_ a_ hI_ => ret_ok (H' := []) (.inr rfl) (Wk.ren2 [ps 2 (iv ((7 * o) + l))] 0 hc0 [] rfl rfl (by kernel_rfl) (by kernel_rfl)) rfl (obs_nil) (fun cx_ a_ hI_ => ret_res (l' := [ps 2 (iv ((7 * o) + l))]) (by kernel_rfl) cx_ a_ hI_) hI_
theorem floor_pc (n : Int) (hn : -100000 ≤ n ∧ n ≤ 100000) : PC Try.prog 31 [(iv n), (iv 7)] [] (.tup [(iv (n / 7)), (iv (n % 7))]) [] := by
  refine pc_intro Try.func31 rfl (by kernel_rfl) (Nat.le_of_ble_eq_true rfl) (by kernel_rfl) (l0 := [ps 0 (iv n), ps 1 (iv 7)]) rfl (fun c0 Bor hc0 => ?_)
  refine T_seq ?_
  refine T_region [] [ks 0, ks 1] (fun _ => mixed) (l' := [ps 0 (iv n), ps 1 (iv 7)]) (obs := []) (by kernel_rfl) (obs_nil) ?_
  refine T_seq ?_
  refine T_region [] [ks 1, ks 6, ks 7] (fun _ => mixed) (l' := [ps 1 (iv 7), ps 6 (iv ((n).tdiv 7)), ps 7 (iv ((n).tmod 7))]) (obs := [7 ≠ (0 : Int), InK .i64 ((n).tdiv 7), 7 ≠ (0 : Int)]) (by kernel_rfl) (obs_cons (p := 7 ≠ (0 : Int)) (by decide) (obs_cons (p := InK .i64 ((n).tdiv 7)) (by have h1 := tdiv_eq n; have h2 := tmod_bd n; simp only [InK]; omega) (obs_cons (p := 7 ≠ (0 : Int)) (by decide) (obs_nil)))) ?_
  refine T_seq ?_
  refine T_seq ?_
  refine T_region [] [ks 1, ks 6, ks 7, ks 15] (fun _ => mixed) (l' := [ps 1 (iv 7), ps 6 (iv ((n).tdiv 7)), ps 7 (iv ((n).tmod 7)), ps 15 (bv (decide (((n).tmod 7) < 0)))]) (obs := []) (by kernel_rfl) (obs_nil) ?_
  by_cases h1 : ((n).tmod 7) < 0
  · refine T_then (b := (decide (((n).tmod 7) < 0))) rfl (decide_eq_true h1) ?_
    refine T_seq ?_
    refine T_region [] [ks 4, ks 5] (fun _ => mixed) (l' := [ps 4 (iv (((n).tdiv 7) - 1)), ps 5 (iv (((n).tmod 7) + 7))]) (obs := [InK .i64 (((n).tdiv 7) - 1), InK .i64 (((n).tmod 7) + 7)]) (by kernel_rfl) (obs_cons (p := InK .i64 (((n).tdiv 7) - 1)) (by have h1 := tdiv_eq n; have h2 := tmod_bd n; simp only [InK]; omega) (obs_cons (p := InK .i64 (((n).tmod 7) + 7)) (by have h1 := tdiv_eq n; have h2 := tmod_bd n; simp only [InK]; omega) (obs_nil))) ?_
    have h1 := tdiv_eq n
    have h2 := tmod_bd n
    refine T_wk (Wk.eq (show [ps 4 (iv (((n).tdiv 7) - 1)), ps 5 (iv (((n).tmod 7) + 7))] = [ps 4 (iv (n / 7)), ps 5 (iv (n % 7))] from by rw [show n / 7 = (((n).tdiv 7) - 1) from by omega, show n % 7 = (((n).tmod 7) + 7) from by omega])) ?_
    exact T_ret fun cx_ a_ hI_ => ret_ok (H' := []) (.inr rfl) (Wk.ren2 [ps 4 (iv (n / 7)), ps 5 (iv (n % 7))] 0 hc0 [] rfl rfl (by kernel_rfl) (by kernel_rfl)) rfl (obs_nil) (fun cx_ a_ hI_ => ret_res (l' := [ps 4 (iv (n / 7)), ps 5 (iv (n % 7))]) (by kernel_rfl) cx_ a_ hI_) hI_
  · refine T_else (b := (decide (((n).tmod 7) < 0))) rfl (decide_eq_false h1) ?_
    refine T_skip ?_
    refine T_seq ?_
    refine T_region [] [ks 4, ks 5] (fun _ => mixed) (l' := [ps 4 (iv ((n).tdiv 7)), ps 5 (iv ((n).tmod 7))]) (obs := []) (by kernel_rfl) (obs_nil) ?_
    have h1 := tdiv_eq n
    have h2 := tmod_bd n
    refine T_wk (Wk.eq (show [ps 4 (iv ((n).tdiv 7)), ps 5 (iv ((n).tmod 7))] = [ps 4 (iv (n / 7)), ps 5 (iv (n % 7))] from by rw [show n / 7 = ((n).tdiv 7) from by omega, show n % 7 = ((n).tmod 7) from by omega])) ?_
    exact T_ret fun cx_ a_ hI_ => ret_ok (H' := []) (.inr rfl) (Wk.ren2 [ps 4 (iv (n / 7)), ps 5 (iv (n % 7))] 0 hc0 [] rfl rfl (by kernel_rfl) (by kernel_rfl)) rfl (obs_nil) (fun cx_ a_ hI_ => ret_res (l' := [ps 4 (iv (n / 7)), ps 5 (iv (n % 7))]) (by kernel_rfl) cx_ a_ hI_) hI_
theorem within_pc  : PC Try.prog 30 [(.agg [(iv 4), (iv 7)])] [] (bv true) [] := by
  refine pc_intro Try.func30 rfl (by kernel_rfl) (Nat.le_of_ble_eq_true rfl) (by kernel_rfl) (l0 := [ps 0 (.agg [(iv 4), (iv 7)])]) rfl (fun c0 Bor hc0 => ?_)
  refine T_seq ?_
  refine T_region [] [ks 1, kb 0] (fun _ => mixed) (l' := [ps 1 (.opt 0 0), pb 0 40 [(iv 4), (iv 7)]]) (obs := []) (by kernel_rfl) (obs_nil) ?_
  refine T_seq ?_
  refine T_region [(8, .gd true (.no)), (9, .gd true (.no)), (10, .gd true (.no)), (11, .gd true (.no)), (12, .gd true (.no)), (13, .gd true (.no)), (14, .gd true (.no)), (17, .gd true (.no)), (18, .gd true (.no)), (19, .gd true (.no)), (22, .gd true (.no)), (23, .gd true (.no)), (24, .gd true (.no))] [ks 2] (fun _ => mixed) (l' := [ps 2 (bv true)]) (obs := [InK .i64 (-4), true = true, true = true, true = true, true = true, true = true, InK .i64 (-7), true = true, true = true, true = true, true = true, true = true, true = true, true = true, true = true]) (by kernel_rfl) (obs_cons (p := InK .i64 (-4)) (by simp [InK]) (obs_cons (p := true = true) rfl (obs_cons (p := true = true) rfl (obs_cons (p := true = true) rfl (obs_cons (p := true = true) rfl (obs_cons (p := true = true) rfl (obs_cons (p := InK .i64 (-7)) (by simp [InK]) (obs_cons (p := true = true) rfl (obs_cons (p := true = true) rfl (obs_cons (p := true = true) rfl (obs_cons (p := true = true) rfl (obs_cons (p := true = true) rfl (obs_cons (p := true = true) rfl (obs_cons (p := true = true) rfl (obs_cons (p := true = true) rfl (obs_nil)))))))))))))))) ?_
  exact T_ret fun cx_ a_ hI_ => ret_ok (H' := []) (.inr rfl) (Wk.ren2 [ps 2 (bv true)] 0 hc0 [] rfl rfl (by kernel_rfl) (by kernel_rfl)) rfl (obs_nil) (fun cx_ a_ hI_ => ret_res (l' := [ps 2 (bv true)]) (by kernel_rfl) cx_ a_ hI_) hI_
theorem between_pc0 (l a o l2 a2 o2 : Int) (hp : rightQ l a o = true) (hq : rightQ l2 a2 o2 = true) : PC Try.prog 16 [(.agg [(iv l), (iv a), (iv o)]), (.agg [(iv l2), (iv a2), (iv o2)])] [] (.tup [(.agg [(iv (stepsS l2 o2 - stepsS l o)), (iv (halvesS l2 a2 o2 - halvesS l a o))]), (iv 0)]) [none] := by
  refine pc_intro Try.func16 rfl (by kernel_rfl) (Nat.le_of_ble_eq_true rfl) (by kernel_rfl) (l0 := [ps 0 (.agg [(iv l), (iv a), (iv o)]), ps 1 (.agg [(iv l2), (iv a2), (iv o2)])]) rfl (fun c0 Bor hc0 => ?_)
  refine T_seq ?_
  refine T_region [] [ks 2, ks 3, ks 4, kb 0, kb 8, kb 16] (fun _ => mixed) (l' := [ps 2 (.opt 0 0), ps 3 (.opt 8 0), ps 4 (.opt 16 0), pb 0 23 [(iv l), (iv a), (iv o)], pb 8 23 [(iv l2), (iv a2), (iv o2)], pb 16 40 [(iv 0), (iv 0)]]) (obs := []) (by kernel_rfl) (obs_nil) ?_
  refine T_seq ?_
  refine T_seq ?_
  have h1 : (rightQ l a o) = true := hp
  refine T_region [(1, .call [] [(.agg [(iv l), (iv a), (iv o)])] [] (bv (rightQ l a o)) []), (4, .gd false (.no)), (5, .gd false (.call [] [(.agg [(iv l2), (iv a2), (iv o2)])] [] (bv (rightQ l2 a2 o2)) [])), (6, .gd false (.no)), (7, .yes false)] [ks 2, ks 3, ks 4, ks 13, kb 0, kb 8, kb 16] (fun _ => mixed) (l' := [ps 2 (.opt 0 0), ps 3 (.opt 8 0), ps 4 (.opt 16 0), ps 13 (bv (!(rightQ l2 a2 o2))), pb 0 23 [(iv l), (iv a), (iv o)], pb 8 23 [(iv l2), (iv a2), (iv o2)], pb 16 40 [(iv 0), (iv 0)]]) (obs := [PC Try.prog 15 [(.agg [(iv l), (iv a), (iv o)])] [] (bv (rightQ l a o)) [], [(.agg [(iv l), (iv a), (iv o)])] = renL (sigi [] 40) [(.agg [(iv l), (iv a), (iv o)])], (!(rightQ l a o)) = false, (!(rightQ l a o)) = false, PC Try.prog 15 [(.agg [(iv l2), (iv a2), (iv o2)])] [] (bv (rightQ l2 a2 o2)) [], [(.agg [(iv l2), (iv a2), (iv o2)])] = renL (sigi [] 72) [(.agg [(iv l2), (iv a2), (iv o2)])], (!(rightQ l a o)) = false, (!(rightQ l a o)) = false]) (by kernel_rfl) (obs_cons (p := PC Try.prog 15 [(.agg [(iv l), (iv a), (iv o)])] [] (bv (rightQ l a o)) []) (right_pc l a o) (obs_cons (p := [(.agg [(iv l), (iv a), (iv o)])] = renL (sigi [] 40) [(.agg [(iv l), (iv a), (iv o)])]) rfl (obs_cons (p := (!(rightQ l a o)) = false) (congrArg Bool.not h1) (obs_cons (p := (!(rightQ l a o)) = false) (congrArg Bool.not h1) (obs_cons (p := PC Try.prog 15 [(.agg [(iv l2), (iv a2), (iv o2)])] [] (bv (rightQ l2 a2 o2)) []) (right_pc l2 a2 o2) (obs_cons (p := [(.agg [(iv l2), (iv a2), (iv o2)])] = renL (sigi [] 72) [(.agg [(iv l2), (iv a2), (iv o2)])]) rfl (obs_cons (p := (!(rightQ l a o)) = false) (congrArg Bool.not h1) (obs_cons (p := (!(rightQ l a o)) = false) (congrArg Bool.not h1) (obs_nil))))))))) ?_
  have h2 : (rightQ l2 a2 o2) = true := hq
  refine T_else (b := (!(rightQ l2 a2 o2))) rfl (congrArg Bool.not h2) ?_
  refine T_skip ?_
  refine T_seq ?_
  have hR := rightQ_iff.1 hp
  have hR2 := rightQ_iff.1 hq
  have hb1 := halves_bd l a o (by omega) (by omega)
  have hb2 := halves_bd l2 a2 o2 (by omega) (by omega)
  refine T_region [(1, .call [] [(.agg [(iv l2), (iv a2), (iv o2)])] [] (iv (stepsS l2 o2)) []), (3, .call [] [(.agg [(iv l), (iv a), (iv o)])] [] (iv (stepsS l o)) []), (6, .call [] [(.agg [(iv l2), (iv a2), (iv o2)])] [] (iv (halvesS l2 a2 o2)) []), (8, .call [] [(.agg [(iv l), (iv a), (iv o)])] [] (iv (halvesS l a o)) [])] [ks 4, ks 5, kb 16] (fun _ => mixed) (l' := [ps 4 (.opt 16 0), ps 5 (iv 0), pb 16 40 [(iv ((stepsS l2 o2) - (stepsS l o))), (iv ((halvesS l2 a2 o2) - (halvesS l a o)))]]) (obs := [PC Try.prog 28 [(.agg [(iv l2), (iv a2), (iv o2)])] [] (iv (stepsS l2 o2)) [], [(.agg [(iv l2), (iv a2), (iv o2)])] = renL (sigi [] 104) [(.agg [(iv l2), (iv a2), (iv o2)])], PC Try.prog 28 [(.agg [(iv l), (iv a), (iv o)])] [] (iv (stepsS l o)) [], [(.agg [(iv l), (iv a), (iv o)])] = renL (sigi [] 120) [(.agg [(iv l), (iv a), (iv o)])], InK .i64 ((stepsS l2 o2) - (stepsS l o)), PC Try.prog 29 [(.agg [(iv l2), (iv a2), (iv o2)])] [] (iv (halvesS l2 a2 o2)) [], [(.agg [(iv l2), (iv a2), (iv o2)])] = renL (sigi [] 144) [(.agg [(iv l2), (iv a2), (iv o2)])], PC Try.prog 29 [(.agg [(iv l), (iv a), (iv o)])] [] (iv (halvesS l a o)) [], [(.agg [(iv l), (iv a), (iv o)])] = renL (sigi [] 160) [(.agg [(iv l), (iv a), (iv o)])], InK .i64 ((halvesS l2 a2 o2) - (halvesS l a o))]) (by kernel_rfl) (obs_cons (p := PC Try.prog 28 [(.agg [(iv l2), (iv a2), (iv o2)])] [] (iv (stepsS l2 o2)) []) (steps_pc l2 a2 o2 (by omega) (by omega)) (obs_cons (p := [(.agg [(iv l2), (iv a2), (iv o2)])] = renL (sigi [] 104) [(.agg [(iv l2), (iv a2), (iv o2)])]) rfl (obs_cons (p := PC Try.prog 28 [(.agg [(iv l), (iv a), (iv o)])] [] (iv (stepsS l o)) []) (steps_pc l a o (by omega) (by omega)) (obs_cons (p := [(.agg [(iv l), (iv a), (iv o)])] = renL (sigi [] 120) [(.agg [(iv l), (iv a), (iv o)])]) rfl (obs_cons (p := InK .i64 ((stepsS l2 o2) - (stepsS l o))) (by unfold stepsS; simp only [InK]; omega) (obs_cons (p := PC Try.prog 29 [(.agg [(iv l2), (iv a2), (iv o2)])] [] (iv (halvesS l2 a2 o2)) []) (halves_pc l2 a2 o2 (by omega) (by omega) (by omega)) (obs_cons (p := [(.agg [(iv l2), (iv a2), (iv o2)])] = renL (sigi [] 144) [(.agg [(iv l2), (iv a2), (iv o2)])]) rfl (obs_cons (p := PC Try.prog 29 [(.agg [(iv l), (iv a), (iv o)])] [] (iv (halvesS l a o)) []) (halves_pc l a o (by omega) (by omega) (by omega)) (obs_cons (p := [(.agg [(iv l), (iv a), (iv o)])] = renL (sigi [] 160) [(.agg [(iv l), (iv a), (iv o)])]) rfl (obs_cons (p := InK .i64 ((halvesS l2 a2 o2) - (halvesS l a o))) (by simp only [InK]; omega) (obs_nil))))))))))) ?_
  exact T_ret fun cx_ a_ hI_ => ret_ok (H' := [none]) (.inr rfl) (Wk.ren2 [ps 4 (.opt 0 0), ps 5 (iv 0), pb 0 40 [(iv ((stepsS l2 o2) - (stepsS l o))), (iv ((halvesS l2 a2 o2) - (halvesS l a o)))]] 0 hc0 [16] rfl rfl (by kernel_rfl) (by kernel_rfl)) rfl (obs_nil) (fun cx_ a_ hI_ => ret_res (l' := [ps 4 (.opt 0 0), ps 5 (iv 0), pb 0 40 [(iv ((stepsS l2 o2) - (stepsS l o))), (iv ((halvesS l2 a2 o2) - (halvesS l a o)))]]) (by kernel_rfl) cx_ a_ hI_) hI_
theorem between_pc (l a o l2 a2 o2 : Int) (hp : rightQ l a o = true) (hq : rightQ l2 a2 o2 = true) : PC Try.prog 16 [.agg [iv l, iv a, iv o], .agg [iv l2, iv a2, iv o2]] [] (.tup [.agg [iv (stepsS l2 o2 - stepsS l o), iv (halvesS l2 a2 o2 - halvesS l a o)], iv 0]) [] := pc_trim [none] rfl (fun i => by cases i <;> rfl) (between_pc0 l a o l2 a2 o2 hp hq)
def fifthP (l a : Int) : Int × Int × Int × Int := if rightQ ((stepsS l 0 + 4) % 7) (halvesS l a 0 + 7 - halvesS ((stepsS l 0 + 4) % 7) 0 ((stepsS l 0 + 4) / 7)) ((stepsS l 0 + 4) / 7) = true then ((stepsS l 0 + 4) % 7, halvesS l a 0 + 7 - halvesS ((stepsS l 0 + 4) % 7) 0 ((stepsS l 0 + 4) / 7), (stepsS l 0 + 4) / 7, 0) else (0, 0, 0, 3)
theorem fifthm_pc0 (l a : Int) (hp : rightQ l a 0 = true) : PC Try.prog 17 [(.agg [(iv l), (iv a), (iv 0)]), (.agg [(iv 4), (iv 7)])] [] (.tup [.agg [iv (fifthP l a).1, iv (fifthP l a).2.1, iv (fifthP l a).2.2.1], iv (fifthP l a).2.2.2]) [none] := by
  refine pc_intro Try.func17 rfl (by kernel_rfl) (Nat.le_of_ble_eq_true rfl) (by kernel_rfl) (l0 := [ps 0 (.agg [(iv l), (iv a), (iv 0)]), ps 1 (.agg [(iv 4), (iv 7)])]) rfl (fun c0 Bor hc0 => ?_)
  refine T_seq ?_
  refine T_region [] [ks 2, ks 3, ks 4, kb 0, kb 8, kb 16] (fun _ => mixed) (l' := [ps 2 (.opt 0 0), ps 3 (.opt 8 0), ps 4 (.opt 16 0), pb 0 23 [(iv l), (iv a), (iv 0)], pb 8 40 [(iv 4), (iv 7)], pb 16 23 [(iv 0), (iv 0), (iv 0)]]) (obs := []) (by kernel_rfl) (obs_nil) ?_
  refine T_seq ?_
  refine T_seq ?_
  refine T_region [(1, .call [] [(.agg [(iv l), (iv a), (iv 0)])] [] (bv (rightQ l a 0)) [])] [ks 2, ks 3, ks 4, ks 9, kb 0, kb 8, kb 16] (fun _ => mixed) (l' := [ps 2 (.opt 0 0), ps 3 (.opt 8 0), ps 4 (.opt 16 0), ps 9 (bv (!(rightQ l a 0))), pb 0 23 [(iv l), (iv a), (iv 0)], pb 8 40 [(iv 4), (iv 7)], pb 16 23 [(iv 0), (iv 0), (iv 0)]]) (obs := [PC Try.prog 15 [(.agg [(iv l), (iv a), (iv 0)])] [] (bv (rightQ l a 0)) [], [(.agg [(iv l), (iv a), (iv 0)])] = renL (sigi [] 40) [(.agg [(iv l), (iv a), (iv 0)])]]) (by kernel_rfl) (obs_cons (p := PC Try.prog 15 [(.agg [(iv l), (iv a), (iv 0)])] [] (bv (rightQ l a 0)) []) (right_pc l a 0) (obs_cons (p := [(.agg [(iv l), (iv a), (iv 0)])] = renL (sigi [] 40) [(.agg [(iv l), (iv a), (iv 0)])]) rfl (obs_nil))) ?_
  have h1 : (rightQ l a 0) = true := hp
  refine T_else (b := (!(rightQ l a 0))) rfl (congrArg Bool.not h1) ?_
  refine T_skip ?_
  refine T_seq ?_
  refine T_seq ?_
  refine T_region [(1, .call [] [(.agg [(iv 4), (iv 7)])] [] (bv true) [])] [ks 2, ks 3, ks 4, ks 13, kb 0, kb 8, kb 16] (fun _ => mixed) (l' := [ps 2 (.opt 0 0), ps 3 (.opt 8 0), ps 4 (.opt 16 0), ps 13 (bv false), pb 0 23 [(iv l), (iv a), (iv 0)], pb 8 40 [(iv 4), (iv 7)], pb 16 23 [(iv 0), (iv 0), (iv 0)]]) (obs := [PC Try.prog 30 [(.agg [(iv 4), (iv 7)])] [] (bv true) [], [(.agg [(iv 4), (iv 7)])] = renL (sigi [] 64) [(.agg [(iv 4), (iv 7)])]]) (by kernel_rfl) (obs_cons (p := PC Try.prog 30 [(.agg [(iv 4), (iv 7)])] [] (bv true) []) within_pc (obs_cons (p := [(.agg [(iv 4), (iv 7)])] = renL (sigi [] 64) [(.agg [(iv 4), (iv 7)])]) rfl (obs_nil))) ?_
  refine T_else (b := false) rfl rfl ?_
  refine T_skip ?_
  refine T_seq ?_
  have hR := rightQ_iff.1 hp
  have hs : stepsS l 0 = l := by unfold stepsS; omega
  have hb1 := halves_bd l a 0 (by omega) (by omega)
  have hb2 := halves_bd ((stepsS l 0 + 4) % 7) 0 ((stepsS l 0 + 4) / 7) (by omega) (by omega)
  refine T_region [] [ks 2, ks 3, ks 4, ks 6, kb 0, kb 8, kb 16, kb 80] (fun _ => mixed) (l' := [ps 2 (.opt 0 0), ps 3 (.opt 8 0), ps 4 (.opt 16 0), ps 6 (.opt 80 0), pb 0 23 [(iv l), (iv a), (iv 0)], pb 8 40 [(iv 4), (iv 7)], pb 16 23 [(iv 0), (iv 0), (iv 0)], pb 80 23 [(iv 0), (iv 0), (iv 0)]]) (obs := []) (by kernel_rfl) (obs_nil) ?_
  refine T_seq ?_
  refine T_region [(1, .call [] [(.agg [(iv l), (iv a), (iv 0)])] [] (iv (stepsS l 0)) []), (5, .call [] [(iv ((stepsS l 0) + 4)), (iv 7)] [] (.tup [(iv (((stepsS l 0) + 4) / 7)), (iv (((stepsS l 0) + 4) % 7))]) [])] [ks 2, ks 3, ks 4, ks 6, kb 0, kb 8, kb 16, kb 80] (fun _ => mixed) (l' := [ps 2 (.opt 0 0), ps 3 (.opt 8 0), ps 4 (.opt 16 0), ps 6 (.opt 80 0), pb 0 23 [(iv l), (iv a), (iv 0)], pb 8 40 [(iv 4), (iv 7)], pb 16 23 [(iv 0), (iv 0), (iv 0)], pb 80 23 [(iv (((stepsS l 0) + 4) % 7)), (iv 0), (iv (((stepsS l 0) + 4) / 7))]]) (obs := [PC Try.prog 28 [(.agg [(iv l), (iv a), (iv 0)])] [] (iv (stepsS l 0)) [], [(.agg [(iv l), (iv a), (iv 0)])] = renL (sigi [] 96) [(.agg [(iv l), (iv a), (iv 0)])], InK .i64 ((stepsS l 0) + 4), PC Try.prog 31 [(iv ((stepsS l 0) + 4)), (iv 7)] [] (.tup [(iv (((stepsS l 0) + 4) / 7)), (iv (((stepsS l 0) + 4) % 7))]) [], [(iv ((stepsS l 0) + 4)), (iv 7)] = renL (sigi [] 128) [(iv ((stepsS l 0) + 4)), (iv 7)]]) (by kernel_rfl) (obs_cons (p := PC Try.prog 28 [(.agg [(iv l), (iv a), (iv 0)])] [] (iv (stepsS l 0)) []) (steps_pc l a 0 (by omega) (by omega)) (obs_cons (p := [(.agg [(iv l), (iv a), (iv 0)])] = renL (sigi [] 96) [(.agg [(iv l), (iv a), (iv 0)])]) rfl (obs_cons (p := InK .i64 ((stepsS l 0) + 4)) (by simp only [InK]; omega) (obs_cons (p := PC Try.prog 31 [(iv ((stepsS l 0) + 4)), (iv 7)] [] (.tup [(iv (((stepsS l 0) + 4) / 7)), (iv (((stepsS l 0) + 4) % 7))]) []) (floor_pc ((stepsS l 0) + 4) (by unfold stepsS; omega)) (obs_cons (p := [(iv ((stepsS l 0) + 4)), (iv 7)] = renL (sigi [] 128) [(iv ((stepsS l 0) + 4)), (iv 7)]) rfl (obs_nil)))))) ?_
  refine T_seq ?_
  refine T_region [(1, .call [] [(.agg [(iv l), (iv a), (iv 0)])] [] (iv (halvesS l a 0)) []), (6, .call [] [(.agg [(iv (((stepsS l 0) + 4) % 7)), (iv 0), (iv (((stepsS l 0) + 4) / 7))])] [] (iv (halvesS (((stepsS l 0) + 4) % 7) 0 (((stepsS l 0) + 4) / 7))) [])] [ks 4, ks 6, kb 16, kb 80] (fun _ => mixed) (l' := [ps 4 (.opt 16 0), ps 6 (.opt 80 0), pb 16 23 [(iv 0), (iv 0), (iv 0)], pb 80 23 [(iv (((stepsS l 0) + 4) % 7)), (iv (((halvesS l a 0) + 7) - (halvesS (((stepsS l 0) + 4) % 7) 0 (((stepsS l 0) + 4) / 7)))), (iv (((stepsS l 0) + 4) / 7))]]) (obs := [PC Try.prog 29 [(.agg [(iv l), (iv a), (iv 0)])] [] (iv (halvesS l a 0)) [], [(.agg [(iv l), (iv a), (iv 0)])] = renL (sigi [] 200) [(.agg [(iv l), (iv a), (iv 0)])], InK .i64 ((halvesS l a 0) + 7), PC Try.prog 29 [(.agg [(iv (((stepsS l 0) + 4) % 7)), (iv 0), (iv (((stepsS l 0) + 4) / 7))])] [] (iv (halvesS (((stepsS l 0) + 4) % 7) 0 (((stepsS l 0) + 4) / 7))) [], [(.agg [(iv (((stepsS l 0) + 4) % 7)), (iv 0), (iv (((stepsS l 0) + 4) / 7))])] = renL (sigi [] 240) [(.agg [(iv (((stepsS l 0) + 4) % 7)), (iv 0), (iv (((stepsS l 0) + 4) / 7))])], InK .i64 (((halvesS l a 0) + 7) - (halvesS (((stepsS l 0) + 4) % 7) 0 (((stepsS l 0) + 4) / 7)))]) (by kernel_rfl) (obs_cons (p := PC Try.prog 29 [(.agg [(iv l), (iv a), (iv 0)])] [] (iv (halvesS l a 0)) []) (halves_pc l a 0 (by omega) (by omega) (by omega)) (obs_cons (p := [(.agg [(iv l), (iv a), (iv 0)])] = renL (sigi [] 200) [(.agg [(iv l), (iv a), (iv 0)])]) rfl (obs_cons (p := InK .i64 ((halvesS l a 0) + 7)) (by simp only [InK]; omega) (obs_cons (p := PC Try.prog 29 [(.agg [(iv (((stepsS l 0) + 4) % 7)), (iv 0), (iv (((stepsS l 0) + 4) / 7))])] [] (iv (halvesS (((stepsS l 0) + 4) % 7) 0 (((stepsS l 0) + 4) / 7))) []) (halves_pc (((stepsS l 0) + 4) % 7) 0 (((stepsS l 0) + 4) / 7) (by omega) (by omega) (by omega)) (obs_cons (p := [(.agg [(iv (((stepsS l 0) + 4) % 7)), (iv 0), (iv (((stepsS l 0) + 4) / 7))])] = renL (sigi [] 240) [(.agg [(iv (((stepsS l 0) + 4) % 7)), (iv 0), (iv (((stepsS l 0) + 4) / 7))])]) rfl (obs_cons (p := InK .i64 (((halvesS l a 0) + 7) - (halvesS (((stepsS l 0) + 4) % 7) 0 (((stepsS l 0) + 4) / 7)))) (by simp only [InK]; omega) (obs_nil))))))) ?_
  refine T_seq ?_
  refine T_seq ?_
  refine T_region [(1, .call [] [(.agg [(iv (((stepsS l 0) + 4) % 7)), (iv (((halvesS l a 0) + 7) - (halvesS (((stepsS l 0) + 4) % 7) 0 (((stepsS l 0) + 4) / 7)))), (iv (((stepsS l 0) + 4) / 7))])] [] (bv (rightQ (((stepsS l 0) + 4) % 7) (((halvesS l a 0) + 7) - (halvesS (((stepsS l 0) + 4) % 7) 0 (((stepsS l 0) + 4) / 7))) (((stepsS l 0) + 4) / 7))) [])] [ks 4, ks 6, ks 37, kb 16, kb 80] (fun _ => mixed) (l' := [ps 4 (.opt 16 0), ps 6 (.opt 80 0), ps 37 (bv (!(rightQ (((stepsS l 0) + 4) % 7) (((halvesS l a 0) + 7) - (halvesS (((stepsS l 0) + 4) % 7) 0 (((stepsS l 0) + 4) / 7))) (((stepsS l 0) + 4) / 7)))), pb 16 23 [(iv 0), (iv 0), (iv 0)], pb 80 23 [(iv (((stepsS l 0) + 4) % 7)), (iv (((halvesS l a 0) + 7) - (halvesS (((stepsS l 0) + 4) % 7) 0 (((stepsS l 0) + 4) / 7)))), (iv (((stepsS l 0) + 4) / 7))]]) (obs := [PC Try.prog 15 [(.agg [(iv (((stepsS l 0) + 4) % 7)), (iv (((halvesS l a 0) + 7) - (halvesS (((stepsS l 0) + 4) % 7) 0 (((stepsS l 0) + 4) / 7)))), (iv (((stepsS l 0) + 4) / 7))])] [] (bv (rightQ (((stepsS l 0) + 4) % 7) (((halvesS l a 0) + 7) - (halvesS (((stepsS l 0) + 4) % 7) 0 (((stepsS l 0) + 4) / 7))) (((stepsS l 0) + 4) / 7))) [], [(.agg [(iv (((stepsS l 0) + 4) % 7)), (iv (((halvesS l a 0) + 7) - (halvesS (((stepsS l 0) + 4) % 7) 0 (((stepsS l 0) + 4) / 7)))), (iv (((stepsS l 0) + 4) / 7))])] = renL (sigi [] 280) [(.agg [(iv (((stepsS l 0) + 4) % 7)), (iv (((halvesS l a 0) + 7) - (halvesS (((stepsS l 0) + 4) % 7) 0 (((stepsS l 0) + 4) / 7)))), (iv (((stepsS l 0) + 4) / 7))])]]) (by kernel_rfl) (obs_cons (p := PC Try.prog 15 [(.agg [(iv (((stepsS l 0) + 4) % 7)), (iv (((halvesS l a 0) + 7) - (halvesS (((stepsS l 0) + 4) % 7) 0 (((stepsS l 0) + 4) / 7)))), (iv (((stepsS l 0) + 4) / 7))])] [] (bv (rightQ (((stepsS l 0) + 4) % 7) (((halvesS l a 0) + 7) - (halvesS (((stepsS l 0) + 4) % 7) 0 (((stepsS l 0) + 4) / 7))) (((stepsS l 0) + 4) / 7))) []) (right_pc (((stepsS l 0) + 4) % 7) (((halvesS l a 0) + 7) - (halvesS (((stepsS l 0) + 4) % 7) 0 (((stepsS l 0) + 4) / 7))) (((stepsS l 0) + 4) / 7)) (obs_cons (p := [(.agg [(iv (((stepsS l 0) + 4) % 7)), (iv (((halvesS l a 0) + 7) - (halvesS (((stepsS l 0) + 4) % 7) 0 (((stepsS l 0) + 4) / 7)))), (iv (((stepsS l 0) + 4) / 7))])] = renL (sigi [] 280) [(.agg [(iv (((stepsS l 0) + 4) % 7)), (iv (((halvesS l a 0) + 7) - (halvesS (((stepsS l 0) + 4) % 7) 0 (((stepsS l 0) + 4) / 7)))), (iv (((stepsS l 0) + 4) / 7))])]) rfl (obs_nil))) ?_
  by_cases h2 : (rightQ (((stepsS l 0) + 4) % 7) (((halvesS l a 0) + 7) - (halvesS (((stepsS l 0) + 4) % 7) 0 (((stepsS l 0) + 4) / 7))) (((stepsS l 0) + 4) / 7)) = true
  · refine T_else (b := (!(rightQ (((stepsS l 0) + 4) % 7) (((halvesS l a 0) + 7) - (halvesS (((stepsS l 0) + 4) % 7) 0 (((stepsS l 0) + 4) / 7))) (((stepsS l 0) + 4) / 7)))) rfl (congrArg Bool.not h2) ?_
    refine T_skip ?_
    refine T_seq ?_
    refine T_region [] [ks 4, ks 5, kb 16] (fun _ => mixed) (l' := [ps 4 (.opt 16 0), ps 5 (iv 0), pb 16 23 [(iv (((stepsS l 0) + 4) % 7)), (iv (((halvesS l a 0) + 7) - (halvesS (((stepsS l 0) + 4) % 7) 0 (((stepsS l 0) + 4) / 7)))), (iv (((stepsS l 0) + 4) / 7))]]) (obs := []) (by kernel_rfl) (obs_nil) ?_
    rw [show fifthP l a = ((stepsS l 0 + 4) % 7, halvesS l a 0 + 7 - halvesS ((stepsS l 0 + 4) % 7) 0 ((stepsS l 0 + 4) / 7), (stepsS l 0 + 4) / 7, 0) from if_pos h2]
    exact T_ret fun cx_ a_ hI_ => ret_ok (H' := [none]) (.inr rfl) (Wk.ren2 [ps 4 (.opt 0 0), ps 5 (iv 0), pb 0 23 [(iv (((stepsS l 0) + 4) % 7)), (iv (((halvesS l a 0) + 7) - (halvesS (((stepsS l 0) + 4) % 7) 0 (((stepsS l 0) + 4) / 7)))), (iv (((stepsS l 0) + 4) / 7))]] 0 hc0 [16] rfl rfl (by kernel_rfl) (by kernel_rfl)) rfl (obs_nil) (fun cx_ a_ hI_ => ret_res (l' := [ps 4 (.opt 0 0), ps 5 (iv 0), pb 0 23 [(iv (((stepsS l 0) + 4) % 7)), (iv (((halvesS l a 0) + 7) - (halvesS (((stepsS l 0) + 4) % 7) 0 (((stepsS l 0) + 4) / 7)))), (iv (((stepsS l 0) + 4) / 7))]]) (by kernel_rfl) cx_ a_ hI_) hI_
  · refine T_then (b := (!(rightQ (((stepsS l 0) + 4) % 7) (((halvesS l a 0) + 7) - (halvesS (((stepsS l 0) + 4) % 7) 0 (((stepsS l 0) + 4) / 7))) (((stepsS l 0) + 4) / 7)))) rfl (congrArg Bool.not (Bool.eq_false_iff.2 h2)) ?_
    refine T_seq ?_
    refine T_region [] [ks 4, ks 5, kb 16] (fun _ => mixed) (l' := [ps 4 (.opt 16 0), ps 5 (iv 3), pb 16 23 [(iv 0), (iv 0), (iv 0)]]) (obs := []) (by kernel_rfl) (obs_nil) ?_
    rw [show fifthP l a = (0, 0, 0, 3) from if_neg h2]
    exact T_ret fun cx_ a_ hI_ => ret_ok (H' := [none]) (.inr rfl) (Wk.ren2 [ps 4 (.opt 0 0), ps 5 (iv 3), pb 0 23 [(iv 0), (iv 0), (iv 0)]] 0 hc0 [16] rfl rfl (by kernel_rfl) (by kernel_rfl)) rfl (obs_nil) (fun cx_ a_ hI_ => ret_res (l' := [ps 4 (.opt 0 0), ps 5 (iv 3), pb 0 23 [(iv 0), (iv 0), (iv 0)]]) (by kernel_rfl) cx_ a_ hI_) hI_
theorem fifthm_pc (l a : Int) (hp : rightQ l a 0 = true) : PC Try.prog 17 [.agg [iv l, iv a, iv 0], .agg [iv 4, iv 7]] [] (.tup [.agg [iv (fifthP l a).1, iv (fifthP l a).2.1, iv (fifthP l a).2.2.1], iv (fifthP l a).2.2.2]) [] := pc_trim [none] rfl (fun i => by cases i <;> rfl) (fifthm_pc0 l a hp)
end Go.Proofs.Ythckjknnaccncaa.Pm
