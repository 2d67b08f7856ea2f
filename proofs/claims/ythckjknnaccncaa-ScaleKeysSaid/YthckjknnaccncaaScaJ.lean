/-
  THE DOCUMENT'S DEGREES: walks. (Printed by wip/pm.)
-/
import Derived.Test.YthckjknnaccncaaScaW
namespace Go.Proofs.Ythckjknnaccncaa.Pm
open Go

set_option maxHeartbeats 2000000 in
theorem ref_degree_pc0 (l a o m n : Int) : PC Try.prog 11 [(.agg [(iv l), (iv a), (iv o)]), (iv m), (iv n)] [] (.tup [.agg [iv (degS l a o m n).1, iv (degS l a o m n).2.1, iv (degS l a o m n).2.2.1], iv (degS l a o m n).2.2.2]) [none] := by
  refine pc_intro Try.func11 rfl (by kernel_rfl) (Nat.le_of_ble_eq_true rfl) (by kernel_rfl) (l0 := [ps 0 (.agg [(iv l), (iv a), (iv o)]), ps 1 (iv m), ps 2 (iv n)]) rfl (fun c0 Bor hc0 => ?_)
  refine T_seq ?_
  refine T_region [] [ks 1, ks 2, ks 3, ks 6, kb 0, kb 8] (fun _ => mixed) (l' := [ps 1 (iv m), ps 2 (iv n), ps 3 (.opt 0 0), ps 6 (.opt 8 0), pb 0 23 [(iv l), (iv a), (iv o)], pb 8 23 [(iv 0), (iv 0), (iv 0)]]) (obs := []) (by kernel_rfl) (obs_nil) ?_
  refine T_seq ?_
  refine T_region [(6, .call [] [(.agg [(iv l), (iv a)]), (iv m)] [] (.tup [(iv ((signsS l a m).1)), (iv ((signsS l a m).2))]) [])] [ks 2, ks 3, ks 6, ks 8, ks 9, kb 0, kb 8] (fun _ => mixed) (l' := [ps 2 (iv n), ps 3 (.opt 0 0), ps 6 (.opt 8 0), ps 8 (iv ((signsS l a m).1)), ps 9 (iv ((signsS l a m).2)), pb 0 23 [(iv l), (iv a), (iv o)], pb 8 23 [(iv 0), (iv 0), (iv 0)]]) (obs := [PC Try.prog 6 [(.agg [(iv l), (iv a)]), (iv m)] [] (.tup [(iv ((signsS l a m).1)), (iv ((signsS l a m).2))]) [], [(.agg [(iv l), (iv a)]), (iv m)] = renL (sigi [] 72) [(.agg [(iv l), (iv a)]), (iv m)]]) (by kernel_rfl) (obs_cons (p := PC Try.prog 6 [(.agg [(iv l), (iv a)]), (iv m)] [] (.tup [(iv ((signsS l a m).1)), (iv ((signsS l a m).2))]) []) (ref_signs_pc l a m) (obs_cons (p := [(.agg [(iv l), (iv a)]), (iv m)] = renL (sigi [] 72) [(.agg [(iv l), (iv a)]), (iv m)]) rfl (obs_nil))) ?_
  refine T_seq ?_
  refine T_seq ?_
  refine T_region [] [ks 2, ks 3, ks 6, ks 8, ks 9, ks 22, kb 0, kb 8] (fun _ => mixed) (l' := [ps 2 (iv n), ps 3 (.opt 0 0), ps 6 (.opt 8 0), ps 8 (iv ((signsS l a m).1)), ps 9 (iv ((signsS l a m).2)), ps 22 (bv (!(decide (((signsS l a m).2) = 0)))), pb 0 23 [(iv l), (iv a), (iv o)], pb 8 23 [(iv 0), (iv 0), (iv 0)]]) (obs := []) (by kernel_rfl) (obs_nil) ?_
  by_cases h1 : ((signsS l a m).2) = 0
  · refine T_else (b := (!(decide (((signsS l a m).2) = 0)))) rfl (congrArg Bool.not (decide_eq_true h1)) ?_
    refine T_skip ?_
    refine T_seq ?_
    refine T_seq ?_
    refine T_region [(1, .call [] [(.agg [(iv l), (iv a), (iv o)])] [] (bv (rightQ l a o)) [])] [ks 2, ks 3, ks 6, ks 8, ks 27, kb 0, kb 8] (fun _ => mixed) (l' := [ps 2 (iv n), ps 3 (.opt 0 0), ps 6 (.opt 8 0), ps 8 (iv ((signsS l a m).1)), ps 27 (bv (!(rightQ l a o))), pb 0 23 [(iv l), (iv a), (iv o)], pb 8 23 [(iv 0), (iv 0), (iv 0)]]) (obs := [PC Try.prog 25 [(.agg [(iv l), (iv a), (iv o)])] [] (bv (rightQ l a o)) [], [(.agg [(iv l), (iv a), (iv o)])] = renL (sigi [] 144) [(.agg [(iv l), (iv a), (iv o)])]]) (by kernel_rfl) (obs_cons (p := PC Try.prog 25 [(.agg [(iv l), (iv a), (iv o)])] [] (bv (rightQ l a o)) []) (ref_right_pc l a o) (obs_cons (p := [(.agg [(iv l), (iv a), (iv o)])] = renL (sigi [] 144) [(.agg [(iv l), (iv a), (iv o)])]) rfl (obs_nil))) ?_
    by_cases h2 : (rightQ l a o) = true
    · refine T_else (b := (!(rightQ l a o))) rfl (congrArg Bool.not h2) ?_
      refine T_skip ?_
      refine T_seq ?_
      refine T_seq ?_
      by_cases h3 : n < (-200)
      · refine T_region [(3, .gd true .no), (4, .gd true .no), (5, .yes true)] [ks 2, ks 3, ks 6, ks 8, ks 34, kb 0, kb 8] (fun _ => mixed) (l' := [ps 2 (iv n), ps 3 (.opt 0 0), ps 6 (.opt 8 0), ps 8 (iv ((signsS l a m).1)), ps 34 (bv true), pb 0 23 [(iv l), (iv a), (iv o)], pb 8 23 [(iv 0), (iv 0), (iv 0)]]) (obs := [(decide (n < (-200))) = true, (decide (n < (-200))) = true, (decide (n < (-200))) = true]) (by kernel_rfl) (obs_cons (p := (decide (n < (-200))) = true) (decide_eq_true h3) (obs_cons (p := (decide (n < (-200))) = true) (decide_eq_true h3) (obs_cons (p := (decide (n < (-200))) = true) (decide_eq_true h3) (obs_nil)))) ?_
        refine T_then (b := true) rfl rfl ?_
        refine T_seq ?_
        refine T_region [] [ks 6, ks 7, kb 8] (fun _ => mixed) (l' := [ps 6 (.opt 8 0), ps 7 (iv 3), pb 8 23 [(iv 0), (iv 0), (iv 0)]]) (obs := []) (by kernel_rfl) (obs_nil) ?_
        rw [show degS l a o m n = (0, 0, 0, 3) from by unfold degS; rw [if_neg (fun hc => hc h1), if_neg (by rw [h2]; decide), if_pos (by omega)]]
        exact T_ret fun cx_ a_ hI_ => ret_ok (H' := [none]) (.inr rfl) (Wk.ren2 [ps 6 (.opt 0 0), ps 7 (iv 3), pb 0 23 [(iv 0), (iv 0), (iv 0)]] 0 hc0 [8] rfl rfl (by kernel_rfl) (by kernel_rfl)) rfl (obs_nil) (fun cx_ a_ hI_ => ret_res (l' := [ps 6 (.opt 0 0), ps 7 (iv 3), pb 0 23 [(iv 0), (iv 0), (iv 0)]]) (by kernel_rfl) cx_ a_ hI_) hI_
      · refine T_region [(3, .gd false (.no)), (4, .gd false (.no)), (5, .yes false)] [ks 2, ks 3, ks 6, ks 8, ks 34, kb 0, kb 8] (fun _ => mixed) (l' := [ps 2 (iv n), ps 3 (.opt 0 0), ps 6 (.opt 8 0), ps 8 (iv ((signsS l a m).1)), ps 34 (bv (decide (200 < n))), pb 0 23 [(iv l), (iv a), (iv o)], pb 8 23 [(iv 0), (iv 0), (iv 0)]]) (obs := [(decide (n < (-200))) = false, (decide (n < (-200))) = false, (decide (n < (-200))) = false]) (by kernel_rfl) (obs_cons (p := (decide (n < (-200))) = false) (decide_eq_false h3) (obs_cons (p := (decide (n < (-200))) = false) (decide_eq_false h3) (obs_cons (p := (decide (n < (-200))) = false) (decide_eq_false h3) (obs_nil)))) ?_
        by_cases h4 : 200 < n
        · refine T_then (b := (decide (200 < n))) rfl (decide_eq_true h4) ?_
          refine T_seq ?_
          refine T_region [] [ks 6, ks 7, kb 8] (fun _ => mixed) (l' := [ps 6 (.opt 8 0), ps 7 (iv 3), pb 8 23 [(iv 0), (iv 0), (iv 0)]]) (obs := []) (by kernel_rfl) (obs_nil) ?_
          rw [show degS l a o m n = (0, 0, 0, 3) from by unfold degS; rw [if_neg (fun hc => hc h1), if_neg (by rw [h2]; decide), if_pos (by omega)]]
          exact T_ret fun cx_ a_ hI_ => ret_ok (H' := [none]) (.inr rfl) (Wk.ren2 [ps 6 (.opt 0 0), ps 7 (iv 3), pb 0 23 [(iv 0), (iv 0), (iv 0)]] 0 hc0 [8] rfl rfl (by kernel_rfl) (by kernel_rfl)) rfl (obs_nil) (fun cx_ a_ hI_ => ret_res (l' := [ps 6 (.opt 0 0), ps 7 (iv 3), pb 0 23 [(iv 0), (iv 0), (iv 0)]]) (by kernel_rfl) cx_ a_ hI_) hI_
        · refine T_else (b := (decide (200 < n))) rfl (decide_eq_false h4) ?_
          refine T_skip ?_
          refine T_seq ?_
          obtain ⟨hS1, hS2, hS3, hS4, hS5⟩ := signs_ok h1
          have hR := rightQ_iff.1 h2
          refine T_region [] [ks 2, ks 6, ks 8, ks 10, kb 8, kb 216] (fun _ => mixed) (l' := [ps 2 (iv n), ps 6 (.opt 8 0), ps 8 (iv ((signsS l a m).1)), ps 10 (.opt 216 0), pb 8 23 [(iv 0), (iv 0), (iv 0)], pb 216 23 [(iv l), (iv a), (iv o)]]) (obs := []) (by kernel_rfl) (obs_nil) ?_
          refine T_seq ?_
          refine T_block ?_
          refine T_loop (α := {x : Int × Int × Int // 0 ≤ x.1 ∧ x.1 < 7 ∧ 7 * x.2.1 + x.1 + x.2.2 = 7 * o + l + n ∧ -200 ≤ x.2.2 ∧ x.2.2 ≤ 200}) (fun x => [ps 2 (iv x.1.2.2), ps 6 (.opt 0 0), ps 8 (iv ((signsS l a m).1)), ps 10 (.opt 1 0), pb 0 23 [(iv 0), (iv 0), (iv 0)], pb 1 23 [(iv x.1.1), (iv a), (iv x.1.2.1)]]) (fun x => x.1.2.2.toNat) 2 ⟨(l, o, n), ⟨(by first | omega | (simp only <;> omega)), (by first | omega | (simp only <;> omega)), (by first | omega | (simp only <;> omega)), (by first | omega | (simp only <;> omega)), (by first | omega | (simp only <;> omega))⟩⟩ (Wk.ren2 [ps 2 (iv n), ps 6 (.opt 0 0), ps 8 (iv ((signsS l a m).1)), ps 10 (.opt 1 0), pb 0 23 [(iv 0), (iv 0), (iv 0)], pb 1 23 [(iv l), (iv a), (iv o)]] 0 hc0 [8, 216] rfl rfl (by kernel_rfl) (by kernel_rfl)) ?_
          rintro ⟨⟨L, O, c⟩, ⟨hL1, hM1, hs1, hc1, hd1⟩⟩
          dsimp only at hL1 hM1 hs1 hc1 hd1
          refine T_seq ?_
          refine T_seq ?_
          refine T_region [] [ks 2, ks 6, ks 8, ks 10, ks 38, kb 0, kb 1] (fun _ => mixed) (l' := [ps 2 (iv c), ps 6 (.opt 0 0), ps 8 (iv ((signsS l a m).1)), ps 10 (.opt 1 0), ps 38 (bv (decide (0 < c))), pb 0 23 [(iv 0), (iv 0), (iv 0)], pb 1 23 [(iv L), (iv a), (iv O)]]) (obs := []) (by kernel_rfl) (obs_nil) ?_
          by_cases h5 : 0 < c
          · refine T_then (b := (decide (0 < c))) rfl (decide_eq_true h5) ?_
            refine T_skip ?_
            refine T_seq ?_
            refine T_block ?_
            refine T_seq ?_
            refine T_region [] [ks 2, ks 6, ks 8, ks 10, kb 0, kb 1] (fun _ => mixed) (l' := [ps 2 (iv c), ps 6 (.opt 0 0), ps 8 (iv ((signsS l a m).1)), ps 10 (.opt 1 0), pb 0 23 [(iv 0), (iv 0), (iv 0)], pb 1 23 [(iv (L + 1)), (iv a), (iv O)]]) (obs := [InK .i64 (L + 1)]) (by kernel_rfl) (obs_cons (p := InK .i64 (L + 1)) (by simp only [InK]; omega) (obs_nil)) ?_
            refine T_seq ?_
            refine T_region [] [ks 2, ks 6, ks 8, ks 10, ks 47, kb 0, kb 1] (fun _ => mixed) (l' := [ps 2 (iv c), ps 6 (.opt 0 0), ps 8 (iv ((signsS l a m).1)), ps 10 (.opt 1 0), ps 47 (bv (decide ((L + 1) = 7))), pb 0 23 [(iv 0), (iv 0), (iv 0)], pb 1 23 [(iv (L + 1)), (iv a), (iv O)]]) (obs := []) (by kernel_rfl) (obs_nil) ?_
            by_cases h6 : (L + 1) = 7
            · refine T_then (b := (decide ((L + 1) = 7))) rfl (decide_eq_true h6) ?_
              refine T_region [] [ks 2, ks 6, ks 8, ks 10, kb 0, kb 1] (fun _ => mixed) (l' := [ps 2 (iv c), ps 6 (.opt 0 0), ps 8 (iv ((signsS l a m).1)), ps 10 (.opt 1 0), pb 0 23 [(iv 0), (iv 0), (iv 0)], pb 1 23 [(iv 0), (iv a), (iv (O + 1))]]) (obs := [InK .i64 (O + 1)]) (by kernel_rfl) (obs_cons (p := InK .i64 (O + 1)) (by simp only [InK]; omega) (obs_nil)) ?_
              refine T_blk ?_
              refine T_region [] [ks 2, ks 6, ks 8, ks 10, kb 0, kb 1] (fun _ => mixed) (l' := [ps 2 (iv (c - 1)), ps 6 (.opt 0 0), ps 8 (iv ((signsS l a m).1)), ps 10 (.opt 1 0), pb 0 23 [(iv 0), (iv 0), (iv 0)], pb 1 23 [(iv 0), (iv a), (iv (O + 1))]]) (obs := [InK .i64 (c - 1)]) (by kernel_rfl) (obs_cons (p := InK .i64 (c - 1)) (by simp only [InK]; omega) (obs_nil)) ?_
              exact T_back ⟨(0, (O + 1), c - 1), ⟨(by first | omega | (simp only <;> omega)), (by first | omega | (simp only <;> omega)), (by first | omega | (simp only <;> omega)), (by first | omega | (simp only <;> omega)), (by first | omega | (simp only <;> omega))⟩⟩ (Wk.ren2 [ps 2 (iv (c - 1)), ps 6 (.opt 0 0), ps 8 (iv ((signsS l a m).1)), ps 10 (.opt 1 0), pb 0 23 [(iv 0), (iv 0), (iv 0)], pb 1 23 [(iv (0)), (iv a), (iv ((O + 1)))]] 0 hc0 [0, 1] rfl rfl (by kernel_rfl) (by kernel_rfl)) (show (c - 1).toNat < c.toNat from by omega)
            · refine T_else (b := (decide ((L + 1) = 7))) rfl (decide_eq_false h6) ?_
              refine T_skip ?_
              refine T_blk ?_
              refine T_region [] [ks 2, ks 6, ks 8, ks 10, kb 0, kb 1] (fun _ => mixed) (l' := [ps 2 (iv (c - 1)), ps 6 (.opt 0 0), ps 8 (iv ((signsS l a m).1)), ps 10 (.opt 1 0), pb 0 23 [(iv 0), (iv 0), (iv 0)], pb 1 23 [(iv (L + 1)), (iv a), (iv O)]]) (obs := [InK .i64 (c - 1)]) (by kernel_rfl) (obs_cons (p := InK .i64 (c - 1)) (by simp only [InK]; omega) (obs_nil)) ?_
              exact T_back ⟨((L + 1), O, c - 1), ⟨(by first | omega | (simp only <;> omega)), (by first | omega | (simp only <;> omega)), (by first | omega | (simp only <;> omega)), (by first | omega | (simp only <;> omega)), (by first | omega | (simp only <;> omega))⟩⟩ (Wk.ren2 [ps 2 (iv (c - 1)), ps 6 (.opt 0 0), ps 8 (iv ((signsS l a m).1)), ps 10 (.opt 1 0), pb 0 23 [(iv 0), (iv 0), (iv 0)], pb 1 23 [(iv ((L + 1))), (iv a), (iv (O))]] 0 hc0 [0, 1] rfl rfl (by kernel_rfl) (by kernel_rfl)) (show (c - 1).toNat < c.toNat from by omega)
          · refine T_else (b := (decide (0 < c))) rfl (decide_eq_false h5) ?_
            refine T_break rfl rfl ?_
            refine T_seq ?_
            refine T_block ?_
            refine T_loop (α := {x : Int × Int × Int // 0 ≤ x.1 ∧ x.1 < 7 ∧ 7 * x.2.1 + x.1 + x.2.2 = 7 * o + l + n ∧ -200 ≤ x.2.2 ∧ x.2.2 ≤ 0}) (fun x => [ps 2 (iv x.1.2.2), ps 6 (.opt 0 0), ps 8 (iv ((signsS l a m).1)), ps 10 (.opt 1 0), pb 0 23 [(iv 0), (iv 0), (iv 0)], pb 1 23 [(iv x.1.1), (iv a), (iv x.1.2.1)]]) (fun x => (-x.1.2.2).toNat) 2 ⟨(L, O, c), ⟨(by first | omega | (simp only <;> omega)), (by first | omega | (simp only <;> omega)), (by first | omega | (simp only <;> omega)), (by first | omega | (simp only <;> omega)), (by first | omega | (simp only <;> omega))⟩⟩ (Wk.ren2 [ps 2 (iv c), ps 6 (.opt 0 0), ps 8 (iv ((signsS l a m).1)), ps 10 (.opt 1 0), pb 0 23 [(iv 0), (iv 0), (iv 0)], pb 1 23 [(iv L), (iv a), (iv O)]] 0 hc0 [0, 1] rfl rfl (by kernel_rfl) (by kernel_rfl)) ?_
            rintro ⟨⟨L, O, c⟩, ⟨hL2, hM2, hs2, hc2, hd2⟩⟩
            dsimp only at hL2 hM2 hs2 hc2 hd2
            refine T_seq ?_
            refine T_seq ?_
            refine T_region [] [ks 2, ks 6, ks 8, ks 10, ks 54, kb 0, kb 1] (fun _ => mixed) (l' := [ps 2 (iv c), ps 6 (.opt 0 0), ps 8 (iv ((signsS l a m).1)), ps 10 (.opt 1 0), ps 54 (bv (decide (c < 0))), pb 0 23 [(iv 0), (iv 0), (iv 0)], pb 1 23 [(iv L), (iv a), (iv O)]]) (obs := []) (by kernel_rfl) (obs_nil) ?_
            by_cases h7 : c < 0
            · refine T_then (b := (decide (c < 0))) rfl (decide_eq_true h7) ?_
              refine T_skip ?_
              refine T_seq ?_
              refine T_block ?_
              refine T_seq ?_
              refine T_region [] [ks 2, ks 6, ks 8, ks 10, kb 0, kb 1] (fun _ => mixed) (l' := [ps 2 (iv c), ps 6 (.opt 0 0), ps 8 (iv ((signsS l a m).1)), ps 10 (.opt 1 0), pb 0 23 [(iv 0), (iv 0), (iv 0)], pb 1 23 [(iv (L - 1)), (iv a), (iv O)]]) (obs := [InK .i64 (L - 1)]) (by kernel_rfl) (obs_cons (p := InK .i64 (L - 1)) (by simp only [InK]; omega) (obs_nil)) ?_
              refine T_seq ?_
              refine T_region [] [ks 2, ks 6, ks 8, ks 10, ks 63, kb 0, kb 1] (fun _ => mixed) (l' := [ps 2 (iv c), ps 6 (.opt 0 0), ps 8 (iv ((signsS l a m).1)), ps 10 (.opt 1 0), ps 63 (bv (decide ((L - 1) < 0))), pb 0 23 [(iv 0), (iv 0), (iv 0)], pb 1 23 [(iv (L - 1)), (iv a), (iv O)]]) (obs := []) (by kernel_rfl) (obs_nil) ?_
              by_cases h8 : (L - 1) < 0
              · refine T_then (b := (decide ((L - 1) < 0))) rfl (decide_eq_true h8) ?_
                refine T_region [] [ks 2, ks 6, ks 8, ks 10, kb 0, kb 1] (fun _ => mixed) (l' := [ps 2 (iv c), ps 6 (.opt 0 0), ps 8 (iv ((signsS l a m).1)), ps 10 (.opt 1 0), pb 0 23 [(iv 0), (iv 0), (iv 0)], pb 1 23 [(iv 6), (iv a), (iv (O - 1))]]) (obs := [InK .i64 (O - 1)]) (by kernel_rfl) (obs_cons (p := InK .i64 (O - 1)) (by simp only [InK]; omega) (obs_nil)) ?_
                refine T_blk ?_
                refine T_region [] [ks 2, ks 6, ks 8, ks 10, kb 0, kb 1] (fun _ => mixed) (l' := [ps 2 (iv (c + 1)), ps 6 (.opt 0 0), ps 8 (iv ((signsS l a m).1)), ps 10 (.opt 1 0), pb 0 23 [(iv 0), (iv 0), (iv 0)], pb 1 23 [(iv 6), (iv a), (iv (O - 1))]]) (obs := [InK .i64 (c + 1)]) (by kernel_rfl) (obs_cons (p := InK .i64 (c + 1)) (by simp only [InK]; omega) (obs_nil)) ?_
                exact T_back ⟨(6, (O - 1), c + 1), ⟨(by first | omega | (simp only <;> omega)), (by first | omega | (simp only <;> omega)), (by first | omega | (simp only <;> omega)), (by first | omega | (simp only <;> omega)), (by first | omega | (simp only <;> omega))⟩⟩ (Wk.ren2 [ps 2 (iv (c + 1)), ps 6 (.opt 0 0), ps 8 (iv ((signsS l a m).1)), ps 10 (.opt 1 0), pb 0 23 [(iv 0), (iv 0), (iv 0)], pb 1 23 [(iv (6)), (iv a), (iv ((O - 1)))]] 0 hc0 [0, 1] rfl rfl (by kernel_rfl) (by kernel_rfl)) (show (-(c + 1)).toNat < (-c).toNat from by omega)
              · refine T_else (b := (decide ((L - 1) < 0))) rfl (decide_eq_false h8) ?_
                refine T_skip ?_
                refine T_blk ?_
                refine T_region [] [ks 2, ks 6, ks 8, ks 10, kb 0, kb 1] (fun _ => mixed) (l' := [ps 2 (iv (c + 1)), ps 6 (.opt 0 0), ps 8 (iv ((signsS l a m).1)), ps 10 (.opt 1 0), pb 0 23 [(iv 0), (iv 0), (iv 0)], pb 1 23 [(iv (L - 1)), (iv a), (iv O)]]) (obs := [InK .i64 (c + 1)]) (by kernel_rfl) (obs_cons (p := InK .i64 (c + 1)) (by simp only [InK]; omega) (obs_nil)) ?_
                exact T_back ⟨((L - 1), O, c + 1), ⟨(by first | omega | (simp only <;> omega)), (by first | omega | (simp only <;> omega)), (by first | omega | (simp only <;> omega)), (by first | omega | (simp only <;> omega)), (by first | omega | (simp only <;> omega))⟩⟩ (Wk.ren2 [ps 2 (iv (c + 1)), ps 6 (.opt 0 0), ps 8 (iv ((signsS l a m).1)), ps 10 (.opt 1 0), pb 0 23 [(iv 0), (iv 0), (iv 0)], pb 1 23 [(iv ((L - 1))), (iv a), (iv (O))]] 0 hc0 [0, 1] rfl rfl (by kernel_rfl) (by kernel_rfl)) (show (-(c + 1)).toNat < (-c).toNat from by omega)
            · refine T_else (b := (decide (c < 0))) rfl (decide_eq_false h7) ?_
              refine T_break rfl rfl ?_
              refine T_seq ?_
              refine T_region [(1, .call [] [(iv ((signsS l a m).1))] [] (.ssl (ints (majorL ((signsS l a m).1))) 0 7) []), (4, .nat L.toNat), (5, .val (iv ((majorL ((signsS l a m).1)).getD L.toNat 0)))] [ks 6, ks 10, kb 0, kb 1] (fun _ => mixed) (l' := [ps 6 (.opt 0 0), ps 10 (.opt 1 0), pb 0 23 [(iv 0), (iv 0), (iv 0)], pb 1 23 [(iv L), (iv ((majorL ((signsS l a m).1)).getD L.toNat 0)), (iv O)]]) (obs := [PC Try.prog 23 [(iv ((signsS l a m).1))] [] (.ssl (ints (majorL ((signsS l a m).1))) 0 7) [], [(iv ((signsS l a m).1))] = renL (sigi [] 26) [(iv ((signsS l a m).1))], (0 : Int) ≤ L ∧ L < ((7 : Nat) : Int), 0 + (L : Int).toNat * 1 = L.toNat, L.toNat + 1 ≤ ((ints (majorL ((signsS l a m).1)))).length ∧ (((ints (majorL ((signsS l a m).1)))).drop L.toNat).take 1 = [(iv ((majorL ((signsS l a m).1)).getD L.toNat 0))]]) (by kernel_rfl) (obs_cons (p := PC Try.prog 23 [(iv ((signsS l a m).1))] [] (.ssl (ints (majorL ((signsS l a m).1))) 0 7) []) (major_pc ((signsS l a m).1) (by omega)) (obs_cons (p := [(iv ((signsS l a m).1))] = renL (sigi [] 26) [(iv ((signsS l a m).1))]) rfl (obs_cons (p := (0 : Int) ≤ L ∧ L < ((7 : Nat) : Int)) (by omega) (obs_cons (p := 0 + (L : Int).toNat * 1 = L.toNat) (by omega) (obs_cons (p := L.toNat + 1 ≤ ((ints (majorL ((signsS l a m).1)))).length ∧ (((ints (majorL ((signsS l a m).1)))).drop L.toNat).take 1 = [(iv ((majorL ((signsS l a m).1)).getD L.toNat 0))]) (ints_at (by rw [majorL_len]; omega)) (obs_nil)))))) ?_
              refine T_seq ?_
              refine T_seq ?_
              obtain rfl : c = 0 := by omega
              obtain ⟨e1, e2, e3⟩ := deg_at (n := n) (o := o) h1 ⟨hL2, hM2⟩ (show 7 * O + L = 7 * o + l + n from by omega)
              refine T_wk (Wk.eq (show [ps 6 (.opt 0 0), ps 10 (.opt 1 0), pb 0 23 [(iv 0), (iv 0), (iv 0)], pb 1 23 [(iv L), (iv ((majorL ((signsS l a m).1)).getD L.toNat 0)), (iv O)]] = [ps 6 (.opt 0 0), ps 10 (.opt 1 0), pb 0 23 [(iv 0), (iv 0), (iv 0)], pb 1 23 [(iv ((degC l a m n).1)), (iv ((degC l a m n).2)), (iv (degO l a o m n))]] from by rw [e2, ← e1, ← e3])) ?_
              refine T_region [(1, .call [] [(.agg [(iv ((degC l a m n).1)), (iv ((degC l a m n).2)), (iv (degO l a o m n))])] [] (bv (rightQ ((degC l a m n).1) ((degC l a m n).2) (degO l a o m n))) [])] [ks 6, ks 10, ks 78, kb 0, kb 1] (fun _ => mixed) (l' := [ps 6 (.opt 0 0), ps 10 (.opt 1 0), ps 78 (bv (!(rightQ ((degC l a m n).1) ((degC l a m n).2) (degO l a o m n)))), pb 0 23 [(iv 0), (iv 0), (iv 0)], pb 1 23 [(iv ((degC l a m n).1)), (iv ((degC l a m n).2)), (iv (degO l a o m n))]]) (obs := [PC Try.prog 25 [(.agg [(iv ((degC l a m n).1)), (iv ((degC l a m n).2)), (iv (degO l a o m n))])] [] (bv (rightQ ((degC l a m n).1) ((degC l a m n).2) (degO l a o m n))) [], [(.agg [(iv ((degC l a m n).1)), (iv ((degC l a m n).2)), (iv (degO l a o m n))])] = renL (sigi [] 90) [(.agg [(iv ((degC l a m n).1)), (iv ((degC l a m n).2)), (iv (degO l a o m n))])]]) (by kernel_rfl) (obs_cons (p := PC Try.prog 25 [(.agg [(iv ((degC l a m n).1)), (iv ((degC l a m n).2)), (iv (degO l a o m n))])] [] (bv (rightQ ((degC l a m n).1) ((degC l a m n).2) (degO l a o m n))) []) (ref_right_pc ((degC l a m n).1) ((degC l a m n).2) (degO l a o m n)) (obs_cons (p := [(.agg [(iv ((degC l a m n).1)), (iv ((degC l a m n).2)), (iv (degO l a o m n))])] = renL (sigi [] 90) [(.agg [(iv ((degC l a m n).1)), (iv ((degC l a m n).2)), (iv (degO l a o m n))])]) rfl (obs_nil))) ?_
              by_cases h9 : (rightQ ((degC l a m n).1) ((degC l a m n).2) (degO l a o m n)) = true
              · refine T_else (b := (!(rightQ ((degC l a m n).1) ((degC l a m n).2) (degO l a o m n)))) rfl (congrArg Bool.not h9) ?_
                refine T_skip ?_
                refine T_seq ?_
                refine T_region [] [ks 6, ks 7, kb 0] (fun _ => mixed) (l' := [ps 6 (.opt 0 0), ps 7 (iv 0), pb 0 23 [(iv ((degC l a m n).1)), (iv ((degC l a m n).2)), (iv (degO l a o m n))]]) (obs := []) (by kernel_rfl) (obs_nil) ?_
                rw [show degS l a o m n = ((degC l a m n).1, (degC l a m n).2, degO l a o m n, 0) from by unfold degS; rw [if_neg (fun hc => hc h1), if_neg (by rw [h2]; decide), if_neg (by omega), if_pos h9]]
                exact T_ret fun cx_ a_ hI_ => ret_ok (H' := [none]) (.inr rfl) (Wk.ren2 [ps 6 (.opt 0 0), ps 7 (iv 0), pb 0 23 [(iv ((degC l a m n).1)), (iv ((degC l a m n).2)), (iv (degO l a o m n))]] 0 hc0 [0] rfl rfl (by kernel_rfl) (by kernel_rfl)) rfl (obs_nil) (fun cx_ a_ hI_ => ret_res (l' := [ps 6 (.opt 0 0), ps 7 (iv 0), pb 0 23 [(iv ((degC l a m n).1)), (iv ((degC l a m n).2)), (iv (degO l a o m n))]]) (by kernel_rfl) cx_ a_ hI_) hI_
              · refine T_then (b := (!(rightQ ((degC l a m n).1) ((degC l a m n).2) (degO l a o m n)))) rfl (congrArg Bool.not (Bool.eq_false_iff.2 h9)) ?_
                refine T_seq ?_
                refine T_region [] [ks 6, ks 7, kb 0] (fun _ => mixed) (l' := [ps 6 (.opt 0 0), ps 7 (iv 3), pb 0 23 [(iv 0), (iv 0), (iv 0)]]) (obs := []) (by kernel_rfl) (obs_nil) ?_
                rw [show degS l a o m n = (0, 0, 0, 3) from by unfold degS; rw [if_neg (fun hc => hc h1), if_neg (by rw [h2]; decide), if_neg (by omega), if_neg h9]]
                exact T_ret fun cx_ a_ hI_ => ret_ok (H' := [none]) (.inr rfl) (Wk.ren2 [ps 6 (.opt 0 0), ps 7 (iv 3), pb 0 23 [(iv 0), (iv 0), (iv 0)]] 0 hc0 [0] rfl rfl (by kernel_rfl) (by kernel_rfl)) rfl (obs_nil) (fun cx_ a_ hI_ => ret_res (l' := [ps 6 (.opt 0 0), ps 7 (iv 3), pb 0 23 [(iv 0), (iv 0), (iv 0)]]) (by kernel_rfl) cx_ a_ hI_) hI_
    · refine T_then (b := (!(rightQ l a o))) rfl (congrArg Bool.not (Bool.eq_false_iff.2 h2)) ?_
      refine T_seq ?_
      refine T_region [] [ks 6, ks 7, kb 8] (fun _ => mixed) (l' := [ps 6 (.opt 8 0), ps 7 (iv 2), pb 8 23 [(iv 0), (iv 0), (iv 0)]]) (obs := []) (by kernel_rfl) (obs_nil) ?_
      rw [show degS l a o m n = (0, 0, 0, 2) from by unfold degS; rw [if_neg (fun hc => hc h1), if_pos (Bool.eq_false_iff.2 h2)]]
      exact T_ret fun cx_ a_ hI_ => ret_ok (H' := [none]) (.inr rfl) (Wk.ren2 [ps 6 (.opt 0 0), ps 7 (iv 2), pb 0 23 [(iv 0), (iv 0), (iv 0)]] 0 hc0 [8] rfl rfl (by kernel_rfl) (by kernel_rfl)) rfl (obs_nil) (fun cx_ a_ hI_ => ret_res (l' := [ps 6 (.opt 0 0), ps 7 (iv 2), pb 0 23 [(iv 0), (iv 0), (iv 0)]]) (by kernel_rfl) cx_ a_ hI_) hI_
  · refine T_then (b := (!(decide (((signsS l a m).2) = 0)))) rfl (congrArg Bool.not (decide_eq_false h1)) ?_
    refine T_seq ?_
    refine T_region [] [ks 6, ks 7, kb 8] (fun _ => mixed) (l' := [ps 6 (.opt 8 0), ps 7 (iv ((signsS l a m).2)), pb 8 23 [(iv 0), (iv 0), (iv 0)]]) (obs := []) (by kernel_rfl) (obs_nil) ?_
    rw [show degS l a o m n = (0, 0, 0, (signsS l a m).2) from if_pos h1]
    exact T_ret fun cx_ a_ hI_ => ret_ok (H' := [none]) (.inr rfl) (Wk.ren2 [ps 6 (.opt 0 0), ps 7 (iv ((signsS l a m).2)), pb 0 23 [(iv 0), (iv 0), (iv 0)]] 0 hc0 [8] rfl rfl (by kernel_rfl) (by kernel_rfl)) rfl (obs_nil) (fun cx_ a_ hI_ => ret_res (l' := [ps 6 (.opt 0 0), ps 7 (iv ((signsS l a m).2)), pb 0 23 [(iv 0), (iv 0), (iv 0)]]) (by kernel_rfl) cx_ a_ hI_) hI_
theorem ref_degree_pc (l a o m n : Int) : PC Try.prog 11 [.agg [iv l, iv a, iv o], iv m, iv n] [] (.tup [.agg [iv (degS l a o m n).1, iv (degS l a o m n).2.1, iv (degS l a o m n).2.2.1], iv (degS l a o m n).2.2.2]) [] := pc_trim [none] rfl (fun i => by cases i <;> rfl) (ref_degree_pc0 l a o m n)
end Go.Proofs.Ythckjknnaccncaa.Pm
