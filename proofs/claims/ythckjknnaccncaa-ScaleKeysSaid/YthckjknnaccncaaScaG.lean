/-
  KEYS, THE DOCUMENT'S: walks, ctd. (Printed by wip/pm.)
-/
import Derived.Test.YthckjknnaccncaaScaF
namespace Go.Proofs.Ythckjknnaccncaa.Pm
open Go

theorem abs_pc (n : Int) : PC Try.prog 33 [(iv n)] [] (iv (absS n)) [] := by
  refine pc_intro Try.func33 rfl (by kernel_rfl) (Nat.le_of_ble_eq_true rfl) (by kernel_rfl) (l0 := [ps 0 (iv n)]) rfl (fun c0 Bor hc0 => ?_)
  refine T_seq ?_
  refine T_region [] [ks 0] (fun _ => mixed) (l' := [ps 0 (iv n)]) (obs := []) (by kernel_rfl) (obs_nil) ?_
  refine T_seq ?_
  refine T_seq ?_
  refine T_region [] [ks 0, ks 4] (fun _ => mixed) (l' := [ps 0 (iv n), ps 4 (bv (decide (n < 0)))]) (obs := []) (by kernel_rfl) (obs_nil) ?_
  by_cases h1 : n < 0
  · refine T_then (b := (decide (n < 0))) rfl (decide_eq_true h1) ?_
    refine T_seq ?_
    refine T_region [(1, .wrap)] [ks 2] (fun _ => mixed) (l' := [ps 2 (iv (IntKind.wrap .i64 (0 - n)))]) (obs := []) (by kernel_rfl) (obs_nil) ?_
    rw [show absS n = (IntKind.wrap .i64 (0 - n)) from if_pos h1]
    exact T_ret fun cx_ a_ hI_ => ret_ok (H' := []) (.inr rfl) (Wk.ren2 [ps 2 (iv (IntKind.wrap .i64 (0 - n)))] 0 hc0 [] rfl rfl (by kernel_rfl) (by kernel_rfl)) rfl (obs_nil) (fun cx_ a_ hI_ => ret_res (l' := [ps 2 (iv (IntKind.wrap .i64 (0 - n)))]) (by kernel_rfl) cx_ a_ hI_) hI_
  · refine T_else (b := (decide (n < 0))) rfl (decide_eq_false h1) ?_
    refine T_skip ?_
    refine T_seq ?_
    refine T_region [] [ks 2] (fun _ => mixed) (l' := [ps 2 (iv n)]) (obs := []) (by kernel_rfl) (obs_nil) ?_
    rw [show absS n = n from if_neg h1]
    exact T_ret fun cx_ a_ hI_ => ret_ok (H' := []) (.inr rfl) (Wk.ren2 [ps 2 (iv n)] 0 hc0 [] rfl rfl (by kernel_rfl) (by kernel_rfl)) rfl (obs_nil) (fun cx_ a_ hI_ => ret_res (l' := [ps 2 (iv n)]) (by kernel_rfl) cx_ a_ hI_) hI_
theorem ref_right_pc (l a o : Int) : PC Try.prog 25 [(.agg [(iv l), (iv a), (iv o)])] [] (bv (rightQ l a o)) [] := by
  refine pc_intro Try.func25 rfl (by kernel_rfl) (Nat.le_of_ble_eq_true rfl) (by kernel_rfl) (l0 := [ps 0 (.agg [(iv l), (iv a), (iv o)])]) rfl (fun c0 Bor hc0 => ?_)
  refine T_seq ?_
  refine T_region [] [ks 1, kb 0] (fun _ => mixed) (l' := [ps 1 (.opt 0 0), pb 0 23 [(iv l), (iv a), (iv o)]]) (obs := []) (by kernel_rfl) (obs_nil) ?_
  refine T_seq ?_
  by_cases h1 : 0 ≤ l
  · by_cases h2 : l ≤ 6
    · by_cases h3 : (absS a) ≤ 3
      · by_cases h4 : (-12) ≤ o
        · by_cases h5 : o ≤ 12
          · refine T_region [(4, .gd true (.no)), (5, .gd true (.no)), (6, .gd true (.no)), (7, .yes true), (9, .gd true (.no)), (10, .gd true (.no)), (11, .gd true (.call [] [(iv a)] [] (iv (absS a)) [])), (12, .gd true (.no)), (13, .yes true), (15, .gd true (.no)), (16, .gd true (.no)), (17, .gd true (.no)), (18, .yes true), (20, .gd true (.no)), (21, .gd true (.no)), (22, .gd true (.no)), (23, .yes true), (25, .gd true (.no)), (26, .gd true (.no)), (27, .gd true (.no)), (28, .yes true)] [ks 2] (fun _ => mixed) (l' := [ps 2 (bv (decide ((-3) ≤ a)))]) (obs := [(decide (0 ≤ l)) = true, (decide (0 ≤ l)) = true, (decide (0 ≤ l)) = true, (decide (0 ≤ l)) = true, (decide (l ≤ 6)) = true, (decide (l ≤ 6)) = true, (decide (l ≤ 6)) = true, PC Try.prog 33 [(iv a)] [] (iv (absS a)) [], [(iv a)] = renL (sigi [] 104) [(iv a)], (decide (l ≤ 6)) = true, (decide (l ≤ 6)) = true, (decide ((absS a) ≤ 3)) = true, (decide ((absS a) ≤ 3)) = true, (decide ((absS a) ≤ 3)) = true, (decide ((absS a) ≤ 3)) = true, (decide ((-12) ≤ o)) = true, (decide ((-12) ≤ o)) = true, (decide ((-12) ≤ o)) = true, (decide ((-12) ≤ o)) = true, (decide (o ≤ 12)) = true, (decide (o ≤ 12)) = true, (decide (o ≤ 12)) = true, (decide (o ≤ 12)) = true]) (by kernel_rfl) (obs_cons (p := (decide (0 ≤ l)) = true) (decide_eq_true h1) (obs_cons (p := (decide (0 ≤ l)) = true) (decide_eq_true h1) (obs_cons (p := (decide (0 ≤ l)) = true) (decide_eq_true h1) (obs_cons (p := (decide (0 ≤ l)) = true) (decide_eq_true h1) (obs_cons (p := (decide (l ≤ 6)) = true) (decide_eq_true h2) (obs_cons (p := (decide (l ≤ 6)) = true) (decide_eq_true h2) (obs_cons (p := (decide (l ≤ 6)) = true) (decide_eq_true h2) (obs_cons (p := PC Try.prog 33 [(iv a)] [] (iv (absS a)) []) (abs_pc a) (obs_cons (p := [(iv a)] = renL (sigi [] 104) [(iv a)]) rfl (obs_cons (p := (decide (l ≤ 6)) = true) (decide_eq_true h2) (obs_cons (p := (decide (l ≤ 6)) = true) (decide_eq_true h2) (obs_cons (p := (decide ((absS a) ≤ 3)) = true) (decide_eq_true h3) (obs_cons (p := (decide ((absS a) ≤ 3)) = true) (decide_eq_true h3) (obs_cons (p := (decide ((absS a) ≤ 3)) = true) (decide_eq_true h3) (obs_cons (p := (decide ((absS a) ≤ 3)) = true) (decide_eq_true h3) (obs_cons (p := (decide ((-12) ≤ o)) = true) (decide_eq_true h4) (obs_cons (p := (decide ((-12) ≤ o)) = true) (decide_eq_true h4) (obs_cons (p := (decide ((-12) ≤ o)) = true) (decide_eq_true h4) (obs_cons (p := (decide ((-12) ≤ o)) = true) (decide_eq_true h4) (obs_cons (p := (decide (o ≤ 12)) = true) (decide_eq_true h5) (obs_cons (p := (decide (o ≤ 12)) = true) (decide_eq_true h5) (obs_cons (p := (decide (o ≤ 12)) = true) (decide_eq_true h5) (obs_cons (p := (decide (o ≤ 12)) = true) (decide_eq_true h5) (obs_nil)))))))))))))))))))))))) ?_
            have hab := fun h => abs_three (n := a) h
            by_cases h3 : -3 ≤ a
            · have hab3 := hab h3
              refine T_wk (Wk.eq (show [ps 2 (bv (decide ((-3) ≤ a)))] = [ps 2 (bv (rightQ l a o))] from by rw [show (decide ((-3) ≤ a)) = rightQ l a o from by unfold rightQ; congr 1; exact propext (by omega)])) ?_
              exact T_ret fun cx_ a_ hI_ => ret_ok (H' := []) (.inr rfl) (Wk.ren2 [ps 2 (bv (rightQ l a o))] 0 hc0 [] rfl rfl (by kernel_rfl) (by kernel_rfl)) rfl (obs_nil) (fun cx_ a_ hI_ => ret_res (l' := [ps 2 (bv (rightQ l a o))]) (by kernel_rfl) cx_ a_ hI_) hI_
            · skip
              refine T_wk (Wk.eq (show [ps 2 (bv (decide ((-3) ≤ a)))] = [ps 2 (bv (rightQ l a o))] from by rw [show (decide ((-3) ≤ a)) = rightQ l a o from by unfold rightQ; congr 1; exact propext (by omega)])) ?_
              exact T_ret fun cx_ a_ hI_ => ret_ok (H' := []) (.inr rfl) (Wk.ren2 [ps 2 (bv (rightQ l a o))] 0 hc0 [] rfl rfl (by kernel_rfl) (by kernel_rfl)) rfl (obs_nil) (fun cx_ a_ hI_ => ret_res (l' := [ps 2 (bv (rightQ l a o))]) (by kernel_rfl) cx_ a_ hI_) hI_
          · refine T_region [(4, .gd true (.no)), (5, .gd true (.no)), (6, .gd true (.no)), (7, .yes true), (9, .gd true (.no)), (10, .gd true (.no)), (11, .gd true (.call [] [(iv a)] [] (iv (absS a)) [])), (12, .gd true (.no)), (13, .yes true), (15, .gd true (.no)), (16, .gd true (.no)), (17, .gd true (.no)), (18, .yes true), (20, .gd true (.no)), (21, .gd true (.no)), (22, .gd true (.no)), (23, .yes true), (25, .gd false .no), (26, .gd false .no), (27, .gd false .no), (28, .yes false)] [ks 2] (fun _ => mixed) (l' := [ps 2 (bv false)]) (obs := [(decide (0 ≤ l)) = true, (decide (0 ≤ l)) = true, (decide (0 ≤ l)) = true, (decide (0 ≤ l)) = true, (decide (l ≤ 6)) = true, (decide (l ≤ 6)) = true, (decide (l ≤ 6)) = true, PC Try.prog 33 [(iv a)] [] (iv (absS a)) [], [(iv a)] = renL (sigi [] 104) [(iv a)], (decide (l ≤ 6)) = true, (decide (l ≤ 6)) = true, (decide ((absS a) ≤ 3)) = true, (decide ((absS a) ≤ 3)) = true, (decide ((absS a) ≤ 3)) = true, (decide ((absS a) ≤ 3)) = true, (decide ((-12) ≤ o)) = true, (decide ((-12) ≤ o)) = true, (decide ((-12) ≤ o)) = true, (decide ((-12) ≤ o)) = true, (decide (o ≤ 12)) = false, (decide (o ≤ 12)) = false, (decide (o ≤ 12)) = false, (decide (o ≤ 12)) = false]) (by kernel_rfl) (obs_cons (p := (decide (0 ≤ l)) = true) (decide_eq_true h1) (obs_cons (p := (decide (0 ≤ l)) = true) (decide_eq_true h1) (obs_cons (p := (decide (0 ≤ l)) = true) (decide_eq_true h1) (obs_cons (p := (decide (0 ≤ l)) = true) (decide_eq_true h1) (obs_cons (p := (decide (l ≤ 6)) = true) (decide_eq_true h2) (obs_cons (p := (decide (l ≤ 6)) = true) (decide_eq_true h2) (obs_cons (p := (decide (l ≤ 6)) = true) (decide_eq_true h2) (obs_cons (p := PC Try.prog 33 [(iv a)] [] (iv (absS a)) []) (abs_pc a) (obs_cons (p := [(iv a)] = renL (sigi [] 104) [(iv a)]) rfl (obs_cons (p := (decide (l ≤ 6)) = true) (decide_eq_true h2) (obs_cons (p := (decide (l ≤ 6)) = true) (decide_eq_true h2) (obs_cons (p := (decide ((absS a) ≤ 3)) = true) (decide_eq_true h3) (obs_cons (p := (decide ((absS a) ≤ 3)) = true) (decide_eq_true h3) (obs_cons (p := (decide ((absS a) ≤ 3)) = true) (decide_eq_true h3) (obs_cons (p := (decide ((absS a) ≤ 3)) = true) (decide_eq_true h3) (obs_cons (p := (decide ((-12) ≤ o)) = true) (decide_eq_true h4) (obs_cons (p := (decide ((-12) ≤ o)) = true) (decide_eq_true h4) (obs_cons (p := (decide ((-12) ≤ o)) = true) (decide_eq_true h4) (obs_cons (p := (decide ((-12) ≤ o)) = true) (decide_eq_true h4) (obs_cons (p := (decide (o ≤ 12)) = false) (decide_eq_false h5) (obs_cons (p := (decide (o ≤ 12)) = false) (decide_eq_false h5) (obs_cons (p := (decide (o ≤ 12)) = false) (decide_eq_false h5) (obs_cons (p := (decide (o ≤ 12)) = false) (decide_eq_false h5) (obs_nil)))))))))))))))))))))))) ?_
            have hab := fun h => abs_three (n := a) h
            by_cases h3 : -3 ≤ a
            · have hab3 := hab h3
              rw [rightQ_no (by omega)]
              exact T_ret fun cx_ a_ hI_ => ret_ok (H' := []) (.inr rfl) (Wk.ren2 [ps 2 (bv false)] 0 hc0 [] rfl rfl (by kernel_rfl) (by kernel_rfl)) rfl (obs_nil) (fun cx_ a_ hI_ => ret_res (l' := [ps 2 (bv false)]) (by kernel_rfl) cx_ a_ hI_) hI_
            · skip
              rw [rightQ_no (by omega)]
              exact T_ret fun cx_ a_ hI_ => ret_ok (H' := []) (.inr rfl) (Wk.ren2 [ps 2 (bv false)] 0 hc0 [] rfl rfl (by kernel_rfl) (by kernel_rfl)) rfl (obs_nil) (fun cx_ a_ hI_ => ret_res (l' := [ps 2 (bv false)]) (by kernel_rfl) cx_ a_ hI_) hI_
        · refine T_region [(4, .gd true (.no)), (5, .gd true (.no)), (6, .gd true (.no)), (7, .yes true), (9, .gd true (.no)), (10, .gd true (.no)), (11, .gd true (.call [] [(iv a)] [] (iv (absS a)) [])), (12, .gd true (.no)), (13, .yes true), (15, .gd true (.no)), (16, .gd true (.no)), (17, .gd true (.no)), (18, .yes true), (20, .gd false .no), (21, .gd false .no), (22, .gd false .no), (23, .yes false), (25, .gd false .no), (26, .gd false .no), (27, .gd false .no)] [ks 2] (fun _ => mixed) (l' := [ps 2 (bv false)]) (obs := [(decide (0 ≤ l)) = true, (decide (0 ≤ l)) = true, (decide (0 ≤ l)) = true, (decide (0 ≤ l)) = true, (decide (l ≤ 6)) = true, (decide (l ≤ 6)) = true, (decide (l ≤ 6)) = true, PC Try.prog 33 [(iv a)] [] (iv (absS a)) [], [(iv a)] = renL (sigi [] 104) [(iv a)], (decide (l ≤ 6)) = true, (decide (l ≤ 6)) = true, (decide ((absS a) ≤ 3)) = true, (decide ((absS a) ≤ 3)) = true, (decide ((absS a) ≤ 3)) = true, (decide ((absS a) ≤ 3)) = true, (decide ((-12) ≤ o)) = false, (decide ((-12) ≤ o)) = false, (decide ((-12) ≤ o)) = false, (decide ((-12) ≤ o)) = false, false = false, false = false, false = false]) (by kernel_rfl) (obs_cons (p := (decide (0 ≤ l)) = true) (decide_eq_true h1) (obs_cons (p := (decide (0 ≤ l)) = true) (decide_eq_true h1) (obs_cons (p := (decide (0 ≤ l)) = true) (decide_eq_true h1) (obs_cons (p := (decide (0 ≤ l)) = true) (decide_eq_true h1) (obs_cons (p := (decide (l ≤ 6)) = true) (decide_eq_true h2) (obs_cons (p := (decide (l ≤ 6)) = true) (decide_eq_true h2) (obs_cons (p := (decide (l ≤ 6)) = true) (decide_eq_true h2) (obs_cons (p := PC Try.prog 33 [(iv a)] [] (iv (absS a)) []) (abs_pc a) (obs_cons (p := [(iv a)] = renL (sigi [] 104) [(iv a)]) rfl (obs_cons (p := (decide (l ≤ 6)) = true) (decide_eq_true h2) (obs_cons (p := (decide (l ≤ 6)) = true) (decide_eq_true h2) (obs_cons (p := (decide ((absS a) ≤ 3)) = true) (decide_eq_true h3) (obs_cons (p := (decide ((absS a) ≤ 3)) = true) (decide_eq_true h3) (obs_cons (p := (decide ((absS a) ≤ 3)) = true) (decide_eq_true h3) (obs_cons (p := (decide ((absS a) ≤ 3)) = true) (decide_eq_true h3) (obs_cons (p := (decide ((-12) ≤ o)) = false) (decide_eq_false h4) (obs_cons (p := (decide ((-12) ≤ o)) = false) (decide_eq_false h4) (obs_cons (p := (decide ((-12) ≤ o)) = false) (decide_eq_false h4) (obs_cons (p := (decide ((-12) ≤ o)) = false) (decide_eq_false h4) (obs_cons (p := false = false) rfl (obs_cons (p := false = false) rfl (obs_cons (p := false = false) rfl (obs_nil))))))))))))))))))))))) ?_
          have hab := fun h => abs_three (n := a) h
          by_cases h3 : -3 ≤ a
          · have hab3 := hab h3
            rw [rightQ_no (by omega)]
            exact T_ret fun cx_ a_ hI_ => ret_ok (H' := []) (.inr rfl) (Wk.ren2 [ps 2 (bv false)] 0 hc0 [] rfl rfl (by kernel_rfl) (by kernel_rfl)) rfl (obs_nil) (fun cx_ a_ hI_ => ret_res (l' := [ps 2 (bv false)]) (by kernel_rfl) cx_ a_ hI_) hI_
          · skip
            rw [rightQ_no (by omega)]
            exact T_ret fun cx_ a_ hI_ => ret_ok (H' := []) (.inr rfl) (Wk.ren2 [ps 2 (bv false)] 0 hc0 [] rfl rfl (by kernel_rfl) (by kernel_rfl)) rfl (obs_nil) (fun cx_ a_ hI_ => ret_res (l' := [ps 2 (bv false)]) (by kernel_rfl) cx_ a_ hI_) hI_
      · refine T_region [(4, .gd true (.no)), (5, .gd true (.no)), (6, .gd true (.no)), (7, .yes true), (9, .gd true (.no)), (10, .gd true (.no)), (11, .gd true (.call [] [(iv a)] [] (iv (absS a)) [])), (12, .gd true (.no)), (13, .yes true), (15, .gd false .no), (16, .gd false .no), (17, .gd false .no), (18, .yes false), (20, .gd false .no), (21, .gd false .no), (22, .gd false .no), (25, .gd false .no), (26, .gd false .no), (27, .gd false .no)] [ks 2] (fun _ => mixed) (l' := [ps 2 (bv false)]) (obs := [(decide (0 ≤ l)) = true, (decide (0 ≤ l)) = true, (decide (0 ≤ l)) = true, (decide (0 ≤ l)) = true, (decide (l ≤ 6)) = true, (decide (l ≤ 6)) = true, (decide (l ≤ 6)) = true, PC Try.prog 33 [(iv a)] [] (iv (absS a)) [], [(iv a)] = renL (sigi [] 104) [(iv a)], (decide (l ≤ 6)) = true, (decide (l ≤ 6)) = true, (decide ((absS a) ≤ 3)) = false, (decide ((absS a) ≤ 3)) = false, (decide ((absS a) ≤ 3)) = false, (decide ((absS a) ≤ 3)) = false, false = false, false = false, false = false, false = false, false = false, false = false]) (by kernel_rfl) (obs_cons (p := (decide (0 ≤ l)) = true) (decide_eq_true h1) (obs_cons (p := (decide (0 ≤ l)) = true) (decide_eq_true h1) (obs_cons (p := (decide (0 ≤ l)) = true) (decide_eq_true h1) (obs_cons (p := (decide (0 ≤ l)) = true) (decide_eq_true h1) (obs_cons (p := (decide (l ≤ 6)) = true) (decide_eq_true h2) (obs_cons (p := (decide (l ≤ 6)) = true) (decide_eq_true h2) (obs_cons (p := (decide (l ≤ 6)) = true) (decide_eq_true h2) (obs_cons (p := PC Try.prog 33 [(iv a)] [] (iv (absS a)) []) (abs_pc a) (obs_cons (p := [(iv a)] = renL (sigi [] 104) [(iv a)]) rfl (obs_cons (p := (decide (l ≤ 6)) = true) (decide_eq_true h2) (obs_cons (p := (decide (l ≤ 6)) = true) (decide_eq_true h2) (obs_cons (p := (decide ((absS a) ≤ 3)) = false) (decide_eq_false h3) (obs_cons (p := (decide ((absS a) ≤ 3)) = false) (decide_eq_false h3) (obs_cons (p := (decide ((absS a) ≤ 3)) = false) (decide_eq_false h3) (obs_cons (p := (decide ((absS a) ≤ 3)) = false) (decide_eq_false h3) (obs_cons (p := false = false) rfl (obs_cons (p := false = false) rfl (obs_cons (p := false = false) rfl (obs_cons (p := false = false) rfl (obs_cons (p := false = false) rfl (obs_cons (p := false = false) rfl (obs_nil)))))))))))))))))))))) ?_
        have hab := fun h => abs_three (n := a) h
        by_cases h3 : -3 ≤ a
        · have hab3 := hab h3
          rw [rightQ_no (by omega)]
          exact T_ret fun cx_ a_ hI_ => ret_ok (H' := []) (.inr rfl) (Wk.ren2 [ps 2 (bv false)] 0 hc0 [] rfl rfl (by kernel_rfl) (by kernel_rfl)) rfl (obs_nil) (fun cx_ a_ hI_ => ret_res (l' := [ps 2 (bv false)]) (by kernel_rfl) cx_ a_ hI_) hI_
        · skip
          rw [rightQ_no (by omega)]
          exact T_ret fun cx_ a_ hI_ => ret_ok (H' := []) (.inr rfl) (Wk.ren2 [ps 2 (bv false)] 0 hc0 [] rfl rfl (by kernel_rfl) (by kernel_rfl)) rfl (obs_nil) (fun cx_ a_ hI_ => ret_res (l' := [ps 2 (bv false)]) (by kernel_rfl) cx_ a_ hI_) hI_
    · refine T_region [(4, .gd true (.no)), (5, .gd true (.no)), (6, .gd true (.no)), (7, .yes true), (9, .gd false .no), (10, .gd false .no), (11, .gd false .no), (12, .gd false .no), (13, .yes false), (15, .gd false .no), (16, .gd false .no), (17, .gd false .no), (20, .gd false .no), (21, .gd false .no), (22, .gd false .no), (25, .gd false .no), (26, .gd false .no), (27, .gd false .no)] [ks 2] (fun _ => mixed) (l' := [ps 2 (bv false)]) (obs := [(decide (0 ≤ l)) = true, (decide (0 ≤ l)) = true, (decide (0 ≤ l)) = true, (decide (0 ≤ l)) = true, (decide (l ≤ 6)) = false, (decide (l ≤ 6)) = false, (decide (l ≤ 6)) = false, (decide (l ≤ 6)) = false, (decide (l ≤ 6)) = false, false = false, false = false, false = false, false = false, false = false, false = false, false = false, false = false, false = false]) (by kernel_rfl) (obs_cons (p := (decide (0 ≤ l)) = true) (decide_eq_true h1) (obs_cons (p := (decide (0 ≤ l)) = true) (decide_eq_true h1) (obs_cons (p := (decide (0 ≤ l)) = true) (decide_eq_true h1) (obs_cons (p := (decide (0 ≤ l)) = true) (decide_eq_true h1) (obs_cons (p := (decide (l ≤ 6)) = false) (decide_eq_false h2) (obs_cons (p := (decide (l ≤ 6)) = false) (decide_eq_false h2) (obs_cons (p := (decide (l ≤ 6)) = false) (decide_eq_false h2) (obs_cons (p := (decide (l ≤ 6)) = false) (decide_eq_false h2) (obs_cons (p := (decide (l ≤ 6)) = false) (decide_eq_false h2) (obs_cons (p := false = false) rfl (obs_cons (p := false = false) rfl (obs_cons (p := false = false) rfl (obs_cons (p := false = false) rfl (obs_cons (p := false = false) rfl (obs_cons (p := false = false) rfl (obs_cons (p := false = false) rfl (obs_cons (p := false = false) rfl (obs_cons (p := false = false) rfl (obs_nil))))))))))))))))))) ?_
      have hab := fun h => abs_three (n := a) h
      by_cases h3 : -3 ≤ a
      · have hab3 := hab h3
        rw [rightQ_no (by omega)]
        exact T_ret fun cx_ a_ hI_ => ret_ok (H' := []) (.inr rfl) (Wk.ren2 [ps 2 (bv false)] 0 hc0 [] rfl rfl (by kernel_rfl) (by kernel_rfl)) rfl (obs_nil) (fun cx_ a_ hI_ => ret_res (l' := [ps 2 (bv false)]) (by kernel_rfl) cx_ a_ hI_) hI_
      · skip
        rw [rightQ_no (by omega)]
        exact T_ret fun cx_ a_ hI_ => ret_ok (H' := []) (.inr rfl) (Wk.ren2 [ps 2 (bv false)] 0 hc0 [] rfl rfl (by kernel_rfl) (by kernel_rfl)) rfl (obs_nil) (fun cx_ a_ hI_ => ret_res (l' := [ps 2 (bv false)]) (by kernel_rfl) cx_ a_ hI_) hI_
  · refine T_region [(4, .gd false .no), (5, .gd false .no), (6, .gd false .no), (7, .yes false), (9, .gd false .no), (10, .gd false .no), (11, .gd false .no), (12, .gd false .no), (15, .gd false .no), (16, .gd false .no), (17, .gd false .no), (20, .gd false .no), (21, .gd false .no), (22, .gd false .no), (25, .gd false .no), (26, .gd false .no), (27, .gd false .no)] [ks 2] (fun _ => mixed) (l' := [ps 2 (bv false)]) (obs := [(decide (0 ≤ l)) = false, (decide (0 ≤ l)) = false, (decide (0 ≤ l)) = false, (decide (0 ≤ l)) = false, false = false, false = false, false = false, false = false, false = false, false = false, false = false, false = false, false = false, false = false, false = false, false = false, false = false]) (by kernel_rfl) (obs_cons (p := (decide (0 ≤ l)) = false) (decide_eq_false h1) (obs_cons (p := (decide (0 ≤ l)) = false) (decide_eq_false h1) (obs_cons (p := (decide (0 ≤ l)) = false) (decide_eq_false h1) (obs_cons (p := (decide (0 ≤ l)) = false) (decide_eq_false h1) (obs_cons (p := false = false) rfl (obs_cons (p := false = false) rfl (obs_cons (p := false = false) rfl (obs_cons (p := false = false) rfl (obs_cons (p := false = false) rfl (obs_cons (p := false = false) rfl (obs_cons (p := false = false) rfl (obs_cons (p := false = false) rfl (obs_cons (p := false = false) rfl (obs_cons (p := false = false) rfl (obs_cons (p := false = false) rfl (obs_cons (p := false = false) rfl (obs_cons (p := false = false) rfl (obs_nil)))))))))))))))))) ?_
    have hab := fun h => abs_three (n := a) h
    by_cases h3 : -3 ≤ a
    · have hab3 := hab h3
      rw [rightQ_no (by omega)]
      exact T_ret fun cx_ a_ hI_ => ret_ok (H' := []) (.inr rfl) (Wk.ren2 [ps 2 (bv false)] 0 hc0 [] rfl rfl (by kernel_rfl) (by kernel_rfl)) rfl (obs_nil) (fun cx_ a_ hI_ => ret_res (l' := [ps 2 (bv false)]) (by kernel_rfl) cx_ a_ hI_) hI_
    · skip
      rw [rightQ_no (by omega)]
      exact T_ret fun cx_ a_ hI_ => ret_ok (H' := []) (.inr rfl) (Wk.ren2 [ps 2 (bv false)] 0 hc0 [] rfl rfl (by kernel_rfl) (by kernel_rfl)) rfl (obs_nil) (fun cx_ a_ hI_ => ret_res (l' := [ps 2 (bv false)]) (by kernel_rfl) cx_ a_ hI_) hI_
theorem ref_cright_pc (l a : Int) : PC Try.prog 21 [(.agg [(iv l), (iv a)])] [] (bv (rightQ l a 0)) [] := by
  refine pc_intro Try.func21 rfl (by kernel_rfl) (Nat.le_of_ble_eq_true rfl) (by kernel_rfl) (l0 := [ps 0 (.agg [(iv l), (iv a)])]) rfl (fun c0 Bor hc0 => ?_)
  refine T_seq ?_
  refine T_region [] [ks 1, kb 0] (fun _ => mixed) (l' := [ps 1 (.opt 0 0), pb 0 25 [(iv l), (iv a)]]) (obs := []) (by kernel_rfl) (obs_nil) ?_
  refine T_seq ?_
  refine T_region [(5, .call [] [(.agg [(iv l), (iv a), (iv 0)])] [] (bv (rightQ l a 0)) [])] [ks 2] (fun _ => mixed) (l' := [ps 2 (bv (rightQ l a 0))]) (obs := [PC Try.prog 25 [(.agg [(iv l), (iv a), (iv 0)])] [] (bv (rightQ l a 0)) [], [(.agg [(iv l), (iv a), (iv 0)])] = renL (sigi [] 56) [(.agg [(iv l), (iv a), (iv 0)])]]) (by kernel_rfl) (obs_cons (p := PC Try.prog 25 [(.agg [(iv l), (iv a), (iv 0)])] [] (bv (rightQ l a 0)) []) (ref_right_pc l a 0) (obs_cons (p := [(.agg [(iv l), (iv a), (iv 0)])] = renL (sigi [] 56) [(.agg [(iv l), (iv a), (iv 0)])]) rfl (obs_nil))) ?_
  exact T_ret fun cx_ a_ hI_ => ret_ok (H' := []) (.inr rfl) (Wk.ren2 [ps 2 (bv (rightQ l a 0))] 0 hc0 [] rfl rfl (by kernel_rfl) (by kernel_rfl)) rfl (obs_nil) (fun cx_ a_ hI_ => ret_res (l' := [ps 2 (bv (rightQ l a 0))]) (by kernel_rfl) cx_ a_ hI_) hI_
theorem first_pc (n : Int) (hn : -7 ≤ n ∧ n ≤ 7) : PC Try.prog 22 [(iv n)] [] (iv (firstS n)) [] := by
  refine pc_intro Try.func22 rfl (by kernel_rfl) (Nat.le_of_ble_eq_true rfl) (by kernel_rfl) (l0 := [ps 0 (iv n)]) rfl (fun c0 Bor hc0 => ?_)
  refine T_seq ?_
  refine T_region [] [ks 0] (fun _ => mixed) (l' := [ps 0 (iv n)]) (obs := []) (by kernel_rfl) (obs_nil) ?_
  refine T_seq ?_
  refine T_region [] [ks 0, ks 3] (fun _ => mixed) (l' := [ps 0 (iv n), ps 3 (iv 0)]) (obs := []) (by kernel_rfl) (obs_nil) ?_
  refine T_seq ?_
  refine T_seq ?_
  refine T_region [] [ks 0, ks 3, ks 4] (fun _ => mixed) (l' := [ps 0 (iv n), ps 3 (iv 0), ps 4 (iv 0)]) (obs := []) (by kernel_rfl) (obs_nil) ?_
  refine T_block ?_
  refine T_loop (α := {x : Nat // x ≤ 7 ∧ (0 < x → (x : Int) ≤ n)}) (fun x => [ps 0 (iv n), ps 3 (iv (firUp x.1)), ps 4 (iv ((x.1 : Nat) : Int))]) (fun x => 7 - x.1) 0 ⟨0, ⟨Nat.zero_le _, fun h => absurd h (Nat.lt_irrefl 0)⟩⟩ (Wk.ren2 [ps 0 (iv n), ps 3 (iv (firUp 0)), ps 4 (iv ((0 : Nat) : Int))] 0 hc0 [] rfl rfl (by kernel_rfl) (by kernel_rfl)) ?_
  rintro ⟨k, ⟨hk, hkn⟩⟩
  refine T_seq ?_
  refine T_seq ?_
  refine T_region [] [ks 0, ks 3, ks 4, ks 8] (fun _ => mixed) (l' := [ps 0 (iv n), ps 3 (iv (firUp k)), ps 4 (iv ((k : Nat) : Int)), ps 8 (bv (decide (((k : Nat) : Int) < n)))]) (obs := []) (by kernel_rfl) (obs_nil) ?_
  by_cases h1 : ((k : Nat) : Int) < n
  · refine T_then (b := (decide (((k : Nat) : Int) < n))) rfl (decide_eq_true h1) ?_
    refine T_skip ?_
    refine T_seq ?_
    refine T_block ?_
    refine T_region [] [ks 0, ks 3, ks 4] (fun _ => mixed) (l' := [ps 0 (iv n), ps 3 (iv ((((firUp k) + 4)).tmod 7)), ps 4 (iv ((k : Nat) : Int))]) (obs := [InK .i64 ((firUp k) + 4), 7 ≠ (0 : Int)]) (by kernel_rfl) (obs_cons (p := InK .i64 ((firUp k) + 4)) (by have := firUp_bd k; simp only [InK]; omega) (obs_cons (p := 7 ≠ (0 : Int)) (by decide) (obs_nil))) ?_
    refine T_blk ?_
    refine T_region [] [ks 0, ks 3, ks 4] (fun _ => mixed) (l' := [ps 0 (iv n), ps 3 (iv ((((firUp k) + 4)).tmod 7)), ps 4 (iv (((k : Nat) : Int) + 1))]) (obs := [InK .i64 (((k : Nat) : Int) + 1)]) (by kernel_rfl) (obs_cons (p := InK .i64 (((k : Nat) : Int) + 1)) (by simp only [InK]; omega) (obs_nil)) ?_
    exact T_back ⟨k + 1, ⟨by omega, fun _ => by omega⟩⟩ (Wk.ren2 [ps 0 (iv n), ps 3 (iv (firUp (k + 1))), ps 4 (iv (((k + 1) : Nat) : Int))] 0 hc0 [] rfl rfl (by kernel_rfl) (by kernel_rfl)) (show 7 - (k + 1) < 7 - k from by omega)
  · refine T_else (b := (decide (((k : Nat) : Int) < n))) rfl (decide_eq_false h1) ?_
    refine T_break rfl rfl ?_
    refine T_seq ?_
    refine T_seq ?_
    refine T_region [] [ks 0, ks 3, ks 5] (fun _ => mixed) (l' := [ps 0 (iv n), ps 3 (iv (firUp k)), ps 5 (iv 0)]) (obs := []) (by kernel_rfl) (obs_nil) ?_
    refine T_block ?_
    have hk0 : k = n.toNat := by omega
    refine T_wk (Wk.eq (show [ps 0 (iv n), ps 3 (iv (firUp k)), ps 5 (iv 0)] = [ps 0 (iv n), ps 3 (iv (if 0 ≤ n then firUp n.toNat else firDn 0)), ps 5 (iv 0)] from by rw [fir_base hk0])) ?_
    refine T_loop (α := {x : Nat // x ≤ 7 ∧ (0 < x → (x : Int) ≤ -n)}) (fun x => [ps 0 (iv n), ps 3 (iv (if 0 ≤ n then firUp n.toNat else firDn x.1)), ps 5 (iv ((x.1 : Nat) : Int))]) (fun x => 7 - x.1) 0 ⟨0, ⟨Nat.zero_le _, fun h => absurd h (Nat.lt_irrefl 0)⟩⟩ (Wk.ren2 [ps 0 (iv n), ps 3 (iv (if 0 ≤ n then firUp n.toNat else firDn 0)), ps 5 (iv ((0 : Nat) : Int))] 0 hc0 [] rfl rfl (by kernel_rfl) (by kernel_rfl)) ?_
    rintro ⟨k2, ⟨hk2, hkn2⟩⟩
    refine T_seq ?_
    refine T_seq ?_
    refine T_region [] [ks 0, ks 3, ks 5, ks 17] (fun _ => mixed) (l' := [ps 0 (iv n), ps 3 (iv (if 0 ≤ n then firUp n.toNat else firDn k2)), ps 5 (iv ((k2 : Nat) : Int)), ps 17 (bv (decide (((k2 : Nat) : Int) < (0 - n))))]) (obs := [InK .i64 (0 - n)]) (by kernel_rfl) (obs_cons (p := InK .i64 (0 - n)) (by simp only [InK]; omega) (obs_nil)) ?_
    by_cases h2 : ((k2 : Nat) : Int) < (0 - n)
    · refine T_then (b := (decide (((k2 : Nat) : Int) < (0 - n)))) rfl (decide_eq_true h2) ?_
      refine T_skip ?_
      refine T_seq ?_
      refine T_block ?_
      refine T_region [] [ks 0, ks 3, ks 5] (fun _ => mixed) (l' := [ps 0 (iv n), ps 3 (iv ((((if 0 ≤ n then firUp n.toNat else firDn k2) + 3)).tmod 7)), ps 5 (iv ((k2 : Nat) : Int))]) (obs := [InK .i64 ((if 0 ≤ n then firUp n.toNat else firDn k2) + 3), 7 ≠ (0 : Int)]) (by kernel_rfl) (obs_cons (p := InK .i64 ((if 0 ≤ n then firUp n.toNat else firDn k2) + 3)) (by have := firDn_bd k2; rw [if_neg (by omega)]; simp only [InK]; omega) (obs_cons (p := 7 ≠ (0 : Int)) (by decide) (obs_nil))) ?_
      refine T_blk ?_
      refine T_region [] [ks 0, ks 3, ks 5] (fun _ => mixed) (l' := [ps 0 (iv n), ps 3 (iv ((((if 0 ≤ n then firUp n.toNat else firDn k2) + 3)).tmod 7)), ps 5 (iv (((k2 : Nat) : Int) + 1))]) (obs := [InK .i64 (((k2 : Nat) : Int) + 1)]) (by kernel_rfl) (obs_cons (p := InK .i64 (((k2 : Nat) : Int) + 1)) (by simp only [InK]; omega) (obs_nil)) ?_
      exact T_back ⟨k2 + 1, ⟨by omega, fun _ => by omega⟩⟩ (Wk.trans (Wk.eq (show [ps 0 (iv n), ps 3 (iv ((((if 0 ≤ n then firUp n.toNat else firDn k2) + 3)).tmod 7)), ps 5 (iv (((k2 : Nat) : Int) + 1))] = [ps 0 (iv n), ps 3 (iv (if 0 ≤ n then firUp n.toNat else firDn (k2 + 1))), ps 5 (iv (((k2 : Nat) : Int) + 1))] from by rw [if_neg (by omega), if_neg (by omega)]; rfl)) (Wk.ren2 [ps 0 (iv n), ps 3 (iv (if 0 ≤ n then firUp n.toNat else firDn (k2 + 1))), ps 5 (iv (((k2 + 1) : Nat) : Int))] 0 hc0 [] rfl rfl (by kernel_rfl) (by kernel_rfl))) (show 7 - (k2 + 1) < 7 - k2 from by omega)
    · refine T_else (b := (decide (((k2 : Nat) : Int) < (0 - n)))) rfl (decide_eq_false h2) ?_
      refine T_break rfl rfl ?_
      refine T_seq ?_
      refine T_region [] [ks 2] (fun _ => mixed) (l' := [ps 2 (iv (if 0 ≤ n then firUp n.toNat else firDn k2))]) (obs := []) (by kernel_rfl) (obs_nil) ?_
      have hk3 : n < 0 → k2 = (-n).toNat := by omega
      refine T_wk (Wk.eq (show [ps 2 (iv (if 0 ≤ n then firUp n.toNat else firDn k2))] = [ps 2 (iv (firstS n))] from by rw [fir_end hk3])) ?_
      exact T_ret fun cx_ a_ hI_ => ret_ok (H' := []) (.inr rfl) (Wk.ren2 [ps 2 (iv (firstS n))] 0 hc0 [] rfl rfl (by kernel_rfl) (by kernel_rfl)) rfl (obs_nil) (fun cx_ a_ hI_ => ret_res (l' := [ps 2 (iv (firstS n))]) (by kernel_rfl) cx_ a_ hI_) hI_
end Go.Proofs.Ythckjknnaccncaa.Pm
