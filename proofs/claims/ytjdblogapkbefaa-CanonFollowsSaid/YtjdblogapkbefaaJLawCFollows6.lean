/-
  CANON: a change applied: walk, in one of four ways. (Printed by wip/pm.) | CANON: a change applied: walk, in one of four ways. (Printed by wip/pm.) | CANON: a change applied: walk, in one of four ways. (Printed by wip/pm.) | CANON: a change applied. | CANON: which line follows another one: plain. | CANON: changes are a group; time and pitch don't meet; what follows is found: plain. | CANON: time and pitch don't meet; what follows is found: plain.
-/
import Derived.Test.YtjdblogapkbefaaJLawCFollows5
namespace Go.Proofs.Ytjdblogapkbefaa.Pm
open Go Go.Proofs.Ytjdblogapkbefaa.Pi

set_option maxRecDepth 100000 in
set_option maxHeartbeats 4000000 in
theorem apply_01 (sl xl xa xo s h d : Int) (l : List Tn) (is : I64 s) (ih : I64 h) : PC Try.prog 8 [(.agg (chC ⟨false, sl, true, xl, xa, xo, s, h, d⟩)), (.ssl (tns l) 0 l.length)] [] (chgP ⟨false, sl, true, xl, xa, xo, s, h, d⟩ l) [] := by
  refine pc_intro Try.func8 rfl (by kernel_rfl) (Nat.le_of_ble_eq_true rfl) (by kernel_rfl) (l0 := [ps 0 (.agg (chC ⟨false, sl, true, xl, xa, xo, s, h, d⟩)), ps 1 (.ssl (tns l) 0 l.length)]) rfl (fun c0 Bor hc0 => ?_)
  refine T_seq ?_
  refine T_region [] [ks 1, ks 2, kb 0] (fun _ => mixed) (l' := [ps 1 (.ssl (tns l) 0 l.length), ps 2 (.opt 0 0), pb 0 29 (chC ⟨false, sl, true, xl, xa, xo, s, h, d⟩)]) (obs := []) (by kernel_rfl) (obs_nil) ?_
  refine T_seq ?_
  refine T_seq ?_
  refine T_region [(1, .call [] [(.ssl (tns l) 0 l.length)] [] (iv (wrongS l)) [])] [ks 1, ks 2, ks 6, kb 0] (fun _ => mixed) (l' := [ps 1 (.ssl (tns l) 0 l.length), ps 2 (.opt 0 0), ps 6 (iv (wrongS l)), pb 0 29 (chC ⟨false, sl, true, xl, xa, xo, s, h, d⟩)]) (obs := [PC Try.prog 10 [(.ssl (tns l) 0 l.length)] [] (iv (wrongS l)) [], [(.ssl (tns l) 0 l.length)] = renL (sigi [] 32) [(.ssl (tns l) 0 l.length)]]) (by kernel_rfl) (obs_cons (wrong_pc l) (obs_cons rfl (obs_nil))) ?_
  refine T_seq ?_
  refine T_region [] [ks 1, ks 2, ks 6, ks 17, kb 0] (fun _ => mixed) (l' := [ps 1 (.ssl (tns l) 0 l.length), ps 2 (.opt 0 0), ps 6 (iv (wrongS l)), ps 17 (bv (!(decide ((wrongS l) = 0)))), pb 0 29 (chC ⟨false, sl, true, xl, xa, xo, s, h, d⟩)]) (obs := []) (by kernel_rfl) (obs_nil) ?_
  by_cases h1 : (wrongS l) = 0
  · refine T_else (b := (!(decide ((wrongS l) = 0)))) rfl (congrArg Bool.not (decide_eq_true h1)) ?_
    refine T_skip ?_
    refine T_seq ?_
    refine T_seq ?_
    by_cases h2 : sl < 1
    · refine T_region [(4, .gd true .no), (5, .gd true .no), (6, .gd true .no), (7, .yes true), (9, .gd true .no), (10, .gd true .no), (11, .gd true .no), (14, .gd true .no), (15, .gd true .no), (16, .gd true .no)] [ks 1, ks 2, ks 36, kb 0] (fun _ => mixed) (l' := [ps 1 (.ssl (tns l) 0 l.length), ps 2 (.opt 0 0), ps 36 (bv true), pb 0 29 (chC ⟨false, sl, true, xl, xa, xo, s, h, d⟩)]) (obs := [(decide (sl < 1)) = true, (decide (sl < 1)) = true, (decide (sl < 1)) = true, (decide (sl < 1)) = true, true = true, true = true, true = true, true = true, true = true, true = true]) (by kernel_rfl) (obs_cons (decide_eq_true h2) (obs_cons (decide_eq_true h2) (obs_cons (decide_eq_true h2) (obs_cons (decide_eq_true h2) (obs_cons rfl (obs_cons rfl (obs_cons rfl (obs_cons rfl (obs_cons rfl (obs_cons rfl (obs_nil))))))))))) ?_
      refine T_then (b := true) rfl rfl ?_
      refine T_seq ?_
      refine T_region [] [ks 4, ks 5] (fun _ => mixed) (l' := [ps 4 (.av (.slice none 0 0)), ps 5 (iv 3)]) (obs := []) (by kernel_rfl) (obs_nil) ?_
      rw [chgP_bad h1 (by unfold chBad; show sl < 1 ∨ 16 < sl ∨ d < 0 ∨ 1048576 < d; omega)]
      exact T_ret fun cx_ a_ hI_ => ret_ok (H' := []) (.inr rfl) (Wk.ren2 [ps 4 (.av (.slice none 0 0)), ps 5 (iv 3)] 0 hc0 [] rfl rfl (by kernel_rfl) (by kernel_rfl)) rfl (obs_nil) (fun cx_ a_ hI_ => ret_res (l' := [ps 4 (.av (.slice none 0 0)), ps 5 (iv 3)]) (by kernel_rfl) cx_ a_ hI_) hI_
    · by_cases h3 : 16 < sl
      · refine T_region [(4, .gd false (.no)), (5, .gd false (.no)), (6, .gd false (.no)), (7, .yes false), (9, .gd true .no), (10, .gd true .no), (11, .gd true .no), (12, .yes true), (14, .gd true .no), (15, .gd true .no), (16, .gd true .no)] [ks 1, ks 2, ks 36, kb 0] (fun _ => mixed) (l' := [ps 1 (.ssl (tns l) 0 l.length), ps 2 (.opt 0 0), ps 36 (bv true), pb 0 29 (chC ⟨false, sl, true, xl, xa, xo, s, h, d⟩)]) (obs := [(decide (sl < 1)) = false, (decide (sl < 1)) = false, (decide (sl < 1)) = false, (decide (sl < 1)) = false, (decide (16 < sl)) = true, (decide (16 < sl)) = true, (decide (16 < sl)) = true, (decide (16 < sl)) = true, true = true, true = true, true = true]) (by kernel_rfl) (obs_cons (decide_eq_false h2) (obs_cons (decide_eq_false h2) (obs_cons (decide_eq_false h2) (obs_cons (decide_eq_false h2) (obs_cons (decide_eq_true h3) (obs_cons (decide_eq_true h3) (obs_cons (decide_eq_true h3) (obs_cons (decide_eq_true h3) (obs_cons rfl (obs_cons rfl (obs_cons rfl (obs_nil)))))))))))) ?_
        refine T_then (b := true) rfl rfl ?_
        refine T_seq ?_
        refine T_region [] [ks 4, ks 5] (fun _ => mixed) (l' := [ps 4 (.av (.slice none 0 0)), ps 5 (iv 3)]) (obs := []) (by kernel_rfl) (obs_nil) ?_
        rw [chgP_bad h1 (by unfold chBad; show sl < 1 ∨ 16 < sl ∨ d < 0 ∨ 1048576 < d; omega)]
        exact T_ret fun cx_ a_ hI_ => ret_ok (H' := []) (.inr rfl) (Wk.ren2 [ps 4 (.av (.slice none 0 0)), ps 5 (iv 3)] 0 hc0 [] rfl rfl (by kernel_rfl) (by kernel_rfl)) rfl (obs_nil) (fun cx_ a_ hI_ => ret_res (l' := [ps 4 (.av (.slice none 0 0)), ps 5 (iv 3)]) (by kernel_rfl) cx_ a_ hI_) hI_
      · by_cases h4 : d < 0
        · refine T_region [(4, .gd false (.no)), (5, .gd false (.no)), (6, .gd false (.no)), (7, .yes false), (9, .gd false (.no)), (10, .gd false (.no)), (11, .gd false (.no)), (12, .yes false), (14, .gd true .no), (15, .gd true .no), (16, .gd true .no), (17, .yes true)] [ks 1, ks 2, ks 36, kb 0] (fun _ => mixed) (l' := [ps 1 (.ssl (tns l) 0 l.length), ps 2 (.opt 0 0), ps 36 (bv true), pb 0 29 (chC ⟨false, sl, true, xl, xa, xo, s, h, d⟩)]) (obs := [(decide (sl < 1)) = false, (decide (sl < 1)) = false, (decide (sl < 1)) = false, (decide (sl < 1)) = false, (decide (16 < sl)) = false, (decide (16 < sl)) = false, (decide (16 < sl)) = false, (decide (16 < sl)) = false, (decide (d < 0)) = true, (decide (d < 0)) = true, (decide (d < 0)) = true, (decide (d < 0)) = true]) (by kernel_rfl) (obs_cons (decide_eq_false h2) (obs_cons (decide_eq_false h2) (obs_cons (decide_eq_false h2) (obs_cons (decide_eq_false h2) (obs_cons (decide_eq_false h3) (obs_cons (decide_eq_false h3) (obs_cons (decide_eq_false h3) (obs_cons (decide_eq_false h3) (obs_cons (decide_eq_true h4) (obs_cons (decide_eq_true h4) (obs_cons (decide_eq_true h4) (obs_cons (decide_eq_true h4) (obs_nil))))))))))))) ?_
          refine T_then (b := true) rfl rfl ?_
          refine T_seq ?_
          refine T_region [] [ks 4, ks 5] (fun _ => mixed) (l' := [ps 4 (.av (.slice none 0 0)), ps 5 (iv 3)]) (obs := []) (by kernel_rfl) (obs_nil) ?_
          rw [chgP_bad h1 (by unfold chBad; show sl < 1 ∨ 16 < sl ∨ d < 0 ∨ 1048576 < d; omega)]
          exact T_ret fun cx_ a_ hI_ => ret_ok (H' := []) (.inr rfl) (Wk.ren2 [ps 4 (.av (.slice none 0 0)), ps 5 (iv 3)] 0 hc0 [] rfl rfl (by kernel_rfl) (by kernel_rfl)) rfl (obs_nil) (fun cx_ a_ hI_ => ret_res (l' := [ps 4 (.av (.slice none 0 0)), ps 5 (iv 3)]) (by kernel_rfl) cx_ a_ hI_) hI_
        · refine T_region [(4, .gd false (.no)), (5, .gd false (.no)), (6, .gd false (.no)), (7, .yes false), (9, .gd false (.no)), (10, .gd false (.no)), (11, .gd false (.no)), (12, .yes false), (14, .gd false (.no)), (15, .gd false (.no)), (16, .gd false (.no)), (17, .yes false)] [ks 1, ks 2, ks 36, kb 0] (fun _ => mixed) (l' := [ps 1 (.ssl (tns l) 0 l.length), ps 2 (.opt 0 0), ps 36 (bv (decide (1048576 < d))), pb 0 29 (chC ⟨false, sl, true, xl, xa, xo, s, h, d⟩)]) (obs := [(decide (sl < 1)) = false, (decide (sl < 1)) = false, (decide (sl < 1)) = false, (decide (sl < 1)) = false, (decide (16 < sl)) = false, (decide (16 < sl)) = false, (decide (16 < sl)) = false, (decide (16 < sl)) = false, (decide (d < 0)) = false, (decide (d < 0)) = false, (decide (d < 0)) = false, (decide (d < 0)) = false]) (by kernel_rfl) (obs_cons (decide_eq_false h2) (obs_cons (decide_eq_false h2) (obs_cons (decide_eq_false h2) (obs_cons (decide_eq_false h2) (obs_cons (decide_eq_false h3) (obs_cons (decide_eq_false h3) (obs_cons (decide_eq_false h3) (obs_cons (decide_eq_false h3) (obs_cons (decide_eq_false h4) (obs_cons (decide_eq_false h4) (obs_cons (decide_eq_false h4) (obs_cons (decide_eq_false h4) (obs_nil))))))))))))) ?_
          by_cases h5 : 1048576 < d
          · refine T_then (b := (decide (1048576 < d))) rfl (decide_eq_true h5) ?_
            refine T_seq ?_
            refine T_region [] [ks 4, ks 5] (fun _ => mixed) (l' := [ps 4 (.av (.slice none 0 0)), ps 5 (iv 3)]) (obs := []) (by kernel_rfl) (obs_nil) ?_
            rw [chgP_bad h1 (by unfold chBad; show sl < 1 ∨ 16 < sl ∨ d < 0 ∨ 1048576 < d; omega)]
            exact T_ret fun cx_ a_ hI_ => ret_ok (H' := []) (.inr rfl) (Wk.ren2 [ps 4 (.av (.slice none 0 0)), ps 5 (iv 3)] 0 hc0 [] rfl rfl (by kernel_rfl) (by kernel_rfl)) rfl (obs_nil) (fun cx_ a_ hI_ => ret_res (l' := [ps 4 (.av (.slice none 0 0)), ps 5 (iv 3)]) (by kernel_rfl) cx_ a_ hI_) hI_
          · refine T_else (b := (decide (1048576 < d))) rfl (decide_eq_false h5) ?_
            refine T_skip ?_
            refine T_seq ?_
            refine T_region [] [ks 1, ks 2, ks 7, kb 0] (fun _ => mixed) (l' := [ps 1 (.ssl (tns l) 0 l.length), ps 2 (.opt 0 0), ps 7 (.av (.slice none 0 0)), pb 0 29 (chC ⟨false, sl, true, xl, xa, xo, s, h, d⟩)]) (obs := []) (by kernel_rfl) (obs_nil) ?_
            refine T_seq ?_
            have hl := wrong_iff.1 h1
            have hlen := hl.len
            have hE := endN_bd hl (Nat.le_refl l.length)
            have hs : 1 ≤ sl ∧ sl ≤ 16 := by omega
            have hd : 0 ≤ d ∧ d ≤ 1048576 := by omega
            have hc : ¬ chBad ⟨false, sl, true, xl, xa, xo, s, h, d⟩ := by unfold chBad; show ¬ (sl < 1 ∨ 16 < sl ∨ d < 0 ∨ 1048576 < d); omega
            refine T_regionD [(2, .call [] [(.ssl (tns l) 0 l.length)] [] (iv (endS l)) []), (3, .call [] [(.agg (chC ⟨false, sl, true, xl, xa, xo, s, h, d⟩)), (iv (endS l))] [] (.osl 3 0 4) [some (29, (chC ⟨false, sl, true, xl, xa, xo, s, h, d⟩)), some (65, [(PV.fn (.func 38) [] [(.opt 0 0)])]), some (65, [(PV.fn (.func 36) [] [(.opt 0 0)])]), some (51, [(PV.fn (.func 34) [] [(.opt 0 0)]), (PV.fn (.func 49) [] [(.opt 2 0)]), (PV.fn (.func 49) [] [(.opt 1 0)]), (PV.fn (.func 40) [] [(.opt 0 0)])])])] [[], [], [1], [0, 1, 2], [0, 1, 2, 3]] [([74], [1, 4]), ([76], [2]), ([78], [76]), ([80, 481, 483, 485, 487], [74, 78]), ([16], [80])] [ks 1, ks 7, ks 8, kb 240, kb 241, kb 242, kb 243] (l' := [ps 1 (.ssl (tns l) 0 l.length), ps 7 (.av (.slice none 0 0)), ps 8 (.osl 243 0 4), pb 240 29 (chC ⟨false, sl, true, xl, xa, xo, s, h, d⟩), pb 241 65 [(PV.fn (.func 38) [] [(.opt 240 0)])], pb 242 65 [(PV.fn (.func 36) [] [(.opt 240 0)])], pb 243 51 [(PV.fn (.func 34) [] [(.opt 240 0)]), (PV.fn (.func 49) [] [(.opt 242 0)]), (PV.fn (.func 49) [] [(.opt 241 0)]), (PV.fn (.func 40) [] [(.opt 240 0)])]]) (obs := [PC Try.prog 15 [(.ssl (tns l) 0 l.length)] [] (iv (endS l)) [], [(.ssl (tns l) 0 l.length)] = renL (sigi [] 232) [(.ssl (tns l) 0 l.length)], PC Try.prog 20 [(.agg (chC ⟨false, sl, true, xl, xa, xo, s, h, d⟩)), (iv (endS l))] [] (.osl 3 0 4) [some (29, (chC ⟨false, sl, true, xl, xa, xo, s, h, d⟩)), some (65, [(PV.fn (.func 38) [] [(.opt 0 0)])]), some (65, [(PV.fn (.func 36) [] [(.opt 0 0)])]), some (51, [(PV.fn (.func 34) [] [(.opt 0 0)]), (PV.fn (.func 49) [] [(.opt 2 0)]), (PV.fn (.func 49) [] [(.opt 1 0)]), (PV.fn (.func 40) [] [(.opt 0 0)])])], [(.agg (chC ⟨false, sl, true, xl, xa, xo, s, h, d⟩)), (iv (endS l))] = renL (sigi [] 240) [(.agg (chC ⟨false, sl, true, xl, xa, xo, s, h, d⟩)), (iv (endS l))]]) mixed (by kernel_rfl) (by kernel_rfl) (obs_cons (end_pc l (wrong_iff.1 h1)) (obs_cons rfl (obs_cons (steps_01 sl xl xa xo s h d (endS l)) (obs_cons rfl (obs_nil))))) ?_
            refine T_seq ?_
            refine T_seq ?_
            refine T_region [] [ks 7, ks 8, ks 41, ks 42, ks 43, kb 240, kb 241, kb 242, kb 243] (fun _ => mixed) (l' := [ps 7 (.av (.slice none 0 0)), ps 8 (.osl 243 0 4), ps 41 (.ssl (tns l) 0 l.length), ps 42 (nv l.length), ps 43 (iv 0), pb 240 29 (chC ⟨false, sl, true, xl, xa, xo, s, h, d⟩), pb 241 65 [(PV.fn (.func 38) [] [(.opt 240 0)])], pb 242 65 [(PV.fn (.func 36) [] [(.opt 240 0)])], pb 243 51 [(PV.fn (.func 34) [] [(.opt 240 0)]), (PV.fn (.func 49) [] [(.opt 242 0)]), (PV.fn (.func 49) [] [(.opt 241 0)]), (PV.fn (.func 40) [] [(.opt 240 0)])]]) (obs := []) (by kernel_rfl) (obs_nil) ?_
            refine T_block ?_
            refine T_wk (Wk.nil (s := 7) 41 (by kernel_rfl)) ?_
            refine T_wk (Wk.less (l' := [ps 7 (.osl 280 0 0), ps 8 (.osl 243 0 4), ps 41 (.ssl (tns l) 0 l.length), ps 42 (nv l.length), ps 43 (iv 0), pb 240 29 (chC ⟨false, sl, true, xl, xa, xo, s, h, d⟩), pb 241 65 [(PV.fn (.func 38) [] [(.opt 240 0)])], pb 242 65 [(PV.fn (.func 36) [] [(.opt 240 0)])], pb 243 51 [(PV.fn (.func 34) [] [(.opt 240 0)]), (PV.fn (.func 49) [] [(.opt 242 0)]), (PV.fn (.func 49) [] [(.opt 241 0)]), (PV.fn (.func 40) [] [(.opt 240 0)])], pb 280 41 []]) 281 (by kernel_rfl) (by kernel_rfl)) ?_
            refine T_wk (Wk.eq (show _ = [ps 7 (.osl 280 0 0), ps 8 (.osl 243 0 4), ps 41 (.ssl (tns l) 0 l.length), ps 42 (nv l.length), ps 43 (iv 0), pb 240 29 (chC ⟨false, sl, true, xl, xa, xo, s, h, d⟩), pb 241 65 [(PV.fn (.func 38) [] [(.opt 240 0)])], pb 242 65 [(PV.fn (.func 36) [] [(.opt 240 0)])], pb 243 51 [(PV.fn (.func 34) [] [(.opt 240 0)]), (PV.fn (.func 49) [] [(.opt 242 0)]), (PV.fn (.func 49) [] [(.opt 241 0)]), (PV.fn (.func 40) [] [(.opt 240 0)])], pb 280 41 (tns ((l.take 0).map (fun t => (chT ⟨false, sl, true, xl, xa, xo, s, h, d⟩ (endS l) t).1)))] from by rfl)) ?_
            refine T_loop (α := {x : Nat // x ≤ l.length ∧ fstE (fun x => (chT ⟨false, sl, true, xl, xa, xo, s, h, d⟩ (endS l) (l.getD x dT)).2) x = 0}) (fun x => [ps 7 (.osl 0 0 x.1), ps 8 (.osl 1 0 4), ps 41 (.ssl (tns l) 0 l.length), ps 42 (nv l.length), ps 43 (nv x.1), pb 0 41 (tns ((l.take x.1).map (fun t => (chT ⟨false, sl, true, xl, xa, xo, s, h, d⟩ (endS l) t).1))), pb 1 51 [(PV.fn (.func 34) [] [(.opt 2 0)]), (PV.fn (.func 49) [] [(.opt 3 0)]), (PV.fn (.func 49) [] [(.opt 4 0)]), (PV.fn (.func 40) [] [(.opt 2 0)])], pb 2 29 (chC ⟨false, sl, true, xl, xa, xo, s, h, d⟩), pb 3 65 [(PV.fn (.func 36) [] [(.opt 2 0)])], pb 4 65 [(PV.fn (.func 38) [] [(.opt 2 0)])]]) (fun x => l.length - x.1) 5 ⟨0, ⟨Nat.zero_le _, rfl⟩⟩ (Wk.ren3 [ps 7 (.osl 0 0 0), ps 8 (.osl 1 0 4), ps 41 (.ssl (tns l) 0 l.length), ps 42 (nv l.length), ps 43 (nv 0), pb 0 41 (tns ((l.take 0).map (fun t => (chT ⟨false, sl, true, xl, xa, xo, s, h, d⟩ (endS l) t).1))), pb 1 51 [(PV.fn (.func 34) [] [(.opt 2 0)]), (PV.fn (.func 49) [] [(.opt 3 0)]), (PV.fn (.func 49) [] [(.opt 4 0)]), (PV.fn (.func 40) [] [(.opt 2 0)])], pb 2 29 (chC ⟨false, sl, true, xl, xa, xo, s, h, d⟩), pb 3 65 [(PV.fn (.func 36) [] [(.opt 2 0)])], pb 4 65 [(PV.fn (.func 38) [] [(.opt 2 0)])]] 0 hc0 [280, 243, 240, 242, 241] [(kb 0, (tns ((l.take 0).map (fun t => (chT ⟨false, sl, true, xl, xa, xo, s, h, d⟩ (endS l) t).1))))] (obs_cons (tns_shd _) (obs_nil)) (by kernel_rfl) rfl rfl (by kernel_rfl) (by kernel_rfl)) ?_
            rintro ⟨i, ⟨hi, hf⟩⟩
            refine T_seq ?_
            refine T_region [] [ks 7, ks 8, ks 41, ks 42, ks 43, ks 44, kb 0, kb 1, kb 2, kb 3, kb 4] (fun _ => mixed) (l' := [ps 7 (.osl 0 0 i), ps 8 (.osl 1 0 4), ps 41 (.ssl (tns l) 0 l.length), ps 42 (nv l.length), ps 43 (nv i), ps 44 (bv (decide (((i : Nat) : Int) < ((l.length : Nat) : Int)))), pb 0 41 (tns ((l.take i).map (fun t => (chT ⟨false, sl, true, xl, xa, xo, s, h, d⟩ (endS l) t).1))), pb 1 51 [(PV.fn (.func 34) [] [(.opt 2 0)]), (PV.fn (.func 49) [] [(.opt 3 0)]), (PV.fn (.func 49) [] [(.opt 4 0)]), (PV.fn (.func 40) [] [(.opt 2 0)])], pb 2 29 (chC ⟨false, sl, true, xl, xa, xo, s, h, d⟩), pb 3 65 [(PV.fn (.func 36) [] [(.opt 2 0)])], pb 4 65 [(PV.fn (.func 38) [] [(.opt 2 0)])]]) (obs := []) (by kernel_rfl) (obs_nil) ?_
            refine T_seq ?_
            by_cases h6 : ((i : Nat) : Int) < ((l.length : Nat) : Int)
            · refine T_then (b := (decide (((i : Nat) : Int) < ((l.length : Nat) : Int)))) rfl (decide_eq_true h6) ?_
              refine T_skip ?_
              refine T_seq ?_
              refine T_block ?_
              refine T_seq ?_
              refine T_region [(0, .nat (i * 5)), (1, .cells (tnC (l.getD i dT)))] [ks 7, ks 8, ks 10, ks 41, ks 42, ks 43, kb 0, kb 1, kb 2, kb 3, kb 4, kb 29] (fun _ => mixed) (l' := [ps 7 (.osl 0 0 i), ps 8 (.osl 1 0 4), ps 10 (.opt 29 0), ps 41 (.ssl (tns l) 0 l.length), ps 42 (nv l.length), ps 43 (nv i), pb 0 41 (tns ((l.take i).map (fun t => (chT ⟨false, sl, true, xl, xa, xo, s, h, d⟩ (endS l) t).1))), pb 1 51 [(PV.fn (.func 34) [] [(.opt 2 0)]), (PV.fn (.func 49) [] [(.opt 3 0)]), (PV.fn (.func 49) [] [(.opt 4 0)]), (PV.fn (.func 40) [] [(.opt 2 0)])], pb 2 29 (chC ⟨false, sl, true, xl, xa, xo, s, h, d⟩), pb 3 65 [(PV.fn (.func 36) [] [(.opt 2 0)])], pb 4 65 [(PV.fn (.func 38) [] [(.opt 2 0)])], pb 29 41 (tnC (l.getD i dT))]) (obs := [(0 : Int) ≤ ((i : Nat) : Int) ∧ ((i : Nat) : Int) < ((l.length : Nat) : Int), 0 + (((i : Nat) : Int) : Int).toNat * 5 = (i * 5), (i * 5) + 5 ≤ ((tns l)).length ∧ (((tns l)).drop (i * 5)).take 5 = (tnC (l.getD i dT))]) (by kernel_rfl) (obs_cons (by omega) (obs_cons (by omega) (obs_cons (flat_at tnC 5 (fun _ => rfl) dT l i 0 5 (by omega) (by decide)) (obs_nil)))) ?_
              refine T_seq ?_
              refine T_region [] [ks 7, ks 8, ks 10, ks 41, ks 42, ks 43, kb 0, kb 1, kb 2, kb 3, kb 4, kb 29] (fun _ => mixed) (l' := [ps 7 (.osl 0 0 i), ps 8 (.osl 1 0 4), ps 10 (.opt 29 0), ps 41 (.ssl (tns l) 0 l.length), ps 42 (nv l.length), ps 43 (nv i), pb 0 41 (tns ((l.take i).map (fun t => (chT ⟨false, sl, true, xl, xa, xo, s, h, d⟩ (endS l) t).1))), pb 1 51 [(PV.fn (.func 34) [] [(.opt 2 0)]), (PV.fn (.func 49) [] [(.opt 3 0)]), (PV.fn (.func 49) [] [(.opt 4 0)]), (PV.fn (.func 40) [] [(.opt 2 0)])], pb 2 29 (chC ⟨false, sl, true, xl, xa, xo, s, h, d⟩), pb 3 65 [(PV.fn (.func 36) [] [(.opt 2 0)])], pb 4 65 [(PV.fn (.func 38) [] [(.opt 2 0)])], pb 29 41 (tnC (l.getD i dT))]) (obs := []) (by kernel_rfl) (obs_nil) ?_
              refine T_seq ?_
              refine T_seq ?_
              refine T_region [] [ks 7, ks 8, ks 10, ks 41, ks 42, ks 43, ks 47, ks 48, ks 49, kb 0, kb 1, kb 2, kb 3, kb 4, kb 29] (fun _ => mixed) (l' := [ps 7 (.osl 0 0 i), ps 8 (.osl 1 0 4), ps 10 (.opt 29 0), ps 41 (.ssl (tns l) 0 l.length), ps 42 (nv l.length), ps 43 (nv i), ps 47 (.osl 1 0 4), ps 48 (iv 4), ps 49 (iv 0), pb 0 41 (tns ((l.take i).map (fun t => (chT ⟨false, sl, true, xl, xa, xo, s, h, d⟩ (endS l) t).1))), pb 1 51 [(PV.fn (.func 34) [] [(.opt 2 0)]), (PV.fn (.func 49) [] [(.opt 3 0)]), (PV.fn (.func 49) [] [(.opt 4 0)]), (PV.fn (.func 40) [] [(.opt 2 0)])], pb 2 29 (chC ⟨false, sl, true, xl, xa, xo, s, h, d⟩), pb 3 65 [(PV.fn (.func 36) [] [(.opt 2 0)])], pb 4 65 [(PV.fn (.func 38) [] [(.opt 2 0)])], pb 29 41 (tnC (l.getD i dT))]) (obs := []) (by kernel_rfl) (obs_nil) ?_
              refine T_block ?_
              refine T_loop (α := {x : Nat × Tn // x.1 ≤ 4 ∧ runF ((fsOf ⟨false, sl, true, xl, xa, xo, s, h, d⟩ (endS l)).drop x.1) x.2 = chT ⟨false, sl, true, xl, xa, xo, s, h, d⟩ (endS l) (l.getD i dT) ∧ Far x.2 (([4194304, 67108864, 67108864, 67108864, 134217728] : List Int).getD x.1 0)}) (fun x => [ps 7 (.osl 1 0 i), ps 8 (.osl 2 0 4), ps 10 (.opt 0 0), ps 41 (.ssl (tns l) 0 l.length), ps 42 (nv l.length), ps 43 (nv i), ps 47 (.osl 2 0 4), ps 48 (iv 4), ps 49 (nv x.1.1), pb 0 41 (tnC x.1.2), pb 1 41 (tns ((l.take i).map (fun t => (chT ⟨false, sl, true, xl, xa, xo, s, h, d⟩ (endS l) t).1))), pb 2 51 [(PV.fn (.func 34) [] [(.opt 3 0)]), (PV.fn (.func 49) [] [(.opt 4 0)]), (PV.fn (.func 49) [] [(.opt 5 0)]), (PV.fn (.func 40) [] [(.opt 3 0)])], pb 3 29 (chC ⟨false, sl, true, xl, xa, xo, s, h, d⟩), pb 4 65 [(PV.fn (.func 36) [] [(.opt 3 0)])], pb 5 65 [(PV.fn (.func 38) [] [(.opt 3 0)])]]) (fun x => 4 - x.1.1) 6 ⟨(0, l.getD i dT), ⟨Nat.zero_le _, rfl, far_of (hl.at (by omega)) (by show (1048576 : Int) ≤ 4194304; decide)⟩⟩ (Wk.ren3 [ps 7 (.osl 1 0 i), ps 8 (.osl 2 0 4), ps 10 (.opt 0 0), ps 41 (.ssl (tns l) 0 l.length), ps 42 (nv l.length), ps 43 (nv i), ps 47 (.osl 2 0 4), ps 48 (iv 4), ps 49 (nv 0), pb 0 41 (tnC (l.getD i dT)), pb 1 41 (tns ((l.take i).map (fun t => (chT ⟨false, sl, true, xl, xa, xo, s, h, d⟩ (endS l) t).1))), pb 2 51 [(PV.fn (.func 34) [] [(.opt 3 0)]), (PV.fn (.func 49) [] [(.opt 4 0)]), (PV.fn (.func 49) [] [(.opt 5 0)]), (PV.fn (.func 40) [] [(.opt 3 0)])], pb 3 29 (chC ⟨false, sl, true, xl, xa, xo, s, h, d⟩), pb 4 65 [(PV.fn (.func 36) [] [(.opt 3 0)])], pb 5 65 [(PV.fn (.func 38) [] [(.opt 3 0)])]] 0 hc0 [29, 0, 1, 2, 3, 4] [(kb 1, (tns ((l.take i).map (fun t => (chT ⟨false, sl, true, xl, xa, xo, s, h, d⟩ (endS l) t).1))))] (obs_cons (tns_shd _) (obs_nil)) (by kernel_rfl) rfl rfl (by kernel_rfl) (by kernel_rfl)) ?_
              rintro ⟨⟨j, x⟩, ⟨hj, hx, hF⟩⟩
              dsimp only at hj hx hF
              refine T_seq ?_
              refine T_region [] [ks 7, ks 8, ks 10, ks 41, ks 42, ks 43, ks 47, ks 48, ks 49, ks 50, kb 0, kb 1, kb 2, kb 3, kb 4, kb 5] (fun _ => mixed) (l' := [ps 7 (.osl 1 0 i), ps 8 (.osl 2 0 4), ps 10 (.opt 0 0), ps 41 (.ssl (tns l) 0 l.length), ps 42 (nv l.length), ps 43 (nv i), ps 47 (.osl 2 0 4), ps 48 (iv 4), ps 49 (nv j), ps 50 (bv (decide (((j : Nat) : Int) < 4))), pb 0 41 (tnC x), pb 1 41 (tns ((l.take i).map (fun t => (chT ⟨false, sl, true, xl, xa, xo, s, h, d⟩ (endS l) t).1))), pb 2 51 [(PV.fn (.func 34) [] [(.opt 3 0)]), (PV.fn (.func 49) [] [(.opt 4 0)]), (PV.fn (.func 49) [] [(.opt 5 0)]), (PV.fn (.func 40) [] [(.opt 3 0)])], pb 3 29 (chC ⟨false, sl, true, xl, xa, xo, s, h, d⟩), pb 4 65 [(PV.fn (.func 36) [] [(.opt 3 0)])], pb 5 65 [(PV.fn (.func 38) [] [(.opt 3 0)])]]) (obs := []) (by kernel_rfl) (obs_nil) ?_
              refine T_seq ?_
              by_cases h7 : ((j : Nat) : Int) < 4
              · refine T_then (b := (decide (((j : Nat) : Int) < 4))) rfl (decide_eq_true h7) ?_
                refine T_skip ?_
                refine T_seq ?_
                refine T_block ?_
                refine T_seq ?_
                by_cases h8 : j = 0
                · refine T_region [(0, .nat 0)] [ks 7, ks 8, ks 10, ks 13, ks 41, ks 42, ks 43, ks 47, ks 48, ks 49, kb 0, kb 1, kb 2, kb 3, kb 4, kb 5] (fun _ => mixed) (l' := [ps 7 (.osl 1 0 i), ps 8 (.osl 2 0 4), ps 10 (.opt 0 0), ps 13 (PV.fn (.func 34) [] [(.opt 3 0)]), ps 41 (.ssl (tns l) 0 l.length), ps 42 (nv l.length), ps 43 (nv i), ps 47 (.osl 2 0 4), ps 48 (iv 4), ps 49 (nv j), pb 0 41 (tnC x), pb 1 41 (tns ((l.take i).map (fun t => (chT ⟨false, sl, true, xl, xa, xo, s, h, d⟩ (endS l) t).1))), pb 2 51 [(PV.fn (.func 34) [] [(.opt 3 0)]), (PV.fn (.func 49) [] [(.opt 4 0)]), (PV.fn (.func 49) [] [(.opt 5 0)]), (PV.fn (.func 40) [] [(.opt 3 0)])], pb 3 29 (chC ⟨false, sl, true, xl, xa, xo, s, h, d⟩), pb 4 65 [(PV.fn (.func 36) [] [(.opt 3 0)])], pb 5 65 [(PV.fn (.func 38) [] [(.opt 3 0)])]]) (obs := [(0 : Int) ≤ ((j : Nat) : Int) ∧ ((j : Nat) : Int) < ((4 : Nat) : Int), 0 + (((j : Nat) : Int) : Int).toNat * 1 = 0]) (by kernel_rfl) (obs_cons (by omega) (obs_cons (by omega) (obs_nil))) ?_
                  refine T_seq ?_
                  refine T_region [(2, .call [3] [(.agg (tnC x)), (.opt 0 0)] [some (29, (chC ⟨false, sl, true, xl, xa, xo, s, h, d⟩))] (.tup [(.agg (tnC ((f2 sl x).1))), (iv ((f2 sl x).2))]) [some (29, (chC ⟨false, sl, true, xl, xa, xo, s, h, d⟩)), none])] [ks 7, ks 8, ks 10, ks 11, ks 41, ks 42, ks 43, ks 47, ks 48, ks 49, kb 0, kb 1, kb 2, kb 3, kb 4, kb 5] (fun _ => mixed) (l' := [ps 7 (.osl 1 0 i), ps 8 (.osl 2 0 4), ps 10 (.opt 0 0), ps 11 (iv ((f2 sl x).2)), ps 41 (.ssl (tns l) 0 l.length), ps 42 (nv l.length), ps 43 (nv i), ps 47 (.osl 2 0 4), ps 48 (iv 4), ps 49 (nv j), pb 0 41 (tnC ((f2 sl x).1)), pb 1 41 (tns ((l.take i).map (fun t => (chT ⟨false, sl, true, xl, xa, xo, s, h, d⟩ (endS l) t).1))), pb 2 51 [(PV.fn (.func 34) [] [(.opt 3 0)]), (PV.fn (.func 49) [] [(.opt 4 0)]), (PV.fn (.func 49) [] [(.opt 5 0)]), (PV.fn (.func 40) [] [(.opt 3 0)])], pb 3 29 (chC ⟨false, sl, true, xl, xa, xo, s, h, d⟩), pb 4 65 [(PV.fn (.func 36) [] [(.opt 3 0)])], pb 5 65 [(PV.fn (.func 38) [] [(.opt 3 0)])]]) (obs := [PC Try.prog 34 [(.agg (tnC x)), (.opt 0 0)] [some (29, (chC ⟨false, sl, true, xl, xa, xo, s, h, d⟩))] (.tup [(.agg (tnC ((f2 sl x).1))), (iv ((f2 sl x).2))]) [some (29, (chC ⟨false, sl, true, xl, xa, xo, s, h, d⟩)), none], [(.agg (tnC x)), (.opt 3 0)] = renL (sigi [3] 54) [(.agg (tnC x)), (.opt 0 0)], (chC ⟨false, sl, true, xl, xa, xo, s, h, d⟩) = renL (sigi [3] 54) (chC ⟨false, sl, true, xl, xa, xo, s, h, d⟩)]) (by kernel_rfl) (obs_cons (slow_pc false true sl xl xa xo s h d x hs (by rw [h8] at hF; exact hF)) (obs_cons rfl (obs_cons rfl (obs_nil)))) ?_
                  refine T_seq ?_
                  refine T_region [] [ks 7, ks 8, ks 10, ks 11, ks 41, ks 42, ks 43, ks 47, ks 48, ks 49, ks 60, kb 0, kb 1, kb 2, kb 3, kb 4, kb 5] (fun _ => mixed) (l' := [ps 7 (.osl 1 0 i), ps 8 (.osl 2 0 4), ps 10 (.opt 0 0), ps 11 (iv ((f2 sl x).2)), ps 41 (.ssl (tns l) 0 l.length), ps 42 (nv l.length), ps 43 (nv i), ps 47 (.osl 2 0 4), ps 48 (iv 4), ps 49 (nv j), ps 60 (bv (!(decide (((f2 sl x).2) = 0)))), pb 0 41 (tnC ((f2 sl x).1)), pb 1 41 (tns ((l.take i).map (fun t => (chT ⟨false, sl, true, xl, xa, xo, s, h, d⟩ (endS l) t).1))), pb 2 51 [(PV.fn (.func 34) [] [(.opt 3 0)]), (PV.fn (.func 49) [] [(.opt 4 0)]), (PV.fn (.func 49) [] [(.opt 5 0)]), (PV.fn (.func 40) [] [(.opt 3 0)])], pb 3 29 (chC ⟨false, sl, true, xl, xa, xo, s, h, d⟩), pb 4 65 [(PV.fn (.func 36) [] [(.opt 3 0)])], pb 5 65 [(PV.fn (.func 38) [] [(.opt 3 0)])]]) (obs := []) (by kernel_rfl) (obs_nil) ?_
                  by_cases h9 : ((f2 sl x).2) = 0
                  · refine T_else (b := (!(decide (((f2 sl x).2) = 0)))) rfl (congrArg Bool.not (decide_eq_true h9)) ?_
                    refine T_skip ?_
                    refine T_blk ?_
                    refine T_region [] [ks 7, ks 8, ks 10, ks 41, ks 42, ks 43, ks 47, ks 48, ks 49, kb 0, kb 1, kb 2, kb 3, kb 4, kb 5] (fun _ => mixed) (l' := [ps 7 (.osl 1 0 i), ps 8 (.osl 2 0 4), ps 10 (.opt 0 0), ps 41 (.ssl (tns l) 0 l.length), ps 42 (nv l.length), ps 43 (nv i), ps 47 (.osl 2 0 4), ps 48 (iv 4), ps 49 (iv (((j : Nat) : Int) + 1)), pb 0 41 (tnC ((f2 sl x).1)), pb 1 41 (tns ((l.take i).map (fun t => (chT ⟨false, sl, true, xl, xa, xo, s, h, d⟩ (endS l) t).1))), pb 2 51 [(PV.fn (.func 34) [] [(.opt 3 0)]), (PV.fn (.func 49) [] [(.opt 4 0)]), (PV.fn (.func 49) [] [(.opt 5 0)]), (PV.fn (.func 40) [] [(.opt 3 0)])], pb 3 29 (chC ⟨false, sl, true, xl, xa, xo, s, h, d⟩), pb 4 65 [(PV.fn (.func 36) [] [(.opt 3 0)])], pb 5 65 [(PV.fn (.func 38) [] [(.opt 3 0)])]]) (obs := [InK .i64 (((j : Nat) : Int) + 1)]) (by kernel_rfl) (obs_cons (by simp only [InK]; omega) (obs_nil)) ?_
                    have hF2 : Far (f2 sl x).1 67108864 := far_f2 hs (by rw [h8] at hF; exact hF)
                    exact T_back ⟨(j + 1, (f2 sl x).1), ⟨by omega, chT_next (f := f2 sl) hx (by rw [h8]; rfl) (by rw [h8]; rfl) h9, by rw [h8]; exact hF2⟩⟩ (Wk.ren3 [ps 7 (.osl 1 0 i), ps 8 (.osl 2 0 4), ps 10 (.opt 0 0), ps 41 (.ssl (tns l) 0 l.length), ps 42 (nv l.length), ps 43 (nv i), ps 47 (.osl 2 0 4), ps 48 (iv 4), ps 49 (nv (j + 1)), pb 0 41 (tnC ((f2 sl x).1)), pb 1 41 (tns ((l.take i).map (fun t => (chT ⟨false, sl, true, xl, xa, xo, s, h, d⟩ (endS l) t).1))), pb 2 51 [(PV.fn (.func 34) [] [(.opt 3 0)]), (PV.fn (.func 49) [] [(.opt 4 0)]), (PV.fn (.func 49) [] [(.opt 5 0)]), (PV.fn (.func 40) [] [(.opt 3 0)])], pb 3 29 (chC ⟨false, sl, true, xl, xa, xo, s, h, d⟩), pb 4 65 [(PV.fn (.func 36) [] [(.opt 3 0)])], pb 5 65 [(PV.fn (.func 38) [] [(.opt 3 0)])]] 0 hc0 [0, 1, 2, 3, 4, 5] [(kb 1, (tns ((l.take i).map (fun t => (chT ⟨false, sl, true, xl, xa, xo, s, h, d⟩ (endS l) t).1))))] (obs_cons (tns_shd _) (obs_nil)) (by kernel_rfl) rfl rfl (by kernel_rfl) (by kernel_rfl)) (show 4 - (j + 1) < 4 - j from by omega)
                  · refine T_then (b := (!(decide (((f2 sl x).2) = 0)))) rfl (congrArg Bool.not (decide_eq_false h9)) ?_
                    refine T_seq ?_
                    refine T_region [] [ks 4, ks 5] (fun _ => mixed) (l' := [ps 4 (.av (.slice none 0 0)), ps 5 (iv ((f2 sl x).2))]) (obs := []) (by kernel_rfl) (obs_nil) ?_
                    rw [chgP_err h1 hc hf (by omega) h9 (chT_err (f := f2 sl) hx (by rw [h8]; rfl) h9)]
                    exact T_ret fun cx_ a_ hI_ => loop_ret (loop_ret (ret_ok (H' := []) (.inr rfl) (Wk.ren2 [ps 4 (.av (.slice none 0 0)), ps 5 (iv ((f2 sl x).2))] 0 hc0 [] rfl rfl (by kernel_rfl) (by kernel_rfl)) rfl (obs_nil) (fun cx_ a_ hI_ => ret_res (l' := [ps 4 (.av (.slice none 0 0)), ps 5 (iv ((f2 sl x).2))]) (by kernel_rfl) cx_ a_ hI_) hI_))
                · by_cases h10 : j = 1
                  · refine T_region [(0, .nat 1)] [ks 7, ks 8, ks 10, ks 13, ks 41, ks 42, ks 43, ks 47, ks 48, ks 49, kb 0, kb 1, kb 2, kb 3, kb 4, kb 5] (fun _ => mixed) (l' := [ps 7 (.osl 1 0 i), ps 8 (.osl 2 0 4), ps 10 (.opt 0 0), ps 13 (PV.fn (.func 49) [] [(.opt 4 0)]), ps 41 (.ssl (tns l) 0 l.length), ps 42 (nv l.length), ps 43 (nv i), ps 47 (.osl 2 0 4), ps 48 (iv 4), ps 49 (nv j), pb 0 41 (tnC x), pb 1 41 (tns ((l.take i).map (fun t => (chT ⟨false, sl, true, xl, xa, xo, s, h, d⟩ (endS l) t).1))), pb 2 51 [(PV.fn (.func 34) [] [(.opt 3 0)]), (PV.fn (.func 49) [] [(.opt 4 0)]), (PV.fn (.func 49) [] [(.opt 5 0)]), (PV.fn (.func 40) [] [(.opt 3 0)])], pb 3 29 (chC ⟨false, sl, true, xl, xa, xo, s, h, d⟩), pb 4 65 [(PV.fn (.func 36) [] [(.opt 3 0)])], pb 5 65 [(PV.fn (.func 38) [] [(.opt 3 0)])]]) (obs := [(0 : Int) ≤ ((j : Nat) : Int) ∧ ((j : Nat) : Int) < ((4 : Nat) : Int), 0 + (((j : Nat) : Int) : Int).toNat * 1 = 1]) (by kernel_rfl) (obs_cons (by omega) (obs_cons (by omega) (obs_nil))) ?_
                    refine T_seq ?_
                    refine T_region [(2, .call [4, 3] [(.agg (tnC x)), (.opt 0 0)] [some (65, [(PV.fn (.func 36) [] [(.opt 1 0)])]), some (29, (chC ⟨false, sl, true, xl, xa, xo, s, h, d⟩))] (.tup [(.agg (tnC ((f3 xl xa xo x).1))), (iv ((f3 xl xa xo x).2))]) [some (65, [(PV.fn (.func 36) [] [(.opt 1 0)])]), some (29, (chC ⟨false, sl, true, xl, xa, xo, s, h, d⟩)), none])] [ks 7, ks 8, ks 10, ks 11, ks 41, ks 42, ks 43, ks 47, ks 48, ks 49, kb 0, kb 1, kb 2, kb 3, kb 4, kb 5] (fun _ => mixed) (l' := [ps 7 (.osl 1 0 i), ps 8 (.osl 2 0 4), ps 10 (.opt 0 0), ps 11 (iv ((f3 xl xa xo x).2)), ps 41 (.ssl (tns l) 0 l.length), ps 42 (nv l.length), ps 43 (nv i), ps 47 (.osl 2 0 4), ps 48 (iv 4), ps 49 (nv j), pb 0 41 (tnC ((f3 xl xa xo x).1)), pb 1 41 (tns ((l.take i).map (fun t => (chT ⟨false, sl, true, xl, xa, xo, s, h, d⟩ (endS l) t).1))), pb 2 51 [(PV.fn (.func 34) [] [(.opt 3 0)]), (PV.fn (.func 49) [] [(.opt 4 0)]), (PV.fn (.func 49) [] [(.opt 5 0)]), (PV.fn (.func 40) [] [(.opt 3 0)])], pb 3 29 (chC ⟨false, sl, true, xl, xa, xo, s, h, d⟩), pb 4 65 [(PV.fn (.func 36) [] [(.opt 3 0)])], pb 5 65 [(PV.fn (.func 38) [] [(.opt 3 0)])]]) (obs := [PC Try.prog 49 [(.agg (tnC x)), (.opt 0 0)] [some (65, [(PV.fn (.func 36) [] [(.opt 1 0)])]), some (29, (chC ⟨false, sl, true, xl, xa, xo, s, h, d⟩))] (.tup [(.agg (tnC ((f3 xl xa xo x).1))), (iv ((f3 xl xa xo x).2))]) [some (65, [(PV.fn (.func 36) [] [(.opt 1 0)])]), some (29, (chC ⟨false, sl, true, xl, xa, xo, s, h, d⟩)), none], [(.agg (tnC x)), (.opt 4 0)] = renL (sigi [4, 3] 54) [(.agg (tnC x)), (.opt 0 0)], [(PV.fn (.func 36) [] [(.opt 3 0)])] = renL (sigi [4, 3] 54) [(PV.fn (.func 36) [] [(.opt 1 0)])], (chC ⟨false, sl, true, xl, xa, xo, s, h, d⟩) = renL (sigi [4, 3] 54) (chC ⟨false, sl, true, xl, xa, xo, s, h, d⟩)]) (by kernel_rfl) (obs_cons (mmir_pc false true sl xl xa xo s h d x) (obs_cons rfl (obs_cons rfl (obs_cons rfl (obs_nil))))) ?_
                    refine T_seq ?_
                    refine T_region [] [ks 7, ks 8, ks 10, ks 11, ks 41, ks 42, ks 43, ks 47, ks 48, ks 49, ks 60, kb 0, kb 1, kb 2, kb 3, kb 4, kb 5] (fun _ => mixed) (l' := [ps 7 (.osl 1 0 i), ps 8 (.osl 2 0 4), ps 10 (.opt 0 0), ps 11 (iv ((f3 xl xa xo x).2)), ps 41 (.ssl (tns l) 0 l.length), ps 42 (nv l.length), ps 43 (nv i), ps 47 (.osl 2 0 4), ps 48 (iv 4), ps 49 (nv j), ps 60 (bv (!(decide (((f3 xl xa xo x).2) = 0)))), pb 0 41 (tnC ((f3 xl xa xo x).1)), pb 1 41 (tns ((l.take i).map (fun t => (chT ⟨false, sl, true, xl, xa, xo, s, h, d⟩ (endS l) t).1))), pb 2 51 [(PV.fn (.func 34) [] [(.opt 3 0)]), (PV.fn (.func 49) [] [(.opt 4 0)]), (PV.fn (.func 49) [] [(.opt 5 0)]), (PV.fn (.func 40) [] [(.opt 3 0)])], pb 3 29 (chC ⟨false, sl, true, xl, xa, xo, s, h, d⟩), pb 4 65 [(PV.fn (.func 36) [] [(.opt 3 0)])], pb 5 65 [(PV.fn (.func 38) [] [(.opt 3 0)])]]) (obs := []) (by kernel_rfl) (obs_nil) ?_
                    by_cases h11 : ((f3 xl xa xo x).2) = 0
                    · refine T_else (b := (!(decide (((f3 xl xa xo x).2) = 0)))) rfl (congrArg Bool.not (decide_eq_true h11)) ?_
                      refine T_skip ?_
                      refine T_blk ?_
                      refine T_region [] [ks 7, ks 8, ks 10, ks 41, ks 42, ks 43, ks 47, ks 48, ks 49, kb 0, kb 1, kb 2, kb 3, kb 4, kb 5] (fun _ => mixed) (l' := [ps 7 (.osl 1 0 i), ps 8 (.osl 2 0 4), ps 10 (.opt 0 0), ps 41 (.ssl (tns l) 0 l.length), ps 42 (nv l.length), ps 43 (nv i), ps 47 (.osl 2 0 4), ps 48 (iv 4), ps 49 (iv (((j : Nat) : Int) + 1)), pb 0 41 (tnC ((f3 xl xa xo x).1)), pb 1 41 (tns ((l.take i).map (fun t => (chT ⟨false, sl, true, xl, xa, xo, s, h, d⟩ (endS l) t).1))), pb 2 51 [(PV.fn (.func 34) [] [(.opt 3 0)]), (PV.fn (.func 49) [] [(.opt 4 0)]), (PV.fn (.func 49) [] [(.opt 5 0)]), (PV.fn (.func 40) [] [(.opt 3 0)])], pb 3 29 (chC ⟨false, sl, true, xl, xa, xo, s, h, d⟩), pb 4 65 [(PV.fn (.func 36) [] [(.opt 3 0)])], pb 5 65 [(PV.fn (.func 38) [] [(.opt 3 0)])]]) (obs := [InK .i64 (((j : Nat) : Int) + 1)]) (by kernel_rfl) (obs_cons (by simp only [InK]; omega) (obs_nil)) ?_
                      have hF2 : Far (f3 xl xa xo x).1 67108864 := far_fp (by rw [h10] at hF; exact hF)
                      exact T_back ⟨(j + 1, (f3 xl xa xo x).1), ⟨by omega, chT_next (f := f3 xl xa xo) hx (by rw [h10]; rfl) (by rw [h10]; rfl) h11, by rw [h10]; exact hF2⟩⟩ (Wk.ren3 [ps 7 (.osl 1 0 i), ps 8 (.osl 2 0 4), ps 10 (.opt 0 0), ps 41 (.ssl (tns l) 0 l.length), ps 42 (nv l.length), ps 43 (nv i), ps 47 (.osl 2 0 4), ps 48 (iv 4), ps 49 (nv (j + 1)), pb 0 41 (tnC ((f3 xl xa xo x).1)), pb 1 41 (tns ((l.take i).map (fun t => (chT ⟨false, sl, true, xl, xa, xo, s, h, d⟩ (endS l) t).1))), pb 2 51 [(PV.fn (.func 34) [] [(.opt 3 0)]), (PV.fn (.func 49) [] [(.opt 4 0)]), (PV.fn (.func 49) [] [(.opt 5 0)]), (PV.fn (.func 40) [] [(.opt 3 0)])], pb 3 29 (chC ⟨false, sl, true, xl, xa, xo, s, h, d⟩), pb 4 65 [(PV.fn (.func 36) [] [(.opt 3 0)])], pb 5 65 [(PV.fn (.func 38) [] [(.opt 3 0)])]] 0 hc0 [0, 1, 2, 3, 4, 5] [(kb 1, (tns ((l.take i).map (fun t => (chT ⟨false, sl, true, xl, xa, xo, s, h, d⟩ (endS l) t).1))))] (obs_cons (tns_shd _) (obs_nil)) (by kernel_rfl) rfl rfl (by kernel_rfl) (by kernel_rfl)) (show 4 - (j + 1) < 4 - j from by omega)
                    · refine T_then (b := (!(decide (((f3 xl xa xo x).2) = 0)))) rfl (congrArg Bool.not (decide_eq_false h11)) ?_
                      refine T_seq ?_
                      refine T_region [] [ks 4, ks 5] (fun _ => mixed) (l' := [ps 4 (.av (.slice none 0 0)), ps 5 (iv ((f3 xl xa xo x).2))]) (obs := []) (by kernel_rfl) (obs_nil) ?_
                      rw [chgP_err h1 hc hf (by omega) h11 (chT_err (f := f3 xl xa xo) hx (by rw [h10]; rfl) h11)]
                      exact T_ret fun cx_ a_ hI_ => loop_ret (loop_ret (ret_ok (H' := []) (.inr rfl) (Wk.ren2 [ps 4 (.av (.slice none 0 0)), ps 5 (iv ((f3 xl xa xo x).2))] 0 hc0 [] rfl rfl (by kernel_rfl) (by kernel_rfl)) rfl (obs_nil) (fun cx_ a_ hI_ => ret_res (l' := [ps 4 (.av (.slice none 0 0)), ps 5 (iv ((f3 xl xa xo x).2))]) (by kernel_rfl) cx_ a_ hI_) hI_))
                  · by_cases h12 : j = 2
                    · refine T_region [(0, .nat 2)] [ks 7, ks 8, ks 10, ks 13, ks 41, ks 42, ks 43, ks 47, ks 48, ks 49, kb 0, kb 1, kb 2, kb 3, kb 4, kb 5] (fun _ => mixed) (l' := [ps 7 (.osl 1 0 i), ps 8 (.osl 2 0 4), ps 10 (.opt 0 0), ps 13 (PV.fn (.func 49) [] [(.opt 5 0)]), ps 41 (.ssl (tns l) 0 l.length), ps 42 (nv l.length), ps 43 (nv i), ps 47 (.osl 2 0 4), ps 48 (iv 4), ps 49 (nv j), pb 0 41 (tnC x), pb 1 41 (tns ((l.take i).map (fun t => (chT ⟨false, sl, true, xl, xa, xo, s, h, d⟩ (endS l) t).1))), pb 2 51 [(PV.fn (.func 34) [] [(.opt 3 0)]), (PV.fn (.func 49) [] [(.opt 4 0)]), (PV.fn (.func 49) [] [(.opt 5 0)]), (PV.fn (.func 40) [] [(.opt 3 0)])], pb 3 29 (chC ⟨false, sl, true, xl, xa, xo, s, h, d⟩), pb 4 65 [(PV.fn (.func 36) [] [(.opt 3 0)])], pb 5 65 [(PV.fn (.func 38) [] [(.opt 3 0)])]]) (obs := [(0 : Int) ≤ ((j : Nat) : Int) ∧ ((j : Nat) : Int) < ((4 : Nat) : Int), 0 + (((j : Nat) : Int) : Int).toNat * 1 = 2]) (by kernel_rfl) (obs_cons (by omega) (obs_cons (by omega) (obs_nil))) ?_
                      refine T_seq ?_
                      refine T_region [(2, .call [5, 3] [(.agg (tnC x)), (.opt 0 0)] [some (65, [(PV.fn (.func 38) [] [(.opt 1 0)])]), some (29, (chC ⟨false, sl, true, xl, xa, xo, s, h, d⟩))] (.tup [(.agg (tnC ((f4 s h x).1))), (iv ((f4 s h x).2))]) [some (65, [(PV.fn (.func 38) [] [(.opt 1 0)])]), some (29, (chC ⟨false, sl, true, xl, xa, xo, s, h, d⟩)), none])] [ks 7, ks 8, ks 10, ks 11, ks 41, ks 42, ks 43, ks 47, ks 48, ks 49, kb 0, kb 1, kb 2, kb 3, kb 4, kb 5] (fun _ => mixed) (l' := [ps 7 (.osl 1 0 i), ps 8 (.osl 2 0 4), ps 10 (.opt 0 0), ps 11 (iv ((f4 s h x).2)), ps 41 (.ssl (tns l) 0 l.length), ps 42 (nv l.length), ps 43 (nv i), ps 47 (.osl 2 0 4), ps 48 (iv 4), ps 49 (nv j), pb 0 41 (tnC ((f4 s h x).1)), pb 1 41 (tns ((l.take i).map (fun t => (chT ⟨false, sl, true, xl, xa, xo, s, h, d⟩ (endS l) t).1))), pb 2 51 [(PV.fn (.func 34) [] [(.opt 3 0)]), (PV.fn (.func 49) [] [(.opt 4 0)]), (PV.fn (.func 49) [] [(.opt 5 0)]), (PV.fn (.func 40) [] [(.opt 3 0)])], pb 3 29 (chC ⟨false, sl, true, xl, xa, xo, s, h, d⟩), pb 4 65 [(PV.fn (.func 36) [] [(.opt 3 0)])], pb 5 65 [(PV.fn (.func 38) [] [(.opt 3 0)])]]) (obs := [PC Try.prog 49 [(.agg (tnC x)), (.opt 0 0)] [some (65, [(PV.fn (.func 38) [] [(.opt 1 0)])]), some (29, (chC ⟨false, sl, true, xl, xa, xo, s, h, d⟩))] (.tup [(.agg (tnC ((f4 s h x).1))), (iv ((f4 s h x).2))]) [some (65, [(PV.fn (.func 38) [] [(.opt 1 0)])]), some (29, (chC ⟨false, sl, true, xl, xa, xo, s, h, d⟩)), none], [(.agg (tnC x)), (.opt 5 0)] = renL (sigi [5, 3] 54) [(.agg (tnC x)), (.opt 0 0)], [(PV.fn (.func 38) [] [(.opt 3 0)])] = renL (sigi [5, 3] 54) [(PV.fn (.func 38) [] [(.opt 1 0)])], (chC ⟨false, sl, true, xl, xa, xo, s, h, d⟩) = renL (sigi [5, 3] 54) (chC ⟨false, sl, true, xl, xa, xo, s, h, d⟩)]) (by kernel_rfl) (obs_cons (mmov_pc false true sl xl xa xo s h d x is ih) (obs_cons rfl (obs_cons rfl (obs_cons rfl (obs_nil))))) ?_
                      refine T_seq ?_
                      refine T_region [] [ks 7, ks 8, ks 10, ks 11, ks 41, ks 42, ks 43, ks 47, ks 48, ks 49, ks 60, kb 0, kb 1, kb 2, kb 3, kb 4, kb 5] (fun _ => mixed) (l' := [ps 7 (.osl 1 0 i), ps 8 (.osl 2 0 4), ps 10 (.opt 0 0), ps 11 (iv ((f4 s h x).2)), ps 41 (.ssl (tns l) 0 l.length), ps 42 (nv l.length), ps 43 (nv i), ps 47 (.osl 2 0 4), ps 48 (iv 4), ps 49 (nv j), ps 60 (bv (!(decide (((f4 s h x).2) = 0)))), pb 0 41 (tnC ((f4 s h x).1)), pb 1 41 (tns ((l.take i).map (fun t => (chT ⟨false, sl, true, xl, xa, xo, s, h, d⟩ (endS l) t).1))), pb 2 51 [(PV.fn (.func 34) [] [(.opt 3 0)]), (PV.fn (.func 49) [] [(.opt 4 0)]), (PV.fn (.func 49) [] [(.opt 5 0)]), (PV.fn (.func 40) [] [(.opt 3 0)])], pb 3 29 (chC ⟨false, sl, true, xl, xa, xo, s, h, d⟩), pb 4 65 [(PV.fn (.func 36) [] [(.opt 3 0)])], pb 5 65 [(PV.fn (.func 38) [] [(.opt 3 0)])]]) (obs := []) (by kernel_rfl) (obs_nil) ?_
                      by_cases h13 : ((f4 s h x).2) = 0
                      · refine T_else (b := (!(decide (((f4 s h x).2) = 0)))) rfl (congrArg Bool.not (decide_eq_true h13)) ?_
                        refine T_skip ?_
                        refine T_blk ?_
                        refine T_region [] [ks 7, ks 8, ks 10, ks 41, ks 42, ks 43, ks 47, ks 48, ks 49, kb 0, kb 1, kb 2, kb 3, kb 4, kb 5] (fun _ => mixed) (l' := [ps 7 (.osl 1 0 i), ps 8 (.osl 2 0 4), ps 10 (.opt 0 0), ps 41 (.ssl (tns l) 0 l.length), ps 42 (nv l.length), ps 43 (nv i), ps 47 (.osl 2 0 4), ps 48 (iv 4), ps 49 (iv (((j : Nat) : Int) + 1)), pb 0 41 (tnC ((f4 s h x).1)), pb 1 41 (tns ((l.take i).map (fun t => (chT ⟨false, sl, true, xl, xa, xo, s, h, d⟩ (endS l) t).1))), pb 2 51 [(PV.fn (.func 34) [] [(.opt 3 0)]), (PV.fn (.func 49) [] [(.opt 4 0)]), (PV.fn (.func 49) [] [(.opt 5 0)]), (PV.fn (.func 40) [] [(.opt 3 0)])], pb 3 29 (chC ⟨false, sl, true, xl, xa, xo, s, h, d⟩), pb 4 65 [(PV.fn (.func 36) [] [(.opt 3 0)])], pb 5 65 [(PV.fn (.func 38) [] [(.opt 3 0)])]]) (obs := [InK .i64 (((j : Nat) : Int) + 1)]) (by kernel_rfl) (obs_cons (by simp only [InK]; omega) (obs_nil)) ?_
                        have hF2 : Far (f4 s h x).1 67108864 := far_fp (by rw [h12] at hF; exact hF)
                        exact T_back ⟨(j + 1, (f4 s h x).1), ⟨by omega, chT_next (f := f4 s h) hx (by rw [h12]; rfl) (by rw [h12]; rfl) h13, by rw [h12]; exact hF2⟩⟩ (Wk.ren3 [ps 7 (.osl 1 0 i), ps 8 (.osl 2 0 4), ps 10 (.opt 0 0), ps 41 (.ssl (tns l) 0 l.length), ps 42 (nv l.length), ps 43 (nv i), ps 47 (.osl 2 0 4), ps 48 (iv 4), ps 49 (nv (j + 1)), pb 0 41 (tnC ((f4 s h x).1)), pb 1 41 (tns ((l.take i).map (fun t => (chT ⟨false, sl, true, xl, xa, xo, s, h, d⟩ (endS l) t).1))), pb 2 51 [(PV.fn (.func 34) [] [(.opt 3 0)]), (PV.fn (.func 49) [] [(.opt 4 0)]), (PV.fn (.func 49) [] [(.opt 5 0)]), (PV.fn (.func 40) [] [(.opt 3 0)])], pb 3 29 (chC ⟨false, sl, true, xl, xa, xo, s, h, d⟩), pb 4 65 [(PV.fn (.func 36) [] [(.opt 3 0)])], pb 5 65 [(PV.fn (.func 38) [] [(.opt 3 0)])]] 0 hc0 [0, 1, 2, 3, 4, 5] [(kb 1, (tns ((l.take i).map (fun t => (chT ⟨false, sl, true, xl, xa, xo, s, h, d⟩ (endS l) t).1))))] (obs_cons (tns_shd _) (obs_nil)) (by kernel_rfl) rfl rfl (by kernel_rfl) (by kernel_rfl)) (show 4 - (j + 1) < 4 - j from by omega)
                      · refine T_then (b := (!(decide (((f4 s h x).2) = 0)))) rfl (congrArg Bool.not (decide_eq_false h13)) ?_
                        refine T_seq ?_
                        refine T_region [] [ks 4, ks 5] (fun _ => mixed) (l' := [ps 4 (.av (.slice none 0 0)), ps 5 (iv ((f4 s h x).2))]) (obs := []) (by kernel_rfl) (obs_nil) ?_
                        rw [chgP_err h1 hc hf (by omega) h13 (chT_err (f := f4 s h) hx (by rw [h12]; rfl) h13)]
                        exact T_ret fun cx_ a_ hI_ => loop_ret (loop_ret (ret_ok (H' := []) (.inr rfl) (Wk.ren2 [ps 4 (.av (.slice none 0 0)), ps 5 (iv ((f4 s h x).2))] 0 hc0 [] rfl rfl (by kernel_rfl) (by kernel_rfl)) rfl (obs_nil) (fun cx_ a_ hI_ => ret_res (l' := [ps 4 (.av (.slice none 0 0)), ps 5 (iv ((f4 s h x).2))]) (by kernel_rfl) cx_ a_ hI_) hI_))
                    · by_cases h14 : j = 3
                      · refine T_region [(0, .nat 3)] [ks 7, ks 8, ks 10, ks 13, ks 41, ks 42, ks 43, ks 47, ks 48, ks 49, kb 0, kb 1, kb 2, kb 3, kb 4, kb 5] (fun _ => mixed) (l' := [ps 7 (.osl 1 0 i), ps 8 (.osl 2 0 4), ps 10 (.opt 0 0), ps 13 (PV.fn (.func 40) [] [(.opt 3 0)]), ps 41 (.ssl (tns l) 0 l.length), ps 42 (nv l.length), ps 43 (nv i), ps 47 (.osl 2 0 4), ps 48 (iv 4), ps 49 (nv j), pb 0 41 (tnC x), pb 1 41 (tns ((l.take i).map (fun t => (chT ⟨false, sl, true, xl, xa, xo, s, h, d⟩ (endS l) t).1))), pb 2 51 [(PV.fn (.func 34) [] [(.opt 3 0)]), (PV.fn (.func 49) [] [(.opt 4 0)]), (PV.fn (.func 49) [] [(.opt 5 0)]), (PV.fn (.func 40) [] [(.opt 3 0)])], pb 3 29 (chC ⟨false, sl, true, xl, xa, xo, s, h, d⟩), pb 4 65 [(PV.fn (.func 36) [] [(.opt 3 0)])], pb 5 65 [(PV.fn (.func 38) [] [(.opt 3 0)])]]) (obs := [(0 : Int) ≤ ((j : Nat) : Int) ∧ ((j : Nat) : Int) < ((4 : Nat) : Int), 0 + (((j : Nat) : Int) : Int).toNat * 1 = 3]) (by kernel_rfl) (obs_cons (by omega) (obs_cons (by omega) (obs_nil))) ?_
                        refine T_seq ?_
                        refine T_region [(2, .call [3] [(.agg (tnC x)), (.opt 0 0)] [some (29, (chC ⟨false, sl, true, xl, xa, xo, s, h, d⟩))] (.tup [(.agg (tnC ((f5 d x).1))), (iv ((f5 d x).2))]) [some (29, (chC ⟨false, sl, true, xl, xa, xo, s, h, d⟩)), none])] [ks 7, ks 8, ks 10, ks 11, ks 41, ks 42, ks 43, ks 47, ks 48, ks 49, kb 0, kb 1, kb 2, kb 3, kb 4, kb 5] (fun _ => mixed) (l' := [ps 7 (.osl 1 0 i), ps 8 (.osl 2 0 4), ps 10 (.opt 0 0), ps 11 (iv ((f5 d x).2)), ps 41 (.ssl (tns l) 0 l.length), ps 42 (nv l.length), ps 43 (nv i), ps 47 (.osl 2 0 4), ps 48 (iv 4), ps 49 (nv j), pb 0 41 (tnC ((f5 d x).1)), pb 1 41 (tns ((l.take i).map (fun t => (chT ⟨false, sl, true, xl, xa, xo, s, h, d⟩ (endS l) t).1))), pb 2 51 [(PV.fn (.func 34) [] [(.opt 3 0)]), (PV.fn (.func 49) [] [(.opt 4 0)]), (PV.fn (.func 49) [] [(.opt 5 0)]), (PV.fn (.func 40) [] [(.opt 3 0)])], pb 3 29 (chC ⟨false, sl, true, xl, xa, xo, s, h, d⟩), pb 4 65 [(PV.fn (.func 36) [] [(.opt 3 0)])], pb 5 65 [(PV.fn (.func 38) [] [(.opt 3 0)])]]) (obs := [PC Try.prog 40 [(.agg (tnC x)), (.opt 0 0)] [some (29, (chC ⟨false, sl, true, xl, xa, xo, s, h, d⟩))] (.tup [(.agg (tnC ((f5 d x).1))), (iv ((f5 d x).2))]) [some (29, (chC ⟨false, sl, true, xl, xa, xo, s, h, d⟩)), none], [(.agg (tnC x)), (.opt 3 0)] = renL (sigi [3] 54) [(.agg (tnC x)), (.opt 0 0)], (chC ⟨false, sl, true, xl, xa, xo, s, h, d⟩) = renL (sigi [3] 54) (chC ⟨false, sl, true, xl, xa, xo, s, h, d⟩)]) (by kernel_rfl) (obs_cons (late_pc false true sl xl xa xo s h d x hd (by rw [h14] at hF; exact hF)) (obs_cons rfl (obs_cons rfl (obs_nil)))) ?_
                        refine T_seq ?_
                        refine T_region [] [ks 7, ks 8, ks 10, ks 11, ks 41, ks 42, ks 43, ks 47, ks 48, ks 49, ks 60, kb 0, kb 1, kb 2, kb 3, kb 4, kb 5] (fun _ => mixed) (l' := [ps 7 (.osl 1 0 i), ps 8 (.osl 2 0 4), ps 10 (.opt 0 0), ps 11 (iv ((f5 d x).2)), ps 41 (.ssl (tns l) 0 l.length), ps 42 (nv l.length), ps 43 (nv i), ps 47 (.osl 2 0 4), ps 48 (iv 4), ps 49 (nv j), ps 60 (bv (!(decide (((f5 d x).2) = 0)))), pb 0 41 (tnC ((f5 d x).1)), pb 1 41 (tns ((l.take i).map (fun t => (chT ⟨false, sl, true, xl, xa, xo, s, h, d⟩ (endS l) t).1))), pb 2 51 [(PV.fn (.func 34) [] [(.opt 3 0)]), (PV.fn (.func 49) [] [(.opt 4 0)]), (PV.fn (.func 49) [] [(.opt 5 0)]), (PV.fn (.func 40) [] [(.opt 3 0)])], pb 3 29 (chC ⟨false, sl, true, xl, xa, xo, s, h, d⟩), pb 4 65 [(PV.fn (.func 36) [] [(.opt 3 0)])], pb 5 65 [(PV.fn (.func 38) [] [(.opt 3 0)])]]) (obs := []) (by kernel_rfl) (obs_nil) ?_
                        by_cases h15 : ((f5 d x).2) = 0
                        · refine T_else (b := (!(decide (((f5 d x).2) = 0)))) rfl (congrArg Bool.not (decide_eq_true h15)) ?_
                          refine T_skip ?_
                          refine T_blk ?_
                          refine T_region [] [ks 7, ks 8, ks 10, ks 41, ks 42, ks 43, ks 47, ks 48, ks 49, kb 0, kb 1, kb 2, kb 3, kb 4, kb 5] (fun _ => mixed) (l' := [ps 7 (.osl 1 0 i), ps 8 (.osl 2 0 4), ps 10 (.opt 0 0), ps 41 (.ssl (tns l) 0 l.length), ps 42 (nv l.length), ps 43 (nv i), ps 47 (.osl 2 0 4), ps 48 (iv 4), ps 49 (iv (((j : Nat) : Int) + 1)), pb 0 41 (tnC ((f5 d x).1)), pb 1 41 (tns ((l.take i).map (fun t => (chT ⟨false, sl, true, xl, xa, xo, s, h, d⟩ (endS l) t).1))), pb 2 51 [(PV.fn (.func 34) [] [(.opt 3 0)]), (PV.fn (.func 49) [] [(.opt 4 0)]), (PV.fn (.func 49) [] [(.opt 5 0)]), (PV.fn (.func 40) [] [(.opt 3 0)])], pb 3 29 (chC ⟨false, sl, true, xl, xa, xo, s, h, d⟩), pb 4 65 [(PV.fn (.func 36) [] [(.opt 3 0)])], pb 5 65 [(PV.fn (.func 38) [] [(.opt 3 0)])]]) (obs := [InK .i64 (((j : Nat) : Int) + 1)]) (by kernel_rfl) (obs_cons (by simp only [InK]; omega) (obs_nil)) ?_
                          have hF2 : Far (f5 d x).1 134217728 := far_f5 hd (by rw [h14] at hF; exact hF)
                          exact T_back ⟨(j + 1, (f5 d x).1), ⟨by omega, chT_next (f := f5 d) hx (by rw [h14]; rfl) (by rw [h14]; rfl) h15, by rw [h14]; exact hF2⟩⟩ (Wk.ren3 [ps 7 (.osl 1 0 i), ps 8 (.osl 2 0 4), ps 10 (.opt 0 0), ps 41 (.ssl (tns l) 0 l.length), ps 42 (nv l.length), ps 43 (nv i), ps 47 (.osl 2 0 4), ps 48 (iv 4), ps 49 (nv (j + 1)), pb 0 41 (tnC ((f5 d x).1)), pb 1 41 (tns ((l.take i).map (fun t => (chT ⟨false, sl, true, xl, xa, xo, s, h, d⟩ (endS l) t).1))), pb 2 51 [(PV.fn (.func 34) [] [(.opt 3 0)]), (PV.fn (.func 49) [] [(.opt 4 0)]), (PV.fn (.func 49) [] [(.opt 5 0)]), (PV.fn (.func 40) [] [(.opt 3 0)])], pb 3 29 (chC ⟨false, sl, true, xl, xa, xo, s, h, d⟩), pb 4 65 [(PV.fn (.func 36) [] [(.opt 3 0)])], pb 5 65 [(PV.fn (.func 38) [] [(.opt 3 0)])]] 0 hc0 [0, 1, 2, 3, 4, 5] [(kb 1, (tns ((l.take i).map (fun t => (chT ⟨false, sl, true, xl, xa, xo, s, h, d⟩ (endS l) t).1))))] (obs_cons (tns_shd _) (obs_nil)) (by kernel_rfl) rfl rfl (by kernel_rfl) (by kernel_rfl)) (show 4 - (j + 1) < 4 - j from by omega)
                        · refine T_then (b := (!(decide (((f5 d x).2) = 0)))) rfl (congrArg Bool.not (decide_eq_false h15)) ?_
                          refine T_seq ?_
                          refine T_region [] [ks 4, ks 5] (fun _ => mixed) (l' := [ps 4 (.av (.slice none 0 0)), ps 5 (iv ((f5 d x).2))]) (obs := []) (by kernel_rfl) (obs_nil) ?_
                          rw [chgP_err h1 hc hf (by omega) h15 (chT_err (f := f5 d) hx (by rw [h14]; rfl) h15)]
                          exact T_ret fun cx_ a_ hI_ => loop_ret (loop_ret (ret_ok (H' := []) (.inr rfl) (Wk.ren2 [ps 4 (.av (.slice none 0 0)), ps 5 (iv ((f5 d x).2))] 0 hc0 [] rfl rfl (by kernel_rfl) (by kernel_rfl)) rfl (obs_nil) (fun cx_ a_ hI_ => ret_res (l' := [ps 4 (.av (.slice none 0 0)), ps 5 (iv ((f5 d x).2))]) (by kernel_rfl) cx_ a_ hI_) hI_))
                      · exfalso; omega
              · refine T_else (b := (decide (((j : Nat) : Int) < 4))) rfl (decide_eq_false h7) ?_
                refine T_break rfl rfl ?_
                refine T_region [(3, .app none (some (tns (((l.take i).map (fun t => (chT ⟨false, sl, true, xl, xa, xo, s, h, d⟩ (endS l) t).1)) ++ [x]))))] [ks 7, ks 8, ks 41, ks 42, ks 43, kb 2, kb 3, kb 4, kb 5, kb 38] (fun _ => mixed) (l' := [ps 7 (.osl 38 0 (i + 1)), ps 8 (.osl 2 0 4), ps 41 (.ssl (tns l) 0 l.length), ps 42 (nv l.length), ps 43 (nv i), pb 2 51 [(PV.fn (.func 34) [] [(.opt 3 0)]), (PV.fn (.func 49) [] [(.opt 4 0)]), (PV.fn (.func 49) [] [(.opt 5 0)]), (PV.fn (.func 40) [] [(.opt 3 0)])], pb 3 29 (chC ⟨false, sl, true, xl, xa, xo, s, h, d⟩), pb 4 65 [(PV.fn (.func 36) [] [(.opt 3 0)])], pb 5 65 [(PV.fn (.func 38) [] [(.opt 3 0)])], pb 38 41 (tns (((l.take i).map (fun t => (chT ⟨false, sl, true, xl, xa, xo, s, h, d⟩ (endS l) t).1)) ++ [x]))]) (obs := [((tns ((l.take i).map (fun t => (chT ⟨false, sl, true, xl, xa, xo, s, h, d⟩ (endS l) t).1)))).length = i * 5, (i + 1) * 40 ≤ 140737488355328 ∧ i + 1 ≤ 9223372036854775807, (tns ((l.take i).map (fun t => (chT ⟨false, sl, true, xl, xa, xo, s, h, d⟩ (endS l) t).1))) ++ (tnC x) = (tns (((l.take i).map (fun t => (chT ⟨false, sl, true, xl, xa, xo, s, h, d⟩ (endS l) t).1)) ++ [x]))]) (by kernel_rfl) (obs_cons (by simp only [tns_len, List.length_map, List.length_take]; omega) (obs_cons (by omega) (obs_cons (flat_app tnC ((l.take i).map (fun t => (chT ⟨false, sl, true, xl, xa, xo, s, h, d⟩ (endS l) t).1)) [x]).symm (obs_nil)))) ?_
                refine T_blk ?_
                refine T_region [] [ks 7, ks 8, ks 41, ks 42, ks 43, kb 2, kb 3, kb 4, kb 5, kb 38] (fun _ => mixed) (l' := [ps 7 (.osl 38 0 (i + 1)), ps 8 (.osl 2 0 4), ps 41 (.ssl (tns l) 0 l.length), ps 42 (nv l.length), ps 43 (iv (((i : Nat) : Int) + 1)), pb 2 51 [(PV.fn (.func 34) [] [(.opt 3 0)]), (PV.fn (.func 49) [] [(.opt 4 0)]), (PV.fn (.func 49) [] [(.opt 5 0)]), (PV.fn (.func 40) [] [(.opt 3 0)])], pb 3 29 (chC ⟨false, sl, true, xl, xa, xo, s, h, d⟩), pb 4 65 [(PV.fn (.func 36) [] [(.opt 3 0)])], pb 5 65 [(PV.fn (.func 38) [] [(.opt 3 0)])], pb 38 41 (tns (((l.take i).map (fun t => (chT ⟨false, sl, true, xl, xa, xo, s, h, d⟩ (endS l) t).1)) ++ [x]))]) (obs := [InK .i64 (((i : Nat) : Int) + 1)]) (by kernel_rfl) (obs_cons (by simp only [InK]; omega) (obs_nil)) ?_
                have hxe : chT ⟨false, sl, true, xl, xa, xo, s, h, d⟩ (endS l) (l.getD i dT) = (x, 0) := by rw [← hx, show j = 4 from by omega]; rfl
                exact T_back ⟨i + 1, ⟨by omega, by rw [fstE_next hf, hxe]⟩⟩ (Wk.trans (Wk.eq (show _ = [ps 7 (.osl 38 0 (i + 1)), ps 8 (.osl 2 0 4), ps 41 (.ssl (tns l) 0 l.length), ps 42 (nv l.length), ps 43 (iv (((i : Nat) : Int) + 1)), pb 2 51 [(PV.fn (.func 34) [] [(.opt 3 0)]), (PV.fn (.func 49) [] [(.opt 4 0)]), (PV.fn (.func 49) [] [(.opt 5 0)]), (PV.fn (.func 40) [] [(.opt 3 0)])], pb 3 29 (chC ⟨false, sl, true, xl, xa, xo, s, h, d⟩), pb 4 65 [(PV.fn (.func 36) [] [(.opt 3 0)])], pb 5 65 [(PV.fn (.func 38) [] [(.opt 3 0)])], pb 38 41 (tns ((l.take (i + 1)).map (fun t => (chT ⟨false, sl, true, xl, xa, xo, s, h, d⟩ (endS l) t).1)))] from by rw [map_next (f := (fun t => (chT ⟨false, sl, true, xl, xa, xo, s, h, d⟩ (endS l) t).1)) (show i < l.length from by omega) (x := x) (by rw [hxe])])) (Wk.ren3 [ps 7 (.osl 0 0 (i + 1)), ps 8 (.osl 1 0 4), ps 41 (.ssl (tns l) 0 l.length), ps 42 (nv l.length), ps 43 (nv (i + 1)), pb 0 41 (tns ((l.take (i + 1)).map (fun t => (chT ⟨false, sl, true, xl, xa, xo, s, h, d⟩ (endS l) t).1))), pb 1 51 [(PV.fn (.func 34) [] [(.opt 2 0)]), (PV.fn (.func 49) [] [(.opt 3 0)]), (PV.fn (.func 49) [] [(.opt 4 0)]), (PV.fn (.func 40) [] [(.opt 2 0)])], pb 2 29 (chC ⟨false, sl, true, xl, xa, xo, s, h, d⟩), pb 3 65 [(PV.fn (.func 36) [] [(.opt 2 0)])], pb 4 65 [(PV.fn (.func 38) [] [(.opt 2 0)])]] 0 hc0 [38, 2, 3, 4, 5] [(kb 0, (tns ((l.take (i + 1)).map (fun t => (chT ⟨false, sl, true, xl, xa, xo, s, h, d⟩ (endS l) t).1))))] (obs_cons (tns_shd _) (obs_nil)) (by kernel_rfl) rfl rfl (by kernel_rfl) (by kernel_rfl))) (show l.length - (i + 1) < l.length - i from by omega)
            · refine T_else (b := (decide (((i : Nat) : Int) < ((l.length : Nat) : Int)))) rfl (decide_eq_false h6) ?_
              refine T_break rfl rfl ?_
              refine T_seq ?_
              have hil : i = l.length := by omega
              rw [hil] at hf
              have hBd : Bd (l.map (fun t => (chT ⟨false, sl, true, xl, xa, xo, s, h, d⟩ (endS l) t).1)) := fun x hx => (map_bd hl hc hf x hx).bd
              refine T_wk (Wk.eq (show _ = [ps 7 (.osl 0 0 l.length), ps 8 (.osl 1 0 4), ps 41 (.ssl (tns l) 0 l.length), ps 42 (nv l.length), ps 43 (nv i), ps 44 (bv (decide (((i : Nat) : Int) < ((l.length : Nat) : Int)))), pb 0 41 (tns (l.map (fun t => (chT ⟨false, sl, true, xl, xa, xo, s, h, d⟩ (endS l) t).1))), pb 1 51 [(PV.fn (.func 34) [] [(.opt 2 0)]), (PV.fn (.func 49) [] [(.opt 3 0)]), (PV.fn (.func 49) [] [(.opt 4 0)]), (PV.fn (.func 40) [] [(.opt 2 0)])], pb 2 29 (chC ⟨false, sl, true, xl, xa, xo, s, h, d⟩), pb 3 65 [(PV.fn (.func 36) [] [(.opt 2 0)])], pb 4 65 [(PV.fn (.func 38) [] [(.opt 2 0)])]] from by rw [hil, List.take_length])) ?_
              refine T_region [(1, .call [0] [(.osl 0 0 l.length), (fv 22)] [some (41, (tns (l.map (fun t => (chT ⟨false, sl, true, xl, xa, xo, s, h, d⟩ (endS l) t).1))))] (.tup []) [some (41, (tns (sortT (l.map (fun t => (chT ⟨false, sl, true, xl, xa, xo, s, h, d⟩ (endS l) t).1)))))])] [ks 7, kb 0] (fun _ => mixed) (l' := [ps 7 (.osl 0 0 l.length), pb 0 41 (renL (sigo [0] 21) (tns (sortT (l.map (fun t => (chT ⟨false, sl, true, xl, xa, xo, s, h, d⟩ (endS l) t).1)))))]) (obs := [PC Try.prog 21 [(.osl 0 0 l.length), (fv 22)] [some (41, (tns (l.map (fun t => (chT ⟨false, sl, true, xl, xa, xo, s, h, d⟩ (endS l) t).1))))] (.tup []) [some (41, (tns (sortT (l.map (fun t => (chT ⟨false, sl, true, xl, xa, xo, s, h, d⟩ (endS l) t).1)))))], [(.osl 0 0 l.length), (fv 22)] = renL (sigi [0] 21) [(.osl 0 0 l.length), (fv 22)], (tns (l.map (fun t => (chT ⟨false, sl, true, xl, xa, xo, s, h, d⟩ (endS l) t).1))) = renL (sigi [0] 21) (tns (l.map (fun t => (chT ⟨false, sl, true, xl, xa, xo, s, h, d⟩ (endS l) t).1)))]) (by kernel_rfl) (obs_cons (sort_pc (l.map (fun t => (chT ⟨false, sl, true, xl, xa, xo, s, h, d⟩ (endS l) t).1)) l.length (by rw [List.length_map]) (by omega) hBd) (obs_cons rfl (obs_cons (renL_shd (tns_shd _)).symm (obs_nil)))) ?_
              refine T_wk (Wk.eq (show _ = [ps 7 (.osl 0 0 l.length), pb 0 41 (tns (sortT (l.map (fun t => (chT ⟨false, sl, true, xl, xa, xo, s, h, d⟩ (endS l) t).1))))] from by simp only [renL_shd (tns_shd _)])) ?_
              refine T_seq ?_
              refine T_region [] [ks 4, ks 5, kb 0] (fun _ => mixed) (l' := [ps 4 (.osl 0 0 l.length), ps 5 (iv 0), pb 0 41 (tns (sortT (l.map (fun t => (chT ⟨false, sl, true, xl, xa, xo, s, h, d⟩ (endS l) t).1))))]) (obs := []) (by kernel_rfl) (obs_nil) ?_
              refine T_wk (Wk.eq (show _ = [ps 4 (.osl 0 0 ((sortT (l.map (fun t => (chT ⟨false, sl, true, xl, xa, xo, s, h, d⟩ (endS l) t).1))).length)), ps 5 (iv 0), pb 0 41 (tns (sortT (l.map (fun t => (chT ⟨false, sl, true, xl, xa, xo, s, h, d⟩ (endS l) t).1))))] from by rw [sortT_len, List.length_map])) ?_
              refine T_wk (Wk.frz (l' := [ps 4 (.ssl (tns (sortT (l.map (fun t => (chT ⟨false, sl, true, xl, xa, xo, s, h, d⟩ (endS l) t).1)))) 0 ((sortT (l.map (fun t => (chT ⟨false, sl, true, xl, xa, xo, s, h, d⟩ (endS l) t).1))).length)), ps 5 (iv 0), (kb 0, none)]) 0 (T := 41) (cs := (tns (sortT (l.map (fun t => (chT ⟨false, sl, true, xl, xa, xo, s, h, d⟩ (endS l) t).1))))) (by kernel_rfl) (tns_shd _) (by kernel_rfl)) ?_
              refine T_wk (Wk.less (l' := [ps 4 (.ssl (tns (sortT (l.map (fun t => (chT ⟨false, sl, true, xl, xa, xo, s, h, d⟩ (endS l) t).1)))) 0 ((sortT (l.map (fun t => (chT ⟨false, sl, true, xl, xa, xo, s, h, d⟩ (endS l) t).1))).length)), ps 5 (iv 0)]) 53 (by kernel_rfl) (by kernel_rfl)) ?_
              rw [chgP_ok h1 hc hf]
              exact T_ret fun cx_ a_ hI_ => ret_ok (H' := []) (.inr rfl) (Wk.ren2 [ps 4 (.ssl (tns (sortT (l.map (fun t => (chT ⟨false, sl, true, xl, xa, xo, s, h, d⟩ (endS l) t).1)))) 0 ((sortT (l.map (fun t => (chT ⟨false, sl, true, xl, xa, xo, s, h, d⟩ (endS l) t).1))).length)), ps 5 (iv 0)] 0 hc0 [] rfl rfl (by kernel_rfl) (by kernel_rfl)) rfl (obs_nil) (fun cx_ a_ hI_ => ret_res (l' := [ps 4 (.ssl (tns (sortT (l.map (fun t => (chT ⟨false, sl, true, xl, xa, xo, s, h, d⟩ (endS l) t).1)))) 0 ((sortT (l.map (fun t => (chT ⟨false, sl, true, xl, xa, xo, s, h, d⟩ (endS l) t).1))).length)), ps 5 (iv 0)]) (by kernel_rfl) cx_ a_ hI_) hI_
  · refine T_then (b := (!(decide ((wrongS l) = 0)))) rfl (congrArg Bool.not (decide_eq_false h1)) ?_
    refine T_seq ?_
    refine T_region [] [ks 4, ks 5] (fun _ => mixed) (l' := [ps 4 (.av (.slice none 0 0)), ps 5 (iv (wrongS l))]) (obs := []) (by kernel_rfl) (obs_nil) ?_
    rw [chgP_wrong h1]
    exact T_ret fun cx_ a_ hI_ => ret_ok (H' := []) (.inr rfl) (Wk.ren2 [ps 4 (.av (.slice none 0 0)), ps 5 (iv (wrongS l))] 0 hc0 [] rfl rfl (by kernel_rfl) (by kernel_rfl)) rfl (obs_nil) (fun cx_ a_ hI_ => ret_res (l' := [ps 4 (.av (.slice none 0 0)), ps 5 (iv (wrongS l))]) (by kernel_rfl) cx_ a_ hI_) hI_
end Go.Proofs.Ytjdblogapkbefaa.Pm
namespace Go.Proofs.Ytjdblogapkbefaa.Pm
open Go Go.Proofs.Ytjdblogapkbefaa.Pi

set_option maxRecDepth 100000 in
set_option maxHeartbeats 4000000 in
theorem apply_10 (sl xl xa xo s h d : Int) (l : List Tn) (is : I64 s) (ih : I64 h) : PC Try.prog 8 [(.agg (chC ⟨true, sl, false, xl, xa, xo, s, h, d⟩)), (.ssl (tns l) 0 l.length)] [] (chgP ⟨true, sl, false, xl, xa, xo, s, h, d⟩ l) [] := by
  refine pc_intro Try.func8 rfl (by kernel_rfl) (Nat.le_of_ble_eq_true rfl) (by kernel_rfl) (l0 := [ps 0 (.agg (chC ⟨true, sl, false, xl, xa, xo, s, h, d⟩)), ps 1 (.ssl (tns l) 0 l.length)]) rfl (fun c0 Bor hc0 => ?_)
  refine T_seq ?_
  refine T_region [] [ks 1, ks 2, kb 0] (fun _ => mixed) (l' := [ps 1 (.ssl (tns l) 0 l.length), ps 2 (.opt 0 0), pb 0 29 (chC ⟨true, sl, false, xl, xa, xo, s, h, d⟩)]) (obs := []) (by kernel_rfl) (obs_nil) ?_
  refine T_seq ?_
  refine T_seq ?_
  refine T_region [(1, .call [] [(.ssl (tns l) 0 l.length)] [] (iv (wrongS l)) [])] [ks 1, ks 2, ks 6, kb 0] (fun _ => mixed) (l' := [ps 1 (.ssl (tns l) 0 l.length), ps 2 (.opt 0 0), ps 6 (iv (wrongS l)), pb 0 29 (chC ⟨true, sl, false, xl, xa, xo, s, h, d⟩)]) (obs := [PC Try.prog 10 [(.ssl (tns l) 0 l.length)] [] (iv (wrongS l)) [], [(.ssl (tns l) 0 l.length)] = renL (sigi [] 32) [(.ssl (tns l) 0 l.length)]]) (by kernel_rfl) (obs_cons (wrong_pc l) (obs_cons rfl (obs_nil))) ?_
  refine T_seq ?_
  refine T_region [] [ks 1, ks 2, ks 6, ks 17, kb 0] (fun _ => mixed) (l' := [ps 1 (.ssl (tns l) 0 l.length), ps 2 (.opt 0 0), ps 6 (iv (wrongS l)), ps 17 (bv (!(decide ((wrongS l) = 0)))), pb 0 29 (chC ⟨true, sl, false, xl, xa, xo, s, h, d⟩)]) (obs := []) (by kernel_rfl) (obs_nil) ?_
  by_cases h1 : (wrongS l) = 0
  · refine T_else (b := (!(decide ((wrongS l) = 0)))) rfl (congrArg Bool.not (decide_eq_true h1)) ?_
    refine T_skip ?_
    refine T_seq ?_
    refine T_seq ?_
    by_cases h2 : sl < 1
    · refine T_region [(4, .gd true .no), (5, .gd true .no), (6, .gd true .no), (7, .yes true), (9, .gd true .no), (10, .gd true .no), (11, .gd true .no), (14, .gd true .no), (15, .gd true .no), (16, .gd true .no)] [ks 1, ks 2, ks 36, kb 0] (fun _ => mixed) (l' := [ps 1 (.ssl (tns l) 0 l.length), ps 2 (.opt 0 0), ps 36 (bv true), pb 0 29 (chC ⟨true, sl, false, xl, xa, xo, s, h, d⟩)]) (obs := [(decide (sl < 1)) = true, (decide (sl < 1)) = true, (decide (sl < 1)) = true, (decide (sl < 1)) = true, true = true, true = true, true = true, true = true, true = true, true = true]) (by kernel_rfl) (obs_cons (decide_eq_true h2) (obs_cons (decide_eq_true h2) (obs_cons (decide_eq_true h2) (obs_cons (decide_eq_true h2) (obs_cons rfl (obs_cons rfl (obs_cons rfl (obs_cons rfl (obs_cons rfl (obs_cons rfl (obs_nil))))))))))) ?_
      refine T_then (b := true) rfl rfl ?_
      refine T_seq ?_
      refine T_region [] [ks 4, ks 5] (fun _ => mixed) (l' := [ps 4 (.av (.slice none 0 0)), ps 5 (iv 3)]) (obs := []) (by kernel_rfl) (obs_nil) ?_
      rw [chgP_bad h1 (by unfold chBad; show sl < 1 ∨ 16 < sl ∨ d < 0 ∨ 1048576 < d; omega)]
      exact T_ret fun cx_ a_ hI_ => ret_ok (H' := []) (.inr rfl) (Wk.ren2 [ps 4 (.av (.slice none 0 0)), ps 5 (iv 3)] 0 hc0 [] rfl rfl (by kernel_rfl) (by kernel_rfl)) rfl (obs_nil) (fun cx_ a_ hI_ => ret_res (l' := [ps 4 (.av (.slice none 0 0)), ps 5 (iv 3)]) (by kernel_rfl) cx_ a_ hI_) hI_
    · by_cases h3 : 16 < sl
      · refine T_region [(4, .gd false (.no)), (5, .gd false (.no)), (6, .gd false (.no)), (7, .yes false), (9, .gd true .no), (10, .gd true .no), (11, .gd true .no), (12, .yes true), (14, .gd true .no), (15, .gd true .no), (16, .gd true .no)] [ks 1, ks 2, ks 36, kb 0] (fun _ => mixed) (l' := [ps 1 (.ssl (tns l) 0 l.length), ps 2 (.opt 0 0), ps 36 (bv true), pb 0 29 (chC ⟨true, sl, false, xl, xa, xo, s, h, d⟩)]) (obs := [(decide (sl < 1)) = false, (decide (sl < 1)) = false, (decide (sl < 1)) = false, (decide (sl < 1)) = false, (decide (16 < sl)) = true, (decide (16 < sl)) = true, (decide (16 < sl)) = true, (decide (16 < sl)) = true, true = true, true = true, true = true]) (by kernel_rfl) (obs_cons (decide_eq_false h2) (obs_cons (decide_eq_false h2) (obs_cons (decide_eq_false h2) (obs_cons (decide_eq_false h2) (obs_cons (decide_eq_true h3) (obs_cons (decide_eq_true h3) (obs_cons (decide_eq_true h3) (obs_cons (decide_eq_true h3) (obs_cons rfl (obs_cons rfl (obs_cons rfl (obs_nil)))))))))))) ?_
        refine T_then (b := true) rfl rfl ?_
        refine T_seq ?_
        refine T_region [] [ks 4, ks 5] (fun _ => mixed) (l' := [ps 4 (.av (.slice none 0 0)), ps 5 (iv 3)]) (obs := []) (by kernel_rfl) (obs_nil) ?_
        rw [chgP_bad h1 (by unfold chBad; show sl < 1 ∨ 16 < sl ∨ d < 0 ∨ 1048576 < d; omega)]
        exact T_ret fun cx_ a_ hI_ => ret_ok (H' := []) (.inr rfl) (Wk.ren2 [ps 4 (.av (.slice none 0 0)), ps 5 (iv 3)] 0 hc0 [] rfl rfl (by kernel_rfl) (by kernel_rfl)) rfl (obs_nil) (fun cx_ a_ hI_ => ret_res (l' := [ps 4 (.av (.slice none 0 0)), ps 5 (iv 3)]) (by kernel_rfl) cx_ a_ hI_) hI_
      · by_cases h4 : d < 0
        · refine T_region [(4, .gd false (.no)), (5, .gd false (.no)), (6, .gd false (.no)), (7, .yes false), (9, .gd false (.no)), (10, .gd false (.no)), (11, .gd false (.no)), (12, .yes false), (14, .gd true .no), (15, .gd true .no), (16, .gd true .no), (17, .yes true)] [ks 1, ks 2, ks 36, kb 0] (fun _ => mixed) (l' := [ps 1 (.ssl (tns l) 0 l.length), ps 2 (.opt 0 0), ps 36 (bv true), pb 0 29 (chC ⟨true, sl, false, xl, xa, xo, s, h, d⟩)]) (obs := [(decide (sl < 1)) = false, (decide (sl < 1)) = false, (decide (sl < 1)) = false, (decide (sl < 1)) = false, (decide (16 < sl)) = false, (decide (16 < sl)) = false, (decide (16 < sl)) = false, (decide (16 < sl)) = false, (decide (d < 0)) = true, (decide (d < 0)) = true, (decide (d < 0)) = true, (decide (d < 0)) = true]) (by kernel_rfl) (obs_cons (decide_eq_false h2) (obs_cons (decide_eq_false h2) (obs_cons (decide_eq_false h2) (obs_cons (decide_eq_false h2) (obs_cons (decide_eq_false h3) (obs_cons (decide_eq_false h3) (obs_cons (decide_eq_false h3) (obs_cons (decide_eq_false h3) (obs_cons (decide_eq_true h4) (obs_cons (decide_eq_true h4) (obs_cons (decide_eq_true h4) (obs_cons (decide_eq_true h4) (obs_nil))))))))))))) ?_
          refine T_then (b := true) rfl rfl ?_
          refine T_seq ?_
          refine T_region [] [ks 4, ks 5] (fun _ => mixed) (l' := [ps 4 (.av (.slice none 0 0)), ps 5 (iv 3)]) (obs := []) (by kernel_rfl) (obs_nil) ?_
          rw [chgP_bad h1 (by unfold chBad; show sl < 1 ∨ 16 < sl ∨ d < 0 ∨ 1048576 < d; omega)]
          exact T_ret fun cx_ a_ hI_ => ret_ok (H' := []) (.inr rfl) (Wk.ren2 [ps 4 (.av (.slice none 0 0)), ps 5 (iv 3)] 0 hc0 [] rfl rfl (by kernel_rfl) (by kernel_rfl)) rfl (obs_nil) (fun cx_ a_ hI_ => ret_res (l' := [ps 4 (.av (.slice none 0 0)), ps 5 (iv 3)]) (by kernel_rfl) cx_ a_ hI_) hI_
        · refine T_region [(4, .gd false (.no)), (5, .gd false (.no)), (6, .gd false (.no)), (7, .yes false), (9, .gd false (.no)), (10, .gd false (.no)), (11, .gd false (.no)), (12, .yes false), (14, .gd false (.no)), (15, .gd false (.no)), (16, .gd false (.no)), (17, .yes false)] [ks 1, ks 2, ks 36, kb 0] (fun _ => mixed) (l' := [ps 1 (.ssl (tns l) 0 l.length), ps 2 (.opt 0 0), ps 36 (bv (decide (1048576 < d))), pb 0 29 (chC ⟨true, sl, false, xl, xa, xo, s, h, d⟩)]) (obs := [(decide (sl < 1)) = false, (decide (sl < 1)) = false, (decide (sl < 1)) = false, (decide (sl < 1)) = false, (decide (16 < sl)) = false, (decide (16 < sl)) = false, (decide (16 < sl)) = false, (decide (16 < sl)) = false, (decide (d < 0)) = false, (decide (d < 0)) = false, (decide (d < 0)) = false, (decide (d < 0)) = false]) (by kernel_rfl) (obs_cons (decide_eq_false h2) (obs_cons (decide_eq_false h2) (obs_cons (decide_eq_false h2) (obs_cons (decide_eq_false h2) (obs_cons (decide_eq_false h3) (obs_cons (decide_eq_false h3) (obs_cons (decide_eq_false h3) (obs_cons (decide_eq_false h3) (obs_cons (decide_eq_false h4) (obs_cons (decide_eq_false h4) (obs_cons (decide_eq_false h4) (obs_cons (decide_eq_false h4) (obs_nil))))))))))))) ?_
          by_cases h5 : 1048576 < d
          · refine T_then (b := (decide (1048576 < d))) rfl (decide_eq_true h5) ?_
            refine T_seq ?_
            refine T_region [] [ks 4, ks 5] (fun _ => mixed) (l' := [ps 4 (.av (.slice none 0 0)), ps 5 (iv 3)]) (obs := []) (by kernel_rfl) (obs_nil) ?_
            rw [chgP_bad h1 (by unfold chBad; show sl < 1 ∨ 16 < sl ∨ d < 0 ∨ 1048576 < d; omega)]
            exact T_ret fun cx_ a_ hI_ => ret_ok (H' := []) (.inr rfl) (Wk.ren2 [ps 4 (.av (.slice none 0 0)), ps 5 (iv 3)] 0 hc0 [] rfl rfl (by kernel_rfl) (by kernel_rfl)) rfl (obs_nil) (fun cx_ a_ hI_ => ret_res (l' := [ps 4 (.av (.slice none 0 0)), ps 5 (iv 3)]) (by kernel_rfl) cx_ a_ hI_) hI_
          · refine T_else (b := (decide (1048576 < d))) rfl (decide_eq_false h5) ?_
            refine T_skip ?_
            refine T_seq ?_
            refine T_region [] [ks 1, ks 2, ks 7, kb 0] (fun _ => mixed) (l' := [ps 1 (.ssl (tns l) 0 l.length), ps 2 (.opt 0 0), ps 7 (.av (.slice none 0 0)), pb 0 29 (chC ⟨true, sl, false, xl, xa, xo, s, h, d⟩)]) (obs := []) (by kernel_rfl) (obs_nil) ?_
            refine T_seq ?_
            have hl := wrong_iff.1 h1
            have hlen := hl.len
            have hE := endN_bd hl (Nat.le_refl l.length)
            have hs : 1 ≤ sl ∧ sl ≤ 16 := by omega
            have hd : 0 ≤ d ∧ d ≤ 1048576 := by omega
            have hc : ¬ chBad ⟨true, sl, false, xl, xa, xo, s, h, d⟩ := by unfold chBad; show ¬ (sl < 1 ∨ 16 < sl ∨ d < 0 ∨ 1048576 < d); omega
            refine T_regionD [(2, .call [] [(.ssl (tns l) 0 l.length)] [] (iv (endS l)) []), (3, .call [] [(.agg (chC ⟨true, sl, false, xl, xa, xo, s, h, d⟩)), (iv (endS l))] [] (.osl 3 0 4) [some (29, (chC ⟨true, sl, false, xl, xa, xo, s, h, d⟩)), some (65, [(PV.fn (.func 38) [] [(.opt 0 0)])]), some (3, [(iv (endS l))]), some (51, [(PV.fn (.func 33) [] [(.opt 2 0)]), (PV.fn (.func 34) [] [(.opt 0 0)]), (PV.fn (.func 49) [] [(.opt 1 0)]), (PV.fn (.func 40) [] [(.opt 0 0)])])])] [[], [], [1], [0, 1, 2], [0, 1, 2, 3]] [([74], [1, 4]), ([76], [2]), ([78], [76]), ([80, 481, 483, 485, 487], [74, 78]), ([16], [80])] [ks 1, ks 7, ks 8, kb 240, kb 241, kb 242, kb 243] (l' := [ps 1 (.ssl (tns l) 0 l.length), ps 7 (.av (.slice none 0 0)), ps 8 (.osl 243 0 4), pb 240 29 (chC ⟨true, sl, false, xl, xa, xo, s, h, d⟩), pb 241 65 [(PV.fn (.func 38) [] [(.opt 240 0)])], pb 242 3 [(iv (endS l))], pb 243 51 [(PV.fn (.func 33) [] [(.opt 242 0)]), (PV.fn (.func 34) [] [(.opt 240 0)]), (PV.fn (.func 49) [] [(.opt 241 0)]), (PV.fn (.func 40) [] [(.opt 240 0)])]]) (obs := [PC Try.prog 15 [(.ssl (tns l) 0 l.length)] [] (iv (endS l)) [], [(.ssl (tns l) 0 l.length)] = renL (sigi [] 232) [(.ssl (tns l) 0 l.length)], PC Try.prog 20 [(.agg (chC ⟨true, sl, false, xl, xa, xo, s, h, d⟩)), (iv (endS l))] [] (.osl 3 0 4) [some (29, (chC ⟨true, sl, false, xl, xa, xo, s, h, d⟩)), some (65, [(PV.fn (.func 38) [] [(.opt 0 0)])]), some (3, [(iv (endS l))]), some (51, [(PV.fn (.func 33) [] [(.opt 2 0)]), (PV.fn (.func 34) [] [(.opt 0 0)]), (PV.fn (.func 49) [] [(.opt 1 0)]), (PV.fn (.func 40) [] [(.opt 0 0)])])], [(.agg (chC ⟨true, sl, false, xl, xa, xo, s, h, d⟩)), (iv (endS l))] = renL (sigi [] 240) [(.agg (chC ⟨true, sl, false, xl, xa, xo, s, h, d⟩)), (iv (endS l))]]) mixed (by kernel_rfl) (by kernel_rfl) (obs_cons (end_pc l (wrong_iff.1 h1)) (obs_cons rfl (obs_cons (steps_10 sl xl xa xo s h d (endS l)) (obs_cons rfl (obs_nil))))) ?_
            refine T_seq ?_
            refine T_seq ?_
            refine T_region [] [ks 7, ks 8, ks 41, ks 42, ks 43, kb 240, kb 241, kb 242, kb 243] (fun _ => mixed) (l' := [ps 7 (.av (.slice none 0 0)), ps 8 (.osl 243 0 4), ps 41 (.ssl (tns l) 0 l.length), ps 42 (nv l.length), ps 43 (iv 0), pb 240 29 (chC ⟨true, sl, false, xl, xa, xo, s, h, d⟩), pb 241 65 [(PV.fn (.func 38) [] [(.opt 240 0)])], pb 242 3 [(iv (endS l))], pb 243 51 [(PV.fn (.func 33) [] [(.opt 242 0)]), (PV.fn (.func 34) [] [(.opt 240 0)]), (PV.fn (.func 49) [] [(.opt 241 0)]), (PV.fn (.func 40) [] [(.opt 240 0)])]]) (obs := []) (by kernel_rfl) (obs_nil) ?_
            refine T_block ?_
            refine T_wk (Wk.nil (s := 7) 41 (by kernel_rfl)) ?_
            refine T_wk (Wk.less (l' := [ps 7 (.osl 280 0 0), ps 8 (.osl 243 0 4), ps 41 (.ssl (tns l) 0 l.length), ps 42 (nv l.length), ps 43 (iv 0), pb 240 29 (chC ⟨true, sl, false, xl, xa, xo, s, h, d⟩), pb 241 65 [(PV.fn (.func 38) [] [(.opt 240 0)])], pb 242 3 [(iv (endS l))], pb 243 51 [(PV.fn (.func 33) [] [(.opt 242 0)]), (PV.fn (.func 34) [] [(.opt 240 0)]), (PV.fn (.func 49) [] [(.opt 241 0)]), (PV.fn (.func 40) [] [(.opt 240 0)])], pb 280 41 []]) 281 (by kernel_rfl) (by kernel_rfl)) ?_
            refine T_wk (Wk.eq (show _ = [ps 7 (.osl 280 0 0), ps 8 (.osl 243 0 4), ps 41 (.ssl (tns l) 0 l.length), ps 42 (nv l.length), ps 43 (iv 0), pb 240 29 (chC ⟨true, sl, false, xl, xa, xo, s, h, d⟩), pb 241 65 [(PV.fn (.func 38) [] [(.opt 240 0)])], pb 242 3 [(iv (endS l))], pb 243 51 [(PV.fn (.func 33) [] [(.opt 242 0)]), (PV.fn (.func 34) [] [(.opt 240 0)]), (PV.fn (.func 49) [] [(.opt 241 0)]), (PV.fn (.func 40) [] [(.opt 240 0)])], pb 280 41 (tns ((l.take 0).map (fun t => (chT ⟨true, sl, false, xl, xa, xo, s, h, d⟩ (endS l) t).1)))] from by rfl)) ?_
            refine T_loop (α := {x : Nat // x ≤ l.length ∧ fstE (fun x => (chT ⟨true, sl, false, xl, xa, xo, s, h, d⟩ (endS l) (l.getD x dT)).2) x = 0}) (fun x => [ps 7 (.osl 0 0 x.1), ps 8 (.osl 1 0 4), ps 41 (.ssl (tns l) 0 l.length), ps 42 (nv l.length), ps 43 (nv x.1), pb 0 41 (tns ((l.take x.1).map (fun t => (chT ⟨true, sl, false, xl, xa, xo, s, h, d⟩ (endS l) t).1))), pb 1 51 [(PV.fn (.func 33) [] [(.opt 2 0)]), (PV.fn (.func 34) [] [(.opt 3 0)]), (PV.fn (.func 49) [] [(.opt 4 0)]), (PV.fn (.func 40) [] [(.opt 3 0)])], pb 2 3 [(iv (endS l))], pb 3 29 (chC ⟨true, sl, false, xl, xa, xo, s, h, d⟩), pb 4 65 [(PV.fn (.func 38) [] [(.opt 3 0)])]]) (fun x => l.length - x.1) 5 ⟨0, ⟨Nat.zero_le _, rfl⟩⟩ (Wk.ren3 [ps 7 (.osl 0 0 0), ps 8 (.osl 1 0 4), ps 41 (.ssl (tns l) 0 l.length), ps 42 (nv l.length), ps 43 (nv 0), pb 0 41 (tns ((l.take 0).map (fun t => (chT ⟨true, sl, false, xl, xa, xo, s, h, d⟩ (endS l) t).1))), pb 1 51 [(PV.fn (.func 33) [] [(.opt 2 0)]), (PV.fn (.func 34) [] [(.opt 3 0)]), (PV.fn (.func 49) [] [(.opt 4 0)]), (PV.fn (.func 40) [] [(.opt 3 0)])], pb 2 3 [(iv (endS l))], pb 3 29 (chC ⟨true, sl, false, xl, xa, xo, s, h, d⟩), pb 4 65 [(PV.fn (.func 38) [] [(.opt 3 0)])]] 0 hc0 [280, 243, 242, 240, 241] [(kb 0, (tns ((l.take 0).map (fun t => (chT ⟨true, sl, false, xl, xa, xo, s, h, d⟩ (endS l) t).1))))] (obs_cons (tns_shd _) (obs_nil)) (by kernel_rfl) rfl rfl (by kernel_rfl) (by kernel_rfl)) ?_
            rintro ⟨i, ⟨hi, hf⟩⟩
            refine T_seq ?_
            refine T_region [] [ks 7, ks 8, ks 41, ks 42, ks 43, ks 44, kb 0, kb 1, kb 2, kb 3, kb 4] (fun _ => mixed) (l' := [ps 7 (.osl 0 0 i), ps 8 (.osl 1 0 4), ps 41 (.ssl (tns l) 0 l.length), ps 42 (nv l.length), ps 43 (nv i), ps 44 (bv (decide (((i : Nat) : Int) < ((l.length : Nat) : Int)))), pb 0 41 (tns ((l.take i).map (fun t => (chT ⟨true, sl, false, xl, xa, xo, s, h, d⟩ (endS l) t).1))), pb 1 51 [(PV.fn (.func 33) [] [(.opt 2 0)]), (PV.fn (.func 34) [] [(.opt 3 0)]), (PV.fn (.func 49) [] [(.opt 4 0)]), (PV.fn (.func 40) [] [(.opt 3 0)])], pb 2 3 [(iv (endS l))], pb 3 29 (chC ⟨true, sl, false, xl, xa, xo, s, h, d⟩), pb 4 65 [(PV.fn (.func 38) [] [(.opt 3 0)])]]) (obs := []) (by kernel_rfl) (obs_nil) ?_
            refine T_seq ?_
            by_cases h6 : ((i : Nat) : Int) < ((l.length : Nat) : Int)
            · refine T_then (b := (decide (((i : Nat) : Int) < ((l.length : Nat) : Int)))) rfl (decide_eq_true h6) ?_
              refine T_skip ?_
              refine T_seq ?_
              refine T_block ?_
              refine T_seq ?_
              refine T_region [(0, .nat (i * 5)), (1, .cells (tnC (l.getD i dT)))] [ks 7, ks 8, ks 10, ks 41, ks 42, ks 43, kb 0, kb 1, kb 2, kb 3, kb 4, kb 29] (fun _ => mixed) (l' := [ps 7 (.osl 0 0 i), ps 8 (.osl 1 0 4), ps 10 (.opt 29 0), ps 41 (.ssl (tns l) 0 l.length), ps 42 (nv l.length), ps 43 (nv i), pb 0 41 (tns ((l.take i).map (fun t => (chT ⟨true, sl, false, xl, xa, xo, s, h, d⟩ (endS l) t).1))), pb 1 51 [(PV.fn (.func 33) [] [(.opt 2 0)]), (PV.fn (.func 34) [] [(.opt 3 0)]), (PV.fn (.func 49) [] [(.opt 4 0)]), (PV.fn (.func 40) [] [(.opt 3 0)])], pb 2 3 [(iv (endS l))], pb 3 29 (chC ⟨true, sl, false, xl, xa, xo, s, h, d⟩), pb 4 65 [(PV.fn (.func 38) [] [(.opt 3 0)])], pb 29 41 (tnC (l.getD i dT))]) (obs := [(0 : Int) ≤ ((i : Nat) : Int) ∧ ((i : Nat) : Int) < ((l.length : Nat) : Int), 0 + (((i : Nat) : Int) : Int).toNat * 5 = (i * 5), (i * 5) + 5 ≤ ((tns l)).length ∧ (((tns l)).drop (i * 5)).take 5 = (tnC (l.getD i dT))]) (by kernel_rfl) (obs_cons (by omega) (obs_cons (by omega) (obs_cons (flat_at tnC 5 (fun _ => rfl) dT l i 0 5 (by omega) (by decide)) (obs_nil)))) ?_
              refine T_seq ?_
              refine T_region [] [ks 7, ks 8, ks 10, ks 41, ks 42, ks 43, kb 0, kb 1, kb 2, kb 3, kb 4, kb 29] (fun _ => mixed) (l' := [ps 7 (.osl 0 0 i), ps 8 (.osl 1 0 4), ps 10 (.opt 29 0), ps 41 (.ssl (tns l) 0 l.length), ps 42 (nv l.length), ps 43 (nv i), pb 0 41 (tns ((l.take i).map (fun t => (chT ⟨true, sl, false, xl, xa, xo, s, h, d⟩ (endS l) t).1))), pb 1 51 [(PV.fn (.func 33) [] [(.opt 2 0)]), (PV.fn (.func 34) [] [(.opt 3 0)]), (PV.fn (.func 49) [] [(.opt 4 0)]), (PV.fn (.func 40) [] [(.opt 3 0)])], pb 2 3 [(iv (endS l))], pb 3 29 (chC ⟨true, sl, false, xl, xa, xo, s, h, d⟩), pb 4 65 [(PV.fn (.func 38) [] [(.opt 3 0)])], pb 29 41 (tnC (l.getD i dT))]) (obs := []) (by kernel_rfl) (obs_nil) ?_
              refine T_seq ?_
              refine T_seq ?_
              refine T_region [] [ks 7, ks 8, ks 10, ks 41, ks 42, ks 43, ks 47, ks 48, ks 49, kb 0, kb 1, kb 2, kb 3, kb 4, kb 29] (fun _ => mixed) (l' := [ps 7 (.osl 0 0 i), ps 8 (.osl 1 0 4), ps 10 (.opt 29 0), ps 41 (.ssl (tns l) 0 l.length), ps 42 (nv l.length), ps 43 (nv i), ps 47 (.osl 1 0 4), ps 48 (iv 4), ps 49 (iv 0), pb 0 41 (tns ((l.take i).map (fun t => (chT ⟨true, sl, false, xl, xa, xo, s, h, d⟩ (endS l) t).1))), pb 1 51 [(PV.fn (.func 33) [] [(.opt 2 0)]), (PV.fn (.func 34) [] [(.opt 3 0)]), (PV.fn (.func 49) [] [(.opt 4 0)]), (PV.fn (.func 40) [] [(.opt 3 0)])], pb 2 3 [(iv (endS l))], pb 3 29 (chC ⟨true, sl, false, xl, xa, xo, s, h, d⟩), pb 4 65 [(PV.fn (.func 38) [] [(.opt 3 0)])], pb 29 41 (tnC (l.getD i dT))]) (obs := []) (by kernel_rfl) (obs_nil) ?_
              refine T_block ?_
              refine T_loop (α := {x : Nat × Tn // x.1 ≤ 4 ∧ runF ((fsOf ⟨true, sl, false, xl, xa, xo, s, h, d⟩ (endS l)).drop x.1) x.2 = chT ⟨true, sl, false, xl, xa, xo, s, h, d⟩ (endS l) (l.getD i dT) ∧ Far x.2 (([1048576, 4194304, 67108864, 67108864, 134217728] : List Int).getD x.1 0)}) (fun x => [ps 7 (.osl 1 0 i), ps 8 (.osl 2 0 4), ps 10 (.opt 0 0), ps 41 (.ssl (tns l) 0 l.length), ps 42 (nv l.length), ps 43 (nv i), ps 47 (.osl 2 0 4), ps 48 (iv 4), ps 49 (nv x.1.1), pb 0 41 (tnC x.1.2), pb 1 41 (tns ((l.take i).map (fun t => (chT ⟨true, sl, false, xl, xa, xo, s, h, d⟩ (endS l) t).1))), pb 2 51 [(PV.fn (.func 33) [] [(.opt 3 0)]), (PV.fn (.func 34) [] [(.opt 4 0)]), (PV.fn (.func 49) [] [(.opt 5 0)]), (PV.fn (.func 40) [] [(.opt 4 0)])], pb 3 3 [(iv (endS l))], pb 4 29 (chC ⟨true, sl, false, xl, xa, xo, s, h, d⟩), pb 5 65 [(PV.fn (.func 38) [] [(.opt 4 0)])]]) (fun x => 4 - x.1.1) 6 ⟨(0, l.getD i dT), ⟨Nat.zero_le _, rfl, far_of (hl.at (by omega)) (by show (1048576 : Int) ≤ 1048576; decide)⟩⟩ (Wk.ren3 [ps 7 (.osl 1 0 i), ps 8 (.osl 2 0 4), ps 10 (.opt 0 0), ps 41 (.ssl (tns l) 0 l.length), ps 42 (nv l.length), ps 43 (nv i), ps 47 (.osl 2 0 4), ps 48 (iv 4), ps 49 (nv 0), pb 0 41 (tnC (l.getD i dT)), pb 1 41 (tns ((l.take i).map (fun t => (chT ⟨true, sl, false, xl, xa, xo, s, h, d⟩ (endS l) t).1))), pb 2 51 [(PV.fn (.func 33) [] [(.opt 3 0)]), (PV.fn (.func 34) [] [(.opt 4 0)]), (PV.fn (.func 49) [] [(.opt 5 0)]), (PV.fn (.func 40) [] [(.opt 4 0)])], pb 3 3 [(iv (endS l))], pb 4 29 (chC ⟨true, sl, false, xl, xa, xo, s, h, d⟩), pb 5 65 [(PV.fn (.func 38) [] [(.opt 4 0)])]] 0 hc0 [29, 0, 1, 2, 3, 4] [(kb 1, (tns ((l.take i).map (fun t => (chT ⟨true, sl, false, xl, xa, xo, s, h, d⟩ (endS l) t).1))))] (obs_cons (tns_shd _) (obs_nil)) (by kernel_rfl) rfl rfl (by kernel_rfl) (by kernel_rfl)) ?_
              rintro ⟨⟨j, x⟩, ⟨hj, hx, hF⟩⟩
              dsimp only at hj hx hF
              refine T_seq ?_
              refine T_region [] [ks 7, ks 8, ks 10, ks 41, ks 42, ks 43, ks 47, ks 48, ks 49, ks 50, kb 0, kb 1, kb 2, kb 3, kb 4, kb 5] (fun _ => mixed) (l' := [ps 7 (.osl 1 0 i), ps 8 (.osl 2 0 4), ps 10 (.opt 0 0), ps 41 (.ssl (tns l) 0 l.length), ps 42 (nv l.length), ps 43 (nv i), ps 47 (.osl 2 0 4), ps 48 (iv 4), ps 49 (nv j), ps 50 (bv (decide (((j : Nat) : Int) < 4))), pb 0 41 (tnC x), pb 1 41 (tns ((l.take i).map (fun t => (chT ⟨true, sl, false, xl, xa, xo, s, h, d⟩ (endS l) t).1))), pb 2 51 [(PV.fn (.func 33) [] [(.opt 3 0)]), (PV.fn (.func 34) [] [(.opt 4 0)]), (PV.fn (.func 49) [] [(.opt 5 0)]), (PV.fn (.func 40) [] [(.opt 4 0)])], pb 3 3 [(iv (endS l))], pb 4 29 (chC ⟨true, sl, false, xl, xa, xo, s, h, d⟩), pb 5 65 [(PV.fn (.func 38) [] [(.opt 4 0)])]]) (obs := []) (by kernel_rfl) (obs_nil) ?_
              refine T_seq ?_
              by_cases h7 : ((j : Nat) : Int) < 4
              · refine T_then (b := (decide (((j : Nat) : Int) < 4))) rfl (decide_eq_true h7) ?_
                refine T_skip ?_
                refine T_seq ?_
                refine T_block ?_
                refine T_seq ?_
                by_cases h8 : j = 0
                · refine T_region [(0, .nat 0)] [ks 7, ks 8, ks 10, ks 13, ks 41, ks 42, ks 43, ks 47, ks 48, ks 49, kb 0, kb 1, kb 2, kb 3, kb 4, kb 5] (fun _ => mixed) (l' := [ps 7 (.osl 1 0 i), ps 8 (.osl 2 0 4), ps 10 (.opt 0 0), ps 13 (PV.fn (.func 33) [] [(.opt 3 0)]), ps 41 (.ssl (tns l) 0 l.length), ps 42 (nv l.length), ps 43 (nv i), ps 47 (.osl 2 0 4), ps 48 (iv 4), ps 49 (nv j), pb 0 41 (tnC x), pb 1 41 (tns ((l.take i).map (fun t => (chT ⟨true, sl, false, xl, xa, xo, s, h, d⟩ (endS l) t).1))), pb 2 51 [(PV.fn (.func 33) [] [(.opt 3 0)]), (PV.fn (.func 34) [] [(.opt 4 0)]), (PV.fn (.func 49) [] [(.opt 5 0)]), (PV.fn (.func 40) [] [(.opt 4 0)])], pb 3 3 [(iv (endS l))], pb 4 29 (chC ⟨true, sl, false, xl, xa, xo, s, h, d⟩), pb 5 65 [(PV.fn (.func 38) [] [(.opt 4 0)])]]) (obs := [(0 : Int) ≤ ((j : Nat) : Int) ∧ ((j : Nat) : Int) < ((4 : Nat) : Int), 0 + (((j : Nat) : Int) : Int).toNat * 1 = 0]) (by kernel_rfl) (obs_cons (by omega) (obs_cons (by omega) (obs_nil))) ?_
                  refine T_seq ?_
                  refine T_region [(2, .call [3] [(.agg (tnC x)), (.opt 0 0)] [some (3, [(iv (endS l))])] (.tup [(.agg (tnC ((f1 (endS l) x).1))), (iv ((f1 (endS l) x).2))]) [some (3, [(iv (endS l))]), none])] [ks 7, ks 8, ks 10, ks 11, ks 41, ks 42, ks 43, ks 47, ks 48, ks 49, kb 0, kb 1, kb 2, kb 3, kb 4, kb 5] (fun _ => mixed) (l' := [ps 7 (.osl 1 0 i), ps 8 (.osl 2 0 4), ps 10 (.opt 0 0), ps 11 (iv ((f1 (endS l) x).2)), ps 41 (.ssl (tns l) 0 l.length), ps 42 (nv l.length), ps 43 (nv i), ps 47 (.osl 2 0 4), ps 48 (iv 4), ps 49 (nv j), pb 0 41 (tnC ((f1 (endS l) x).1)), pb 1 41 (tns ((l.take i).map (fun t => (chT ⟨true, sl, false, xl, xa, xo, s, h, d⟩ (endS l) t).1))), pb 2 51 [(PV.fn (.func 33) [] [(.opt 3 0)]), (PV.fn (.func 34) [] [(.opt 4 0)]), (PV.fn (.func 49) [] [(.opt 5 0)]), (PV.fn (.func 40) [] [(.opt 4 0)])], pb 3 3 [(iv (endS l))], pb 4 29 (chC ⟨true, sl, false, xl, xa, xo, s, h, d⟩), pb 5 65 [(PV.fn (.func 38) [] [(.opt 4 0)])]]) (obs := [PC Try.prog 33 [(.agg (tnC x)), (.opt 0 0)] [some (3, [(iv (endS l))])] (.tup [(.agg (tnC ((f1 (endS l) x).1))), (iv ((f1 (endS l) x).2))]) [some (3, [(iv (endS l))]), none], [(.agg (tnC x)), (.opt 3 0)] = renL (sigi [3] 54) [(.agg (tnC x)), (.opt 0 0)], [(iv (endS l))] = renL (sigi [3] 54) [(iv (endS l))]]) (by kernel_rfl) (obs_cons (back_pc (endS l) x hE (far_more (n := 1048576) (by rw [h8] at hF; exact hF) (by decide))) (obs_cons rfl (obs_cons rfl (obs_nil)))) ?_
                  refine T_seq ?_
                  refine T_region [] [ks 7, ks 8, ks 10, ks 11, ks 41, ks 42, ks 43, ks 47, ks 48, ks 49, ks 60, kb 0, kb 1, kb 2, kb 3, kb 4, kb 5] (fun _ => mixed) (l' := [ps 7 (.osl 1 0 i), ps 8 (.osl 2 0 4), ps 10 (.opt 0 0), ps 11 (iv ((f1 (endS l) x).2)), ps 41 (.ssl (tns l) 0 l.length), ps 42 (nv l.length), ps 43 (nv i), ps 47 (.osl 2 0 4), ps 48 (iv 4), ps 49 (nv j), ps 60 (bv (!(decide (((f1 (endS l) x).2) = 0)))), pb 0 41 (tnC ((f1 (endS l) x).1)), pb 1 41 (tns ((l.take i).map (fun t => (chT ⟨true, sl, false, xl, xa, xo, s, h, d⟩ (endS l) t).1))), pb 2 51 [(PV.fn (.func 33) [] [(.opt 3 0)]), (PV.fn (.func 34) [] [(.opt 4 0)]), (PV.fn (.func 49) [] [(.opt 5 0)]), (PV.fn (.func 40) [] [(.opt 4 0)])], pb 3 3 [(iv (endS l))], pb 4 29 (chC ⟨true, sl, false, xl, xa, xo, s, h, d⟩), pb 5 65 [(PV.fn (.func 38) [] [(.opt 4 0)])]]) (obs := []) (by kernel_rfl) (obs_nil) ?_
                  by_cases h9 : ((f1 (endS l) x).2) = 0
                  · refine T_else (b := (!(decide (((f1 (endS l) x).2) = 0)))) rfl (congrArg Bool.not (decide_eq_true h9)) ?_
                    refine T_skip ?_
                    refine T_blk ?_
                    refine T_region [] [ks 7, ks 8, ks 10, ks 41, ks 42, ks 43, ks 47, ks 48, ks 49, kb 0, kb 1, kb 2, kb 3, kb 4, kb 5] (fun _ => mixed) (l' := [ps 7 (.osl 1 0 i), ps 8 (.osl 2 0 4), ps 10 (.opt 0 0), ps 41 (.ssl (tns l) 0 l.length), ps 42 (nv l.length), ps 43 (nv i), ps 47 (.osl 2 0 4), ps 48 (iv 4), ps 49 (iv (((j : Nat) : Int) + 1)), pb 0 41 (tnC ((f1 (endS l) x).1)), pb 1 41 (tns ((l.take i).map (fun t => (chT ⟨true, sl, false, xl, xa, xo, s, h, d⟩ (endS l) t).1))), pb 2 51 [(PV.fn (.func 33) [] [(.opt 3 0)]), (PV.fn (.func 34) [] [(.opt 4 0)]), (PV.fn (.func 49) [] [(.opt 5 0)]), (PV.fn (.func 40) [] [(.opt 4 0)])], pb 3 3 [(iv (endS l))], pb 4 29 (chC ⟨true, sl, false, xl, xa, xo, s, h, d⟩), pb 5 65 [(PV.fn (.func 38) [] [(.opt 4 0)])]]) (obs := [InK .i64 (((j : Nat) : Int) + 1)]) (by kernel_rfl) (obs_cons (by simp only [InK]; omega) (obs_nil)) ?_
                    have hF2 : Far (f1 (endS l) x).1 4194304 := far_f1 hE (by rw [h8] at hF; exact hF)
                    exact T_back ⟨(j + 1, (f1 (endS l) x).1), ⟨by omega, chT_next (f := f1 (endS l)) hx (by rw [h8]; rfl) (by rw [h8]; rfl) h9, by rw [h8]; exact hF2⟩⟩ (Wk.ren3 [ps 7 (.osl 1 0 i), ps 8 (.osl 2 0 4), ps 10 (.opt 0 0), ps 41 (.ssl (tns l) 0 l.length), ps 42 (nv l.length), ps 43 (nv i), ps 47 (.osl 2 0 4), ps 48 (iv 4), ps 49 (nv (j + 1)), pb 0 41 (tnC ((f1 (endS l) x).1)), pb 1 41 (tns ((l.take i).map (fun t => (chT ⟨true, sl, false, xl, xa, xo, s, h, d⟩ (endS l) t).1))), pb 2 51 [(PV.fn (.func 33) [] [(.opt 3 0)]), (PV.fn (.func 34) [] [(.opt 4 0)]), (PV.fn (.func 49) [] [(.opt 5 0)]), (PV.fn (.func 40) [] [(.opt 4 0)])], pb 3 3 [(iv (endS l))], pb 4 29 (chC ⟨true, sl, false, xl, xa, xo, s, h, d⟩), pb 5 65 [(PV.fn (.func 38) [] [(.opt 4 0)])]] 0 hc0 [0, 1, 2, 3, 4, 5] [(kb 1, (tns ((l.take i).map (fun t => (chT ⟨true, sl, false, xl, xa, xo, s, h, d⟩ (endS l) t).1))))] (obs_cons (tns_shd _) (obs_nil)) (by kernel_rfl) rfl rfl (by kernel_rfl) (by kernel_rfl)) (show 4 - (j + 1) < 4 - j from by omega)
                  · refine T_then (b := (!(decide (((f1 (endS l) x).2) = 0)))) rfl (congrArg Bool.not (decide_eq_false h9)) ?_
                    refine T_seq ?_
                    refine T_region [] [ks 4, ks 5] (fun _ => mixed) (l' := [ps 4 (.av (.slice none 0 0)), ps 5 (iv ((f1 (endS l) x).2))]) (obs := []) (by kernel_rfl) (obs_nil) ?_
                    rw [chgP_err h1 hc hf (by omega) h9 (chT_err (f := f1 (endS l)) hx (by rw [h8]; rfl) h9)]
                    exact T_ret fun cx_ a_ hI_ => loop_ret (loop_ret (ret_ok (H' := []) (.inr rfl) (Wk.ren2 [ps 4 (.av (.slice none 0 0)), ps 5 (iv ((f1 (endS l) x).2))] 0 hc0 [] rfl rfl (by kernel_rfl) (by kernel_rfl)) rfl (obs_nil) (fun cx_ a_ hI_ => ret_res (l' := [ps 4 (.av (.slice none 0 0)), ps 5 (iv ((f1 (endS l) x).2))]) (by kernel_rfl) cx_ a_ hI_) hI_))
                · by_cases h10 : j = 1
                  · refine T_region [(0, .nat 1)] [ks 7, ks 8, ks 10, ks 13, ks 41, ks 42, ks 43, ks 47, ks 48, ks 49, kb 0, kb 1, kb 2, kb 3, kb 4, kb 5] (fun _ => mixed) (l' := [ps 7 (.osl 1 0 i), ps 8 (.osl 2 0 4), ps 10 (.opt 0 0), ps 13 (PV.fn (.func 34) [] [(.opt 4 0)]), ps 41 (.ssl (tns l) 0 l.length), ps 42 (nv l.length), ps 43 (nv i), ps 47 (.osl 2 0 4), ps 48 (iv 4), ps 49 (nv j), pb 0 41 (tnC x), pb 1 41 (tns ((l.take i).map (fun t => (chT ⟨true, sl, false, xl, xa, xo, s, h, d⟩ (endS l) t).1))), pb 2 51 [(PV.fn (.func 33) [] [(.opt 3 0)]), (PV.fn (.func 34) [] [(.opt 4 0)]), (PV.fn (.func 49) [] [(.opt 5 0)]), (PV.fn (.func 40) [] [(.opt 4 0)])], pb 3 3 [(iv (endS l))], pb 4 29 (chC ⟨true, sl, false, xl, xa, xo, s, h, d⟩), pb 5 65 [(PV.fn (.func 38) [] [(.opt 4 0)])]]) (obs := [(0 : Int) ≤ ((j : Nat) : Int) ∧ ((j : Nat) : Int) < ((4 : Nat) : Int), 0 + (((j : Nat) : Int) : Int).toNat * 1 = 1]) (by kernel_rfl) (obs_cons (by omega) (obs_cons (by omega) (obs_nil))) ?_
                    refine T_seq ?_
                    refine T_region [(2, .call [4] [(.agg (tnC x)), (.opt 0 0)] [some (29, (chC ⟨true, sl, false, xl, xa, xo, s, h, d⟩))] (.tup [(.agg (tnC ((f2 sl x).1))), (iv ((f2 sl x).2))]) [some (29, (chC ⟨true, sl, false, xl, xa, xo, s, h, d⟩)), none])] [ks 7, ks 8, ks 10, ks 11, ks 41, ks 42, ks 43, ks 47, ks 48, ks 49, kb 0, kb 1, kb 2, kb 3, kb 4, kb 5] (fun _ => mixed) (l' := [ps 7 (.osl 1 0 i), ps 8 (.osl 2 0 4), ps 10 (.opt 0 0), ps 11 (iv ((f2 sl x).2)), ps 41 (.ssl (tns l) 0 l.length), ps 42 (nv l.length), ps 43 (nv i), ps 47 (.osl 2 0 4), ps 48 (iv 4), ps 49 (nv j), pb 0 41 (tnC ((f2 sl x).1)), pb 1 41 (tns ((l.take i).map (fun t => (chT ⟨true, sl, false, xl, xa, xo, s, h, d⟩ (endS l) t).1))), pb 2 51 [(PV.fn (.func 33) [] [(.opt 3 0)]), (PV.fn (.func 34) [] [(.opt 4 0)]), (PV.fn (.func 49) [] [(.opt 5 0)]), (PV.fn (.func 40) [] [(.opt 4 0)])], pb 3 3 [(iv (endS l))], pb 4 29 (chC ⟨true, sl, false, xl, xa, xo, s, h, d⟩), pb 5 65 [(PV.fn (.func 38) [] [(.opt 4 0)])]]) (obs := [PC Try.prog 34 [(.agg (tnC x)), (.opt 0 0)] [some (29, (chC ⟨true, sl, false, xl, xa, xo, s, h, d⟩))] (.tup [(.agg (tnC ((f2 sl x).1))), (iv ((f2 sl x).2))]) [some (29, (chC ⟨true, sl, false, xl, xa, xo, s, h, d⟩)), none], [(.agg (tnC x)), (.opt 4 0)] = renL (sigi [4] 54) [(.agg (tnC x)), (.opt 0 0)], (chC ⟨true, sl, false, xl, xa, xo, s, h, d⟩) = renL (sigi [4] 54) (chC ⟨true, sl, false, xl, xa, xo, s, h, d⟩)]) (by kernel_rfl) (obs_cons (slow_pc true false sl xl xa xo s h d x hs (by rw [h10] at hF; exact hF)) (obs_cons rfl (obs_cons rfl (obs_nil)))) ?_
                    refine T_seq ?_
                    refine T_region [] [ks 7, ks 8, ks 10, ks 11, ks 41, ks 42, ks 43, ks 47, ks 48, ks 49, ks 60, kb 0, kb 1, kb 2, kb 3, kb 4, kb 5] (fun _ => mixed) (l' := [ps 7 (.osl 1 0 i), ps 8 (.osl 2 0 4), ps 10 (.opt 0 0), ps 11 (iv ((f2 sl x).2)), ps 41 (.ssl (tns l) 0 l.length), ps 42 (nv l.length), ps 43 (nv i), ps 47 (.osl 2 0 4), ps 48 (iv 4), ps 49 (nv j), ps 60 (bv (!(decide (((f2 sl x).2) = 0)))), pb 0 41 (tnC ((f2 sl x).1)), pb 1 41 (tns ((l.take i).map (fun t => (chT ⟨true, sl, false, xl, xa, xo, s, h, d⟩ (endS l) t).1))), pb 2 51 [(PV.fn (.func 33) [] [(.opt 3 0)]), (PV.fn (.func 34) [] [(.opt 4 0)]), (PV.fn (.func 49) [] [(.opt 5 0)]), (PV.fn (.func 40) [] [(.opt 4 0)])], pb 3 3 [(iv (endS l))], pb 4 29 (chC ⟨true, sl, false, xl, xa, xo, s, h, d⟩), pb 5 65 [(PV.fn (.func 38) [] [(.opt 4 0)])]]) (obs := []) (by kernel_rfl) (obs_nil) ?_
                    by_cases h11 : ((f2 sl x).2) = 0
                    · refine T_else (b := (!(decide (((f2 sl x).2) = 0)))) rfl (congrArg Bool.not (decide_eq_true h11)) ?_
                      refine T_skip ?_
                      refine T_blk ?_
                      refine T_region [] [ks 7, ks 8, ks 10, ks 41, ks 42, ks 43, ks 47, ks 48, ks 49, kb 0, kb 1, kb 2, kb 3, kb 4, kb 5] (fun _ => mixed) (l' := [ps 7 (.osl 1 0 i), ps 8 (.osl 2 0 4), ps 10 (.opt 0 0), ps 41 (.ssl (tns l) 0 l.length), ps 42 (nv l.length), ps 43 (nv i), ps 47 (.osl 2 0 4), ps 48 (iv 4), ps 49 (iv (((j : Nat) : Int) + 1)), pb 0 41 (tnC ((f2 sl x).1)), pb 1 41 (tns ((l.take i).map (fun t => (chT ⟨true, sl, false, xl, xa, xo, s, h, d⟩ (endS l) t).1))), pb 2 51 [(PV.fn (.func 33) [] [(.opt 3 0)]), (PV.fn (.func 34) [] [(.opt 4 0)]), (PV.fn (.func 49) [] [(.opt 5 0)]), (PV.fn (.func 40) [] [(.opt 4 0)])], pb 3 3 [(iv (endS l))], pb 4 29 (chC ⟨true, sl, false, xl, xa, xo, s, h, d⟩), pb 5 65 [(PV.fn (.func 38) [] [(.opt 4 0)])]]) (obs := [InK .i64 (((j : Nat) : Int) + 1)]) (by kernel_rfl) (obs_cons (by simp only [InK]; omega) (obs_nil)) ?_
                      have hF2 : Far (f2 sl x).1 67108864 := far_f2 hs (by rw [h10] at hF; exact hF)
                      exact T_back ⟨(j + 1, (f2 sl x).1), ⟨by omega, chT_next (f := f2 sl) hx (by rw [h10]; rfl) (by rw [h10]; rfl) h11, by rw [h10]; exact hF2⟩⟩ (Wk.ren3 [ps 7 (.osl 1 0 i), ps 8 (.osl 2 0 4), ps 10 (.opt 0 0), ps 41 (.ssl (tns l) 0 l.length), ps 42 (nv l.length), ps 43 (nv i), ps 47 (.osl 2 0 4), ps 48 (iv 4), ps 49 (nv (j + 1)), pb 0 41 (tnC ((f2 sl x).1)), pb 1 41 (tns ((l.take i).map (fun t => (chT ⟨true, sl, false, xl, xa, xo, s, h, d⟩ (endS l) t).1))), pb 2 51 [(PV.fn (.func 33) [] [(.opt 3 0)]), (PV.fn (.func 34) [] [(.opt 4 0)]), (PV.fn (.func 49) [] [(.opt 5 0)]), (PV.fn (.func 40) [] [(.opt 4 0)])], pb 3 3 [(iv (endS l))], pb 4 29 (chC ⟨true, sl, false, xl, xa, xo, s, h, d⟩), pb 5 65 [(PV.fn (.func 38) [] [(.opt 4 0)])]] 0 hc0 [0, 1, 2, 3, 4, 5] [(kb 1, (tns ((l.take i).map (fun t => (chT ⟨true, sl, false, xl, xa, xo, s, h, d⟩ (endS l) t).1))))] (obs_cons (tns_shd _) (obs_nil)) (by kernel_rfl) rfl rfl (by kernel_rfl) (by kernel_rfl)) (show 4 - (j + 1) < 4 - j from by omega)
                    · refine T_then (b := (!(decide (((f2 sl x).2) = 0)))) rfl (congrArg Bool.not (decide_eq_false h11)) ?_
                      refine T_seq ?_
                      refine T_region [] [ks 4, ks 5] (fun _ => mixed) (l' := [ps 4 (.av (.slice none 0 0)), ps 5 (iv ((f2 sl x).2))]) (obs := []) (by kernel_rfl) (obs_nil) ?_
                      rw [chgP_err h1 hc hf (by omega) h11 (chT_err (f := f2 sl) hx (by rw [h10]; rfl) h11)]
                      exact T_ret fun cx_ a_ hI_ => loop_ret (loop_ret (ret_ok (H' := []) (.inr rfl) (Wk.ren2 [ps 4 (.av (.slice none 0 0)), ps 5 (iv ((f2 sl x).2))] 0 hc0 [] rfl rfl (by kernel_rfl) (by kernel_rfl)) rfl (obs_nil) (fun cx_ a_ hI_ => ret_res (l' := [ps 4 (.av (.slice none 0 0)), ps 5 (iv ((f2 sl x).2))]) (by kernel_rfl) cx_ a_ hI_) hI_))
                  · by_cases h12 : j = 2
                    · refine T_region [(0, .nat 2)] [ks 7, ks 8, ks 10, ks 13, ks 41, ks 42, ks 43, ks 47, ks 48, ks 49, kb 0, kb 1, kb 2, kb 3, kb 4, kb 5] (fun _ => mixed) (l' := [ps 7 (.osl 1 0 i), ps 8 (.osl 2 0 4), ps 10 (.opt 0 0), ps 13 (PV.fn (.func 49) [] [(.opt 5 0)]), ps 41 (.ssl (tns l) 0 l.length), ps 42 (nv l.length), ps 43 (nv i), ps 47 (.osl 2 0 4), ps 48 (iv 4), ps 49 (nv j), pb 0 41 (tnC x), pb 1 41 (tns ((l.take i).map (fun t => (chT ⟨true, sl, false, xl, xa, xo, s, h, d⟩ (endS l) t).1))), pb 2 51 [(PV.fn (.func 33) [] [(.opt 3 0)]), (PV.fn (.func 34) [] [(.opt 4 0)]), (PV.fn (.func 49) [] [(.opt 5 0)]), (PV.fn (.func 40) [] [(.opt 4 0)])], pb 3 3 [(iv (endS l))], pb 4 29 (chC ⟨true, sl, false, xl, xa, xo, s, h, d⟩), pb 5 65 [(PV.fn (.func 38) [] [(.opt 4 0)])]]) (obs := [(0 : Int) ≤ ((j : Nat) : Int) ∧ ((j : Nat) : Int) < ((4 : Nat) : Int), 0 + (((j : Nat) : Int) : Int).toNat * 1 = 2]) (by kernel_rfl) (obs_cons (by omega) (obs_cons (by omega) (obs_nil))) ?_
                      refine T_seq ?_
                      refine T_region [(2, .call [5, 4] [(.agg (tnC x)), (.opt 0 0)] [some (65, [(PV.fn (.func 38) [] [(.opt 1 0)])]), some (29, (chC ⟨true, sl, false, xl, xa, xo, s, h, d⟩))] (.tup [(.agg (tnC ((f4 s h x).1))), (iv ((f4 s h x).2))]) [some (65, [(PV.fn (.func 38) [] [(.opt 1 0)])]), some (29, (chC ⟨true, sl, false, xl, xa, xo, s, h, d⟩)), none])] [ks 7, ks 8, ks 10, ks 11, ks 41, ks 42, ks 43, ks 47, ks 48, ks 49, kb 0, kb 1, kb 2, kb 3, kb 4, kb 5] (fun _ => mixed) (l' := [ps 7 (.osl 1 0 i), ps 8 (.osl 2 0 4), ps 10 (.opt 0 0), ps 11 (iv ((f4 s h x).2)), ps 41 (.ssl (tns l) 0 l.length), ps 42 (nv l.length), ps 43 (nv i), ps 47 (.osl 2 0 4), ps 48 (iv 4), ps 49 (nv j), pb 0 41 (tnC ((f4 s h x).1)), pb 1 41 (tns ((l.take i).map (fun t => (chT ⟨true, sl, false, xl, xa, xo, s, h, d⟩ (endS l) t).1))), pb 2 51 [(PV.fn (.func 33) [] [(.opt 3 0)]), (PV.fn (.func 34) [] [(.opt 4 0)]), (PV.fn (.func 49) [] [(.opt 5 0)]), (PV.fn (.func 40) [] [(.opt 4 0)])], pb 3 3 [(iv (endS l))], pb 4 29 (chC ⟨true, sl, false, xl, xa, xo, s, h, d⟩), pb 5 65 [(PV.fn (.func 38) [] [(.opt 4 0)])]]) (obs := [PC Try.prog 49 [(.agg (tnC x)), (.opt 0 0)] [some (65, [(PV.fn (.func 38) [] [(.opt 1 0)])]), some (29, (chC ⟨true, sl, false, xl, xa, xo, s, h, d⟩))] (.tup [(.agg (tnC ((f4 s h x).1))), (iv ((f4 s h x).2))]) [some (65, [(PV.fn (.func 38) [] [(.opt 1 0)])]), some (29, (chC ⟨true, sl, false, xl, xa, xo, s, h, d⟩)), none], [(.agg (tnC x)), (.opt 5 0)] = renL (sigi [5, 4] 54) [(.agg (tnC x)), (.opt 0 0)], [(PV.fn (.func 38) [] [(.opt 4 0)])] = renL (sigi [5, 4] 54) [(PV.fn (.func 38) [] [(.opt 1 0)])], (chC ⟨true, sl, false, xl, xa, xo, s, h, d⟩) = renL (sigi [5, 4] 54) (chC ⟨true, sl, false, xl, xa, xo, s, h, d⟩)]) (by kernel_rfl) (obs_cons (mmov_pc true false sl xl xa xo s h d x is ih) (obs_cons rfl (obs_cons rfl (obs_cons rfl (obs_nil))))) ?_
                      refine T_seq ?_
                      refine T_region [] [ks 7, ks 8, ks 10, ks 11, ks 41, ks 42, ks 43, ks 47, ks 48, ks 49, ks 60, kb 0, kb 1, kb 2, kb 3, kb 4, kb 5] (fun _ => mixed) (l' := [ps 7 (.osl 1 0 i), ps 8 (.osl 2 0 4), ps 10 (.opt 0 0), ps 11 (iv ((f4 s h x).2)), ps 41 (.ssl (tns l) 0 l.length), ps 42 (nv l.length), ps 43 (nv i), ps 47 (.osl 2 0 4), ps 48 (iv 4), ps 49 (nv j), ps 60 (bv (!(decide (((f4 s h x).2) = 0)))), pb 0 41 (tnC ((f4 s h x).1)), pb 1 41 (tns ((l.take i).map (fun t => (chT ⟨true, sl, false, xl, xa, xo, s, h, d⟩ (endS l) t).1))), pb 2 51 [(PV.fn (.func 33) [] [(.opt 3 0)]), (PV.fn (.func 34) [] [(.opt 4 0)]), (PV.fn (.func 49) [] [(.opt 5 0)]), (PV.fn (.func 40) [] [(.opt 4 0)])], pb 3 3 [(iv (endS l))], pb 4 29 (chC ⟨true, sl, false, xl, xa, xo, s, h, d⟩), pb 5 65 [(PV.fn (.func 38) [] [(.opt 4 0)])]]) (obs := []) (by kernel_rfl) (obs_nil) ?_
                      by_cases h13 : ((f4 s h x).2) = 0
                      · refine T_else (b := (!(decide (((f4 s h x).2) = 0)))) rfl (congrArg Bool.not (decide_eq_true h13)) ?_
                        refine T_skip ?_
                        refine T_blk ?_
                        refine T_region [] [ks 7, ks 8, ks 10, ks 41, ks 42, ks 43, ks 47, ks 48, ks 49, kb 0, kb 1, kb 2, kb 3, kb 4, kb 5] (fun _ => mixed) (l' := [ps 7 (.osl 1 0 i), ps 8 (.osl 2 0 4), ps 10 (.opt 0 0), ps 41 (.ssl (tns l) 0 l.length), ps 42 (nv l.length), ps 43 (nv i), ps 47 (.osl 2 0 4), ps 48 (iv 4), ps 49 (iv (((j : Nat) : Int) + 1)), pb 0 41 (tnC ((f4 s h x).1)), pb 1 41 (tns ((l.take i).map (fun t => (chT ⟨true, sl, false, xl, xa, xo, s, h, d⟩ (endS l) t).1))), pb 2 51 [(PV.fn (.func 33) [] [(.opt 3 0)]), (PV.fn (.func 34) [] [(.opt 4 0)]), (PV.fn (.func 49) [] [(.opt 5 0)]), (PV.fn (.func 40) [] [(.opt 4 0)])], pb 3 3 [(iv (endS l))], pb 4 29 (chC ⟨true, sl, false, xl, xa, xo, s, h, d⟩), pb 5 65 [(PV.fn (.func 38) [] [(.opt 4 0)])]]) (obs := [InK .i64 (((j : Nat) : Int) + 1)]) (by kernel_rfl) (obs_cons (by simp only [InK]; omega) (obs_nil)) ?_
                        have hF2 : Far (f4 s h x).1 67108864 := far_fp (by rw [h12] at hF; exact hF)
                        exact T_back ⟨(j + 1, (f4 s h x).1), ⟨by omega, chT_next (f := f4 s h) hx (by rw [h12]; rfl) (by rw [h12]; rfl) h13, by rw [h12]; exact hF2⟩⟩ (Wk.ren3 [ps 7 (.osl 1 0 i), ps 8 (.osl 2 0 4), ps 10 (.opt 0 0), ps 41 (.ssl (tns l) 0 l.length), ps 42 (nv l.length), ps 43 (nv i), ps 47 (.osl 2 0 4), ps 48 (iv 4), ps 49 (nv (j + 1)), pb 0 41 (tnC ((f4 s h x).1)), pb 1 41 (tns ((l.take i).map (fun t => (chT ⟨true, sl, false, xl, xa, xo, s, h, d⟩ (endS l) t).1))), pb 2 51 [(PV.fn (.func 33) [] [(.opt 3 0)]), (PV.fn (.func 34) [] [(.opt 4 0)]), (PV.fn (.func 49) [] [(.opt 5 0)]), (PV.fn (.func 40) [] [(.opt 4 0)])], pb 3 3 [(iv (endS l))], pb 4 29 (chC ⟨true, sl, false, xl, xa, xo, s, h, d⟩), pb 5 65 [(PV.fn (.func 38) [] [(.opt 4 0)])]] 0 hc0 [0, 1, 2, 3, 4, 5] [(kb 1, (tns ((l.take i).map (fun t => (chT ⟨true, sl, false, xl, xa, xo, s, h, d⟩ (endS l) t).1))))] (obs_cons (tns_shd _) (obs_nil)) (by kernel_rfl) rfl rfl (by kernel_rfl) (by kernel_rfl)) (show 4 - (j + 1) < 4 - j from by omega)
                      · refine T_then (b := (!(decide (((f4 s h x).2) = 0)))) rfl (congrArg Bool.not (decide_eq_false h13)) ?_
                        refine T_seq ?_
                        refine T_region [] [ks 4, ks 5] (fun _ => mixed) (l' := [ps 4 (.av (.slice none 0 0)), ps 5 (iv ((f4 s h x).2))]) (obs := []) (by kernel_rfl) (obs_nil) ?_
                        rw [chgP_err h1 hc hf (by omega) h13 (chT_err (f := f4 s h) hx (by rw [h12]; rfl) h13)]
                        exact T_ret fun cx_ a_ hI_ => loop_ret (loop_ret (ret_ok (H' := []) (.inr rfl) (Wk.ren2 [ps 4 (.av (.slice none 0 0)), ps 5 (iv ((f4 s h x).2))] 0 hc0 [] rfl rfl (by kernel_rfl) (by kernel_rfl)) rfl (obs_nil) (fun cx_ a_ hI_ => ret_res (l' := [ps 4 (.av (.slice none 0 0)), ps 5 (iv ((f4 s h x).2))]) (by kernel_rfl) cx_ a_ hI_) hI_))
                    · by_cases h14 : j = 3
                      · refine T_region [(0, .nat 3)] [ks 7, ks 8, ks 10, ks 13, ks 41, ks 42, ks 43, ks 47, ks 48, ks 49, kb 0, kb 1, kb 2, kb 3, kb 4, kb 5] (fun _ => mixed) (l' := [ps 7 (.osl 1 0 i), ps 8 (.osl 2 0 4), ps 10 (.opt 0 0), ps 13 (PV.fn (.func 40) [] [(.opt 4 0)]), ps 41 (.ssl (tns l) 0 l.length), ps 42 (nv l.length), ps 43 (nv i), ps 47 (.osl 2 0 4), ps 48 (iv 4), ps 49 (nv j), pb 0 41 (tnC x), pb 1 41 (tns ((l.take i).map (fun t => (chT ⟨true, sl, false, xl, xa, xo, s, h, d⟩ (endS l) t).1))), pb 2 51 [(PV.fn (.func 33) [] [(.opt 3 0)]), (PV.fn (.func 34) [] [(.opt 4 0)]), (PV.fn (.func 49) [] [(.opt 5 0)]), (PV.fn (.func 40) [] [(.opt 4 0)])], pb 3 3 [(iv (endS l))], pb 4 29 (chC ⟨true, sl, false, xl, xa, xo, s, h, d⟩), pb 5 65 [(PV.fn (.func 38) [] [(.opt 4 0)])]]) (obs := [(0 : Int) ≤ ((j : Nat) : Int) ∧ ((j : Nat) : Int) < ((4 : Nat) : Int), 0 + (((j : Nat) : Int) : Int).toNat * 1 = 3]) (by kernel_rfl) (obs_cons (by omega) (obs_cons (by omega) (obs_nil))) ?_
                        refine T_seq ?_
                        refine T_region [(2, .call [4] [(.agg (tnC x)), (.opt 0 0)] [some (29, (chC ⟨true, sl, false, xl, xa, xo, s, h, d⟩))] (.tup [(.agg (tnC ((f5 d x).1))), (iv ((f5 d x).2))]) [some (29, (chC ⟨true, sl, false, xl, xa, xo, s, h, d⟩)), none])] [ks 7, ks 8, ks 10, ks 11, ks 41, ks 42, ks 43, ks 47, ks 48, ks 49, kb 0, kb 1, kb 2, kb 3, kb 4, kb 5] (fun _ => mixed) (l' := [ps 7 (.osl 1 0 i), ps 8 (.osl 2 0 4), ps 10 (.opt 0 0), ps 11 (iv ((f5 d x).2)), ps 41 (.ssl (tns l) 0 l.length), ps 42 (nv l.length), ps 43 (nv i), ps 47 (.osl 2 0 4), ps 48 (iv 4), ps 49 (nv j), pb 0 41 (tnC ((f5 d x).1)), pb 1 41 (tns ((l.take i).map (fun t => (chT ⟨true, sl, false, xl, xa, xo, s, h, d⟩ (endS l) t).1))), pb 2 51 [(PV.fn (.func 33) [] [(.opt 3 0)]), (PV.fn (.func 34) [] [(.opt 4 0)]), (PV.fn (.func 49) [] [(.opt 5 0)]), (PV.fn (.func 40) [] [(.opt 4 0)])], pb 3 3 [(iv (endS l))], pb 4 29 (chC ⟨true, sl, false, xl, xa, xo, s, h, d⟩), pb 5 65 [(PV.fn (.func 38) [] [(.opt 4 0)])]]) (obs := [PC Try.prog 40 [(.agg (tnC x)), (.opt 0 0)] [some (29, (chC ⟨true, sl, false, xl, xa, xo, s, h, d⟩))] (.tup [(.agg (tnC ((f5 d x).1))), (iv ((f5 d x).2))]) [some (29, (chC ⟨true, sl, false, xl, xa, xo, s, h, d⟩)), none], [(.agg (tnC x)), (.opt 4 0)] = renL (sigi [4] 54) [(.agg (tnC x)), (.opt 0 0)], (chC ⟨true, sl, false, xl, xa, xo, s, h, d⟩) = renL (sigi [4] 54) (chC ⟨true, sl, false, xl, xa, xo, s, h, d⟩)]) (by kernel_rfl) (obs_cons (late_pc true false sl xl xa xo s h d x hd (by rw [h14] at hF; exact hF)) (obs_cons rfl (obs_cons rfl (obs_nil)))) ?_
                        refine T_seq ?_
                        refine T_region [] [ks 7, ks 8, ks 10, ks 11, ks 41, ks 42, ks 43, ks 47, ks 48, ks 49, ks 60, kb 0, kb 1, kb 2, kb 3, kb 4, kb 5] (fun _ => mixed) (l' := [ps 7 (.osl 1 0 i), ps 8 (.osl 2 0 4), ps 10 (.opt 0 0), ps 11 (iv ((f5 d x).2)), ps 41 (.ssl (tns l) 0 l.length), ps 42 (nv l.length), ps 43 (nv i), ps 47 (.osl 2 0 4), ps 48 (iv 4), ps 49 (nv j), ps 60 (bv (!(decide (((f5 d x).2) = 0)))), pb 0 41 (tnC ((f5 d x).1)), pb 1 41 (tns ((l.take i).map (fun t => (chT ⟨true, sl, false, xl, xa, xo, s, h, d⟩ (endS l) t).1))), pb 2 51 [(PV.fn (.func 33) [] [(.opt 3 0)]), (PV.fn (.func 34) [] [(.opt 4 0)]), (PV.fn (.func 49) [] [(.opt 5 0)]), (PV.fn (.func 40) [] [(.opt 4 0)])], pb 3 3 [(iv (endS l))], pb 4 29 (chC ⟨true, sl, false, xl, xa, xo, s, h, d⟩), pb 5 65 [(PV.fn (.func 38) [] [(.opt 4 0)])]]) (obs := []) (by kernel_rfl) (obs_nil) ?_
                        by_cases h15 : ((f5 d x).2) = 0
                        · refine T_else (b := (!(decide (((f5 d x).2) = 0)))) rfl (congrArg Bool.not (decide_eq_true h15)) ?_
                          refine T_skip ?_
                          refine T_blk ?_
                          refine T_region [] [ks 7, ks 8, ks 10, ks 41, ks 42, ks 43, ks 47, ks 48, ks 49, kb 0, kb 1, kb 2, kb 3, kb 4, kb 5] (fun _ => mixed) (l' := [ps 7 (.osl 1 0 i), ps 8 (.osl 2 0 4), ps 10 (.opt 0 0), ps 41 (.ssl (tns l) 0 l.length), ps 42 (nv l.length), ps 43 (nv i), ps 47 (.osl 2 0 4), ps 48 (iv 4), ps 49 (iv (((j : Nat) : Int) + 1)), pb 0 41 (tnC ((f5 d x).1)), pb 1 41 (tns ((l.take i).map (fun t => (chT ⟨true, sl, false, xl, xa, xo, s, h, d⟩ (endS l) t).1))), pb 2 51 [(PV.fn (.func 33) [] [(.opt 3 0)]), (PV.fn (.func 34) [] [(.opt 4 0)]), (PV.fn (.func 49) [] [(.opt 5 0)]), (PV.fn (.func 40) [] [(.opt 4 0)])], pb 3 3 [(iv (endS l))], pb 4 29 (chC ⟨true, sl, false, xl, xa, xo, s, h, d⟩), pb 5 65 [(PV.fn (.func 38) [] [(.opt 4 0)])]]) (obs := [InK .i64 (((j : Nat) : Int) + 1)]) (by kernel_rfl) (obs_cons (by simp only [InK]; omega) (obs_nil)) ?_
                          have hF2 : Far (f5 d x).1 134217728 := far_f5 hd (by rw [h14] at hF; exact hF)
                          exact T_back ⟨(j + 1, (f5 d x).1), ⟨by omega, chT_next (f := f5 d) hx (by rw [h14]; rfl) (by rw [h14]; rfl) h15, by rw [h14]; exact hF2⟩⟩ (Wk.ren3 [ps 7 (.osl 1 0 i), ps 8 (.osl 2 0 4), ps 10 (.opt 0 0), ps 41 (.ssl (tns l) 0 l.length), ps 42 (nv l.length), ps 43 (nv i), ps 47 (.osl 2 0 4), ps 48 (iv 4), ps 49 (nv (j + 1)), pb 0 41 (tnC ((f5 d x).1)), pb 1 41 (tns ((l.take i).map (fun t => (chT ⟨true, sl, false, xl, xa, xo, s, h, d⟩ (endS l) t).1))), pb 2 51 [(PV.fn (.func 33) [] [(.opt 3 0)]), (PV.fn (.func 34) [] [(.opt 4 0)]), (PV.fn (.func 49) [] [(.opt 5 0)]), (PV.fn (.func 40) [] [(.opt 4 0)])], pb 3 3 [(iv (endS l))], pb 4 29 (chC ⟨true, sl, false, xl, xa, xo, s, h, d⟩), pb 5 65 [(PV.fn (.func 38) [] [(.opt 4 0)])]] 0 hc0 [0, 1, 2, 3, 4, 5] [(kb 1, (tns ((l.take i).map (fun t => (chT ⟨true, sl, false, xl, xa, xo, s, h, d⟩ (endS l) t).1))))] (obs_cons (tns_shd _) (obs_nil)) (by kernel_rfl) rfl rfl (by kernel_rfl) (by kernel_rfl)) (show 4 - (j + 1) < 4 - j from by omega)
                        · refine T_then (b := (!(decide (((f5 d x).2) = 0)))) rfl (congrArg Bool.not (decide_eq_false h15)) ?_
                          refine T_seq ?_
                          refine T_region [] [ks 4, ks 5] (fun _ => mixed) (l' := [ps 4 (.av (.slice none 0 0)), ps 5 (iv ((f5 d x).2))]) (obs := []) (by kernel_rfl) (obs_nil) ?_
                          rw [chgP_err h1 hc hf (by omega) h15 (chT_err (f := f5 d) hx (by rw [h14]; rfl) h15)]
                          exact T_ret fun cx_ a_ hI_ => loop_ret (loop_ret (ret_ok (H' := []) (.inr rfl) (Wk.ren2 [ps 4 (.av (.slice none 0 0)), ps 5 (iv ((f5 d x).2))] 0 hc0 [] rfl rfl (by kernel_rfl) (by kernel_rfl)) rfl (obs_nil) (fun cx_ a_ hI_ => ret_res (l' := [ps 4 (.av (.slice none 0 0)), ps 5 (iv ((f5 d x).2))]) (by kernel_rfl) cx_ a_ hI_) hI_))
                      · exfalso; omega
              · refine T_else (b := (decide (((j : Nat) : Int) < 4))) rfl (decide_eq_false h7) ?_
                refine T_break rfl rfl ?_
                refine T_region [(3, .app none (some (tns (((l.take i).map (fun t => (chT ⟨true, sl, false, xl, xa, xo, s, h, d⟩ (endS l) t).1)) ++ [x]))))] [ks 7, ks 8, ks 41, ks 42, ks 43, kb 2, kb 3, kb 4, kb 5, kb 38] (fun _ => mixed) (l' := [ps 7 (.osl 38 0 (i + 1)), ps 8 (.osl 2 0 4), ps 41 (.ssl (tns l) 0 l.length), ps 42 (nv l.length), ps 43 (nv i), pb 2 51 [(PV.fn (.func 33) [] [(.opt 3 0)]), (PV.fn (.func 34) [] [(.opt 4 0)]), (PV.fn (.func 49) [] [(.opt 5 0)]), (PV.fn (.func 40) [] [(.opt 4 0)])], pb 3 3 [(iv (endS l))], pb 4 29 (chC ⟨true, sl, false, xl, xa, xo, s, h, d⟩), pb 5 65 [(PV.fn (.func 38) [] [(.opt 4 0)])], pb 38 41 (tns (((l.take i).map (fun t => (chT ⟨true, sl, false, xl, xa, xo, s, h, d⟩ (endS l) t).1)) ++ [x]))]) (obs := [((tns ((l.take i).map (fun t => (chT ⟨true, sl, false, xl, xa, xo, s, h, d⟩ (endS l) t).1)))).length = i * 5, (i + 1) * 40 ≤ 140737488355328 ∧ i + 1 ≤ 9223372036854775807, (tns ((l.take i).map (fun t => (chT ⟨true, sl, false, xl, xa, xo, s, h, d⟩ (endS l) t).1))) ++ (tnC x) = (tns (((l.take i).map (fun t => (chT ⟨true, sl, false, xl, xa, xo, s, h, d⟩ (endS l) t).1)) ++ [x]))]) (by kernel_rfl) (obs_cons (by simp only [tns_len, List.length_map, List.length_take]; omega) (obs_cons (by omega) (obs_cons (flat_app tnC ((l.take i).map (fun t => (chT ⟨true, sl, false, xl, xa, xo, s, h, d⟩ (endS l) t).1)) [x]).symm (obs_nil)))) ?_
                refine T_blk ?_
                refine T_region [] [ks 7, ks 8, ks 41, ks 42, ks 43, kb 2, kb 3, kb 4, kb 5, kb 38] (fun _ => mixed) (l' := [ps 7 (.osl 38 0 (i + 1)), ps 8 (.osl 2 0 4), ps 41 (.ssl (tns l) 0 l.length), ps 42 (nv l.length), ps 43 (iv (((i : Nat) : Int) + 1)), pb 2 51 [(PV.fn (.func 33) [] [(.opt 3 0)]), (PV.fn (.func 34) [] [(.opt 4 0)]), (PV.fn (.func 49) [] [(.opt 5 0)]), (PV.fn (.func 40) [] [(.opt 4 0)])], pb 3 3 [(iv (endS l))], pb 4 29 (chC ⟨true, sl, false, xl, xa, xo, s, h, d⟩), pb 5 65 [(PV.fn (.func 38) [] [(.opt 4 0)])], pb 38 41 (tns (((l.take i).map (fun t => (chT ⟨true, sl, false, xl, xa, xo, s, h, d⟩ (endS l) t).1)) ++ [x]))]) (obs := [InK .i64 (((i : Nat) : Int) + 1)]) (by kernel_rfl) (obs_cons (by simp only [InK]; omega) (obs_nil)) ?_
                have hxe : chT ⟨true, sl, false, xl, xa, xo, s, h, d⟩ (endS l) (l.getD i dT) = (x, 0) := by rw [← hx, show j = 4 from by omega]; rfl
                exact T_back ⟨i + 1, ⟨by omega, by rw [fstE_next hf, hxe]⟩⟩ (Wk.trans (Wk.eq (show _ = [ps 7 (.osl 38 0 (i + 1)), ps 8 (.osl 2 0 4), ps 41 (.ssl (tns l) 0 l.length), ps 42 (nv l.length), ps 43 (iv (((i : Nat) : Int) + 1)), pb 2 51 [(PV.fn (.func 33) [] [(.opt 3 0)]), (PV.fn (.func 34) [] [(.opt 4 0)]), (PV.fn (.func 49) [] [(.opt 5 0)]), (PV.fn (.func 40) [] [(.opt 4 0)])], pb 3 3 [(iv (endS l))], pb 4 29 (chC ⟨true, sl, false, xl, xa, xo, s, h, d⟩), pb 5 65 [(PV.fn (.func 38) [] [(.opt 4 0)])], pb 38 41 (tns ((l.take (i + 1)).map (fun t => (chT ⟨true, sl, false, xl, xa, xo, s, h, d⟩ (endS l) t).1)))] from by rw [map_next (f := (fun t => (chT ⟨true, sl, false, xl, xa, xo, s, h, d⟩ (endS l) t).1)) (show i < l.length from by omega) (x := x) (by rw [hxe])])) (Wk.ren3 [ps 7 (.osl 0 0 (i + 1)), ps 8 (.osl 1 0 4), ps 41 (.ssl (tns l) 0 l.length), ps 42 (nv l.length), ps 43 (nv (i + 1)), pb 0 41 (tns ((l.take (i + 1)).map (fun t => (chT ⟨true, sl, false, xl, xa, xo, s, h, d⟩ (endS l) t).1))), pb 1 51 [(PV.fn (.func 33) [] [(.opt 2 0)]), (PV.fn (.func 34) [] [(.opt 3 0)]), (PV.fn (.func 49) [] [(.opt 4 0)]), (PV.fn (.func 40) [] [(.opt 3 0)])], pb 2 3 [(iv (endS l))], pb 3 29 (chC ⟨true, sl, false, xl, xa, xo, s, h, d⟩), pb 4 65 [(PV.fn (.func 38) [] [(.opt 3 0)])]] 0 hc0 [38, 2, 3, 4, 5] [(kb 0, (tns ((l.take (i + 1)).map (fun t => (chT ⟨true, sl, false, xl, xa, xo, s, h, d⟩ (endS l) t).1))))] (obs_cons (tns_shd _) (obs_nil)) (by kernel_rfl) rfl rfl (by kernel_rfl) (by kernel_rfl))) (show l.length - (i + 1) < l.length - i from by omega)
            · refine T_else (b := (decide (((i : Nat) : Int) < ((l.length : Nat) : Int)))) rfl (decide_eq_false h6) ?_
              refine T_break rfl rfl ?_
              refine T_seq ?_
              have hil : i = l.length := by omega
              rw [hil] at hf
              have hBd : Bd (l.map (fun t => (chT ⟨true, sl, false, xl, xa, xo, s, h, d⟩ (endS l) t).1)) := fun x hx => (map_bd hl hc hf x hx).bd
              refine T_wk (Wk.eq (show _ = [ps 7 (.osl 0 0 l.length), ps 8 (.osl 1 0 4), ps 41 (.ssl (tns l) 0 l.length), ps 42 (nv l.length), ps 43 (nv i), ps 44 (bv (decide (((i : Nat) : Int) < ((l.length : Nat) : Int)))), pb 0 41 (tns (l.map (fun t => (chT ⟨true, sl, false, xl, xa, xo, s, h, d⟩ (endS l) t).1))), pb 1 51 [(PV.fn (.func 33) [] [(.opt 2 0)]), (PV.fn (.func 34) [] [(.opt 3 0)]), (PV.fn (.func 49) [] [(.opt 4 0)]), (PV.fn (.func 40) [] [(.opt 3 0)])], pb 2 3 [(iv (endS l))], pb 3 29 (chC ⟨true, sl, false, xl, xa, xo, s, h, d⟩), pb 4 65 [(PV.fn (.func 38) [] [(.opt 3 0)])]] from by rw [hil, List.take_length])) ?_
              refine T_region [(1, .call [0] [(.osl 0 0 l.length), (fv 22)] [some (41, (tns (l.map (fun t => (chT ⟨true, sl, false, xl, xa, xo, s, h, d⟩ (endS l) t).1))))] (.tup []) [some (41, (tns (sortT (l.map (fun t => (chT ⟨true, sl, false, xl, xa, xo, s, h, d⟩ (endS l) t).1)))))])] [ks 7, kb 0] (fun _ => mixed) (l' := [ps 7 (.osl 0 0 l.length), pb 0 41 (renL (sigo [0] 21) (tns (sortT (l.map (fun t => (chT ⟨true, sl, false, xl, xa, xo, s, h, d⟩ (endS l) t).1)))))]) (obs := [PC Try.prog 21 [(.osl 0 0 l.length), (fv 22)] [some (41, (tns (l.map (fun t => (chT ⟨true, sl, false, xl, xa, xo, s, h, d⟩ (endS l) t).1))))] (.tup []) [some (41, (tns (sortT (l.map (fun t => (chT ⟨true, sl, false, xl, xa, xo, s, h, d⟩ (endS l) t).1)))))], [(.osl 0 0 l.length), (fv 22)] = renL (sigi [0] 21) [(.osl 0 0 l.length), (fv 22)], (tns (l.map (fun t => (chT ⟨true, sl, false, xl, xa, xo, s, h, d⟩ (endS l) t).1))) = renL (sigi [0] 21) (tns (l.map (fun t => (chT ⟨true, sl, false, xl, xa, xo, s, h, d⟩ (endS l) t).1)))]) (by kernel_rfl) (obs_cons (sort_pc (l.map (fun t => (chT ⟨true, sl, false, xl, xa, xo, s, h, d⟩ (endS l) t).1)) l.length (by rw [List.length_map]) (by omega) hBd) (obs_cons rfl (obs_cons (renL_shd (tns_shd _)).symm (obs_nil)))) ?_
              refine T_wk (Wk.eq (show _ = [ps 7 (.osl 0 0 l.length), pb 0 41 (tns (sortT (l.map (fun t => (chT ⟨true, sl, false, xl, xa, xo, s, h, d⟩ (endS l) t).1))))] from by simp only [renL_shd (tns_shd _)])) ?_
              refine T_seq ?_
              refine T_region [] [ks 4, ks 5, kb 0] (fun _ => mixed) (l' := [ps 4 (.osl 0 0 l.length), ps 5 (iv 0), pb 0 41 (tns (sortT (l.map (fun t => (chT ⟨true, sl, false, xl, xa, xo, s, h, d⟩ (endS l) t).1))))]) (obs := []) (by kernel_rfl) (obs_nil) ?_
              refine T_wk (Wk.eq (show _ = [ps 4 (.osl 0 0 ((sortT (l.map (fun t => (chT ⟨true, sl, false, xl, xa, xo, s, h, d⟩ (endS l) t).1))).length)), ps 5 (iv 0), pb 0 41 (tns (sortT (l.map (fun t => (chT ⟨true, sl, false, xl, xa, xo, s, h, d⟩ (endS l) t).1))))] from by rw [sortT_len, List.length_map])) ?_
              refine T_wk (Wk.frz (l' := [ps 4 (.ssl (tns (sortT (l.map (fun t => (chT ⟨true, sl, false, xl, xa, xo, s, h, d⟩ (endS l) t).1)))) 0 ((sortT (l.map (fun t => (chT ⟨true, sl, false, xl, xa, xo, s, h, d⟩ (endS l) t).1))).length)), ps 5 (iv 0), (kb 0, none)]) 0 (T := 41) (cs := (tns (sortT (l.map (fun t => (chT ⟨true, sl, false, xl, xa, xo, s, h, d⟩ (endS l) t).1))))) (by kernel_rfl) (tns_shd _) (by kernel_rfl)) ?_
              refine T_wk (Wk.less (l' := [ps 4 (.ssl (tns (sortT (l.map (fun t => (chT ⟨true, sl, false, xl, xa, xo, s, h, d⟩ (endS l) t).1)))) 0 ((sortT (l.map (fun t => (chT ⟨true, sl, false, xl, xa, xo, s, h, d⟩ (endS l) t).1))).length)), ps 5 (iv 0)]) 53 (by kernel_rfl) (by kernel_rfl)) ?_
              rw [chgP_ok h1 hc hf]
              exact T_ret fun cx_ a_ hI_ => ret_ok (H' := []) (.inr rfl) (Wk.ren2 [ps 4 (.ssl (tns (sortT (l.map (fun t => (chT ⟨true, sl, false, xl, xa, xo, s, h, d⟩ (endS l) t).1)))) 0 ((sortT (l.map (fun t => (chT ⟨true, sl, false, xl, xa, xo, s, h, d⟩ (endS l) t).1))).length)), ps 5 (iv 0)] 0 hc0 [] rfl rfl (by kernel_rfl) (by kernel_rfl)) rfl (obs_nil) (fun cx_ a_ hI_ => ret_res (l' := [ps 4 (.ssl (tns (sortT (l.map (fun t => (chT ⟨true, sl, false, xl, xa, xo, s, h, d⟩ (endS l) t).1)))) 0 ((sortT (l.map (fun t => (chT ⟨true, sl, false, xl, xa, xo, s, h, d⟩ (endS l) t).1))).length)), ps 5 (iv 0)]) (by kernel_rfl) cx_ a_ hI_) hI_
  · refine T_then (b := (!(decide ((wrongS l) = 0)))) rfl (congrArg Bool.not (decide_eq_false h1)) ?_
    refine T_seq ?_
    refine T_region [] [ks 4, ks 5] (fun _ => mixed) (l' := [ps 4 (.av (.slice none 0 0)), ps 5 (iv (wrongS l))]) (obs := []) (by kernel_rfl) (obs_nil) ?_
    rw [chgP_wrong h1]
    exact T_ret fun cx_ a_ hI_ => ret_ok (H' := []) (.inr rfl) (Wk.ren2 [ps 4 (.av (.slice none 0 0)), ps 5 (iv (wrongS l))] 0 hc0 [] rfl rfl (by kernel_rfl) (by kernel_rfl)) rfl (obs_nil) (fun cx_ a_ hI_ => ret_res (l' := [ps 4 (.av (.slice none 0 0)), ps 5 (iv (wrongS l))]) (by kernel_rfl) cx_ a_ hI_) hI_
end Go.Proofs.Ytjdblogapkbefaa.Pm
namespace Go.Proofs.Ytjdblogapkbefaa.Pm
open Go Go.Proofs.Ytjdblogapkbefaa.Pi

set_option maxRecDepth 100000 in
set_option maxHeartbeats 4000000 in
theorem apply_11 (sl xl xa xo s h d : Int) (l : List Tn) (is : I64 s) (ih : I64 h) : PC Try.prog 8 [(.agg (chC ⟨true, sl, true, xl, xa, xo, s, h, d⟩)), (.ssl (tns l) 0 l.length)] [] (chgP ⟨true, sl, true, xl, xa, xo, s, h, d⟩ l) [] := by
  refine pc_intro Try.func8 rfl (by kernel_rfl) (Nat.le_of_ble_eq_true rfl) (by kernel_rfl) (l0 := [ps 0 (.agg (chC ⟨true, sl, true, xl, xa, xo, s, h, d⟩)), ps 1 (.ssl (tns l) 0 l.length)]) rfl (fun c0 Bor hc0 => ?_)
  refine T_seq ?_
  refine T_region [] [ks 1, ks 2, kb 0] (fun _ => mixed) (l' := [ps 1 (.ssl (tns l) 0 l.length), ps 2 (.opt 0 0), pb 0 29 (chC ⟨true, sl, true, xl, xa, xo, s, h, d⟩)]) (obs := []) (by kernel_rfl) (obs_nil) ?_
  refine T_seq ?_
  refine T_seq ?_
  refine T_region [(1, .call [] [(.ssl (tns l) 0 l.length)] [] (iv (wrongS l)) [])] [ks 1, ks 2, ks 6, kb 0] (fun _ => mixed) (l' := [ps 1 (.ssl (tns l) 0 l.length), ps 2 (.opt 0 0), ps 6 (iv (wrongS l)), pb 0 29 (chC ⟨true, sl, true, xl, xa, xo, s, h, d⟩)]) (obs := [PC Try.prog 10 [(.ssl (tns l) 0 l.length)] [] (iv (wrongS l)) [], [(.ssl (tns l) 0 l.length)] = renL (sigi [] 32) [(.ssl (tns l) 0 l.length)]]) (by kernel_rfl) (obs_cons (wrong_pc l) (obs_cons rfl (obs_nil))) ?_
  refine T_seq ?_
  refine T_region [] [ks 1, ks 2, ks 6, ks 17, kb 0] (fun _ => mixed) (l' := [ps 1 (.ssl (tns l) 0 l.length), ps 2 (.opt 0 0), ps 6 (iv (wrongS l)), ps 17 (bv (!(decide ((wrongS l) = 0)))), pb 0 29 (chC ⟨true, sl, true, xl, xa, xo, s, h, d⟩)]) (obs := []) (by kernel_rfl) (obs_nil) ?_
  by_cases h1 : (wrongS l) = 0
  · refine T_else (b := (!(decide ((wrongS l) = 0)))) rfl (congrArg Bool.not (decide_eq_true h1)) ?_
    refine T_skip ?_
    refine T_seq ?_
    refine T_seq ?_
    by_cases h2 : sl < 1
    · refine T_region [(4, .gd true .no), (5, .gd true .no), (6, .gd true .no), (7, .yes true), (9, .gd true .no), (10, .gd true .no), (11, .gd true .no), (14, .gd true .no), (15, .gd true .no), (16, .gd true .no)] [ks 1, ks 2, ks 36, kb 0] (fun _ => mixed) (l' := [ps 1 (.ssl (tns l) 0 l.length), ps 2 (.opt 0 0), ps 36 (bv true), pb 0 29 (chC ⟨true, sl, true, xl, xa, xo, s, h, d⟩)]) (obs := [(decide (sl < 1)) = true, (decide (sl < 1)) = true, (decide (sl < 1)) = true, (decide (sl < 1)) = true, true = true, true = true, true = true, true = true, true = true, true = true]) (by kernel_rfl) (obs_cons (decide_eq_true h2) (obs_cons (decide_eq_true h2) (obs_cons (decide_eq_true h2) (obs_cons (decide_eq_true h2) (obs_cons rfl (obs_cons rfl (obs_cons rfl (obs_cons rfl (obs_cons rfl (obs_cons rfl (obs_nil))))))))))) ?_
      refine T_then (b := true) rfl rfl ?_
      refine T_seq ?_
      refine T_region [] [ks 4, ks 5] (fun _ => mixed) (l' := [ps 4 (.av (.slice none 0 0)), ps 5 (iv 3)]) (obs := []) (by kernel_rfl) (obs_nil) ?_
      rw [chgP_bad h1 (by unfold chBad; show sl < 1 ∨ 16 < sl ∨ d < 0 ∨ 1048576 < d; omega)]
      exact T_ret fun cx_ a_ hI_ => ret_ok (H' := []) (.inr rfl) (Wk.ren2 [ps 4 (.av (.slice none 0 0)), ps 5 (iv 3)] 0 hc0 [] rfl rfl (by kernel_rfl) (by kernel_rfl)) rfl (obs_nil) (fun cx_ a_ hI_ => ret_res (l' := [ps 4 (.av (.slice none 0 0)), ps 5 (iv 3)]) (by kernel_rfl) cx_ a_ hI_) hI_
    · by_cases h3 : 16 < sl
      · refine T_region [(4, .gd false (.no)), (5, .gd false (.no)), (6, .gd false (.no)), (7, .yes false), (9, .gd true .no), (10, .gd true .no), (11, .gd true .no), (12, .yes true), (14, .gd true .no), (15, .gd true .no), (16, .gd true .no)] [ks 1, ks 2, ks 36, kb 0] (fun _ => mixed) (l' := [ps 1 (.ssl (tns l) 0 l.length), ps 2 (.opt 0 0), ps 36 (bv true), pb 0 29 (chC ⟨true, sl, true, xl, xa, xo, s, h, d⟩)]) (obs := [(decide (sl < 1)) = false, (decide (sl < 1)) = false, (decide (sl < 1)) = false, (decide (sl < 1)) = false, (decide (16 < sl)) = true, (decide (16 < sl)) = true, (decide (16 < sl)) = true, (decide (16 < sl)) = true, true = true, true = true, true = true]) (by kernel_rfl) (obs_cons (decide_eq_false h2) (obs_cons (decide_eq_false h2) (obs_cons (decide_eq_false h2) (obs_cons (decide_eq_false h2) (obs_cons (decide_eq_true h3) (obs_cons (decide_eq_true h3) (obs_cons (decide_eq_true h3) (obs_cons (decide_eq_true h3) (obs_cons rfl (obs_cons rfl (obs_cons rfl (obs_nil)))))))))))) ?_
        refine T_then (b := true) rfl rfl ?_
        refine T_seq ?_
        refine T_region [] [ks 4, ks 5] (fun _ => mixed) (l' := [ps 4 (.av (.slice none 0 0)), ps 5 (iv 3)]) (obs := []) (by kernel_rfl) (obs_nil) ?_
        rw [chgP_bad h1 (by unfold chBad; show sl < 1 ∨ 16 < sl ∨ d < 0 ∨ 1048576 < d; omega)]
        exact T_ret fun cx_ a_ hI_ => ret_ok (H' := []) (.inr rfl) (Wk.ren2 [ps 4 (.av (.slice none 0 0)), ps 5 (iv 3)] 0 hc0 [] rfl rfl (by kernel_rfl) (by kernel_rfl)) rfl (obs_nil) (fun cx_ a_ hI_ => ret_res (l' := [ps 4 (.av (.slice none 0 0)), ps 5 (iv 3)]) (by kernel_rfl) cx_ a_ hI_) hI_
      · by_cases h4 : d < 0
        · refine T_region [(4, .gd false (.no)), (5, .gd false (.no)), (6, .gd false (.no)), (7, .yes false), (9, .gd false (.no)), (10, .gd false (.no)), (11, .gd false (.no)), (12, .yes false), (14, .gd true .no), (15, .gd true .no), (16, .gd true .no), (17, .yes true)] [ks 1, ks 2, ks 36, kb 0] (fun _ => mixed) (l' := [ps 1 (.ssl (tns l) 0 l.length), ps 2 (.opt 0 0), ps 36 (bv true), pb 0 29 (chC ⟨true, sl, true, xl, xa, xo, s, h, d⟩)]) (obs := [(decide (sl < 1)) = false, (decide (sl < 1)) = false, (decide (sl < 1)) = false, (decide (sl < 1)) = false, (decide (16 < sl)) = false, (decide (16 < sl)) = false, (decide (16 < sl)) = false, (decide (16 < sl)) = false, (decide (d < 0)) = true, (decide (d < 0)) = true, (decide (d < 0)) = true, (decide (d < 0)) = true]) (by kernel_rfl) (obs_cons (decide_eq_false h2) (obs_cons (decide_eq_false h2) (obs_cons (decide_eq_false h2) (obs_cons (decide_eq_false h2) (obs_cons (decide_eq_false h3) (obs_cons (decide_eq_false h3) (obs_cons (decide_eq_false h3) (obs_cons (decide_eq_false h3) (obs_cons (decide_eq_true h4) (obs_cons (decide_eq_true h4) (obs_cons (decide_eq_true h4) (obs_cons (decide_eq_true h4) (obs_nil))))))))))))) ?_
          refine T_then (b := true) rfl rfl ?_
          refine T_seq ?_
          refine T_region [] [ks 4, ks 5] (fun _ => mixed) (l' := [ps 4 (.av (.slice none 0 0)), ps 5 (iv 3)]) (obs := []) (by kernel_rfl) (obs_nil) ?_
          rw [chgP_bad h1 (by unfold chBad; show sl < 1 ∨ 16 < sl ∨ d < 0 ∨ 1048576 < d; omega)]
          exact T_ret fun cx_ a_ hI_ => ret_ok (H' := []) (.inr rfl) (Wk.ren2 [ps 4 (.av (.slice none 0 0)), ps 5 (iv 3)] 0 hc0 [] rfl rfl (by kernel_rfl) (by kernel_rfl)) rfl (obs_nil) (fun cx_ a_ hI_ => ret_res (l' := [ps 4 (.av (.slice none 0 0)), ps 5 (iv 3)]) (by kernel_rfl) cx_ a_ hI_) hI_
        · refine T_region [(4, .gd false (.no)), (5, .gd false (.no)), (6, .gd false (.no)), (7, .yes false), (9, .gd false (.no)), (10, .gd false (.no)), (11, .gd false (.no)), (12, .yes false), (14, .gd false (.no)), (15, .gd false (.no)), (16, .gd false (.no)), (17, .yes false)] [ks 1, ks 2, ks 36, kb 0] (fun _ => mixed) (l' := [ps 1 (.ssl (tns l) 0 l.length), ps 2 (.opt 0 0), ps 36 (bv (decide (1048576 < d))), pb 0 29 (chC ⟨true, sl, true, xl, xa, xo, s, h, d⟩)]) (obs := [(decide (sl < 1)) = false, (decide (sl < 1)) = false, (decide (sl < 1)) = false, (decide (sl < 1)) = false, (decide (16 < sl)) = false, (decide (16 < sl)) = false, (decide (16 < sl)) = false, (decide (16 < sl)) = false, (decide (d < 0)) = false, (decide (d < 0)) = false, (decide (d < 0)) = false, (decide (d < 0)) = false]) (by kernel_rfl) (obs_cons (decide_eq_false h2) (obs_cons (decide_eq_false h2) (obs_cons (decide_eq_false h2) (obs_cons (decide_eq_false h2) (obs_cons (decide_eq_false h3) (obs_cons (decide_eq_false h3) (obs_cons (decide_eq_false h3) (obs_cons (decide_eq_false h3) (obs_cons (decide_eq_false h4) (obs_cons (decide_eq_false h4) (obs_cons (decide_eq_false h4) (obs_cons (decide_eq_false h4) (obs_nil))))))))))))) ?_
          by_cases h5 : 1048576 < d
          · refine T_then (b := (decide (1048576 < d))) rfl (decide_eq_true h5) ?_
            refine T_seq ?_
            refine T_region [] [ks 4, ks 5] (fun _ => mixed) (l' := [ps 4 (.av (.slice none 0 0)), ps 5 (iv 3)]) (obs := []) (by kernel_rfl) (obs_nil) ?_
            rw [chgP_bad h1 (by unfold chBad; show sl < 1 ∨ 16 < sl ∨ d < 0 ∨ 1048576 < d; omega)]
            exact T_ret fun cx_ a_ hI_ => ret_ok (H' := []) (.inr rfl) (Wk.ren2 [ps 4 (.av (.slice none 0 0)), ps 5 (iv 3)] 0 hc0 [] rfl rfl (by kernel_rfl) (by kernel_rfl)) rfl (obs_nil) (fun cx_ a_ hI_ => ret_res (l' := [ps 4 (.av (.slice none 0 0)), ps 5 (iv 3)]) (by kernel_rfl) cx_ a_ hI_) hI_
          · refine T_else (b := (decide (1048576 < d))) rfl (decide_eq_false h5) ?_
            refine T_skip ?_
            refine T_seq ?_
            refine T_region [] [ks 1, ks 2, ks 7, kb 0] (fun _ => mixed) (l' := [ps 1 (.ssl (tns l) 0 l.length), ps 2 (.opt 0 0), ps 7 (.av (.slice none 0 0)), pb 0 29 (chC ⟨true, sl, true, xl, xa, xo, s, h, d⟩)]) (obs := []) (by kernel_rfl) (obs_nil) ?_
            refine T_seq ?_
            have hl := wrong_iff.1 h1
            have hlen := hl.len
            have hE := endN_bd hl (Nat.le_refl l.length)
            have hs : 1 ≤ sl ∧ sl ≤ 16 := by omega
            have hd : 0 ≤ d ∧ d ≤ 1048576 := by omega
            have hc : ¬ chBad ⟨true, sl, true, xl, xa, xo, s, h, d⟩ := by unfold chBad; show ¬ (sl < 1 ∨ 16 < sl ∨ d < 0 ∨ 1048576 < d); omega
            refine T_regionD [(2, .call [] [(.ssl (tns l) 0 l.length)] [] (iv (endS l)) []), (3, .call [] [(.agg (chC ⟨true, sl, true, xl, xa, xo, s, h, d⟩)), (iv (endS l))] [] (.osl 4 0 5) [some (29, (chC ⟨true, sl, true, xl, xa, xo, s, h, d⟩)), some (65, [(PV.fn (.func 38) [] [(.opt 0 0)])]), some (65, [(PV.fn (.func 36) [] [(.opt 0 0)])]), some (3, [(iv (endS l))]), some (51, [(PV.fn (.func 33) [] [(.opt 3 0)]), (PV.fn (.func 34) [] [(.opt 0 0)]), (PV.fn (.func 49) [] [(.opt 2 0)]), (PV.fn (.func 49) [] [(.opt 1 0)]), (PV.fn (.func 40) [] [(.opt 0 0)])])])] [[], [], [1], [0, 1, 2], [0, 1, 2, 3]] [([74], [1, 4]), ([76], [2]), ([78], [76]), ([80, 481, 483, 485, 487, 489], [74, 78]), ([16], [80])] [ks 1, ks 7, ks 8, kb 240, kb 241, kb 242, kb 243, kb 244] (l' := [ps 1 (.ssl (tns l) 0 l.length), ps 7 (.av (.slice none 0 0)), ps 8 (.osl 244 0 5), pb 240 29 (chC ⟨true, sl, true, xl, xa, xo, s, h, d⟩), pb 241 65 [(PV.fn (.func 38) [] [(.opt 240 0)])], pb 242 65 [(PV.fn (.func 36) [] [(.opt 240 0)])], pb 243 3 [(iv (endS l))], pb 244 51 [(PV.fn (.func 33) [] [(.opt 243 0)]), (PV.fn (.func 34) [] [(.opt 240 0)]), (PV.fn (.func 49) [] [(.opt 242 0)]), (PV.fn (.func 49) [] [(.opt 241 0)]), (PV.fn (.func 40) [] [(.opt 240 0)])]]) (obs := [PC Try.prog 15 [(.ssl (tns l) 0 l.length)] [] (iv (endS l)) [], [(.ssl (tns l) 0 l.length)] = renL (sigi [] 232) [(.ssl (tns l) 0 l.length)], PC Try.prog 20 [(.agg (chC ⟨true, sl, true, xl, xa, xo, s, h, d⟩)), (iv (endS l))] [] (.osl 4 0 5) [some (29, (chC ⟨true, sl, true, xl, xa, xo, s, h, d⟩)), some (65, [(PV.fn (.func 38) [] [(.opt 0 0)])]), some (65, [(PV.fn (.func 36) [] [(.opt 0 0)])]), some (3, [(iv (endS l))]), some (51, [(PV.fn (.func 33) [] [(.opt 3 0)]), (PV.fn (.func 34) [] [(.opt 0 0)]), (PV.fn (.func 49) [] [(.opt 2 0)]), (PV.fn (.func 49) [] [(.opt 1 0)]), (PV.fn (.func 40) [] [(.opt 0 0)])])], [(.agg (chC ⟨true, sl, true, xl, xa, xo, s, h, d⟩)), (iv (endS l))] = renL (sigi [] 240) [(.agg (chC ⟨true, sl, true, xl, xa, xo, s, h, d⟩)), (iv (endS l))]]) mixed (by kernel_rfl) (by kernel_rfl) (obs_cons (end_pc l (wrong_iff.1 h1)) (obs_cons rfl (obs_cons (steps_11 sl xl xa xo s h d (endS l)) (obs_cons rfl (obs_nil))))) ?_
            refine T_seq ?_
            refine T_seq ?_
            refine T_region [] [ks 7, ks 8, ks 41, ks 42, ks 43, kb 240, kb 241, kb 242, kb 243, kb 244] (fun _ => mixed) (l' := [ps 7 (.av (.slice none 0 0)), ps 8 (.osl 244 0 5), ps 41 (.ssl (tns l) 0 l.length), ps 42 (nv l.length), ps 43 (iv 0), pb 240 29 (chC ⟨true, sl, true, xl, xa, xo, s, h, d⟩), pb 241 65 [(PV.fn (.func 38) [] [(.opt 240 0)])], pb 242 65 [(PV.fn (.func 36) [] [(.opt 240 0)])], pb 243 3 [(iv (endS l))], pb 244 51 [(PV.fn (.func 33) [] [(.opt 243 0)]), (PV.fn (.func 34) [] [(.opt 240 0)]), (PV.fn (.func 49) [] [(.opt 242 0)]), (PV.fn (.func 49) [] [(.opt 241 0)]), (PV.fn (.func 40) [] [(.opt 240 0)])]]) (obs := []) (by kernel_rfl) (obs_nil) ?_
            refine T_block ?_
            refine T_wk (Wk.nil (s := 7) 41 (by kernel_rfl)) ?_
            refine T_wk (Wk.less (l' := [ps 7 (.osl 280 0 0), ps 8 (.osl 244 0 5), ps 41 (.ssl (tns l) 0 l.length), ps 42 (nv l.length), ps 43 (iv 0), pb 240 29 (chC ⟨true, sl, true, xl, xa, xo, s, h, d⟩), pb 241 65 [(PV.fn (.func 38) [] [(.opt 240 0)])], pb 242 65 [(PV.fn (.func 36) [] [(.opt 240 0)])], pb 243 3 [(iv (endS l))], pb 244 51 [(PV.fn (.func 33) [] [(.opt 243 0)]), (PV.fn (.func 34) [] [(.opt 240 0)]), (PV.fn (.func 49) [] [(.opt 242 0)]), (PV.fn (.func 49) [] [(.opt 241 0)]), (PV.fn (.func 40) [] [(.opt 240 0)])], pb 280 41 []]) 281 (by kernel_rfl) (by kernel_rfl)) ?_
            refine T_wk (Wk.eq (show _ = [ps 7 (.osl 280 0 0), ps 8 (.osl 244 0 5), ps 41 (.ssl (tns l) 0 l.length), ps 42 (nv l.length), ps 43 (iv 0), pb 240 29 (chC ⟨true, sl, true, xl, xa, xo, s, h, d⟩), pb 241 65 [(PV.fn (.func 38) [] [(.opt 240 0)])], pb 242 65 [(PV.fn (.func 36) [] [(.opt 240 0)])], pb 243 3 [(iv (endS l))], pb 244 51 [(PV.fn (.func 33) [] [(.opt 243 0)]), (PV.fn (.func 34) [] [(.opt 240 0)]), (PV.fn (.func 49) [] [(.opt 242 0)]), (PV.fn (.func 49) [] [(.opt 241 0)]), (PV.fn (.func 40) [] [(.opt 240 0)])], pb 280 41 (tns ((l.take 0).map (fun t => (chT ⟨true, sl, true, xl, xa, xo, s, h, d⟩ (endS l) t).1)))] from by rfl)) ?_
            refine T_loop (α := {x : Nat // x ≤ l.length ∧ fstE (fun x => (chT ⟨true, sl, true, xl, xa, xo, s, h, d⟩ (endS l) (l.getD x dT)).2) x = 0}) (fun x => [ps 7 (.osl 0 0 x.1), ps 8 (.osl 1 0 5), ps 41 (.ssl (tns l) 0 l.length), ps 42 (nv l.length), ps 43 (nv x.1), pb 0 41 (tns ((l.take x.1).map (fun t => (chT ⟨true, sl, true, xl, xa, xo, s, h, d⟩ (endS l) t).1))), pb 1 51 [(PV.fn (.func 33) [] [(.opt 2 0)]), (PV.fn (.func 34) [] [(.opt 3 0)]), (PV.fn (.func 49) [] [(.opt 4 0)]), (PV.fn (.func 49) [] [(.opt 5 0)]), (PV.fn (.func 40) [] [(.opt 3 0)])], pb 2 3 [(iv (endS l))], pb 3 29 (chC ⟨true, sl, true, xl, xa, xo, s, h, d⟩), pb 4 65 [(PV.fn (.func 36) [] [(.opt 3 0)])], pb 5 65 [(PV.fn (.func 38) [] [(.opt 3 0)])]]) (fun x => l.length - x.1) 6 ⟨0, ⟨Nat.zero_le _, rfl⟩⟩ (Wk.ren3 [ps 7 (.osl 0 0 0), ps 8 (.osl 1 0 5), ps 41 (.ssl (tns l) 0 l.length), ps 42 (nv l.length), ps 43 (nv 0), pb 0 41 (tns ((l.take 0).map (fun t => (chT ⟨true, sl, true, xl, xa, xo, s, h, d⟩ (endS l) t).1))), pb 1 51 [(PV.fn (.func 33) [] [(.opt 2 0)]), (PV.fn (.func 34) [] [(.opt 3 0)]), (PV.fn (.func 49) [] [(.opt 4 0)]), (PV.fn (.func 49) [] [(.opt 5 0)]), (PV.fn (.func 40) [] [(.opt 3 0)])], pb 2 3 [(iv (endS l))], pb 3 29 (chC ⟨true, sl, true, xl, xa, xo, s, h, d⟩), pb 4 65 [(PV.fn (.func 36) [] [(.opt 3 0)])], pb 5 65 [(PV.fn (.func 38) [] [(.opt 3 0)])]] 0 hc0 [280, 244, 243, 240, 242, 241] [(kb 0, (tns ((l.take 0).map (fun t => (chT ⟨true, sl, true, xl, xa, xo, s, h, d⟩ (endS l) t).1))))] (obs_cons (tns_shd _) (obs_nil)) (by kernel_rfl) rfl rfl (by kernel_rfl) (by kernel_rfl)) ?_
            rintro ⟨i, ⟨hi, hf⟩⟩
            refine T_seq ?_
            refine T_region [] [ks 7, ks 8, ks 41, ks 42, ks 43, ks 44, kb 0, kb 1, kb 2, kb 3, kb 4, kb 5] (fun _ => mixed) (l' := [ps 7 (.osl 0 0 i), ps 8 (.osl 1 0 5), ps 41 (.ssl (tns l) 0 l.length), ps 42 (nv l.length), ps 43 (nv i), ps 44 (bv (decide (((i : Nat) : Int) < ((l.length : Nat) : Int)))), pb 0 41 (tns ((l.take i).map (fun t => (chT ⟨true, sl, true, xl, xa, xo, s, h, d⟩ (endS l) t).1))), pb 1 51 [(PV.fn (.func 33) [] [(.opt 2 0)]), (PV.fn (.func 34) [] [(.opt 3 0)]), (PV.fn (.func 49) [] [(.opt 4 0)]), (PV.fn (.func 49) [] [(.opt 5 0)]), (PV.fn (.func 40) [] [(.opt 3 0)])], pb 2 3 [(iv (endS l))], pb 3 29 (chC ⟨true, sl, true, xl, xa, xo, s, h, d⟩), pb 4 65 [(PV.fn (.func 36) [] [(.opt 3 0)])], pb 5 65 [(PV.fn (.func 38) [] [(.opt 3 0)])]]) (obs := []) (by kernel_rfl) (obs_nil) ?_
            refine T_seq ?_
            by_cases h6 : ((i : Nat) : Int) < ((l.length : Nat) : Int)
            · refine T_then (b := (decide (((i : Nat) : Int) < ((l.length : Nat) : Int)))) rfl (decide_eq_true h6) ?_
              refine T_skip ?_
              refine T_seq ?_
              refine T_block ?_
              refine T_seq ?_
              refine T_region [(0, .nat (i * 5)), (1, .cells (tnC (l.getD i dT)))] [ks 7, ks 8, ks 10, ks 41, ks 42, ks 43, kb 0, kb 1, kb 2, kb 3, kb 4, kb 5, kb 30] (fun _ => mixed) (l' := [ps 7 (.osl 0 0 i), ps 8 (.osl 1 0 5), ps 10 (.opt 30 0), ps 41 (.ssl (tns l) 0 l.length), ps 42 (nv l.length), ps 43 (nv i), pb 0 41 (tns ((l.take i).map (fun t => (chT ⟨true, sl, true, xl, xa, xo, s, h, d⟩ (endS l) t).1))), pb 1 51 [(PV.fn (.func 33) [] [(.opt 2 0)]), (PV.fn (.func 34) [] [(.opt 3 0)]), (PV.fn (.func 49) [] [(.opt 4 0)]), (PV.fn (.func 49) [] [(.opt 5 0)]), (PV.fn (.func 40) [] [(.opt 3 0)])], pb 2 3 [(iv (endS l))], pb 3 29 (chC ⟨true, sl, true, xl, xa, xo, s, h, d⟩), pb 4 65 [(PV.fn (.func 36) [] [(.opt 3 0)])], pb 5 65 [(PV.fn (.func 38) [] [(.opt 3 0)])], pb 30 41 (tnC (l.getD i dT))]) (obs := [(0 : Int) ≤ ((i : Nat) : Int) ∧ ((i : Nat) : Int) < ((l.length : Nat) : Int), 0 + (((i : Nat) : Int) : Int).toNat * 5 = (i * 5), (i * 5) + 5 ≤ ((tns l)).length ∧ (((tns l)).drop (i * 5)).take 5 = (tnC (l.getD i dT))]) (by kernel_rfl) (obs_cons (by omega) (obs_cons (by omega) (obs_cons (flat_at tnC 5 (fun _ => rfl) dT l i 0 5 (by omega) (by decide)) (obs_nil)))) ?_
              refine T_seq ?_
              refine T_region [] [ks 7, ks 8, ks 10, ks 41, ks 42, ks 43, kb 0, kb 1, kb 2, kb 3, kb 4, kb 5, kb 30] (fun _ => mixed) (l' := [ps 7 (.osl 0 0 i), ps 8 (.osl 1 0 5), ps 10 (.opt 30 0), ps 41 (.ssl (tns l) 0 l.length), ps 42 (nv l.length), ps 43 (nv i), pb 0 41 (tns ((l.take i).map (fun t => (chT ⟨true, sl, true, xl, xa, xo, s, h, d⟩ (endS l) t).1))), pb 1 51 [(PV.fn (.func 33) [] [(.opt 2 0)]), (PV.fn (.func 34) [] [(.opt 3 0)]), (PV.fn (.func 49) [] [(.opt 4 0)]), (PV.fn (.func 49) [] [(.opt 5 0)]), (PV.fn (.func 40) [] [(.opt 3 0)])], pb 2 3 [(iv (endS l))], pb 3 29 (chC ⟨true, sl, true, xl, xa, xo, s, h, d⟩), pb 4 65 [(PV.fn (.func 36) [] [(.opt 3 0)])], pb 5 65 [(PV.fn (.func 38) [] [(.opt 3 0)])], pb 30 41 (tnC (l.getD i dT))]) (obs := []) (by kernel_rfl) (obs_nil) ?_
              refine T_seq ?_
              refine T_seq ?_
              refine T_region [] [ks 7, ks 8, ks 10, ks 41, ks 42, ks 43, ks 47, ks 48, ks 49, kb 0, kb 1, kb 2, kb 3, kb 4, kb 5, kb 30] (fun _ => mixed) (l' := [ps 7 (.osl 0 0 i), ps 8 (.osl 1 0 5), ps 10 (.opt 30 0), ps 41 (.ssl (tns l) 0 l.length), ps 42 (nv l.length), ps 43 (nv i), ps 47 (.osl 1 0 5), ps 48 (iv 5), ps 49 (iv 0), pb 0 41 (tns ((l.take i).map (fun t => (chT ⟨true, sl, true, xl, xa, xo, s, h, d⟩ (endS l) t).1))), pb 1 51 [(PV.fn (.func 33) [] [(.opt 2 0)]), (PV.fn (.func 34) [] [(.opt 3 0)]), (PV.fn (.func 49) [] [(.opt 4 0)]), (PV.fn (.func 49) [] [(.opt 5 0)]), (PV.fn (.func 40) [] [(.opt 3 0)])], pb 2 3 [(iv (endS l))], pb 3 29 (chC ⟨true, sl, true, xl, xa, xo, s, h, d⟩), pb 4 65 [(PV.fn (.func 36) [] [(.opt 3 0)])], pb 5 65 [(PV.fn (.func 38) [] [(.opt 3 0)])], pb 30 41 (tnC (l.getD i dT))]) (obs := []) (by kernel_rfl) (obs_nil) ?_
              refine T_block ?_
              refine T_loop (α := {x : Nat × Tn // x.1 ≤ 5 ∧ runF ((fsOf ⟨true, sl, true, xl, xa, xo, s, h, d⟩ (endS l)).drop x.1) x.2 = chT ⟨true, sl, true, xl, xa, xo, s, h, d⟩ (endS l) (l.getD i dT) ∧ Far x.2 (([1048576, 4194304, 67108864, 67108864, 67108864, 134217728] : List Int).getD x.1 0)}) (fun x => [ps 7 (.osl 1 0 i), ps 8 (.osl 2 0 5), ps 10 (.opt 0 0), ps 41 (.ssl (tns l) 0 l.length), ps 42 (nv l.length), ps 43 (nv i), ps 47 (.osl 2 0 5), ps 48 (iv 5), ps 49 (nv x.1.1), pb 0 41 (tnC x.1.2), pb 1 41 (tns ((l.take i).map (fun t => (chT ⟨true, sl, true, xl, xa, xo, s, h, d⟩ (endS l) t).1))), pb 2 51 [(PV.fn (.func 33) [] [(.opt 3 0)]), (PV.fn (.func 34) [] [(.opt 4 0)]), (PV.fn (.func 49) [] [(.opt 5 0)]), (PV.fn (.func 49) [] [(.opt 6 0)]), (PV.fn (.func 40) [] [(.opt 4 0)])], pb 3 3 [(iv (endS l))], pb 4 29 (chC ⟨true, sl, true, xl, xa, xo, s, h, d⟩), pb 5 65 [(PV.fn (.func 36) [] [(.opt 4 0)])], pb 6 65 [(PV.fn (.func 38) [] [(.opt 4 0)])]]) (fun x => 5 - x.1.1) 7 ⟨(0, l.getD i dT), ⟨Nat.zero_le _, rfl, far_of (hl.at (by omega)) (by show (1048576 : Int) ≤ 1048576; decide)⟩⟩ (Wk.ren3 [ps 7 (.osl 1 0 i), ps 8 (.osl 2 0 5), ps 10 (.opt 0 0), ps 41 (.ssl (tns l) 0 l.length), ps 42 (nv l.length), ps 43 (nv i), ps 47 (.osl 2 0 5), ps 48 (iv 5), ps 49 (nv 0), pb 0 41 (tnC (l.getD i dT)), pb 1 41 (tns ((l.take i).map (fun t => (chT ⟨true, sl, true, xl, xa, xo, s, h, d⟩ (endS l) t).1))), pb 2 51 [(PV.fn (.func 33) [] [(.opt 3 0)]), (PV.fn (.func 34) [] [(.opt 4 0)]), (PV.fn (.func 49) [] [(.opt 5 0)]), (PV.fn (.func 49) [] [(.opt 6 0)]), (PV.fn (.func 40) [] [(.opt 4 0)])], pb 3 3 [(iv (endS l))], pb 4 29 (chC ⟨true, sl, true, xl, xa, xo, s, h, d⟩), pb 5 65 [(PV.fn (.func 36) [] [(.opt 4 0)])], pb 6 65 [(PV.fn (.func 38) [] [(.opt 4 0)])]] 0 hc0 [30, 0, 1, 2, 3, 4, 5] [(kb 1, (tns ((l.take i).map (fun t => (chT ⟨true, sl, true, xl, xa, xo, s, h, d⟩ (endS l) t).1))))] (obs_cons (tns_shd _) (obs_nil)) (by kernel_rfl) rfl rfl (by kernel_rfl) (by kernel_rfl)) ?_
              rintro ⟨⟨j, x⟩, ⟨hj, hx, hF⟩⟩
              dsimp only at hj hx hF
              refine T_seq ?_
              refine T_region [] [ks 7, ks 8, ks 10, ks 41, ks 42, ks 43, ks 47, ks 48, ks 49, ks 50, kb 0, kb 1, kb 2, kb 3, kb 4, kb 5, kb 6] (fun _ => mixed) (l' := [ps 7 (.osl 1 0 i), ps 8 (.osl 2 0 5), ps 10 (.opt 0 0), ps 41 (.ssl (tns l) 0 l.length), ps 42 (nv l.length), ps 43 (nv i), ps 47 (.osl 2 0 5), ps 48 (iv 5), ps 49 (nv j), ps 50 (bv (decide (((j : Nat) : Int) < 5))), pb 0 41 (tnC x), pb 1 41 (tns ((l.take i).map (fun t => (chT ⟨true, sl, true, xl, xa, xo, s, h, d⟩ (endS l) t).1))), pb 2 51 [(PV.fn (.func 33) [] [(.opt 3 0)]), (PV.fn (.func 34) [] [(.opt 4 0)]), (PV.fn (.func 49) [] [(.opt 5 0)]), (PV.fn (.func 49) [] [(.opt 6 0)]), (PV.fn (.func 40) [] [(.opt 4 0)])], pb 3 3 [(iv (endS l))], pb 4 29 (chC ⟨true, sl, true, xl, xa, xo, s, h, d⟩), pb 5 65 [(PV.fn (.func 36) [] [(.opt 4 0)])], pb 6 65 [(PV.fn (.func 38) [] [(.opt 4 0)])]]) (obs := []) (by kernel_rfl) (obs_nil) ?_
              refine T_seq ?_
              by_cases h7 : ((j : Nat) : Int) < 5
              · refine T_then (b := (decide (((j : Nat) : Int) < 5))) rfl (decide_eq_true h7) ?_
                refine T_skip ?_
                refine T_seq ?_
                refine T_block ?_
                refine T_seq ?_
                by_cases h8 : j = 0
                · refine T_region [(0, .nat 0)] [ks 7, ks 8, ks 10, ks 13, ks 41, ks 42, ks 43, ks 47, ks 48, ks 49, kb 0, kb 1, kb 2, kb 3, kb 4, kb 5, kb 6] (fun _ => mixed) (l' := [ps 7 (.osl 1 0 i), ps 8 (.osl 2 0 5), ps 10 (.opt 0 0), ps 13 (PV.fn (.func 33) [] [(.opt 3 0)]), ps 41 (.ssl (tns l) 0 l.length), ps 42 (nv l.length), ps 43 (nv i), ps 47 (.osl 2 0 5), ps 48 (iv 5), ps 49 (nv j), pb 0 41 (tnC x), pb 1 41 (tns ((l.take i).map (fun t => (chT ⟨true, sl, true, xl, xa, xo, s, h, d⟩ (endS l) t).1))), pb 2 51 [(PV.fn (.func 33) [] [(.opt 3 0)]), (PV.fn (.func 34) [] [(.opt 4 0)]), (PV.fn (.func 49) [] [(.opt 5 0)]), (PV.fn (.func 49) [] [(.opt 6 0)]), (PV.fn (.func 40) [] [(.opt 4 0)])], pb 3 3 [(iv (endS l))], pb 4 29 (chC ⟨true, sl, true, xl, xa, xo, s, h, d⟩), pb 5 65 [(PV.fn (.func 36) [] [(.opt 4 0)])], pb 6 65 [(PV.fn (.func 38) [] [(.opt 4 0)])]]) (obs := [(0 : Int) ≤ ((j : Nat) : Int) ∧ ((j : Nat) : Int) < ((5 : Nat) : Int), 0 + (((j : Nat) : Int) : Int).toNat * 1 = 0]) (by kernel_rfl) (obs_cons (by omega) (obs_cons (by omega) (obs_nil))) ?_
                  refine T_seq ?_
                  refine T_region [(2, .call [3] [(.agg (tnC x)), (.opt 0 0)] [some (3, [(iv (endS l))])] (.tup [(.agg (tnC ((f1 (endS l) x).1))), (iv ((f1 (endS l) x).2))]) [some (3, [(iv (endS l))]), none])] [ks 7, ks 8, ks 10, ks 11, ks 41, ks 42, ks 43, ks 47, ks 48, ks 49, kb 0, kb 1, kb 2, kb 3, kb 4, kb 5, kb 6] (fun _ => mixed) (l' := [ps 7 (.osl 1 0 i), ps 8 (.osl 2 0 5), ps 10 (.opt 0 0), ps 11 (iv ((f1 (endS l) x).2)), ps 41 (.ssl (tns l) 0 l.length), ps 42 (nv l.length), ps 43 (nv i), ps 47 (.osl 2 0 5), ps 48 (iv 5), ps 49 (nv j), pb 0 41 (tnC ((f1 (endS l) x).1)), pb 1 41 (tns ((l.take i).map (fun t => (chT ⟨true, sl, true, xl, xa, xo, s, h, d⟩ (endS l) t).1))), pb 2 51 [(PV.fn (.func 33) [] [(.opt 3 0)]), (PV.fn (.func 34) [] [(.opt 4 0)]), (PV.fn (.func 49) [] [(.opt 5 0)]), (PV.fn (.func 49) [] [(.opt 6 0)]), (PV.fn (.func 40) [] [(.opt 4 0)])], pb 3 3 [(iv (endS l))], pb 4 29 (chC ⟨true, sl, true, xl, xa, xo, s, h, d⟩), pb 5 65 [(PV.fn (.func 36) [] [(.opt 4 0)])], pb 6 65 [(PV.fn (.func 38) [] [(.opt 4 0)])]]) (obs := [PC Try.prog 33 [(.agg (tnC x)), (.opt 0 0)] [some (3, [(iv (endS l))])] (.tup [(.agg (tnC ((f1 (endS l) x).1))), (iv ((f1 (endS l) x).2))]) [some (3, [(iv (endS l))]), none], [(.agg (tnC x)), (.opt 3 0)] = renL (sigi [3] 55) [(.agg (tnC x)), (.opt 0 0)], [(iv (endS l))] = renL (sigi [3] 55) [(iv (endS l))]]) (by kernel_rfl) (obs_cons (back_pc (endS l) x hE (far_more (n := 1048576) (by rw [h8] at hF; exact hF) (by decide))) (obs_cons rfl (obs_cons rfl (obs_nil)))) ?_
                  refine T_seq ?_
                  refine T_region [] [ks 7, ks 8, ks 10, ks 11, ks 41, ks 42, ks 43, ks 47, ks 48, ks 49, ks 60, kb 0, kb 1, kb 2, kb 3, kb 4, kb 5, kb 6] (fun _ => mixed) (l' := [ps 7 (.osl 1 0 i), ps 8 (.osl 2 0 5), ps 10 (.opt 0 0), ps 11 (iv ((f1 (endS l) x).2)), ps 41 (.ssl (tns l) 0 l.length), ps 42 (nv l.length), ps 43 (nv i), ps 47 (.osl 2 0 5), ps 48 (iv 5), ps 49 (nv j), ps 60 (bv (!(decide (((f1 (endS l) x).2) = 0)))), pb 0 41 (tnC ((f1 (endS l) x).1)), pb 1 41 (tns ((l.take i).map (fun t => (chT ⟨true, sl, true, xl, xa, xo, s, h, d⟩ (endS l) t).1))), pb 2 51 [(PV.fn (.func 33) [] [(.opt 3 0)]), (PV.fn (.func 34) [] [(.opt 4 0)]), (PV.fn (.func 49) [] [(.opt 5 0)]), (PV.fn (.func 49) [] [(.opt 6 0)]), (PV.fn (.func 40) [] [(.opt 4 0)])], pb 3 3 [(iv (endS l))], pb 4 29 (chC ⟨true, sl, true, xl, xa, xo, s, h, d⟩), pb 5 65 [(PV.fn (.func 36) [] [(.opt 4 0)])], pb 6 65 [(PV.fn (.func 38) [] [(.opt 4 0)])]]) (obs := []) (by kernel_rfl) (obs_nil) ?_
                  by_cases h9 : ((f1 (endS l) x).2) = 0
                  · refine T_else (b := (!(decide (((f1 (endS l) x).2) = 0)))) rfl (congrArg Bool.not (decide_eq_true h9)) ?_
                    refine T_skip ?_
                    refine T_blk ?_
                    refine T_region [] [ks 7, ks 8, ks 10, ks 41, ks 42, ks 43, ks 47, ks 48, ks 49, kb 0, kb 1, kb 2, kb 3, kb 4, kb 5, kb 6] (fun _ => mixed) (l' := [ps 7 (.osl 1 0 i), ps 8 (.osl 2 0 5), ps 10 (.opt 0 0), ps 41 (.ssl (tns l) 0 l.length), ps 42 (nv l.length), ps 43 (nv i), ps 47 (.osl 2 0 5), ps 48 (iv 5), ps 49 (iv (((j : Nat) : Int) + 1)), pb 0 41 (tnC ((f1 (endS l) x).1)), pb 1 41 (tns ((l.take i).map (fun t => (chT ⟨true, sl, true, xl, xa, xo, s, h, d⟩ (endS l) t).1))), pb 2 51 [(PV.fn (.func 33) [] [(.opt 3 0)]), (PV.fn (.func 34) [] [(.opt 4 0)]), (PV.fn (.func 49) [] [(.opt 5 0)]), (PV.fn (.func 49) [] [(.opt 6 0)]), (PV.fn (.func 40) [] [(.opt 4 0)])], pb 3 3 [(iv (endS l))], pb 4 29 (chC ⟨true, sl, true, xl, xa, xo, s, h, d⟩), pb 5 65 [(PV.fn (.func 36) [] [(.opt 4 0)])], pb 6 65 [(PV.fn (.func 38) [] [(.opt 4 0)])]]) (obs := [InK .i64 (((j : Nat) : Int) + 1)]) (by kernel_rfl) (obs_cons (by simp only [InK]; omega) (obs_nil)) ?_
                    have hF2 : Far (f1 (endS l) x).1 4194304 := far_f1 hE (by rw [h8] at hF; exact hF)
                    exact T_back ⟨(j + 1, (f1 (endS l) x).1), ⟨by omega, chT_next (f := f1 (endS l)) hx (by rw [h8]; rfl) (by rw [h8]; rfl) h9, by rw [h8]; exact hF2⟩⟩ (Wk.ren3 [ps 7 (.osl 1 0 i), ps 8 (.osl 2 0 5), ps 10 (.opt 0 0), ps 41 (.ssl (tns l) 0 l.length), ps 42 (nv l.length), ps 43 (nv i), ps 47 (.osl 2 0 5), ps 48 (iv 5), ps 49 (nv (j + 1)), pb 0 41 (tnC ((f1 (endS l) x).1)), pb 1 41 (tns ((l.take i).map (fun t => (chT ⟨true, sl, true, xl, xa, xo, s, h, d⟩ (endS l) t).1))), pb 2 51 [(PV.fn (.func 33) [] [(.opt 3 0)]), (PV.fn (.func 34) [] [(.opt 4 0)]), (PV.fn (.func 49) [] [(.opt 5 0)]), (PV.fn (.func 49) [] [(.opt 6 0)]), (PV.fn (.func 40) [] [(.opt 4 0)])], pb 3 3 [(iv (endS l))], pb 4 29 (chC ⟨true, sl, true, xl, xa, xo, s, h, d⟩), pb 5 65 [(PV.fn (.func 36) [] [(.opt 4 0)])], pb 6 65 [(PV.fn (.func 38) [] [(.opt 4 0)])]] 0 hc0 [0, 1, 2, 3, 4, 5, 6] [(kb 1, (tns ((l.take i).map (fun t => (chT ⟨true, sl, true, xl, xa, xo, s, h, d⟩ (endS l) t).1))))] (obs_cons (tns_shd _) (obs_nil)) (by kernel_rfl) rfl rfl (by kernel_rfl) (by kernel_rfl)) (show 5 - (j + 1) < 5 - j from by omega)
                  · refine T_then (b := (!(decide (((f1 (endS l) x).2) = 0)))) rfl (congrArg Bool.not (decide_eq_false h9)) ?_
                    refine T_seq ?_
                    refine T_region [] [ks 4, ks 5] (fun _ => mixed) (l' := [ps 4 (.av (.slice none 0 0)), ps 5 (iv ((f1 (endS l) x).2))]) (obs := []) (by kernel_rfl) (obs_nil) ?_
                    rw [chgP_err h1 hc hf (by omega) h9 (chT_err (f := f1 (endS l)) hx (by rw [h8]; rfl) h9)]
                    exact T_ret fun cx_ a_ hI_ => loop_ret (loop_ret (ret_ok (H' := []) (.inr rfl) (Wk.ren2 [ps 4 (.av (.slice none 0 0)), ps 5 (iv ((f1 (endS l) x).2))] 0 hc0 [] rfl rfl (by kernel_rfl) (by kernel_rfl)) rfl (obs_nil) (fun cx_ a_ hI_ => ret_res (l' := [ps 4 (.av (.slice none 0 0)), ps 5 (iv ((f1 (endS l) x).2))]) (by kernel_rfl) cx_ a_ hI_) hI_))
                · by_cases h10 : j = 1
                  · refine T_region [(0, .nat 1)] [ks 7, ks 8, ks 10, ks 13, ks 41, ks 42, ks 43, ks 47, ks 48, ks 49, kb 0, kb 1, kb 2, kb 3, kb 4, kb 5, kb 6] (fun _ => mixed) (l' := [ps 7 (.osl 1 0 i), ps 8 (.osl 2 0 5), ps 10 (.opt 0 0), ps 13 (PV.fn (.func 34) [] [(.opt 4 0)]), ps 41 (.ssl (tns l) 0 l.length), ps 42 (nv l.length), ps 43 (nv i), ps 47 (.osl 2 0 5), ps 48 (iv 5), ps 49 (nv j), pb 0 41 (tnC x), pb 1 41 (tns ((l.take i).map (fun t => (chT ⟨true, sl, true, xl, xa, xo, s, h, d⟩ (endS l) t).1))), pb 2 51 [(PV.fn (.func 33) [] [(.opt 3 0)]), (PV.fn (.func 34) [] [(.opt 4 0)]), (PV.fn (.func 49) [] [(.opt 5 0)]), (PV.fn (.func 49) [] [(.opt 6 0)]), (PV.fn (.func 40) [] [(.opt 4 0)])], pb 3 3 [(iv (endS l))], pb 4 29 (chC ⟨true, sl, true, xl, xa, xo, s, h, d⟩), pb 5 65 [(PV.fn (.func 36) [] [(.opt 4 0)])], pb 6 65 [(PV.fn (.func 38) [] [(.opt 4 0)])]]) (obs := [(0 : Int) ≤ ((j : Nat) : Int) ∧ ((j : Nat) : Int) < ((5 : Nat) : Int), 0 + (((j : Nat) : Int) : Int).toNat * 1 = 1]) (by kernel_rfl) (obs_cons (by omega) (obs_cons (by omega) (obs_nil))) ?_
                    refine T_seq ?_
                    refine T_region [(2, .call [4] [(.agg (tnC x)), (.opt 0 0)] [some (29, (chC ⟨true, sl, true, xl, xa, xo, s, h, d⟩))] (.tup [(.agg (tnC ((f2 sl x).1))), (iv ((f2 sl x).2))]) [some (29, (chC ⟨true, sl, true, xl, xa, xo, s, h, d⟩)), none])] [ks 7, ks 8, ks 10, ks 11, ks 41, ks 42, ks 43, ks 47, ks 48, ks 49, kb 0, kb 1, kb 2, kb 3, kb 4, kb 5, kb 6] (fun _ => mixed) (l' := [ps 7 (.osl 1 0 i), ps 8 (.osl 2 0 5), ps 10 (.opt 0 0), ps 11 (iv ((f2 sl x).2)), ps 41 (.ssl (tns l) 0 l.length), ps 42 (nv l.length), ps 43 (nv i), ps 47 (.osl 2 0 5), ps 48 (iv 5), ps 49 (nv j), pb 0 41 (tnC ((f2 sl x).1)), pb 1 41 (tns ((l.take i).map (fun t => (chT ⟨true, sl, true, xl, xa, xo, s, h, d⟩ (endS l) t).1))), pb 2 51 [(PV.fn (.func 33) [] [(.opt 3 0)]), (PV.fn (.func 34) [] [(.opt 4 0)]), (PV.fn (.func 49) [] [(.opt 5 0)]), (PV.fn (.func 49) [] [(.opt 6 0)]), (PV.fn (.func 40) [] [(.opt 4 0)])], pb 3 3 [(iv (endS l))], pb 4 29 (chC ⟨true, sl, true, xl, xa, xo, s, h, d⟩), pb 5 65 [(PV.fn (.func 36) [] [(.opt 4 0)])], pb 6 65 [(PV.fn (.func 38) [] [(.opt 4 0)])]]) (obs := [PC Try.prog 34 [(.agg (tnC x)), (.opt 0 0)] [some (29, (chC ⟨true, sl, true, xl, xa, xo, s, h, d⟩))] (.tup [(.agg (tnC ((f2 sl x).1))), (iv ((f2 sl x).2))]) [some (29, (chC ⟨true, sl, true, xl, xa, xo, s, h, d⟩)), none], [(.agg (tnC x)), (.opt 4 0)] = renL (sigi [4] 55) [(.agg (tnC x)), (.opt 0 0)], (chC ⟨true, sl, true, xl, xa, xo, s, h, d⟩) = renL (sigi [4] 55) (chC ⟨true, sl, true, xl, xa, xo, s, h, d⟩)]) (by kernel_rfl) (obs_cons (slow_pc true true sl xl xa xo s h d x hs (by rw [h10] at hF; exact hF)) (obs_cons rfl (obs_cons rfl (obs_nil)))) ?_
                    refine T_seq ?_
                    refine T_region [] [ks 7, ks 8, ks 10, ks 11, ks 41, ks 42, ks 43, ks 47, ks 48, ks 49, ks 60, kb 0, kb 1, kb 2, kb 3, kb 4, kb 5, kb 6] (fun _ => mixed) (l' := [ps 7 (.osl 1 0 i), ps 8 (.osl 2 0 5), ps 10 (.opt 0 0), ps 11 (iv ((f2 sl x).2)), ps 41 (.ssl (tns l) 0 l.length), ps 42 (nv l.length), ps 43 (nv i), ps 47 (.osl 2 0 5), ps 48 (iv 5), ps 49 (nv j), ps 60 (bv (!(decide (((f2 sl x).2) = 0)))), pb 0 41 (tnC ((f2 sl x).1)), pb 1 41 (tns ((l.take i).map (fun t => (chT ⟨true, sl, true, xl, xa, xo, s, h, d⟩ (endS l) t).1))), pb 2 51 [(PV.fn (.func 33) [] [(.opt 3 0)]), (PV.fn (.func 34) [] [(.opt 4 0)]), (PV.fn (.func 49) [] [(.opt 5 0)]), (PV.fn (.func 49) [] [(.opt 6 0)]), (PV.fn (.func 40) [] [(.opt 4 0)])], pb 3 3 [(iv (endS l))], pb 4 29 (chC ⟨true, sl, true, xl, xa, xo, s, h, d⟩), pb 5 65 [(PV.fn (.func 36) [] [(.opt 4 0)])], pb 6 65 [(PV.fn (.func 38) [] [(.opt 4 0)])]]) (obs := []) (by kernel_rfl) (obs_nil) ?_
                    by_cases h11 : ((f2 sl x).2) = 0
                    · refine T_else (b := (!(decide (((f2 sl x).2) = 0)))) rfl (congrArg Bool.not (decide_eq_true h11)) ?_
                      refine T_skip ?_
                      refine T_blk ?_
                      refine T_region [] [ks 7, ks 8, ks 10, ks 41, ks 42, ks 43, ks 47, ks 48, ks 49, kb 0, kb 1, kb 2, kb 3, kb 4, kb 5, kb 6] (fun _ => mixed) (l' := [ps 7 (.osl 1 0 i), ps 8 (.osl 2 0 5), ps 10 (.opt 0 0), ps 41 (.ssl (tns l) 0 l.length), ps 42 (nv l.length), ps 43 (nv i), ps 47 (.osl 2 0 5), ps 48 (iv 5), ps 49 (iv (((j : Nat) : Int) + 1)), pb 0 41 (tnC ((f2 sl x).1)), pb 1 41 (tns ((l.take i).map (fun t => (chT ⟨true, sl, true, xl, xa, xo, s, h, d⟩ (endS l) t).1))), pb 2 51 [(PV.fn (.func 33) [] [(.opt 3 0)]), (PV.fn (.func 34) [] [(.opt 4 0)]), (PV.fn (.func 49) [] [(.opt 5 0)]), (PV.fn (.func 49) [] [(.opt 6 0)]), (PV.fn (.func 40) [] [(.opt 4 0)])], pb 3 3 [(iv (endS l))], pb 4 29 (chC ⟨true, sl, true, xl, xa, xo, s, h, d⟩), pb 5 65 [(PV.fn (.func 36) [] [(.opt 4 0)])], pb 6 65 [(PV.fn (.func 38) [] [(.opt 4 0)])]]) (obs := [InK .i64 (((j : Nat) : Int) + 1)]) (by kernel_rfl) (obs_cons (by simp only [InK]; omega) (obs_nil)) ?_
                      have hF2 : Far (f2 sl x).1 67108864 := far_f2 hs (by rw [h10] at hF; exact hF)
                      exact T_back ⟨(j + 1, (f2 sl x).1), ⟨by omega, chT_next (f := f2 sl) hx (by rw [h10]; rfl) (by rw [h10]; rfl) h11, by rw [h10]; exact hF2⟩⟩ (Wk.ren3 [ps 7 (.osl 1 0 i), ps 8 (.osl 2 0 5), ps 10 (.opt 0 0), ps 41 (.ssl (tns l) 0 l.length), ps 42 (nv l.length), ps 43 (nv i), ps 47 (.osl 2 0 5), ps 48 (iv 5), ps 49 (nv (j + 1)), pb 0 41 (tnC ((f2 sl x).1)), pb 1 41 (tns ((l.take i).map (fun t => (chT ⟨true, sl, true, xl, xa, xo, s, h, d⟩ (endS l) t).1))), pb 2 51 [(PV.fn (.func 33) [] [(.opt 3 0)]), (PV.fn (.func 34) [] [(.opt 4 0)]), (PV.fn (.func 49) [] [(.opt 5 0)]), (PV.fn (.func 49) [] [(.opt 6 0)]), (PV.fn (.func 40) [] [(.opt 4 0)])], pb 3 3 [(iv (endS l))], pb 4 29 (chC ⟨true, sl, true, xl, xa, xo, s, h, d⟩), pb 5 65 [(PV.fn (.func 36) [] [(.opt 4 0)])], pb 6 65 [(PV.fn (.func 38) [] [(.opt 4 0)])]] 0 hc0 [0, 1, 2, 3, 4, 5, 6] [(kb 1, (tns ((l.take i).map (fun t => (chT ⟨true, sl, true, xl, xa, xo, s, h, d⟩ (endS l) t).1))))] (obs_cons (tns_shd _) (obs_nil)) (by kernel_rfl) rfl rfl (by kernel_rfl) (by kernel_rfl)) (show 5 - (j + 1) < 5 - j from by omega)
                    · refine T_then (b := (!(decide (((f2 sl x).2) = 0)))) rfl (congrArg Bool.not (decide_eq_false h11)) ?_
                      refine T_seq ?_
                      refine T_region [] [ks 4, ks 5] (fun _ => mixed) (l' := [ps 4 (.av (.slice none 0 0)), ps 5 (iv ((f2 sl x).2))]) (obs := []) (by kernel_rfl) (obs_nil) ?_
                      rw [chgP_err h1 hc hf (by omega) h11 (chT_err (f := f2 sl) hx (by rw [h10]; rfl) h11)]
                      exact T_ret fun cx_ a_ hI_ => loop_ret (loop_ret (ret_ok (H' := []) (.inr rfl) (Wk.ren2 [ps 4 (.av (.slice none 0 0)), ps 5 (iv ((f2 sl x).2))] 0 hc0 [] rfl rfl (by kernel_rfl) (by kernel_rfl)) rfl (obs_nil) (fun cx_ a_ hI_ => ret_res (l' := [ps 4 (.av (.slice none 0 0)), ps 5 (iv ((f2 sl x).2))]) (by kernel_rfl) cx_ a_ hI_) hI_))
                  · by_cases h12 : j = 2
                    · refine T_region [(0, .nat 2)] [ks 7, ks 8, ks 10, ks 13, ks 41, ks 42, ks 43, ks 47, ks 48, ks 49, kb 0, kb 1, kb 2, kb 3, kb 4, kb 5, kb 6] (fun _ => mixed) (l' := [ps 7 (.osl 1 0 i), ps 8 (.osl 2 0 5), ps 10 (.opt 0 0), ps 13 (PV.fn (.func 49) [] [(.opt 5 0)]), ps 41 (.ssl (tns l) 0 l.length), ps 42 (nv l.length), ps 43 (nv i), ps 47 (.osl 2 0 5), ps 48 (iv 5), ps 49 (nv j), pb 0 41 (tnC x), pb 1 41 (tns ((l.take i).map (fun t => (chT ⟨true, sl, true, xl, xa, xo, s, h, d⟩ (endS l) t).1))), pb 2 51 [(PV.fn (.func 33) [] [(.opt 3 0)]), (PV.fn (.func 34) [] [(.opt 4 0)]), (PV.fn (.func 49) [] [(.opt 5 0)]), (PV.fn (.func 49) [] [(.opt 6 0)]), (PV.fn (.func 40) [] [(.opt 4 0)])], pb 3 3 [(iv (endS l))], pb 4 29 (chC ⟨true, sl, true, xl, xa, xo, s, h, d⟩), pb 5 65 [(PV.fn (.func 36) [] [(.opt 4 0)])], pb 6 65 [(PV.fn (.func 38) [] [(.opt 4 0)])]]) (obs := [(0 : Int) ≤ ((j : Nat) : Int) ∧ ((j : Nat) : Int) < ((5 : Nat) : Int), 0 + (((j : Nat) : Int) : Int).toNat * 1 = 2]) (by kernel_rfl) (obs_cons (by omega) (obs_cons (by omega) (obs_nil))) ?_
                      refine T_seq ?_
                      refine T_region [(2, .call [5, 4] [(.agg (tnC x)), (.opt 0 0)] [some (65, [(PV.fn (.func 36) [] [(.opt 1 0)])]), some (29, (chC ⟨true, sl, true, xl, xa, xo, s, h, d⟩))] (.tup [(.agg (tnC ((f3 xl xa xo x).1))), (iv ((f3 xl xa xo x).2))]) [some (65, [(PV.fn (.func 36) [] [(.opt 1 0)])]), some (29, (chC ⟨true, sl, true, xl, xa, xo, s, h, d⟩)), none])] [ks 7, ks 8, ks 10, ks 11, ks 41, ks 42, ks 43, ks 47, ks 48, ks 49, kb 0, kb 1, kb 2, kb 3, kb 4, kb 5, kb 6] (fun _ => mixed) (l' := [ps 7 (.osl 1 0 i), ps 8 (.osl 2 0 5), ps 10 (.opt 0 0), ps 11 (iv ((f3 xl xa xo x).2)), ps 41 (.ssl (tns l) 0 l.length), ps 42 (nv l.length), ps 43 (nv i), ps 47 (.osl 2 0 5), ps 48 (iv 5), ps 49 (nv j), pb 0 41 (tnC ((f3 xl xa xo x).1)), pb 1 41 (tns ((l.take i).map (fun t => (chT ⟨true, sl, true, xl, xa, xo, s, h, d⟩ (endS l) t).1))), pb 2 51 [(PV.fn (.func 33) [] [(.opt 3 0)]), (PV.fn (.func 34) [] [(.opt 4 0)]), (PV.fn (.func 49) [] [(.opt 5 0)]), (PV.fn (.func 49) [] [(.opt 6 0)]), (PV.fn (.func 40) [] [(.opt 4 0)])], pb 3 3 [(iv (endS l))], pb 4 29 (chC ⟨true, sl, true, xl, xa, xo, s, h, d⟩), pb 5 65 [(PV.fn (.func 36) [] [(.opt 4 0)])], pb 6 65 [(PV.fn (.func 38) [] [(.opt 4 0)])]]) (obs := [PC Try.prog 49 [(.agg (tnC x)), (.opt 0 0)] [some (65, [(PV.fn (.func 36) [] [(.opt 1 0)])]), some (29, (chC ⟨true, sl, true, xl, xa, xo, s, h, d⟩))] (.tup [(.agg (tnC ((f3 xl xa xo x).1))), (iv ((f3 xl xa xo x).2))]) [some (65, [(PV.fn (.func 36) [] [(.opt 1 0)])]), some (29, (chC ⟨true, sl, true, xl, xa, xo, s, h, d⟩)), none], [(.agg (tnC x)), (.opt 5 0)] = renL (sigi [5, 4] 55) [(.agg (tnC x)), (.opt 0 0)], [(PV.fn (.func 36) [] [(.opt 4 0)])] = renL (sigi [5, 4] 55) [(PV.fn (.func 36) [] [(.opt 1 0)])], (chC ⟨true, sl, true, xl, xa, xo, s, h, d⟩) = renL (sigi [5, 4] 55) (chC ⟨true, sl, true, xl, xa, xo, s, h, d⟩)]) (by kernel_rfl) (obs_cons (mmir_pc true true sl xl xa xo s h d x) (obs_cons rfl (obs_cons rfl (obs_cons rfl (obs_nil))))) ?_
                      refine T_seq ?_
                      refine T_region [] [ks 7, ks 8, ks 10, ks 11, ks 41, ks 42, ks 43, ks 47, ks 48, ks 49, ks 60, kb 0, kb 1, kb 2, kb 3, kb 4, kb 5, kb 6] (fun _ => mixed) (l' := [ps 7 (.osl 1 0 i), ps 8 (.osl 2 0 5), ps 10 (.opt 0 0), ps 11 (iv ((f3 xl xa xo x).2)), ps 41 (.ssl (tns l) 0 l.length), ps 42 (nv l.length), ps 43 (nv i), ps 47 (.osl 2 0 5), ps 48 (iv 5), ps 49 (nv j), ps 60 (bv (!(decide (((f3 xl xa xo x).2) = 0)))), pb 0 41 (tnC ((f3 xl xa xo x).1)), pb 1 41 (tns ((l.take i).map (fun t => (chT ⟨true, sl, true, xl, xa, xo, s, h, d⟩ (endS l) t).1))), pb 2 51 [(PV.fn (.func 33) [] [(.opt 3 0)]), (PV.fn (.func 34) [] [(.opt 4 0)]), (PV.fn (.func 49) [] [(.opt 5 0)]), (PV.fn (.func 49) [] [(.opt 6 0)]), (PV.fn (.func 40) [] [(.opt 4 0)])], pb 3 3 [(iv (endS l))], pb 4 29 (chC ⟨true, sl, true, xl, xa, xo, s, h, d⟩), pb 5 65 [(PV.fn (.func 36) [] [(.opt 4 0)])], pb 6 65 [(PV.fn (.func 38) [] [(.opt 4 0)])]]) (obs := []) (by kernel_rfl) (obs_nil) ?_
                      by_cases h13 : ((f3 xl xa xo x).2) = 0
                      · refine T_else (b := (!(decide (((f3 xl xa xo x).2) = 0)))) rfl (congrArg Bool.not (decide_eq_true h13)) ?_
                        refine T_skip ?_
                        refine T_blk ?_
                        refine T_region [] [ks 7, ks 8, ks 10, ks 41, ks 42, ks 43, ks 47, ks 48, ks 49, kb 0, kb 1, kb 2, kb 3, kb 4, kb 5, kb 6] (fun _ => mixed) (l' := [ps 7 (.osl 1 0 i), ps 8 (.osl 2 0 5), ps 10 (.opt 0 0), ps 41 (.ssl (tns l) 0 l.length), ps 42 (nv l.length), ps 43 (nv i), ps 47 (.osl 2 0 5), ps 48 (iv 5), ps 49 (iv (((j : Nat) : Int) + 1)), pb 0 41 (tnC ((f3 xl xa xo x).1)), pb 1 41 (tns ((l.take i).map (fun t => (chT ⟨true, sl, true, xl, xa, xo, s, h, d⟩ (endS l) t).1))), pb 2 51 [(PV.fn (.func 33) [] [(.opt 3 0)]), (PV.fn (.func 34) [] [(.opt 4 0)]), (PV.fn (.func 49) [] [(.opt 5 0)]), (PV.fn (.func 49) [] [(.opt 6 0)]), (PV.fn (.func 40) [] [(.opt 4 0)])], pb 3 3 [(iv (endS l))], pb 4 29 (chC ⟨true, sl, true, xl, xa, xo, s, h, d⟩), pb 5 65 [(PV.fn (.func 36) [] [(.opt 4 0)])], pb 6 65 [(PV.fn (.func 38) [] [(.opt 4 0)])]]) (obs := [InK .i64 (((j : Nat) : Int) + 1)]) (by kernel_rfl) (obs_cons (by simp only [InK]; omega) (obs_nil)) ?_
                        have hF2 : Far (f3 xl xa xo x).1 67108864 := far_fp (by rw [h12] at hF; exact hF)
                        exact T_back ⟨(j + 1, (f3 xl xa xo x).1), ⟨by omega, chT_next (f := f3 xl xa xo) hx (by rw [h12]; rfl) (by rw [h12]; rfl) h13, by rw [h12]; exact hF2⟩⟩ (Wk.ren3 [ps 7 (.osl 1 0 i), ps 8 (.osl 2 0 5), ps 10 (.opt 0 0), ps 41 (.ssl (tns l) 0 l.length), ps 42 (nv l.length), ps 43 (nv i), ps 47 (.osl 2 0 5), ps 48 (iv 5), ps 49 (nv (j + 1)), pb 0 41 (tnC ((f3 xl xa xo x).1)), pb 1 41 (tns ((l.take i).map (fun t => (chT ⟨true, sl, true, xl, xa, xo, s, h, d⟩ (endS l) t).1))), pb 2 51 [(PV.fn (.func 33) [] [(.opt 3 0)]), (PV.fn (.func 34) [] [(.opt 4 0)]), (PV.fn (.func 49) [] [(.opt 5 0)]), (PV.fn (.func 49) [] [(.opt 6 0)]), (PV.fn (.func 40) [] [(.opt 4 0)])], pb 3 3 [(iv (endS l))], pb 4 29 (chC ⟨true, sl, true, xl, xa, xo, s, h, d⟩), pb 5 65 [(PV.fn (.func 36) [] [(.opt 4 0)])], pb 6 65 [(PV.fn (.func 38) [] [(.opt 4 0)])]] 0 hc0 [0, 1, 2, 3, 4, 5, 6] [(kb 1, (tns ((l.take i).map (fun t => (chT ⟨true, sl, true, xl, xa, xo, s, h, d⟩ (endS l) t).1))))] (obs_cons (tns_shd _) (obs_nil)) (by kernel_rfl) rfl rfl (by kernel_rfl) (by kernel_rfl)) (show 5 - (j + 1) < 5 - j from by omega)
                      · refine T_then (b := (!(decide (((f3 xl xa xo x).2) = 0)))) rfl (congrArg Bool.not (decide_eq_false h13)) ?_
                        refine T_seq ?_
                        refine T_region [] [ks 4, ks 5] (fun _ => mixed) (l' := [ps 4 (.av (.slice none 0 0)), ps 5 (iv ((f3 xl xa xo x).2))]) (obs := []) (by kernel_rfl) (obs_nil) ?_
                        rw [chgP_err h1 hc hf (by omega) h13 (chT_err (f := f3 xl xa xo) hx (by rw [h12]; rfl) h13)]
                        exact T_ret fun cx_ a_ hI_ => loop_ret (loop_ret (ret_ok (H' := []) (.inr rfl) (Wk.ren2 [ps 4 (.av (.slice none 0 0)), ps 5 (iv ((f3 xl xa xo x).2))] 0 hc0 [] rfl rfl (by kernel_rfl) (by kernel_rfl)) rfl (obs_nil) (fun cx_ a_ hI_ => ret_res (l' := [ps 4 (.av (.slice none 0 0)), ps 5 (iv ((f3 xl xa xo x).2))]) (by kernel_rfl) cx_ a_ hI_) hI_))
                    · by_cases h14 : j = 3
                      · refine T_region [(0, .nat 3)] [ks 7, ks 8, ks 10, ks 13, ks 41, ks 42, ks 43, ks 47, ks 48, ks 49, kb 0, kb 1, kb 2, kb 3, kb 4, kb 5, kb 6] (fun _ => mixed) (l' := [ps 7 (.osl 1 0 i), ps 8 (.osl 2 0 5), ps 10 (.opt 0 0), ps 13 (PV.fn (.func 49) [] [(.opt 6 0)]), ps 41 (.ssl (tns l) 0 l.length), ps 42 (nv l.length), ps 43 (nv i), ps 47 (.osl 2 0 5), ps 48 (iv 5), ps 49 (nv j), pb 0 41 (tnC x), pb 1 41 (tns ((l.take i).map (fun t => (chT ⟨true, sl, true, xl, xa, xo, s, h, d⟩ (endS l) t).1))), pb 2 51 [(PV.fn (.func 33) [] [(.opt 3 0)]), (PV.fn (.func 34) [] [(.opt 4 0)]), (PV.fn (.func 49) [] [(.opt 5 0)]), (PV.fn (.func 49) [] [(.opt 6 0)]), (PV.fn (.func 40) [] [(.opt 4 0)])], pb 3 3 [(iv (endS l))], pb 4 29 (chC ⟨true, sl, true, xl, xa, xo, s, h, d⟩), pb 5 65 [(PV.fn (.func 36) [] [(.opt 4 0)])], pb 6 65 [(PV.fn (.func 38) [] [(.opt 4 0)])]]) (obs := [(0 : Int) ≤ ((j : Nat) : Int) ∧ ((j : Nat) : Int) < ((5 : Nat) : Int), 0 + (((j : Nat) : Int) : Int).toNat * 1 = 3]) (by kernel_rfl) (obs_cons (by omega) (obs_cons (by omega) (obs_nil))) ?_
                        refine T_seq ?_
                        refine T_region [(2, .call [6, 4] [(.agg (tnC x)), (.opt 0 0)] [some (65, [(PV.fn (.func 38) [] [(.opt 1 0)])]), some (29, (chC ⟨true, sl, true, xl, xa, xo, s, h, d⟩))] (.tup [(.agg (tnC ((f4 s h x).1))), (iv ((f4 s h x).2))]) [some (65, [(PV.fn (.func 38) [] [(.opt 1 0)])]), some (29, (chC ⟨true, sl, true, xl, xa, xo, s, h, d⟩)), none])] [ks 7, ks 8, ks 10, ks 11, ks 41, ks 42, ks 43, ks 47, ks 48, ks 49, kb 0, kb 1, kb 2, kb 3, kb 4, kb 5, kb 6] (fun _ => mixed) (l' := [ps 7 (.osl 1 0 i), ps 8 (.osl 2 0 5), ps 10 (.opt 0 0), ps 11 (iv ((f4 s h x).2)), ps 41 (.ssl (tns l) 0 l.length), ps 42 (nv l.length), ps 43 (nv i), ps 47 (.osl 2 0 5), ps 48 (iv 5), ps 49 (nv j), pb 0 41 (tnC ((f4 s h x).1)), pb 1 41 (tns ((l.take i).map (fun t => (chT ⟨true, sl, true, xl, xa, xo, s, h, d⟩ (endS l) t).1))), pb 2 51 [(PV.fn (.func 33) [] [(.opt 3 0)]), (PV.fn (.func 34) [] [(.opt 4 0)]), (PV.fn (.func 49) [] [(.opt 5 0)]), (PV.fn (.func 49) [] [(.opt 6 0)]), (PV.fn (.func 40) [] [(.opt 4 0)])], pb 3 3 [(iv (endS l))], pb 4 29 (chC ⟨true, sl, true, xl, xa, xo, s, h, d⟩), pb 5 65 [(PV.fn (.func 36) [] [(.opt 4 0)])], pb 6 65 [(PV.fn (.func 38) [] [(.opt 4 0)])]]) (obs := [PC Try.prog 49 [(.agg (tnC x)), (.opt 0 0)] [some (65, [(PV.fn (.func 38) [] [(.opt 1 0)])]), some (29, (chC ⟨true, sl, true, xl, xa, xo, s, h, d⟩))] (.tup [(.agg (tnC ((f4 s h x).1))), (iv ((f4 s h x).2))]) [some (65, [(PV.fn (.func 38) [] [(.opt 1 0)])]), some (29, (chC ⟨true, sl, true, xl, xa, xo, s, h, d⟩)), none], [(.agg (tnC x)), (.opt 6 0)] = renL (sigi [6, 4] 55) [(.agg (tnC x)), (.opt 0 0)], [(PV.fn (.func 38) [] [(.opt 4 0)])] = renL (sigi [6, 4] 55) [(PV.fn (.func 38) [] [(.opt 1 0)])], (chC ⟨true, sl, true, xl, xa, xo, s, h, d⟩) = renL (sigi [6, 4] 55) (chC ⟨true, sl, true, xl, xa, xo, s, h, d⟩)]) (by kernel_rfl) (obs_cons (mmov_pc true true sl xl xa xo s h d x is ih) (obs_cons rfl (obs_cons rfl (obs_cons rfl (obs_nil))))) ?_
                        refine T_seq ?_
                        refine T_region [] [ks 7, ks 8, ks 10, ks 11, ks 41, ks 42, ks 43, ks 47, ks 48, ks 49, ks 60, kb 0, kb 1, kb 2, kb 3, kb 4, kb 5, kb 6] (fun _ => mixed) (l' := [ps 7 (.osl 1 0 i), ps 8 (.osl 2 0 5), ps 10 (.opt 0 0), ps 11 (iv ((f4 s h x).2)), ps 41 (.ssl (tns l) 0 l.length), ps 42 (nv l.length), ps 43 (nv i), ps 47 (.osl 2 0 5), ps 48 (iv 5), ps 49 (nv j), ps 60 (bv (!(decide (((f4 s h x).2) = 0)))), pb 0 41 (tnC ((f4 s h x).1)), pb 1 41 (tns ((l.take i).map (fun t => (chT ⟨true, sl, true, xl, xa, xo, s, h, d⟩ (endS l) t).1))), pb 2 51 [(PV.fn (.func 33) [] [(.opt 3 0)]), (PV.fn (.func 34) [] [(.opt 4 0)]), (PV.fn (.func 49) [] [(.opt 5 0)]), (PV.fn (.func 49) [] [(.opt 6 0)]), (PV.fn (.func 40) [] [(.opt 4 0)])], pb 3 3 [(iv (endS l))], pb 4 29 (chC ⟨true, sl, true, xl, xa, xo, s, h, d⟩), pb 5 65 [(PV.fn (.func 36) [] [(.opt 4 0)])], pb 6 65 [(PV.fn (.func 38) [] [(.opt 4 0)])]]) (obs := []) (by kernel_rfl) (obs_nil) ?_
                        by_cases h15 : ((f4 s h x).2) = 0
                        · refine T_else (b := (!(decide (((f4 s h x).2) = 0)))) rfl (congrArg Bool.not (decide_eq_true h15)) ?_
                          refine T_skip ?_
                          refine T_blk ?_
                          refine T_region [] [ks 7, ks 8, ks 10, ks 41, ks 42, ks 43, ks 47, ks 48, ks 49, kb 0, kb 1, kb 2, kb 3, kb 4, kb 5, kb 6] (fun _ => mixed) (l' := [ps 7 (.osl 1 0 i), ps 8 (.osl 2 0 5), ps 10 (.opt 0 0), ps 41 (.ssl (tns l) 0 l.length), ps 42 (nv l.length), ps 43 (nv i), ps 47 (.osl 2 0 5), ps 48 (iv 5), ps 49 (iv (((j : Nat) : Int) + 1)), pb 0 41 (tnC ((f4 s h x).1)), pb 1 41 (tns ((l.take i).map (fun t => (chT ⟨true, sl, true, xl, xa, xo, s, h, d⟩ (endS l) t).1))), pb 2 51 [(PV.fn (.func 33) [] [(.opt 3 0)]), (PV.fn (.func 34) [] [(.opt 4 0)]), (PV.fn (.func 49) [] [(.opt 5 0)]), (PV.fn (.func 49) [] [(.opt 6 0)]), (PV.fn (.func 40) [] [(.opt 4 0)])], pb 3 3 [(iv (endS l))], pb 4 29 (chC ⟨true, sl, true, xl, xa, xo, s, h, d⟩), pb 5 65 [(PV.fn (.func 36) [] [(.opt 4 0)])], pb 6 65 [(PV.fn (.func 38) [] [(.opt 4 0)])]]) (obs := [InK .i64 (((j : Nat) : Int) + 1)]) (by kernel_rfl) (obs_cons (by simp only [InK]; omega) (obs_nil)) ?_
                          have hF2 : Far (f4 s h x).1 67108864 := far_fp (by rw [h14] at hF; exact hF)
                          exact T_back ⟨(j + 1, (f4 s h x).1), ⟨by omega, chT_next (f := f4 s h) hx (by rw [h14]; rfl) (by rw [h14]; rfl) h15, by rw [h14]; exact hF2⟩⟩ (Wk.ren3 [ps 7 (.osl 1 0 i), ps 8 (.osl 2 0 5), ps 10 (.opt 0 0), ps 41 (.ssl (tns l) 0 l.length), ps 42 (nv l.length), ps 43 (nv i), ps 47 (.osl 2 0 5), ps 48 (iv 5), ps 49 (nv (j + 1)), pb 0 41 (tnC ((f4 s h x).1)), pb 1 41 (tns ((l.take i).map (fun t => (chT ⟨true, sl, true, xl, xa, xo, s, h, d⟩ (endS l) t).1))), pb 2 51 [(PV.fn (.func 33) [] [(.opt 3 0)]), (PV.fn (.func 34) [] [(.opt 4 0)]), (PV.fn (.func 49) [] [(.opt 5 0)]), (PV.fn (.func 49) [] [(.opt 6 0)]), (PV.fn (.func 40) [] [(.opt 4 0)])], pb 3 3 [(iv (endS l))], pb 4 29 (chC ⟨true, sl, true, xl, xa, xo, s, h, d⟩), pb 5 65 [(PV.fn (.func 36) [] [(.opt 4 0)])], pb 6 65 [(PV.fn (.func 38) [] [(.opt 4 0)])]] 0 hc0 [0, 1, 2, 3, 4, 5, 6] [(kb 1, (tns ((l.take i).map (fun t => (chT ⟨true, sl, true, xl, xa, xo, s, h, d⟩ (endS l) t).1))))] (obs_cons (tns_shd _) (obs_nil)) (by kernel_rfl) rfl rfl (by kernel_rfl) (by kernel_rfl)) (show 5 - (j + 1) < 5 - j from by omega)
                        · refine T_then (b := (!(decide (((f4 s h x).2) = 0)))) rfl (congrArg Bool.not (decide_eq_false h15)) ?_
                          refine T_seq ?_
                          refine T_region [] [ks 4, ks 5] (fun _ => mixed) (l' := [ps 4 (.av (.slice none 0 0)), ps 5 (iv ((f4 s h x).2))]) (obs := []) (by kernel_rfl) (obs_nil) ?_
                          rw [chgP_err h1 hc hf (by omega) h15 (chT_err (f := f4 s h) hx (by rw [h14]; rfl) h15)]
                          exact T_ret fun cx_ a_ hI_ => loop_ret (loop_ret (ret_ok (H' := []) (.inr rfl) (Wk.ren2 [ps 4 (.av (.slice none 0 0)), ps 5 (iv ((f4 s h x).2))] 0 hc0 [] rfl rfl (by kernel_rfl) (by kernel_rfl)) rfl (obs_nil) (fun cx_ a_ hI_ => ret_res (l' := [ps 4 (.av (.slice none 0 0)), ps 5 (iv ((f4 s h x).2))]) (by kernel_rfl) cx_ a_ hI_) hI_))
                      · by_cases h16 : j = 4
                        · refine T_region [(0, .nat 4)] [ks 7, ks 8, ks 10, ks 13, ks 41, ks 42, ks 43, ks 47, ks 48, ks 49, kb 0, kb 1, kb 2, kb 3, kb 4, kb 5, kb 6] (fun _ => mixed) (l' := [ps 7 (.osl 1 0 i), ps 8 (.osl 2 0 5), ps 10 (.opt 0 0), ps 13 (PV.fn (.func 40) [] [(.opt 4 0)]), ps 41 (.ssl (tns l) 0 l.length), ps 42 (nv l.length), ps 43 (nv i), ps 47 (.osl 2 0 5), ps 48 (iv 5), ps 49 (nv j), pb 0 41 (tnC x), pb 1 41 (tns ((l.take i).map (fun t => (chT ⟨true, sl, true, xl, xa, xo, s, h, d⟩ (endS l) t).1))), pb 2 51 [(PV.fn (.func 33) [] [(.opt 3 0)]), (PV.fn (.func 34) [] [(.opt 4 0)]), (PV.fn (.func 49) [] [(.opt 5 0)]), (PV.fn (.func 49) [] [(.opt 6 0)]), (PV.fn (.func 40) [] [(.opt 4 0)])], pb 3 3 [(iv (endS l))], pb 4 29 (chC ⟨true, sl, true, xl, xa, xo, s, h, d⟩), pb 5 65 [(PV.fn (.func 36) [] [(.opt 4 0)])], pb 6 65 [(PV.fn (.func 38) [] [(.opt 4 0)])]]) (obs := [(0 : Int) ≤ ((j : Nat) : Int) ∧ ((j : Nat) : Int) < ((5 : Nat) : Int), 0 + (((j : Nat) : Int) : Int).toNat * 1 = 4]) (by kernel_rfl) (obs_cons (by omega) (obs_cons (by omega) (obs_nil))) ?_
                          refine T_seq ?_
                          refine T_region [(2, .call [4] [(.agg (tnC x)), (.opt 0 0)] [some (29, (chC ⟨true, sl, true, xl, xa, xo, s, h, d⟩))] (.tup [(.agg (tnC ((f5 d x).1))), (iv ((f5 d x).2))]) [some (29, (chC ⟨true, sl, true, xl, xa, xo, s, h, d⟩)), none])] [ks 7, ks 8, ks 10, ks 11, ks 41, ks 42, ks 43, ks 47, ks 48, ks 49, kb 0, kb 1, kb 2, kb 3, kb 4, kb 5, kb 6] (fun _ => mixed) (l' := [ps 7 (.osl 1 0 i), ps 8 (.osl 2 0 5), ps 10 (.opt 0 0), ps 11 (iv ((f5 d x).2)), ps 41 (.ssl (tns l) 0 l.length), ps 42 (nv l.length), ps 43 (nv i), ps 47 (.osl 2 0 5), ps 48 (iv 5), ps 49 (nv j), pb 0 41 (tnC ((f5 d x).1)), pb 1 41 (tns ((l.take i).map (fun t => (chT ⟨true, sl, true, xl, xa, xo, s, h, d⟩ (endS l) t).1))), pb 2 51 [(PV.fn (.func 33) [] [(.opt 3 0)]), (PV.fn (.func 34) [] [(.opt 4 0)]), (PV.fn (.func 49) [] [(.opt 5 0)]), (PV.fn (.func 49) [] [(.opt 6 0)]), (PV.fn (.func 40) [] [(.opt 4 0)])], pb 3 3 [(iv (endS l))], pb 4 29 (chC ⟨true, sl, true, xl, xa, xo, s, h, d⟩), pb 5 65 [(PV.fn (.func 36) [] [(.opt 4 0)])], pb 6 65 [(PV.fn (.func 38) [] [(.opt 4 0)])]]) (obs := [PC Try.prog 40 [(.agg (tnC x)), (.opt 0 0)] [some (29, (chC ⟨true, sl, true, xl, xa, xo, s, h, d⟩))] (.tup [(.agg (tnC ((f5 d x).1))), (iv ((f5 d x).2))]) [some (29, (chC ⟨true, sl, true, xl, xa, xo, s, h, d⟩)), none], [(.agg (tnC x)), (.opt 4 0)] = renL (sigi [4] 55) [(.agg (tnC x)), (.opt 0 0)], (chC ⟨true, sl, true, xl, xa, xo, s, h, d⟩) = renL (sigi [4] 55) (chC ⟨true, sl, true, xl, xa, xo, s, h, d⟩)]) (by kernel_rfl) (obs_cons (late_pc true true sl xl xa xo s h d x hd (by rw [h16] at hF; exact hF)) (obs_cons rfl (obs_cons rfl (obs_nil)))) ?_
                          refine T_seq ?_
                          refine T_region [] [ks 7, ks 8, ks 10, ks 11, ks 41, ks 42, ks 43, ks 47, ks 48, ks 49, ks 60, kb 0, kb 1, kb 2, kb 3, kb 4, kb 5, kb 6] (fun _ => mixed) (l' := [ps 7 (.osl 1 0 i), ps 8 (.osl 2 0 5), ps 10 (.opt 0 0), ps 11 (iv ((f5 d x).2)), ps 41 (.ssl (tns l) 0 l.length), ps 42 (nv l.length), ps 43 (nv i), ps 47 (.osl 2 0 5), ps 48 (iv 5), ps 49 (nv j), ps 60 (bv (!(decide (((f5 d x).2) = 0)))), pb 0 41 (tnC ((f5 d x).1)), pb 1 41 (tns ((l.take i).map (fun t => (chT ⟨true, sl, true, xl, xa, xo, s, h, d⟩ (endS l) t).1))), pb 2 51 [(PV.fn (.func 33) [] [(.opt 3 0)]), (PV.fn (.func 34) [] [(.opt 4 0)]), (PV.fn (.func 49) [] [(.opt 5 0)]), (PV.fn (.func 49) [] [(.opt 6 0)]), (PV.fn (.func 40) [] [(.opt 4 0)])], pb 3 3 [(iv (endS l))], pb 4 29 (chC ⟨true, sl, true, xl, xa, xo, s, h, d⟩), pb 5 65 [(PV.fn (.func 36) [] [(.opt 4 0)])], pb 6 65 [(PV.fn (.func 38) [] [(.opt 4 0)])]]) (obs := []) (by kernel_rfl) (obs_nil) ?_
                          by_cases h17 : ((f5 d x).2) = 0
                          · refine T_else (b := (!(decide (((f5 d x).2) = 0)))) rfl (congrArg Bool.not (decide_eq_true h17)) ?_
                            refine T_skip ?_
                            refine T_blk ?_
                            refine T_region [] [ks 7, ks 8, ks 10, ks 41, ks 42, ks 43, ks 47, ks 48, ks 49, kb 0, kb 1, kb 2, kb 3, kb 4, kb 5, kb 6] (fun _ => mixed) (l' := [ps 7 (.osl 1 0 i), ps 8 (.osl 2 0 5), ps 10 (.opt 0 0), ps 41 (.ssl (tns l) 0 l.length), ps 42 (nv l.length), ps 43 (nv i), ps 47 (.osl 2 0 5), ps 48 (iv 5), ps 49 (iv (((j : Nat) : Int) + 1)), pb 0 41 (tnC ((f5 d x).1)), pb 1 41 (tns ((l.take i).map (fun t => (chT ⟨true, sl, true, xl, xa, xo, s, h, d⟩ (endS l) t).1))), pb 2 51 [(PV.fn (.func 33) [] [(.opt 3 0)]), (PV.fn (.func 34) [] [(.opt 4 0)]), (PV.fn (.func 49) [] [(.opt 5 0)]), (PV.fn (.func 49) [] [(.opt 6 0)]), (PV.fn (.func 40) [] [(.opt 4 0)])], pb 3 3 [(iv (endS l))], pb 4 29 (chC ⟨true, sl, true, xl, xa, xo, s, h, d⟩), pb 5 65 [(PV.fn (.func 36) [] [(.opt 4 0)])], pb 6 65 [(PV.fn (.func 38) [] [(.opt 4 0)])]]) (obs := [InK .i64 (((j : Nat) : Int) + 1)]) (by kernel_rfl) (obs_cons (by simp only [InK]; omega) (obs_nil)) ?_
                            have hF2 : Far (f5 d x).1 134217728 := far_f5 hd (by rw [h16] at hF; exact hF)
                            exact T_back ⟨(j + 1, (f5 d x).1), ⟨by omega, chT_next (f := f5 d) hx (by rw [h16]; rfl) (by rw [h16]; rfl) h17, by rw [h16]; exact hF2⟩⟩ (Wk.ren3 [ps 7 (.osl 1 0 i), ps 8 (.osl 2 0 5), ps 10 (.opt 0 0), ps 41 (.ssl (tns l) 0 l.length), ps 42 (nv l.length), ps 43 (nv i), ps 47 (.osl 2 0 5), ps 48 (iv 5), ps 49 (nv (j + 1)), pb 0 41 (tnC ((f5 d x).1)), pb 1 41 (tns ((l.take i).map (fun t => (chT ⟨true, sl, true, xl, xa, xo, s, h, d⟩ (endS l) t).1))), pb 2 51 [(PV.fn (.func 33) [] [(.opt 3 0)]), (PV.fn (.func 34) [] [(.opt 4 0)]), (PV.fn (.func 49) [] [(.opt 5 0)]), (PV.fn (.func 49) [] [(.opt 6 0)]), (PV.fn (.func 40) [] [(.opt 4 0)])], pb 3 3 [(iv (endS l))], pb 4 29 (chC ⟨true, sl, true, xl, xa, xo, s, h, d⟩), pb 5 65 [(PV.fn (.func 36) [] [(.opt 4 0)])], pb 6 65 [(PV.fn (.func 38) [] [(.opt 4 0)])]] 0 hc0 [0, 1, 2, 3, 4, 5, 6] [(kb 1, (tns ((l.take i).map (fun t => (chT ⟨true, sl, true, xl, xa, xo, s, h, d⟩ (endS l) t).1))))] (obs_cons (tns_shd _) (obs_nil)) (by kernel_rfl) rfl rfl (by kernel_rfl) (by kernel_rfl)) (show 5 - (j + 1) < 5 - j from by omega)
                          · refine T_then (b := (!(decide (((f5 d x).2) = 0)))) rfl (congrArg Bool.not (decide_eq_false h17)) ?_
                            refine T_seq ?_
                            refine T_region [] [ks 4, ks 5] (fun _ => mixed) (l' := [ps 4 (.av (.slice none 0 0)), ps 5 (iv ((f5 d x).2))]) (obs := []) (by kernel_rfl) (obs_nil) ?_
                            rw [chgP_err h1 hc hf (by omega) h17 (chT_err (f := f5 d) hx (by rw [h16]; rfl) h17)]
                            exact T_ret fun cx_ a_ hI_ => loop_ret (loop_ret (ret_ok (H' := []) (.inr rfl) (Wk.ren2 [ps 4 (.av (.slice none 0 0)), ps 5 (iv ((f5 d x).2))] 0 hc0 [] rfl rfl (by kernel_rfl) (by kernel_rfl)) rfl (obs_nil) (fun cx_ a_ hI_ => ret_res (l' := [ps 4 (.av (.slice none 0 0)), ps 5 (iv ((f5 d x).2))]) (by kernel_rfl) cx_ a_ hI_) hI_))
                        · exfalso; omega
              · refine T_else (b := (decide (((j : Nat) : Int) < 5))) rfl (decide_eq_false h7) ?_
                refine T_break rfl rfl ?_
                refine T_region [(3, .app none (some (tns (((l.take i).map (fun t => (chT ⟨true, sl, true, xl, xa, xo, s, h, d⟩ (endS l) t).1)) ++ [x]))))] [ks 7, ks 8, ks 41, ks 42, ks 43, kb 2, kb 3, kb 4, kb 5, kb 6, kb 39] (fun _ => mixed) (l' := [ps 7 (.osl 39 0 (i + 1)), ps 8 (.osl 2 0 5), ps 41 (.ssl (tns l) 0 l.length), ps 42 (nv l.length), ps 43 (nv i), pb 2 51 [(PV.fn (.func 33) [] [(.opt 3 0)]), (PV.fn (.func 34) [] [(.opt 4 0)]), (PV.fn (.func 49) [] [(.opt 5 0)]), (PV.fn (.func 49) [] [(.opt 6 0)]), (PV.fn (.func 40) [] [(.opt 4 0)])], pb 3 3 [(iv (endS l))], pb 4 29 (chC ⟨true, sl, true, xl, xa, xo, s, h, d⟩), pb 5 65 [(PV.fn (.func 36) [] [(.opt 4 0)])], pb 6 65 [(PV.fn (.func 38) [] [(.opt 4 0)])], pb 39 41 (tns (((l.take i).map (fun t => (chT ⟨true, sl, true, xl, xa, xo, s, h, d⟩ (endS l) t).1)) ++ [x]))]) (obs := [((tns ((l.take i).map (fun t => (chT ⟨true, sl, true, xl, xa, xo, s, h, d⟩ (endS l) t).1)))).length = i * 5, (i + 1) * 40 ≤ 140737488355328 ∧ i + 1 ≤ 9223372036854775807, (tns ((l.take i).map (fun t => (chT ⟨true, sl, true, xl, xa, xo, s, h, d⟩ (endS l) t).1))) ++ (tnC x) = (tns (((l.take i).map (fun t => (chT ⟨true, sl, true, xl, xa, xo, s, h, d⟩ (endS l) t).1)) ++ [x]))]) (by kernel_rfl) (obs_cons (by simp only [tns_len, List.length_map, List.length_take]; omega) (obs_cons (by omega) (obs_cons (flat_app tnC ((l.take i).map (fun t => (chT ⟨true, sl, true, xl, xa, xo, s, h, d⟩ (endS l) t).1)) [x]).symm (obs_nil)))) ?_
                refine T_blk ?_
                refine T_region [] [ks 7, ks 8, ks 41, ks 42, ks 43, kb 2, kb 3, kb 4, kb 5, kb 6, kb 39] (fun _ => mixed) (l' := [ps 7 (.osl 39 0 (i + 1)), ps 8 (.osl 2 0 5), ps 41 (.ssl (tns l) 0 l.length), ps 42 (nv l.length), ps 43 (iv (((i : Nat) : Int) + 1)), pb 2 51 [(PV.fn (.func 33) [] [(.opt 3 0)]), (PV.fn (.func 34) [] [(.opt 4 0)]), (PV.fn (.func 49) [] [(.opt 5 0)]), (PV.fn (.func 49) [] [(.opt 6 0)]), (PV.fn (.func 40) [] [(.opt 4 0)])], pb 3 3 [(iv (endS l))], pb 4 29 (chC ⟨true, sl, true, xl, xa, xo, s, h, d⟩), pb 5 65 [(PV.fn (.func 36) [] [(.opt 4 0)])], pb 6 65 [(PV.fn (.func 38) [] [(.opt 4 0)])], pb 39 41 (tns (((l.take i).map (fun t => (chT ⟨true, sl, true, xl, xa, xo, s, h, d⟩ (endS l) t).1)) ++ [x]))]) (obs := [InK .i64 (((i : Nat) : Int) + 1)]) (by kernel_rfl) (obs_cons (by simp only [InK]; omega) (obs_nil)) ?_
                have hxe : chT ⟨true, sl, true, xl, xa, xo, s, h, d⟩ (endS l) (l.getD i dT) = (x, 0) := by rw [← hx, show j = 5 from by omega]; rfl
                exact T_back ⟨i + 1, ⟨by omega, by rw [fstE_next hf, hxe]⟩⟩ (Wk.trans (Wk.eq (show _ = [ps 7 (.osl 39 0 (i + 1)), ps 8 (.osl 2 0 5), ps 41 (.ssl (tns l) 0 l.length), ps 42 (nv l.length), ps 43 (iv (((i : Nat) : Int) + 1)), pb 2 51 [(PV.fn (.func 33) [] [(.opt 3 0)]), (PV.fn (.func 34) [] [(.opt 4 0)]), (PV.fn (.func 49) [] [(.opt 5 0)]), (PV.fn (.func 49) [] [(.opt 6 0)]), (PV.fn (.func 40) [] [(.opt 4 0)])], pb 3 3 [(iv (endS l))], pb 4 29 (chC ⟨true, sl, true, xl, xa, xo, s, h, d⟩), pb 5 65 [(PV.fn (.func 36) [] [(.opt 4 0)])], pb 6 65 [(PV.fn (.func 38) [] [(.opt 4 0)])], pb 39 41 (tns ((l.take (i + 1)).map (fun t => (chT ⟨true, sl, true, xl, xa, xo, s, h, d⟩ (endS l) t).1)))] from by rw [map_next (f := (fun t => (chT ⟨true, sl, true, xl, xa, xo, s, h, d⟩ (endS l) t).1)) (show i < l.length from by omega) (x := x) (by rw [hxe])])) (Wk.ren3 [ps 7 (.osl 0 0 (i + 1)), ps 8 (.osl 1 0 5), ps 41 (.ssl (tns l) 0 l.length), ps 42 (nv l.length), ps 43 (nv (i + 1)), pb 0 41 (tns ((l.take (i + 1)).map (fun t => (chT ⟨true, sl, true, xl, xa, xo, s, h, d⟩ (endS l) t).1))), pb 1 51 [(PV.fn (.func 33) [] [(.opt 2 0)]), (PV.fn (.func 34) [] [(.opt 3 0)]), (PV.fn (.func 49) [] [(.opt 4 0)]), (PV.fn (.func 49) [] [(.opt 5 0)]), (PV.fn (.func 40) [] [(.opt 3 0)])], pb 2 3 [(iv (endS l))], pb 3 29 (chC ⟨true, sl, true, xl, xa, xo, s, h, d⟩), pb 4 65 [(PV.fn (.func 36) [] [(.opt 3 0)])], pb 5 65 [(PV.fn (.func 38) [] [(.opt 3 0)])]] 0 hc0 [39, 2, 3, 4, 5, 6] [(kb 0, (tns ((l.take (i + 1)).map (fun t => (chT ⟨true, sl, true, xl, xa, xo, s, h, d⟩ (endS l) t).1))))] (obs_cons (tns_shd _) (obs_nil)) (by kernel_rfl) rfl rfl (by kernel_rfl) (by kernel_rfl))) (show l.length - (i + 1) < l.length - i from by omega)
            · refine T_else (b := (decide (((i : Nat) : Int) < ((l.length : Nat) : Int)))) rfl (decide_eq_false h6) ?_
              refine T_break rfl rfl ?_
              refine T_seq ?_
              have hil : i = l.length := by omega
              rw [hil] at hf
              have hBd : Bd (l.map (fun t => (chT ⟨true, sl, true, xl, xa, xo, s, h, d⟩ (endS l) t).1)) := fun x hx => (map_bd hl hc hf x hx).bd
              refine T_wk (Wk.eq (show _ = [ps 7 (.osl 0 0 l.length), ps 8 (.osl 1 0 5), ps 41 (.ssl (tns l) 0 l.length), ps 42 (nv l.length), ps 43 (nv i), ps 44 (bv (decide (((i : Nat) : Int) < ((l.length : Nat) : Int)))), pb 0 41 (tns (l.map (fun t => (chT ⟨true, sl, true, xl, xa, xo, s, h, d⟩ (endS l) t).1))), pb 1 51 [(PV.fn (.func 33) [] [(.opt 2 0)]), (PV.fn (.func 34) [] [(.opt 3 0)]), (PV.fn (.func 49) [] [(.opt 4 0)]), (PV.fn (.func 49) [] [(.opt 5 0)]), (PV.fn (.func 40) [] [(.opt 3 0)])], pb 2 3 [(iv (endS l))], pb 3 29 (chC ⟨true, sl, true, xl, xa, xo, s, h, d⟩), pb 4 65 [(PV.fn (.func 36) [] [(.opt 3 0)])], pb 5 65 [(PV.fn (.func 38) [] [(.opt 3 0)])]] from by rw [hil, List.take_length])) ?_
              refine T_region [(1, .call [0] [(.osl 0 0 l.length), (fv 22)] [some (41, (tns (l.map (fun t => (chT ⟨true, sl, true, xl, xa, xo, s, h, d⟩ (endS l) t).1))))] (.tup []) [some (41, (tns (sortT (l.map (fun t => (chT ⟨true, sl, true, xl, xa, xo, s, h, d⟩ (endS l) t).1)))))])] [ks 7, kb 0] (fun _ => mixed) (l' := [ps 7 (.osl 0 0 l.length), pb 0 41 (renL (sigo [0] 22) (tns (sortT (l.map (fun t => (chT ⟨true, sl, true, xl, xa, xo, s, h, d⟩ (endS l) t).1)))))]) (obs := [PC Try.prog 21 [(.osl 0 0 l.length), (fv 22)] [some (41, (tns (l.map (fun t => (chT ⟨true, sl, true, xl, xa, xo, s, h, d⟩ (endS l) t).1))))] (.tup []) [some (41, (tns (sortT (l.map (fun t => (chT ⟨true, sl, true, xl, xa, xo, s, h, d⟩ (endS l) t).1)))))], [(.osl 0 0 l.length), (fv 22)] = renL (sigi [0] 22) [(.osl 0 0 l.length), (fv 22)], (tns (l.map (fun t => (chT ⟨true, sl, true, xl, xa, xo, s, h, d⟩ (endS l) t).1))) = renL (sigi [0] 22) (tns (l.map (fun t => (chT ⟨true, sl, true, xl, xa, xo, s, h, d⟩ (endS l) t).1)))]) (by kernel_rfl) (obs_cons (sort_pc (l.map (fun t => (chT ⟨true, sl, true, xl, xa, xo, s, h, d⟩ (endS l) t).1)) l.length (by rw [List.length_map]) (by omega) hBd) (obs_cons rfl (obs_cons (renL_shd (tns_shd _)).symm (obs_nil)))) ?_
              refine T_wk (Wk.eq (show _ = [ps 7 (.osl 0 0 l.length), pb 0 41 (tns (sortT (l.map (fun t => (chT ⟨true, sl, true, xl, xa, xo, s, h, d⟩ (endS l) t).1))))] from by simp only [renL_shd (tns_shd _)])) ?_
              refine T_seq ?_
              refine T_region [] [ks 4, ks 5, kb 0] (fun _ => mixed) (l' := [ps 4 (.osl 0 0 l.length), ps 5 (iv 0), pb 0 41 (tns (sortT (l.map (fun t => (chT ⟨true, sl, true, xl, xa, xo, s, h, d⟩ (endS l) t).1))))]) (obs := []) (by kernel_rfl) (obs_nil) ?_
              refine T_wk (Wk.eq (show _ = [ps 4 (.osl 0 0 ((sortT (l.map (fun t => (chT ⟨true, sl, true, xl, xa, xo, s, h, d⟩ (endS l) t).1))).length)), ps 5 (iv 0), pb 0 41 (tns (sortT (l.map (fun t => (chT ⟨true, sl, true, xl, xa, xo, s, h, d⟩ (endS l) t).1))))] from by rw [sortT_len, List.length_map])) ?_
              refine T_wk (Wk.frz (l' := [ps 4 (.ssl (tns (sortT (l.map (fun t => (chT ⟨true, sl, true, xl, xa, xo, s, h, d⟩ (endS l) t).1)))) 0 ((sortT (l.map (fun t => (chT ⟨true, sl, true, xl, xa, xo, s, h, d⟩ (endS l) t).1))).length)), ps 5 (iv 0), (kb 0, none)]) 0 (T := 41) (cs := (tns (sortT (l.map (fun t => (chT ⟨true, sl, true, xl, xa, xo, s, h, d⟩ (endS l) t).1))))) (by kernel_rfl) (tns_shd _) (by kernel_rfl)) ?_
              refine T_wk (Wk.less (l' := [ps 4 (.ssl (tns (sortT (l.map (fun t => (chT ⟨true, sl, true, xl, xa, xo, s, h, d⟩ (endS l) t).1)))) 0 ((sortT (l.map (fun t => (chT ⟨true, sl, true, xl, xa, xo, s, h, d⟩ (endS l) t).1))).length)), ps 5 (iv 0)]) 54 (by kernel_rfl) (by kernel_rfl)) ?_
              rw [chgP_ok h1 hc hf]
              exact T_ret fun cx_ a_ hI_ => ret_ok (H' := []) (.inr rfl) (Wk.ren2 [ps 4 (.ssl (tns (sortT (l.map (fun t => (chT ⟨true, sl, true, xl, xa, xo, s, h, d⟩ (endS l) t).1)))) 0 ((sortT (l.map (fun t => (chT ⟨true, sl, true, xl, xa, xo, s, h, d⟩ (endS l) t).1))).length)), ps 5 (iv 0)] 0 hc0 [] rfl rfl (by kernel_rfl) (by kernel_rfl)) rfl (obs_nil) (fun cx_ a_ hI_ => ret_res (l' := [ps 4 (.ssl (tns (sortT (l.map (fun t => (chT ⟨true, sl, true, xl, xa, xo, s, h, d⟩ (endS l) t).1)))) 0 ((sortT (l.map (fun t => (chT ⟨true, sl, true, xl, xa, xo, s, h, d⟩ (endS l) t).1))).length)), ps 5 (iv 0)]) (by kernel_rfl) cx_ a_ hI_) hI_
  · refine T_then (b := (!(decide ((wrongS l) = 0)))) rfl (congrArg Bool.not (decide_eq_false h1)) ?_
    refine T_seq ?_
    refine T_region [] [ks 4, ks 5] (fun _ => mixed) (l' := [ps 4 (.av (.slice none 0 0)), ps 5 (iv (wrongS l))]) (obs := []) (by kernel_rfl) (obs_nil) ?_
    rw [chgP_wrong h1]
    exact T_ret fun cx_ a_ hI_ => ret_ok (H' := []) (.inr rfl) (Wk.ren2 [ps 4 (.av (.slice none 0 0)), ps 5 (iv (wrongS l))] 0 hc0 [] rfl rfl (by kernel_rfl) (by kernel_rfl)) rfl (obs_nil) (fun cx_ a_ hI_ => ret_res (l' := [ps 4 (.av (.slice none 0 0)), ps 5 (iv (wrongS l))]) (by kernel_rfl) cx_ a_ hI_) hI_
end Go.Proofs.Ytjdblogapkbefaa.Pm
namespace Go.Proofs.Ytjdblogapkbefaa.Pm
open Go Go.Proofs.Ytjdblogapkbefaa.Pi

theorem apply_pc (c : Chg) (l : List Tn) (is : I64 c.s) (ih : I64 c.h) : PC Try.prog 8 [.agg (chC c), .ssl (tns l) 0 l.length] [] (chgP c l) [] := by
  obtain ⟨bk, sl, mi, xl, xa, xo, s, h, d⟩ := c
  cases bk <;> cases mi
  · exact apply_00 sl xl xa xo s h d l is ih
  · exact apply_01 sl xl xa xo s h d l is ih
  · exact apply_10 sl xl xa xo s h d l is ih
  · exact apply_11 sl xl xa xo s h d l is ih

end Go.Proofs.Ytjdblogapkbefaa.Pm
namespace Go.Proofs.Ytjdblogapkbefaa.Pm
open Go Go.Proofs.Ytjdblogapkbefaa.Pi

def btw (a b : List Tn) : Int × Int × Int := Pi.between (a.getD 0 dT).2.2.1 (a.getD 0 dT).2.2.2.1 (a.getD 0 dT).2.2.2.2 (b.getD 0 dT).2.2.1 (b.getD 0 dT).2.2.2.1 (b.getD 0 dT).2.2.2.2
/-- The change that makes a line begin where another one does. -/
def chgF (a b : List Tn) : Chg := ⟨false, 1, false, 0, 0, 0, (btw a b).1, (btw a b).2.1, (b.getD 0 dT).1 - (a.getD 0 dT).1⟩
def folS (a b : List Tn) : Int × Int × Int × Int :=
  if wrongS a = 0 then (if wrongS b = 0 then
    (if a.length = 0 ∨ b.length ≠ a.length ∨ (b.getD 0 dT).1 < (a.getD 0 dT).1 then (0, 0, 0, 6)
     else if (appS (chgF a b) a).2 = 0 ∧ (appS (chgF a b) a).1 = b then ((b.getD 0 dT).1 - (a.getD 0 dT).1, (btw a b).1, (btw a b).2.1, 0) else (0, 0, 0, 6))
    else (0, 0, 0, wrongS b)) else (0, 0, 0, wrongS a)
def folP (a b : List Tn) : PV := .tup [iv (folS a b).1, .agg [iv (folS a b).2.1, iv (folS a b).2.2.1], iv (folS a b).2.2.2]
theorem appS_len {c : Chg} {l : List Tn} (h : (appS c l).2 = 0) : (appS c l).1.length = l.length := by
  unfold appS at *
  by_cases h1 : wrongS l = 0
  · rw [if_pos h1] at *
    by_cases h2 : chBad c
    · rw [if_pos h2] at h; exact absurd h (by decide)
    · rw [if_neg h2] at *
      by_cases h3 : appE c l = 0
      · rw [if_pos h3] at *; simp only [sortT_len, List.length_map]
      · rw [if_neg h3] at h; exact absurd h h3
  · rw [if_neg h1] at h; exact absurd h h1
theorem appS_le {c : Chg} {l : List Tn} : (appS c l).1.length ≤ 1024 := by
  unfold appS
  by_cases h1 : wrongS l = 0
  · rw [if_pos h1]
    by_cases h2 : chBad c
    · rw [if_pos h2]; simp
    · rw [if_neg h2]
      by_cases h3 : appE c l = 0
      · rw [if_pos h3]; simp only [sortT_len, List.length_map]; exact (wrong_iff.1 h1).len
      · rw [if_neg h3]; simp
  · rw [if_neg h1]; simp
theorem btw_bd {a b : List Tn} (ha : LOk a) (hb : LOk b) (h1 : 0 < a.length) (h2 : 0 < b.length) : (-1000 ≤ (btw a b).1 ∧ (btw a b).1 ≤ 1000) ∧ (-1000 ≤ (btw a b).2.1 ∧ (btw a b).2.1 ≤ 1000) := by
  have r1 : rightB (a.getD 0 dT).2.2.1 (a.getD 0 dT).2.2.2.1 (a.getD 0 dT).2.2.2.2 = true := (ha.at h1).p
  have r2 : rightB (b.getD 0 dT).2.2.1 (b.getD 0 dT).2.2.2.1 (b.getD 0 dT).2.2.2.2 = true := (hb.at h2).p
  unfold btw
  rw [between_of r1 r2]
  have b1 := bounds r1
  have b2 := bounds r2
  dsimp only
  omega
theorem folP_a {a b : List Tn} (h : ¬ wrongS a = 0) : folP a b = .tup [iv 0, .agg [iv 0, iv 0], iv (wrongS a)] := by rw [folP, folS, if_neg h]
theorem folP_b {a b : List Tn} (h : wrongS a = 0) (k : ¬ wrongS b = 0) : folP a b = .tup [iv 0, .agg [iv 0, iv 0], iv (wrongS b)] := by rw [folP, folS, if_pos h, if_neg k]
theorem folP_none {a b : List Tn} (h : wrongS a = 0) (k : wrongS b = 0) (g : a.length = 0 ∨ b.length ≠ a.length ∨ (b.getD 0 dT).1 < (a.getD 0 dT).1) : folP a b = .tup [iv 0, .agg [iv 0, iv 0], iv 6] := by
  rw [folP, folS, if_pos h, if_pos k, if_pos g]
theorem folP_no {a b : List Tn} (h : wrongS a = 0) (k : wrongS b = 0) (g : ¬ ((appS (chgF a b) a).2 = 0 ∧ (appS (chgF a b) a).1 = b)) : folP a b = .tup [iv 0, .agg [iv 0, iv 0], iv 6] := by
  rw [folP, folS, if_pos h, if_pos k]
  by_cases g1 : a.length = 0 ∨ b.length ≠ a.length ∨ (b.getD 0 dT).1 < (a.getD 0 dT).1
  · rw [if_pos g1]
  · rw [if_neg g1, if_neg g]
theorem folP_yes {a b : List Tn} (h : wrongS a = 0) (k : wrongS b = 0) (g1 : ¬ (a.length = 0 ∨ b.length ≠ a.length ∨ (b.getD 0 dT).1 < (a.getD 0 dT).1)) (g : (appS (chgF a b) a).2 = 0 ∧ (appS (chgF a b) a).1 = b) : folP a b = .tup [iv ((b.getD 0 dT).1 - (a.getD 0 dT).1), .agg [iv (btw a b).1, iv (btw a b).2.1], iv 0] := by
  rw [folP, folS, if_pos h, if_pos k, if_neg g1, if_pos g]

end Go.Proofs.Ytjdblogapkbefaa.Pm
namespace Go.Proofs.Ytjdblogapkbefaa.Pm
open Go Go.Proofs.Ytjdblogapkbefaa.Pi

/-- What a change makes of a tone. -/
def Tm (c : Chg) (E : Int) (t : Tn) : Tn := (timA c E t, timL c t, (ptcT c t).1, (ptcT c t).2.1, (ptcT c t).2.2.1)
theorem chT_tm {c : Chg} {E : Int} {t : Tn} (h : (chT c E t).2 = 0) : (ptcT c t).2.2.2 = 0 ∧ timA c E t ≤ 1048576 ∧ timL c t ≤ 1048576 ∧ (chT c E t).1 = Tm c E t := chT_ok h
theorem chT_zero {c : Chg} {E : Int} {t : Tn} (h1 : (ptcT c t).2.2.2 = 0) (h2 : timA c E t ≤ 1048576) (h3 : timL c t ≤ 1048576) : (chT c E t).2 = 0 := by rw [chT_of h1 h2 h3]
theorem appS_ok {c : Chg} {l : List Tn} (h : (appS c l).2 = 0) : LOk l ∧ ¬ chBad c ∧ (∀ t ∈ l, (chT c (endS l) t).2 = 0) ∧ (appS c l).1 = sortT (l.map (Tm c (endS l))) := by
  unfold appS at *
  by_cases h1 : wrongS l = 0
  · rw [if_pos h1] at *
    by_cases h2 : chBad c
    · rw [if_pos h2] at h; exact absurd h (by decide)
    · rw [if_neg h2] at *
      by_cases h3 : appE c l = 0
      · rw [if_pos h3]
        have h4 : ∀ t ∈ l, (chT c (endS l) t).2 = 0 := by
          intro t ht
          obtain ⟨i, hi, rfl⟩ := List.mem_iff_getElem.1 ht
          have := fstE_none (show fstE (fun i => (chT c (endS l) (l.getD i dT)).2) l.length = 0 from h3) hi
          simp only [gd_eq l dT hi] at this
          exact this
        refine ⟨wrong_iff.1 h1, h2, h4, ?_⟩
        show sortT (l.map fun t => (chT c (endS l) t).1) = _
        rw [List.map_congr_left fun t ht => (chT_tm (h4 t ht)).2.2.2]
      · rw [if_neg h3] at h; exact absurd h h3
  · rw [if_neg h1] at h; exact absurd h h1
theorem appS_zero {c : Chg} {l : List Tn} (hl : LOk l) (hc : ¬ chBad c) (h : ∀ t ∈ l, (chT c (endS l) t).2 = 0) : (appS c l).2 = 0 := by
  have h3 : appE c l = 0 := fstE_all fun i hi => by
    show (chT c (endS l) (l.getD i dT)).2 = 0
    rw [gd_eq _ _ hi]; exact h _ (List.getElem_mem hi)
  unfold appS
  rw [if_pos (wrong_iff.2 hl), if_neg hc, if_pos h3]
theorem appS_mem {c : Chg} {l : List Tn} (h : (appS c l).2 = 0) {x : Tn} : x ∈ (appS c l).1 ↔ ∃ t ∈ l, Tm c (endS l) t = x := by
  rw [(appS_ok h).2.2.2, sortT_mem, List.mem_map]
theorem appS_lok {c : Chg} {l : List Tn} (h : (appS c l).2 = 0) : LOk (appS c l).1 := by
  obtain ⟨hl, hc, h4, e⟩ := appS_ok h
  refine ⟨appS_le, fun x hx => ?_, by rw [e]; exact sortT_srt _⟩
  obtain ⟨t, ht, rfl⟩ := (appS_mem h).1 hx
  have := chT_tok hl ht hc (h4 t ht)
  rwa [(chT_tm (h4 t ht)).2.2.2] at this
theorem endS_nn (l : List Tn) : 0 ≤ endS l := endN_mono (l := l) (Nat.zero_le l.length)
theorem endS_le {l : List Tn} {e : Int} (h0 : 0 ≤ e) (h : ∀ t ∈ l, t.1 + t.2.1 ≤ e) : endS l ≤ e := by
  have : ∀ n, n ≤ l.length → endN l n ≤ e := by
    intro n
    induction n with
    | zero => intro _; exact h0
    | succ n ih =>
      intro hn
      have h1 := ih (by omega)
      have h2 := h (l.getD n dT) (by rw [gd_eq _ _ (show n < l.length from hn)]; exact List.getElem_mem _)
      simp only [endN]; omega
  exact this _ (Nat.le_refl _)
theorem endS_sub {l m : List Tn} (h : ∀ t ∈ l, ∃ u ∈ m, t.1 + t.2.1 ≤ u.1 + u.2.1) : endS l ≤ endS m :=
  endS_le (endS_nn m) fun t ht => by
    obtain ⟨u, hu, e⟩ := h t ht
    exact Int.le_trans e (endS_ge hu)
/-- One change and then another one. -/
theorem comp_eq {c d b : Chg} {l : List Tn} (h1 : (appS c l).2 = 0) (h2 : (appS d (appS c l).1).2 = 0) (h3 : (appS b l).2 = 0) (h : ∀ t ∈ l, TOk t → (ptcT c t).2.2.2 = 0 → Tm d (endS (appS c l).1) (Tm c (endS l) t) = Tm b (endS l) t) :
    (appS d (appS c l).1).1 = (appS b l).1 := by
  rw [(appS_ok h2).2.2.2, (appS_ok h3).2.2.2]
  have e := (appS_ok h1).2.2.2
  have hp : ((appS c l).1.map (Tm d (endS (appS c l).1))).Perm ((l.map (Tm c (endS l))).map (Tm d (endS (appS c l).1))) := by
    have hq : (appS c l).1.Perm (l.map (Tm c (endS l))) := by rw [e]; exact sortT_perm _
    exact hq.map _
  rw [sortT_congr hp, List.map_map]
  congr 1
  exact List.map_congr_left fun t ht => h t ht ((appS_ok h1).1.t t ht) (chT_tm ((appS_ok h1).2.2.1 t ht)).1
theorem ptc_none {c : Chg} {t : Tn} (hm : c.mi = false) (hs : c.s = 0) (hh : c.h = 0) (hr : rgt t = true) : ptcT c t = (t.2.2.1, t.2.2.2.1, t.2.2.2.2, 0) := by
  unfold ptcT ptc
  rw [if_neg (by rw [hm]; decide), hs, hh]
  exact move_none hr
theorem ptc_move {c : Chg} {t : Tn} (hm : c.mi = false) : ptcT c t = Pi.move t.2.2.1 t.2.2.2.1 t.2.2.2.2 c.s c.h := by
  unfold ptcT ptc
  rw [if_neg (by rw [hm]; decide)]
theorem ptc_mirror {c : Chg} {t : Tn} (hm : c.mi = true) (hs : c.s = 0) (hh : c.h = 0) (h : (ptcT c t).2.2.2 = 0) : (mirT c t).2.2.2 = 0 ∧ ptcT c t = mirT c t := by
  unfold ptcT ptc at *
  rw [if_pos hm] at *
  by_cases h0 : (Pi.mirror t.2.2.1 t.2.2.2.1 t.2.2.2.2 c.xl c.xa c.xo).2.2.2 = 0
  · refine ⟨h0, ?_⟩
    rw [if_pos h0, hs, hh]
    have hr : rightB (Pi.mirror t.2.2.1 t.2.2.2.1 t.2.2.2.2 c.xl c.xa c.xo).1 (Pi.mirror t.2.2.1 t.2.2.2.1 t.2.2.2.2 c.xl c.xa c.xo).2.1 (Pi.mirror t.2.2.1 t.2.2.2.1 t.2.2.2.2 c.xl c.xa c.xo).2.2.1 = true := by
      unfold Pi.mirror
      split
      · exact move_right _ _ _ _ _
      · rfl
    rw [move_none hr, ← h0]
  · rw [if_neg h0] at h; exact absurd h h0
/-- Whether one change and then another one are a third one, as far as all are told. -/
def twB (l : List Tn) (c d b : Chg) : Bool :=
  if (appS c l).2 = 0 then (if (appS d (appS c l).1).2 = 0 then (if (appS b l).2 = 0 then decide ((appS d (appS c l).1).1 = (appS b l).1) else true) else true) else true
theorem tw_true {l : List Tn} {c d b : Chg} (h : (appS c l).2 = 0 → (appS d (appS c l).1).2 = 0 → (appS b l).2 = 0 → (appS d (appS c l).1).1 = (appS b l).1) : twB l c d b = true := by
  unfold twB
  by_cases h1 : (appS c l).2 = 0
  · rw [if_pos h1]
    by_cases h2 : (appS d (appS c l).1).2 = 0
    · rw [if_pos h2]
      by_cases h3 : (appS b l).2 = 0
      · rw [if_pos h3]; exact decide_eq_true (h h1 h2 h3)
      · rw [if_neg h3]
    · rw [if_neg h2]
  · rw [if_neg h1]
theorem tm_eq {c d b : Chg} {E F : Int} {t : Tn} (h1 : timA d F (Tm c E t) = timA b E t) (h2 : timL d (Tm c E t) = timL b t) (h3 : ptcT d (Tm c E t) = ptcT b t) : Tm d F (Tm c E t) = Tm b E t := by
  unfold Tm at *
  rw [h1, h2, h3]
def sumS (a b : Int) : Int := if a < 0 ∨ b < 0 ∨ 1048576 < a ∨ 1048576 < b then -1 else a + b
theorem bad_d {c : Chg} (h : ¬ chBad c) : 0 ≤ c.d ∧ c.d ≤ 1048576 ∧ 1 ≤ c.sl ∧ c.sl ≤ 16 := by unfold chBad at h; omega
theorem tw_later (l : List Tn) (a b : Int) : twB l ⟨false, 1, false, 0, 0, 0, 0, 0, a⟩ ⟨false, 1, false, 0, 0, 0, 0, 0, b⟩ ⟨false, 1, false, 0, 0, 0, 0, 0, sumS a b⟩ = true := by
  refine tw_true fun h1 h2 h3 => comp_eq h1 h2 h3 fun t _ hk hp => ?_
  have b1 := bad_d (appS_ok h1).2.1
  have b2 := bad_d (appS_ok h2).2.1
  dsimp only at b1 b2
  have e : sumS a b = a + b := by unfold sumS; rw [if_neg (by omega)]
  have p1 := ptc_none (c := ⟨false, 1, false, 0, 0, 0, 0, 0, a⟩) (t := t) rfl rfl rfl hk.p
  refine tm_eq ?_ ?_ ?_
  · simp only [timA, Tm, Bool.false_eq_true, if_false, Int.mul_one, e]; omega
  · simp only [timL, Tm, Int.mul_one]
  · rw [ptc_none (c := ⟨false, 1, false, 0, 0, 0, 0, 0, sumS a b⟩) (t := t) rfl rfl rfl hk.p]
    have hr : rgt (Tm ⟨false, 1, false, 0, 0, 0, 0, 0, a⟩ (endS l) t) = true := by unfold rgt Tm; rw [p1]; exact hk.p
    rw [ptc_none rfl rfl rfl hr]
    unfold Tm; rw [p1]
theorem tw_slow (l : List Tn) (a b : Int) : twB l ⟨false, a, false, 0, 0, 0, 0, 0, 0⟩ ⟨false, b, false, 0, 0, 0, 0, 0, 0⟩ ⟨false, a * b, false, 0, 0, 0, 0, 0, 0⟩ = true := by
  refine tw_true fun h1 h2 h3 => comp_eq h1 h2 h3 fun t _ hk hp => ?_
  have p1 := ptc_none (c := ⟨false, a, false, 0, 0, 0, 0, 0, 0⟩) (t := t) rfl rfl rfl hk.p
  refine tm_eq ?_ ?_ ?_
  · simp only [timA, Tm, Bool.false_eq_true, if_false, Int.add_zero, Int.mul_assoc]
  · simp only [timL, Tm, Int.mul_assoc]
  · rw [ptc_none (c := ⟨false, a * b, false, 0, 0, 0, 0, 0, 0⟩) (t := t) rfl rfl rfl hk.p]
    have hr : rgt (Tm ⟨false, a, false, 0, 0, 0, 0, 0, 0⟩ (endS l) t) = true := by unfold rgt Tm; rw [p1]; exact hk.p
    rw [ptc_none rfl rfl rfl hr]
    unfold Tm; rw [p1]
theorem q4_eq {r : Int × Int × Int × Int} (h : r.2.2.2 = 0) : r = (r.1, r.2.1, r.2.2.1, 0) := by
  obtain ⟨a, b, c, d⟩ := r
  simp only at h
  subst h; rfl
theorem q3_eq {r : Int × Int × Int} (h : r.2.2 = 0) : r = (r.1, r.2.1, 0) := by
  obtain ⟨a, b, c⟩ := r
  simp only at h
  subst h; rfl
theorem tw_move (l : List Tn) (s h x y : Int) (e : (Pi.sum s h x y).2.2 = 0) : twB l ⟨false, 1, false, 0, 0, 0, s, h, 0⟩ ⟨false, 1, false, 0, 0, 0, x, y, 0⟩ ⟨false, 1, false, 0, 0, 0, (Pi.sum s h x y).1, (Pi.sum s h x y).2.1, 0⟩ = true := by
  refine tw_true fun h1 h2 h3 => comp_eq h1 h2 h3 fun t _ hk hp => ?_
  have p1 := ptc_move (c := ⟨false, 1, false, 0, 0, 0, s, h, 0⟩) (t := t) rfl
  rw [p1] at hp
  refine tm_eq ?_ ?_ ?_
  · simp only [timA, Tm, Bool.false_eq_true, if_false, Int.mul_one, Int.add_zero]
  · simp only [timL, Tm, Int.mul_one]
  · rw [ptc_move (c := ⟨false, 1, false, 0, 0, 0, x, y, 0⟩) rfl, ptc_move (c := ⟨false, 1, false, 0, 0, 0, (Pi.sum s h x y).1, (Pi.sum s h x y).2.1, 0⟩) (t := t) rfl]
    have := move_sum (q4_eq hp) (q3_eq e)
    rw [← this]
    unfold Tm; rw [p1]
theorem tw_mirror (l : List Tn) (xl xa xo : Int) : twB l ⟨false, 1, true, xl, xa, xo, 0, 0, 0⟩ ⟨false, 1, true, xl, xa, xo, 0, 0, 0⟩ ⟨false, 1, false, 0, 0, 0, 0, 0, 0⟩ = true := by
  refine tw_true fun h1 h2 h3 => comp_eq h1 h2 h3 fun t ht hk hp => ?_
  obtain ⟨p0, p1⟩ := ptc_mirror (c := ⟨false, 1, true, xl, xa, xo, 0, 0, 0⟩) (t := t) rfl rfl rfl hp
  refine tm_eq ?_ ?_ ?_
  · simp only [timA, Tm, Bool.false_eq_true, if_false, Int.mul_one, Int.add_zero]
  · simp only [timL, Tm, Int.mul_one]
  · have hm := (appS_mem h1).2 ⟨t, ht, rfl⟩
    have hp2 := (chT_tm ((appS_ok h2).2.2.1 _ hm)).1
    obtain ⟨_, p2⟩ := ptc_mirror (c := ⟨false, 1, true, xl, xa, xo, 0, 0, 0⟩) rfl rfl rfl hp2
    rw [p2, ptc_none (c := ⟨false, 1, false, 0, 0, 0, 0, 0, 0⟩) (t := t) rfl rfl rfl hk.p]
    have := mirror_back (q4_eq p0)
    unfold Tm mirT; rw [p1]
    exact this
theorem tw_back (l : List Tn) (h0 : 0 < l.length) (hz : (l.getD 0 dT).1 ≤ 0) : twB l ⟨true, 1, false, 0, 0, 0, 0, 0, 0⟩ ⟨true, 1, false, 0, 0, 0, 0, 0, 0⟩ ⟨false, 1, false, 0, 0, 0, 0, 0, 0⟩ = true := by
  refine tw_true fun h1 h2 h3 => comp_eq h1 h2 h3 fun t ht hk hp => ?_
  have hl := (appS_ok h1).1
  have e1 : ∀ u : Tn, timA ⟨true, 1, false, 0, 0, 0, 0, 0, 0⟩ (endS l) u = endS l - u.1 - u.2.1 := fun u => by simp only [timA, if_true, Int.mul_one, Int.add_zero]
  have e2 : ∀ u : Tn, timL ⟨true, 1, false, 0, 0, 0, 0, 0, 0⟩ u = u.2.1 := fun u => by simp only [timL, Int.mul_one]
  have eE : endS (appS ⟨true, 1, false, 0, 0, 0, 0, 0, 0⟩ l).1 = endS l := by
    apply Int.le_antisymm
    · refine endS_le (endS_nn l) fun u hu => ?_
      obtain ⟨v, hv, rfl⟩ := (appS_mem h1).1 hu
      have := (hl.t v hv).a0
      show timA _ _ v + timL _ v ≤ _
      rw [e1, e2]; omega
    · have hm : l.getD 0 dT ∈ l := by rw [gd_eq _ _ h0]; exact List.getElem_mem _
      have := endS_ge ((appS_mem h1).2 ⟨_, hm, rfl⟩)
      have ha := (hl.t _ hm).a0
      have hs : timA ⟨true, 1, false, 0, 0, 0, 0, 0, 0⟩ (endS l) (l.getD 0 dT) + timL ⟨true, 1, false, 0, 0, 0, 0, 0, 0⟩ (l.getD 0 dT) ≤ endS (appS ⟨true, 1, false, 0, 0, 0, 0, 0, 0⟩ l).1 := this
      rw [e1, e2] at hs; omega
  have p1 := ptc_none (c := ⟨true, 1, false, 0, 0, 0, 0, 0, 0⟩) (t := t) rfl rfl rfl hk.p
  rw [eE]
  refine tm_eq ?_ ?_ ?_
  · rw [e1]
    show endS l - timA _ _ t - timL _ t = _
    rw [e1, e2]
    simp only [timA, Bool.false_eq_true, if_false, Int.mul_one]; omega
  · rw [e2]
    show timL _ t = _
    rw [e2]; simp only [timL, Int.mul_one]
  · rw [ptc_none (c := ⟨false, 1, false, 0, 0, 0, 0, 0, 0⟩) (t := t) rfl rfl rfl hk.p]
    have hr : rgt (Tm ⟨true, 1, false, 0, 0, 0, 0, 0, 0⟩ (endS l) t) = true := by unfold rgt Tm; rw [p1]; exact hk.p
    rw [ptc_none rfl rfl rfl hr]
    unfold Tm; rw [p1]

end Go.Proofs.Ytjdblogapkbefaa.Pm
namespace Go.Proofs.Ytjdblogapkbefaa.Pm
open Go Go.Proofs.Ytjdblogapkbefaa.Pi

/-! ### Time and pitch -/
abbrev cT (bk : Bool) (sl : Int) : Chg := ⟨bk, sl, false, 0, 0, 0, 0, 0, 0⟩
abbrev cH (mi : Bool) (xl xa xo s h : Int) : Chg := ⟨false, 1, mi, xl, xa, xo, s, h, 0⟩
abbrev cZ (bk : Bool) (sl : Int) (mi : Bool) (xl xa xo s h : Int) : Chg := ⟨bk, sl, mi, xl, xa, xo, s, h, 0⟩
theorem ptc_T {bk : Bool} {sl : Int} {t : Tn} (h : rgt t = true) : ptcT (cT bk sl) t = (t.2.2.1, t.2.2.2.1, t.2.2.2.2, 0) := ptc_none rfl rfl rfl h
theorem ptc_Z {bk mi : Bool} {sl xl xa xo s h : Int} {t : Tn} : ptcT (cZ bk sl mi xl xa xo s h) t = ptcT (cH mi xl xa xo s h) t := rfl
theorem ptc_at {c : Chg} {t u : Tn} (h : u.2.2 = t.2.2) : ptcT c u = ptcT c t := by unfold ptcT; rw [h]
theorem timH {mi : Bool} {xl xa xo s h E : Int} {t : Tn} : timA (cH mi xl xa xo s h) E t = t.1 ∧ timL (cH mi xl xa xo s h) t = t.2.1 := by
  constructor
  · simp only [timA, Bool.false_eq_true, if_false, Int.mul_one, Int.add_zero]
  · simp only [timL, Int.mul_one]
theorem tm_T {bk : Bool} {sl E : Int} {t : Tn} (h : rgt t = true) : (Tm (cT bk sl) E t).2.2 = t.2.2 := by unfold Tm; rw [ptc_T h]
theorem tm_H {mi : Bool} {xl xa xo s h E : Int} {t : Tn} : Tm (cH mi xl xa xo s h) E t = (t.1, t.2.1, (ptcT (cH mi xl xa xo s h) t).1, (ptcT (cH mi xl xa xo s h) t).2.1, (ptcT (cH mi xl xa xo s h) t).2.2.1) := by
  unfold Tm; rw [timH.1, (timH (E := 0)).2]
theorem bad_H {mi : Bool} {xl xa xo s h : Int} : ¬ chBad (cH mi xl xa xo s h) := by unfold chBad; dsimp only; omega
theorem high_ok {mi : Bool} {xl xa xo s h : Int} {l : List Tn} (hl : LOk l) : (appS (cH mi xl xa xo s h) l).2 = 0 ↔ ∀ t ∈ l, (ptcT (cH mi xl xa xo s h) t).2.2.2 = 0 := by
  constructor
  · intro h t ht; exact (chT_tm ((appS_ok h).2.2.1 t ht)).1
  · intro h
    refine appS_zero hl bad_H fun t ht => chT_zero (h t ht) ?_ ?_
    · rw [timH.1]; exact (hl.t t ht).a1
    · rw [(timH (E := 0)).2]; exact (hl.t t ht).l1
theorem apt_iff {bk mi : Bool} {sl xl xa xo s h : Int} {l : List Tn} (h1 : (appS (cT bk sl) l).2 = 0) : (appS (cH mi xl xa xo s h) (appS (cT bk sl) l).1).2 = 0 ↔ (appS (cH mi xl xa xo s h) l).2 = 0 := by
  have hl := (appS_ok h1).1
  rw [high_ok (appS_lok h1), high_ok hl]
  constructor
  · intro k t ht
    have := k _ ((appS_mem h1).2 ⟨t, ht, rfl⟩)
    rwa [ptc_at (tm_T (hl.t t ht).p)] at this
  · intro k u hu
    obtain ⟨t, ht, rfl⟩ := (appS_mem h1).1 hu
    rw [ptc_at (tm_T (hl.t t ht).p)]; exact k t ht
theorem tim_of {bk mi : Bool} {sl xl xa xo s h E F G : Int} {t : Tn} (k : F = E) : timA (cT bk sl) F (Tm (cH mi xl xa xo s h) G t) = timA (cT bk sl) E t ∧ timL (cT bk sl) (Tm (cH mi xl xa xo s h) G t) = timL (cT bk sl) t := by
  rw [tm_H, k]
  exact ⟨rfl, rfl⟩
theorem apt_all {bk mi : Bool} {sl xl xa xo s h : Int} {l : List Tn} (h1 : (appS (cT bk sl) l).2 = 0) (h2 : (appS (cH mi xl xa xo s h) (appS (cT bk sl) l).1).2 = 0) (h3 : (appS (cH mi xl xa xo s h) l).2 = 0) :
    (appS (cT bk sl) (appS (cH mi xl xa xo s h) l).1).2 = 0 ∧ (appS (cZ bk sl mi xl xa xo s h) l).2 = 0 ∧
    (appS (cH mi xl xa xo s h) (appS (cT bk sl) l).1).1 = (appS (cT bk sl) (appS (cH mi xl xa xo s h) l).1).1 ∧ (appS (cH mi xl xa xo s h) (appS (cT bk sl) l).1).1 = (appS (cZ bk sl mi xl xa xo s h) l).1 := by
  have hl := (appS_ok h1).1
  have hb := (appS_ok h1).2.1
  have hE : endS (appS (cH mi xl xa xo s h) l).1 = endS l := by
    apply Int.le_antisymm
    · refine endS_sub fun u hu => ?_
      obtain ⟨t, ht, rfl⟩ := (appS_mem h3).1 hu
      exact ⟨t, ht, by rw [tm_H]; exact Int.le_refl _⟩
    · refine endS_sub fun t ht => ?_
      exact ⟨_, (appS_mem h3).2 ⟨t, ht, rfl⟩, by rw [tm_H]; exact Int.le_refl _⟩
  have hy := appS_lok h3
  have k1 : (appS (cT bk sl) (appS (cH mi xl xa xo s h) l).1).2 = 0 := by
    refine appS_zero hy hb fun u hu => ?_
    obtain ⟨t, ht, rfl⟩ := (appS_mem h3).1 hu
    obtain ⟨_, a2, a3, _⟩ := chT_tm ((appS_ok h1).2.2.1 t ht)
    refine chT_zero ?_ ?_ ?_
    · rw [ptc_T (hy.t _ hu).p]
    · rw [(tim_of hE).1]; exact a2
    · rw [(tim_of hE).2]; exact a3
  have k2 : (appS (cZ bk sl mi xl xa xo s h) l).2 = 0 := by
    refine appS_zero hl hb fun t ht => ?_
    obtain ⟨_, a2, a3, _⟩ := chT_tm ((appS_ok h1).2.2.1 t ht)
    exact chT_zero (chT_tm ((appS_ok h3).2.2.1 t ht)).1 a2 a3
  have k3 : (appS (cH mi xl xa xo s h) (appS (cT bk sl) l).1).1 = (appS (cZ bk sl mi xl xa xo s h) l).1 := by
    refine comp_eq h1 h2 k2 fun t ht hk hp => ?_
    rw [tm_H, ptc_at (tm_T hk.p)]
    rfl
  have k4 : (appS (cT bk sl) (appS (cH mi xl xa xo s h) l).1).1 = (appS (cZ bk sl mi xl xa xo s h) l).1 := by
    refine comp_eq h3 k1 k2 fun t ht hk hp => tm_eq ?_ ?_ ?_
    · rw [(tim_of hE).1]; rfl
    · rw [(tim_of hE).2]; rfl
    · rw [ptc_T (hy.t _ ((appS_mem h3).2 ⟨t, ht, rfl⟩)).p, ptc_Z, tm_H]
      exact (q4_eq hp).symm
  exact ⟨k1, k2, k3.trans k4.symm, k3⟩

/-! ### What follows -/
abbrev cF (s h d : Int) : Chg := ⟨false, 1, false, 0, 0, 0, s, h, d⟩
theorem tm_F {s h d E : Int} {t : Tn} : Tm (cF s h d) E t = (t.1 + d, t.2.1, (Pi.move t.2.2.1 t.2.2.2.1 t.2.2.2.2 s h).1, (Pi.move t.2.2.1 t.2.2.2.1 t.2.2.2.2 s h).2.1, (Pi.move t.2.2.1 t.2.2.2.1 t.2.2.2.2 s h).2.2.1) := by
  unfold Tm
  rw [ptc_move rfl]
  simp only [timA, timL, Bool.false_eq_true, if_false, Int.mul_one]
/-- Moved pitches stand as they stood. -/
theorem move_mono {s h d E : Int} {t u : Tn} (ht : (ptcT (cF s h d) t).2.2.2 = 0) (hu : (ptcT (cF s h d) u).2.2.2 = 0) (k : LeT t u) : LeT (Tm (cF s h d) E t) (Tm (cF s h d) E u) := by
  rw [ptc_move rfl] at ht hu
  obtain ⟨r1, _, r2, e1, e2⟩ := move_ok (q4_eq ht)
  obtain ⟨r3, _, r4, e3, e4⟩ := move_ok (q4_eq hu)
  rw [tm_F, tm_F]
  unfold LeT ordS at *
  generalize Pi.move t.2.2.1 t.2.2.2.1 t.2.2.2.2 s h = p at *
  generalize Pi.move u.2.2.1 u.2.2.2.1 u.2.2.2.2 s h = q at *
  have g1 := rightB_iff.1 r1
  have g2 := rightB_iff.1 r2
  have g3 := rightB_iff.1 r3
  have g4 := rightB_iff.1 r4
  unfold Pi.steps at e1 e3
  dsimp only at k e1 e2 e3 e4 g1 g2 g3 g4 ⊢
  by_cases h1 : t.1 = u.1
  · rw [if_neg (by omega)] at k ⊢
    by_cases h2 : t.2.1 = u.2.1
    · rw [if_neg (by omega)] at k ⊢
      by_cases h3 : t.2.2.2.2 = u.2.2.2.2
      · rw [if_neg (by omega)] at k
        by_cases h4 : t.2.2.1 = u.2.2.1
        · rw [if_neg (by omega)] at k
          have o1 : p.2.2.1 = q.2.2.1 := by omega
          have o2 : p.1 = q.1 := by omega
          rw [if_neg (by omega), if_neg (by omega)]
          unfold Pi.halves at e2 e4
          rw [o1, o2] at e2
          rw [h3, h4] at e2
          omega
        · rw [if_pos h4] at k
          by_cases o1 : p.2.2.1 = q.2.2.1
          · rw [if_neg (by omega), if_pos (by omega)]; omega
          · rw [if_pos o1]; omega
      · rw [if_pos h3] at k
        by_cases o1 : p.2.2.1 = q.2.2.1
        · rw [if_neg (by omega), if_pos (by omega)]; omega
        · rw [if_pos o1]; omega
    · rw [if_pos h2] at k ⊢; exact k
  · rw [if_pos h1] at k
    rw [if_pos (by omega)]; omega
theorem fol_row {s h d : Int} {l : List Tn} (k : (appS (cF s h d) l).2 = 0) : (appS (cF s h d) l).1 = l.map (Tm (cF s h d) (endS l)) := by
  obtain ⟨hl, _, h4, e⟩ := appS_ok k
  rw [e]
  refine sortT_srtd (List.pairwise_map.2 ?_)
  refine hl.s.imp_of_mem fun {a b} ha hb hab => ?_
  exact move_mono (chT_tm (h4 a ha)).1 (chT_tm (h4 b hb)).1 hab
theorem fol_found {s h d : Int} {l : List Tn} (k : (appS (cF s h d) l).2 = 0) (h0 : 0 < l.length) : folS l (appS (cF s h d) l).1 = (d, s, h, 0) := by
  obtain ⟨hl, hb, h4, e⟩ := appS_ok k
  have hx := appS_lok k
  have er := fol_row k
  have b := bad_d hb
  dsimp only at b
  have e0 : (appS (cF s h d) l).1.getD 0 dT = Tm (cF s h d) (endS l) (l.getD 0 dT) := by
    rw [er, gd_eq _ _ (by rw [List.length_map]; exact h0), gd_eq _ _ h0, List.getElem_map]
  have hm : l.getD 0 dT ∈ l := by rw [gd_eq _ _ h0]; exact List.getElem_mem _
  have hp := (chT_tm (h4 _ hm)).1
  rw [ptc_move rfl] at hp
  have ed : ((appS (cF s h d) l).1.getD 0 dT).1 - (l.getD 0 dT).1 = d := by rw [e0, tm_F]; show (l.getD 0 dT).1 + d - (l.getD 0 dT).1 = d; omega
  have eb : btw l (appS (cF s h d) l).1 = (s, h, 0) := by
    unfold btw
    rw [e0, tm_F]
    exact move_back (q4_eq hp)
  have ec : chgF l (appS (cF s h d) l).1 = cF s h d := by unfold chgF; rw [eb, ed]
  unfold folS
  rw [if_pos (wrong_iff.2 hl), if_pos (wrong_iff.2 hx), if_neg (by
    rw [appS_len k]
    have := ed
    omega), if_pos (by rw [ec]; exact ⟨k, rfl⟩), ed, eb]
theorem fol_is {l m : List Tn} (k : (folS l m).2.2.2 = 0) : (appS (cF (folS l m).2.1 (folS l m).2.2.1 (folS l m).1) l).2 = 0 ∧ (appS (cF (folS l m).2.1 (folS l m).2.2.1 (folS l m).1) l).1 = m := by
  unfold folS at *
  by_cases h1 : wrongS l = 0
  · rw [if_pos h1] at *
    by_cases h2 : wrongS m = 0
    · rw [if_pos h2] at *
      by_cases h3 : l.length = 0 ∨ m.length ≠ l.length ∨ (m.getD 0 dT).1 < (l.getD 0 dT).1
      · rw [if_pos h3] at k; exact absurd k (by decide)
      · rw [if_neg h3] at *
        by_cases h4 : (appS (chgF l m) l).2 = 0 ∧ (appS (chgF l m) l).1 = m
        · rw [if_pos h4]; exact h4
        · rw [if_neg h4] at k; exact absurd k (by decide)
    · rw [if_neg h2] at k; exact absurd k h2
  · rw [if_neg h1] at k; exact absurd k h1

/-! ### A closed fact -/
theorem alive_eq : appS ⟨false, 2, false, 0, 0, 0, 0, 0, 0⟩ [(0, 3, 0, 0, 0)] = ([(0, 6, 0, 0, 0)], 0) := by
  have hl : LOk [(0, 3, 0, 0, 0)] := ⟨by decide, fun x hx => by
    rw [List.mem_singleton] at hx
    subst hx
    exact ⟨by decide, by decide, by decide, by decide, by decide⟩, List.pairwise_singleton _ _⟩
  have hz : (appS ⟨false, 2, false, 0, 0, 0, 0, 0, 0⟩ [(0, 3, 0, 0, 0)]).2 = 0 := appS_zero hl (by unfold chBad; decide) fun t ht => by
    rw [List.mem_singleton] at ht
    subst ht
    exact chT_zero (by decide) (by decide) (by decide)
  have e := (appS_ok hz).2.2.2
  rw [List.map_cons, List.map_nil, sortT_srtd (List.pairwise_singleton _ _)] at e
  exact Prod.ext e hz

end Go.Proofs.Ytjdblogapkbefaa.Pm
