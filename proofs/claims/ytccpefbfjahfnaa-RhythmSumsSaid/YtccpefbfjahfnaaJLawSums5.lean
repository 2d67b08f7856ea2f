/-
  THE DOCUMENT WRITES: walks. (Printed by wip/pm.) | THE LAW RhythmWrites: walks. (Printed by wip/pm.) | WHAT IS WRITTEN LASTS AS LONG: plain. | THE LAW RhythmWhole: walks. (Printed by wip/pm.) | TIME IS SHARED OUT WHOLE: walks. (Printed by wip/pm.) | What every law's row of this seat needs: the arguments read behind the call as before it, whatever their types, if the call has turned nothing that was there. | THE VALUE MACHINE (Row): a law's arguments, opened to values. | THE VALUE MACHINE (Open): whatever came in, by its type: numbers, truth values, floats, strings, slices and structs of such, as deep as they are. | A beat that came in is a tree. | What came in, at its types: lists of numbers, lists of such; how much they hold.
-/
import Derived.Test.YtccpefbfjahfnaaJLawSums4
import Derived.Test.YtccpefbfjahfnaaRows
import Derived.WalkKit
import Derived.ProofKit
import Derived.OpenShut
import Derived.Lib.SmallJoins
import Derived.Below
import Derived.ChangeSame
import Derived.SizedLaws
import Derived.Test.YtccpefbfjahfnaaJLawSums2
import Derived.Deep.Matrix
namespace Go.Proofs.Ytccpefbfjahfnaa.Pm
open Go Fr

set_option maxRecDepth 100000 in
set_option maxHeartbeats 4000000 in
theorem ref_write_pc (u d : Int) (hu : I64 u) (hd : I64 d) : PC Try.prog 10 [(.agg [(iv u), (iv d)])] [] (writeP u d) [] := by
  refine pc_intro Try.func10 rfl (by kernel_rfl) (Nat.le_of_ble_eq_true rfl) (by kernel_rfl) (l0 := [ps 0 (.agg [(iv u), (iv d)])]) rfl (fun c0 Bor hc0 => ?_)
  refine T_seq ?_
  refine T_region [] [ks 1, kb 0] (fun _ => mixed) (l' := [ps 1 (.opt 0 0), pb 0 25 [(iv u), (iv d)]]) (obs := []) (by kernel_rfl) (obs_nil) ?_
  refine T_seq ?_
  refine T_seq ?_
  refine T_region [(1, .call [] [(.agg [(iv u), (iv d)])] [] (bv (Fr.rightB u d)) [])] [ks 1, ks 10, kb 0] (fun _ => mixed) (l' := [ps 1 (.opt 0 0), ps 10 (bv (!(Fr.rightB u d))), pb 0 25 [(iv u), (iv d)]]) (obs := [PC Try.prog 26 [(.agg [(iv u), (iv d)])] [] (bv (Fr.rightB u d)) [], [(.agg [(iv u), (iv d)])] = renL (sigi [] 32) [(.agg [(iv u), (iv d)])]]) (by kernel_rfl) (obs_cons (p := PC Try.prog 26 [(.agg [(iv u), (iv d)])] [] (bv (Fr.rightB u d)) []) (ref_right_pc u d (by unfold Fr.I64 at *; omega) (by unfold Fr.I64 at *; omega)) (obs_cons (p := [(.agg [(iv u), (iv d)])] = renL (sigi [] 32) [(.agg [(iv u), (iv d)])]) rfl (obs_nil))) ?_
  by_cases h1 : (Fr.rightB u d) = true
  · refine T_else (b := (!(Fr.rightB u d))) rfl (congrArg Bool.not h1) ?_
    refine T_skip ?_
    refine T_seq ?_
    refine T_seq ?_
    have hR := rightB_iff.1 h1
    by_cases h2 : u < 1
    · refine T_region [(4, .gd true .no), (5, .gd true .no), (6, .gd true .no), (7, .gd true .no), (8, .gd true .no), (9, .gd true .no), (10, .yes true)] [ks 1, ks 21, kb 0] (fun _ => mixed) (l' := [ps 1 (.opt 0 0), ps 21 (bv true), pb 0 25 [(iv u), (iv d)]]) (obs := [(decide (u < 1)) = true, (decide (u < 1)) = true, (decide (u < 1)) = true, (decide (u < 1)) = true, (decide (u < 1)) = true, (decide (u < 1)) = true, (decide (u < 1)) = true]) (by kernel_rfl) (obs_cons (p := (decide (u < 1)) = true) (decide_eq_true h2) (obs_cons (p := (decide (u < 1)) = true) (decide_eq_true h2) (obs_cons (p := (decide (u < 1)) = true) (decide_eq_true h2) (obs_cons (p := (decide (u < 1)) = true) (decide_eq_true h2) (obs_cons (p := (decide (u < 1)) = true) (decide_eq_true h2) (obs_cons (p := (decide (u < 1)) = true) (decide_eq_true h2) (obs_cons (p := (decide (u < 1)) = true) (decide_eq_true h2) (obs_nil)))))))) ?_
      refine T_then (b := true) rfl rfl ?_
      refine T_seq ?_
      refine T_region [] [ks 2, ks 3] (fun _ => mixed) (l' := [ps 2 (.av (.slice none 0 0)), ps 3 (iv 3)]) (obs := []) (by kernel_rfl) (obs_nil) ?_
      rw [writeP_no (e := 3) (by unfold writeE; rw [if_neg (by rw [h1]; decide), if_pos (by omega)]) (by decide)]
      exact T_ret fun cx_ a_ hI_ => ret_ok (H' := []) (.inr rfl) (Wk.ren2 [ps 2 (.av (.slice none 0 0)), ps 3 (iv 3)] 0 hc0 [] rfl rfl (by kernel_rfl) (by kernel_rfl)) rfl (obs_nil) (fun cx_ a_ hI_ => ret_res (l' := [ps 2 (.av (.slice none 0 0)), ps 3 (iv 3)]) (by kernel_rfl) cx_ a_ hI_) hI_
    · refine T_region [(4, .gd false (.no)), (5, .gd false (.no)), (6, .gd false (.no)), (7, .gd false (.no)), (8, .gd false (.no)), (9, .gd false (.no)), (10, .yes false)] [ks 1, ks 21, kb 0] (fun _ => mixed) (l' := [ps 1 (.opt 0 0), ps 21 (bv (decide ((65536 * d) < u))), pb 0 25 [(iv u), (iv d)]]) (obs := [(decide (u < 1)) = false, (decide (u < 1)) = false, (decide (u < 1)) = false, (decide (u < 1)) = false, (decide (u < 1)) = false, InK .i64 (65536 * d), (decide (u < 1)) = false, (decide (u < 1)) = false]) (by kernel_rfl) (obs_cons (p := (decide (u < 1)) = false) (decide_eq_false h2) (obs_cons (p := (decide (u < 1)) = false) (decide_eq_false h2) (obs_cons (p := (decide (u < 1)) = false) (decide_eq_false h2) (obs_cons (p := (decide (u < 1)) = false) (decide_eq_false h2) (obs_cons (p := (decide (u < 1)) = false) (decide_eq_false h2) (obs_cons (p := InK .i64 (65536 * d)) (by simp only [InK]; omega) (obs_cons (p := (decide (u < 1)) = false) (decide_eq_false h2) (obs_cons (p := (decide (u < 1)) = false) (decide_eq_false h2) (obs_nil))))))))) ?_
      by_cases h3 : (65536 * d) < u
      · refine T_then (b := (decide ((65536 * d) < u))) rfl (decide_eq_true h3) ?_
        refine T_seq ?_
        refine T_region [] [ks 2, ks 3] (fun _ => mixed) (l' := [ps 2 (.av (.slice none 0 0)), ps 3 (iv 3)]) (obs := []) (by kernel_rfl) (obs_nil) ?_
        rw [writeP_no (e := 3) (by unfold writeE; rw [if_neg (by rw [h1]; decide), if_pos (by omega)]) (by decide)]
        exact T_ret fun cx_ a_ hI_ => ret_ok (H' := []) (.inr rfl) (Wk.ren2 [ps 2 (.av (.slice none 0 0)), ps 3 (iv 3)] 0 hc0 [] rfl rfl (by kernel_rfl) (by kernel_rfl)) rfl (obs_nil) (fun cx_ a_ hI_ => ret_res (l' := [ps 2 (.av (.slice none 0 0)), ps 3 (iv 3)]) (by kernel_rfl) cx_ a_ hI_) hI_
      · refine T_else (b := (decide ((65536 * d) < u))) rfl (decide_eq_false h3) ?_
        refine T_skip ?_
        refine T_seq ?_
        refine T_seq ?_
        refine T_region [] [ks 1, ks 25, kb 0] (fun _ => mixed) (l' := [ps 1 (.opt 0 0), ps 25 (bv (!(decide ((((1024 : Int)).tmod d) = 0)))), pb 0 25 [(iv u), (iv d)]]) (obs := [d ≠ (0 : Int)]) (by kernel_rfl) (obs_cons (p := d ≠ (0 : Int)) (by omega) (obs_nil)) ?_
        by_cases h4 : (((1024 : Int)).tmod d) = 0
        · refine T_else (b := (!(decide ((((1024 : Int)).tmod d) = 0)))) rfl (congrArg Bool.not (decide_eq_true h4)) ?_
          refine T_skip ?_
          refine T_seq ?_
          have hm0 : (1024 : Int) % d = 0 := by have := h4; rw [Int.tmod_eq_emod_of_nonneg (by decide)] at this; exact this
          have hE : writeE u d = 0 := by unfold writeE; rw [if_neg (by rw [h1]; decide), if_neg (by omega), if_neg (by omega)]
          obtain ⟨hq, hn, hN⟩ := write_num hE
          refine T_region [] [ks 4] (fun _ => mixed) (l' := [ps 4 (iv (u * (((1024 : Int)).tdiv d)))]) (obs := [d ≠ (0 : Int), InK .i64 (((1024 : Int)).tdiv d), InK .i64 (u * (((1024 : Int)).tdiv d))]) (by kernel_rfl) (obs_cons (p := d ≠ (0 : Int)) (by omega) (obs_cons (p := InK .i64 (((1024 : Int)).tdiv d)) (by simp only [InK]; omega) (obs_cons (p := InK .i64 (u * (((1024 : Int)).tdiv d))) (by simp only [InK]; omega) (obs_nil)))) ?_
          refine T_seq ?_
          refine T_wk (Wk.eq (show [ps 4 (iv (u * (((1024 : Int)).tdiv d)))] = [ps 4 (iv ((writeN u d : Nat) : Int))] from by rw [hn])) ?_
          refine T_region [] [ks 4, ks 5] (fun _ => mixed) (l' := [ps 4 (iv ((writeN u d : Nat) : Int)), ps 5 (.av (.slice none 0 0))]) (obs := []) (by kernel_rfl) (obs_nil) ?_
          refine T_seq ?_
          refine T_block ?_
          refine T_wk (Wk.nil (s := 5) 23 (by kernel_rfl)) ?_
          refine T_wk (Wk.less (l' := [ps 4 (iv ((writeN u d : Nat) : Int)), ps 5 (.osl 232 0 0), pb 232 23 []]) 233 (by kernel_rfl) (by kernel_rfl)) ?_
          refine T_wk (Wk.eq (show [ps 4 (iv ((writeN u d : Nat) : Int)), ps 5 (.osl 232 0 0), pb 232 23 []] = [ps 4 (iv ((writeN u d : Nat) : Int)), ps 5 (.osl 232 0 0), pb 232 23 (vals (List.replicate 0 (0, 0)))] from by rfl)) ?_
          refine T_loop (α := {x : Nat // 1024 * x ≤ writeN u d}) (fun x => [ps 4 (iv ((writeN u d - 1024 * x.1 : Nat) : Int)), ps 5 (.osl 0 0 x.1), pb 0 23 (vals (List.replicate x.1 (0, 0)))]) (fun x => writeN u d - 1024 * x.1) 1 ⟨0, Nat.zero_le _⟩ (Wk.ren3 [ps 4 (iv ((writeN u d - 1024 * 0 : Nat) : Int)), ps 5 (.osl 0 0 0), pb 0 23 (vals (List.replicate 0 (0, 0)))] 0 hc0 [232] [(kb 0, (vals (List.replicate 0 (0, 0))))] (obs_cons (flat_shd valC (fun _ => rfl) _) (obs_nil)) (by kernel_rfl) rfl rfl (by kernel_rfl) (by kernel_rfl)) ?_
          rintro ⟨i, hi⟩
          refine T_seq ?_
          refine T_seq ?_
          refine T_region [] [ks 4, ks 5, ks 33, kb 0] (fun _ => mixed) (l' := [ps 4 (iv ((writeN u d - 1024 * i : Nat) : Int)), ps 5 (.osl 0 0 i), ps 33 (bv (decide (1024 ≤ ((writeN u d - 1024 * i : Nat) : Int)))), pb 0 23 (vals (List.replicate i (0, 0)))]) (obs := []) (by kernel_rfl) (obs_nil) ?_
          by_cases h5 : 1024 ≤ ((writeN u d - 1024 * i : Nat) : Int)
          · refine T_then (b := (decide (1024 ≤ ((writeN u d - 1024 * i : Nat) : Int)))) rfl (decide_eq_true h5) ?_
            refine T_skip ?_
            refine T_block ?_
            refine T_seq ?_
            refine T_region [(3, .app none (some (vals (List.replicate (i + 1) (0, 0)))))] [ks 4, ks 5, kb 41] (fun _ => mixed) (l' := [ps 4 (iv ((writeN u d - 1024 * i : Nat) : Int)), ps 5 (.osl 41 0 (i + 1)), pb 41 23 (vals (List.replicate (i + 1) (0, 0)))]) (obs := [((vals (List.replicate i (0, 0)))).length = i * 2, (i + 1) * 16 ≤ 140737488355328 ∧ i + 1 ≤ 9223372036854775807, (vals (List.replicate i (0, 0))) ++ [(iv 0), (iv 0)] = (vals (List.replicate (i + 1) (0, 0)))]) (by kernel_rfl) (obs_cons (p := ((vals (List.replicate i (0, 0)))).length = i * 2) (by rw [vals_len, List.length_replicate]) (obs_cons (p := (i + 1) * 16 ≤ 140737488355328 ∧ i + 1 ≤ 9223372036854775807) (by omega) (obs_cons (p := (vals (List.replicate i (0, 0))) ++ [(iv 0), (iv 0)] = (vals (List.replicate (i + 1) (0, 0)))) (rep_snoc i) (obs_nil)))) ?_
            refine T_region [] [ks 4, ks 5, kb 41] (fun _ => mixed) (l' := [ps 4 (iv (((writeN u d - 1024 * i : Nat) : Int) - 1024)), ps 5 (.osl 41 0 (i + 1)), pb 41 23 (vals (List.replicate (i + 1) (0, 0)))]) (obs := [InK .i64 (((writeN u d - 1024 * i : Nat) : Int) - 1024)]) (by kernel_rfl) (obs_cons (p := InK .i64 (((writeN u d - 1024 * i : Nat) : Int) - 1024)) (by simp only [InK]; omega) (obs_nil)) ?_
            refine T_blk ?_
            exact T_back ⟨i + 1, by omega⟩ (Wk.trans (Wk.eq (show [ps 4 (iv (((writeN u d - 1024 * i : Nat) : Int) - 1024)), ps 5 (.osl 41 0 (i + 1)), pb 41 23 (vals (List.replicate (i + 1) (0, 0)))] = [ps 4 (iv ((writeN u d - 1024 * (i + 1) : Nat) : Int)), ps 5 (.osl 41 0 (i + 1)), pb 41 23 (vals (List.replicate (i + 1) (0, 0)))] from by rw [show ((writeN u d - 1024 * i : Nat) : Int) - 1024 = ((writeN u d - 1024 * (i + 1) : Nat) : Int) from by omega])) (Wk.ren3 [ps 4 (iv ((writeN u d - 1024 * (i + 1) : Nat) : Int)), ps 5 (.osl 0 0 (i + 1)), pb 0 23 (vals (List.replicate (i + 1) (0, 0)))] 0 hc0 [41] [(kb 0, (vals (List.replicate (i + 1) (0, 0))))] (obs_cons (flat_shd valC (fun _ => rfl) _) (obs_nil)) (by kernel_rfl) rfl rfl (by kernel_rfl) (by kernel_rfl))) (show writeN u d - 1024 * (i + 1) < writeN u d - 1024 * i from by omega)
          · refine T_else (b := (decide (1024 ≤ ((writeN u d - 1024 * i : Nat) : Int)))) rfl (decide_eq_false h5) ?_
            refine T_break rfl rfl ?_
            refine T_seq ?_
            refine T_block ?_
            obtain rfl : i = writeN u d / 1024 := by omega
            refine T_wk (Wk.eq (show [ps 4 (iv ((writeN u d - 1024 * (writeN u d / 1024) : Nat) : Int)), ps 5 (.osl 0 0 (writeN u d / 1024)), ps 33 (bv (decide (1024 ≤ ((writeN u d - 1024 * (writeN u d / 1024) : Nat) : Int)))), pb 0 23 (vals (List.replicate (writeN u d / 1024) (0, 0)))] = [ps 4 (iv ((writeN u d % 1024 : Nat) : Int)), ps 5 (.osl 0 0 ((List.replicate (writeN u d / 1024) ((0, 0) : Int × Int)).length)), ps 33 (bv (decide (1024 ≤ ((writeN u d - 1024 * (writeN u d / 1024) : Nat) : Int)))), pb 0 23 (vals (List.replicate (writeN u d / 1024) (0, 0)))] from by rw [show writeN u d - 1024 * (writeN u d / 1024) = writeN u d % 1024 from by omega, List.length_replicate])) ?_
            refine T_loop (α := {x : Nat × List (Int × Int) // x.1 < 1024 ∧ x.2 ++ pt x.1 10 0 = valsS (writeN u d) ∧ x.2.length + x.1 ≤ 66560}) (fun x => [ps 4 (iv ((x.1.1 : Nat) : Int)), ps 5 (.osl 0 0 x.1.2.length), pb 0 23 (vals x.1.2)]) (fun x => x.1.1) 1 ⟨(writeN u d % 1024, List.replicate (writeN u d / 1024) (0, 0)), ⟨by omega, by rw [pt_mod _ 10 0 (Nat.le_refl _)]; rfl, by simp only [List.length_replicate]; omega⟩⟩ (Wk.ren3 [ps 4 (iv (((writeN u d % 1024) : Nat) : Int)), ps 5 (.osl 0 0 (List.replicate (writeN u d / 1024) ((0, 0) : Int × Int)).length), pb 0 23 (vals (List.replicate (writeN u d / 1024) ((0, 0) : Int × Int)))] 0 hc0 [0] [(kb 0, (vals (List.replicate (writeN u d / 1024) ((0, 0) : Int × Int))))] (obs_cons (flat_shd valC (fun _ => rfl) _) (obs_nil)) (by kernel_rfl) rfl rfl (by kernel_rfl) (by kernel_rfl)) ?_
            rintro ⟨⟨m, L⟩, ⟨hm, hL, hl⟩⟩
            dsimp only at hm hL hl
            refine T_seq ?_
            refine T_seq ?_
            refine T_region [] [ks 4, ks 5, ks 41, kb 0] (fun _ => mixed) (l' := [ps 4 (iv ((m : Nat) : Int)), ps 5 (.osl 0 0 L.length), ps 41 (bv (decide (0 < ((m : Nat) : Int)))), pb 0 23 (vals L)]) (obs := []) (by kernel_rfl) (obs_nil) ?_
            by_cases h6 : 0 < ((m : Nat) : Int)
            · refine T_then (b := (decide (0 < ((m : Nat) : Int)))) rfl (decide_eq_true h6) ?_
              refine T_skip ?_
              refine T_block ?_
              refine T_seq ?_
              obtain ⟨hp1, hp2, hp3, hp4, hp5, hp6, hp7⟩ := pt_left m hm (by omega)
              refine T_region [] [ks 4, ks 5, ks 6, kb 0, kb 25] (fun _ => mixed) (l' := [ps 4 (iv ((m : Nat) : Int)), ps 5 (.osl 0 0 L.length), ps 6 (.opt 25 0), pb 0 23 (vals L), pb 25 23 [(iv 1), (iv 0)]]) (obs := []) (by kernel_rfl) (obs_nil) ?_
              refine T_seq ?_
              refine T_block ?_
              refine T_loop (α := {x : Nat // 1 ≤ x ∧ x ≤ hM m}) (fun x => [ps 4 (iv ((m : Nat) : Int)), ps 5 (.osl 0 0 L.length), ps 6 (.opt 1 0), pb 0 23 (vals L), pb 1 23 [(iv ((x.1 : Nat) : Int)), (iv 0)]]) (fun x => 11 - x.1) 2 ⟨1, ⟨Nat.le_refl _, hp3⟩⟩ (Wk.ren3 [ps 4 (iv ((m : Nat) : Int)), ps 5 (.osl 0 0 L.length), ps 6 (.opt 1 0), pb 0 23 (vals L), pb 1 23 [(iv ((1 : Nat) : Int)), (iv 0)]] 0 hc0 [0, 25] [(kb 0, (vals L))] (obs_cons (flat_shd valC (fun _ => rfl) _) (obs_nil)) (by kernel_rfl) rfl rfl (by kernel_rfl) (by kernel_rfl)) ?_
              rintro ⟨h, ⟨hh1, hh2⟩⟩
              refine T_seq ?_
              refine T_seq ?_
              refine T_region [(3, .call [] [(iv ((10 - h : Nat) : Int))] [] (iv ((2 : Int) ^ (10 - h))) [])] [ks 4, ks 5, ks 6, ks 48, kb 0, kb 1] (fun _ => mixed) (l' := [ps 4 (iv ((m : Nat) : Int)), ps 5 (.osl 0 0 L.length), ps 6 (.opt 1 0), ps 48 (bv (decide (((m : Nat) : Int) < ((2 : Int) ^ (10 - h))))), pb 0 23 (vals L), pb 1 23 [(iv ((h : Nat) : Int)), (iv 0)]]) (obs := [InK .i64 (10 - ((h : Nat) : Int)), PC Try.prog 22 [(iv ((10 - h : Nat) : Int))] [] (iv ((2 : Int) ^ (10 - h))) [], [(iv (10 - ((h : Nat) : Int)))] = renL (sigi [] 26) [(iv ((10 - h : Nat) : Int))]]) (by kernel_rfl) (obs_cons (p := InK .i64 (10 - ((h : Nat) : Int))) (by simp only [InK]; omega) (obs_cons (p := PC Try.prog 22 [(iv ((10 - h : Nat) : Int))] [] (iv ((2 : Int) ^ (10 - h))) []) (power_pc (10 - h) (by omega)) (obs_cons (p := [(iv (10 - ((h : Nat) : Int)))] = renL (sigi [] 26) [(iv ((10 - h : Nat) : Int))]) (by rw [show (10 : Int) - ((h : Nat) : Int) = ((10 - h : Nat) : Int) from by omega]; rfl) (obs_nil)))) ?_
              by_cases h7 : ((m : Nat) : Int) < ((2 : Int) ^ (10 - h))
              · refine T_then (b := (decide (((m : Nat) : Int) < ((2 : Int) ^ (10 - h))))) rfl (decide_eq_true h7) ?_
                refine T_skip ?_
                refine T_block ?_
                refine T_region [] [ks 4, ks 5, ks 6, kb 0, kb 1] (fun _ => mixed) (l' := [ps 4 (iv ((m : Nat) : Int)), ps 5 (.osl 0 0 L.length), ps 6 (.opt 1 0), pb 0 23 (vals L), pb 1 23 [(iv (((h : Nat) : Int) + 1)), (iv 0)]]) (obs := [InK .i64 (((h : Nat) : Int) + 1)]) (by kernel_rfl) (obs_cons (p := InK .i64 (((h : Nat) : Int) + 1)) (by simp only [InK]; omega) (obs_nil)) ?_
                refine T_blk ?_
                exact T_back ⟨h + 1, ⟨by omega, (half_more m hm h (by omega) ⟨by omega, hh1, hh2⟩).1 (by have := h7; rw [pow_nat] at this; exact Int.ofNat_lt.1 this)⟩⟩ (Wk.ren3 [ps 4 (iv ((m : Nat) : Int)), ps 5 (.osl 0 0 L.length), ps 6 (.opt 1 0), pb 0 23 (vals L), pb 1 23 [(iv (((h + 1) : Nat) : Int)), (iv 0)]] 0 hc0 [0, 1] [(kb 0, (vals L))] (obs_cons (flat_shd valC (fun _ => rfl) _) (obs_nil)) (by kernel_rfl) rfl rfl (by kernel_rfl) (by kernel_rfl)) (show 11 - (h + 1) < 11 - h from by omega)
              · refine T_else (b := (decide (((m : Nat) : Int) < ((2 : Int) ^ (10 - h))))) rfl (decide_eq_false h7) ?_
                refine T_break rfl rfl ?_
                refine T_seq ?_
                obtain rfl : h = hM m := Nat.le_antisymm hh2 (Nat.le_of_not_lt fun hc => h7 (by rw [pow_nat]; exact Int.ofNat_lt.2 ((half_more m hm h (by omega) ⟨by omega, hh1, hh2⟩).2 hc)))
                refine T_region [(3, .call [] [(iv ((10 - (hM m) : Nat) : Int))] [] (iv ((2 : Int) ^ (10 - (hM m)))) [])] [ks 4, ks 5, ks 6, ks 7, kb 0, kb 1] (fun _ => mixed) (l' := [ps 4 (iv ((m : Nat) : Int)), ps 5 (.osl 0 0 L.length), ps 6 (.opt 1 0), ps 7 (iv ((2 : Int) ^ (10 - (hM m)))), pb 0 23 (vals L), pb 1 23 [(iv (((hM m) : Nat) : Int)), (iv 0)]]) (obs := [InK .i64 (10 - (((hM m) : Nat) : Int)), PC Try.prog 22 [(iv ((10 - (hM m) : Nat) : Int))] [] (iv ((2 : Int) ^ (10 - (hM m)))) [], [(iv (10 - (((hM m) : Nat) : Int)))] = renL (sigi [] 74) [(iv ((10 - (hM m) : Nat) : Int))]]) (by kernel_rfl) (obs_cons (p := InK .i64 (10 - (((hM m) : Nat) : Int))) (by simp only [InK]; omega) (obs_cons (p := PC Try.prog 22 [(iv ((10 - (hM m) : Nat) : Int))] [] (iv ((2 : Int) ^ (10 - (hM m)))) []) (power_pc (10 - (hM m)) (by omega)) (obs_cons (p := [(iv (10 - (((hM m) : Nat) : Int)))] = renL (sigi [] 74) [(iv ((10 - (hM m) : Nat) : Int))]) (by rw [show (10 : Int) - ((hM m : Nat) : Int) = ((10 - (hM m) : Nat) : Int) from by omega]; rfl) (obs_nil)))) ?_
                refine T_seq ?_
                refine T_wk (Wk.eq (show [ps 4 (iv ((m : Nat) : Int)), ps 5 (.osl 0 0 L.length), ps 6 (.opt 1 0), ps 7 (iv ((2 : Int) ^ (10 - (hM m)))), pb 0 23 (vals L), pb 1 23 [(iv (((hM m) : Nat) : Int)), (iv 0)]] = [ps 4 (iv ((m : Nat) : Int)), ps 5 (.osl 0 0 L.length), ps 6 (.opt 1 0), ps 7 (iv ((partM m 0 : Nat) : Int)), pb 0 23 (vals L), pb 1 23 [(iv (((hM m) : Nat) : Int)), (iv 0)]] from by rw [show (2 : Int) ^ (10 - (hM m)) = ((partM m 0 : Nat) : Int) from pow_nat _])) ?_
                refine T_region [] [ks 4, ks 5, ks 6, ks 7, kb 0, kb 1] (fun _ => mixed) (l' := [ps 4 (iv (((m : Nat) : Int) - ((partM m 0 : Nat) : Int))), ps 5 (.osl 0 0 L.length), ps 6 (.opt 1 0), ps 7 (iv ((partM m 0 : Nat) : Int)), pb 0 23 (vals L), pb 1 23 [(iv (((hM m) : Nat) : Int)), (iv 0)]]) (obs := [InK .i64 (((m : Nat) : Int) - ((partM m 0 : Nat) : Int))]) (by kernel_rfl) (obs_cons (p := InK .i64 (((m : Nat) : Int) - ((partM m 0 : Nat) : Int))) (by have := part_bd m 0; simp only [InK]; omega) (obs_nil)) ?_
                refine T_seq ?_
                refine T_block ?_
                refine T_wk (Wk.eq (show [ps 4 (iv (((m : Nat) : Int) - ((partM m 0 : Nat) : Int))), ps 5 (.osl 0 0 L.length), ps 6 (.opt 1 0), ps 7 (iv ((partM m 0 : Nat) : Int)), pb 0 23 (vals L), pb 1 23 [(iv (((hM m) : Nat) : Int)), (iv 0)]] = [ps 4 (iv ((leftM m 0 : Nat) : Int)), ps 5 (.osl 0 0 L.length), ps 6 (.opt 1 0), ps 7 (iv ((partM m 0 : Nat) : Int)), pb 0 23 (vals L), pb 1 23 [(iv (((hM m) : Nat) : Int)), (iv 0)]] from by rw [show ((m : Nat) : Int) - ((partM m 0 : Nat) : Int) = ((leftM m 0 : Nat) : Int) from by omega])) ?_
                refine T_loop (α := {x : Nat // x ≤ dM m}) (fun x => [ps 4 (iv ((leftM m x.1 : Nat) : Int)), ps 5 (.osl 0 0 L.length), ps 6 (.opt 1 0), ps 7 (iv ((partM m x.1 : Nat) : Int)), pb 0 23 (vals L), pb 1 23 [(iv (((hM m) : Nat) : Int)), (iv ((x.1 : Nat) : Int))]]) (fun x => dM m - x.1) 2 ⟨0, Nat.zero_le _⟩ (Wk.ren3 [ps 4 (iv ((leftM m 0 : Nat) : Int)), ps 5 (.osl 0 0 L.length), ps 6 (.opt 1 0), ps 7 (iv ((partM m 0 : Nat) : Int)), pb 0 23 (vals L), pb 1 23 [(iv (((hM m) : Nat) : Int)), (iv ((0 : Nat) : Int))]] 0 hc0 [0, 1] [(kb 0, (vals L))] (obs_cons (flat_shd valC (fun _ => rfl) _) (obs_nil)) (by kernel_rfl) rfl rfl (by kernel_rfl) (by kernel_rfl)) ?_
                rintro ⟨j, hj⟩
                refine T_seq ?_
                refine T_seq ?_
                by_cases h8 : ((j : Nat) : Int) < 3
                · by_cases h9 : 1 < ((partM m j : Nat) : Int)
                  · refine T_region [(4, .gd true (.no)), (5, .gd true (.no)), (6, .yes true), (8, .gd true (.no)), (9, .gd true (.no)), (10, .gd true (.no)), (11, .gd true (.no)), (12, .yes true)] [ks 4, ks 5, ks 6, ks 7, ks 72, kb 0, kb 1] (fun _ => mixed) (l' := [ps 4 (iv ((leftM m j : Nat) : Int)), ps 5 (.osl 0 0 L.length), ps 6 (.opt 1 0), ps 7 (iv ((partM m j : Nat) : Int)), ps 72 (bv (decide (((((partM m j : Nat) : Int)).tdiv 2) ≤ ((leftM m j : Nat) : Int)))), pb 0 23 (vals L), pb 1 23 [(iv (((hM m) : Nat) : Int)), (iv ((j : Nat) : Int))]]) (obs := [(decide (((j : Nat) : Int) < 3)) = true, (decide (((j : Nat) : Int) < 3)) = true, (decide (((j : Nat) : Int) < 3)) = true, (decide (1 < ((partM m j : Nat) : Int))) = true, (decide (1 < ((partM m j : Nat) : Int))) = true, 2 ≠ (0 : Int), InK .i64 ((((partM m j : Nat) : Int)).tdiv 2), (decide (1 < ((partM m j : Nat) : Int))) = true, (decide (1 < ((partM m j : Nat) : Int))) = true, (decide (1 < ((partM m j : Nat) : Int))) = true]) (by kernel_rfl) (obs_cons (p := (decide (((j : Nat) : Int) < 3)) = true) (decide_eq_true h8) (obs_cons (p := (decide (((j : Nat) : Int) < 3)) = true) (decide_eq_true h8) (obs_cons (p := (decide (((j : Nat) : Int) < 3)) = true) (decide_eq_true h8) (obs_cons (p := (decide (1 < ((partM m j : Nat) : Int))) = true) (decide_eq_true h9) (obs_cons (p := (decide (1 < ((partM m j : Nat) : Int))) = true) (decide_eq_true h9) (obs_cons (p := 2 ≠ (0 : Int)) (by decide) (obs_cons (p := InK .i64 ((((partM m j : Nat) : Int)).tdiv 2)) (by have := part_bd m j; have h9 : (((partM m j : Nat) : Int)).tdiv 2 = ((partM m j : Nat) : Int) / 2 := Int.tdiv_eq_ediv_of_nonneg (by omega); simp only [InK]; omega) (obs_cons (p := (decide (1 < ((partM m j : Nat) : Int))) = true) (decide_eq_true h9) (obs_cons (p := (decide (1 < ((partM m j : Nat) : Int))) = true) (decide_eq_true h9) (obs_cons (p := (decide (1 < ((partM m j : Nat) : Int))) = true) (decide_eq_true h9) (obs_nil))))))))))) ?_
                    by_cases h10 : ((((partM m j : Nat) : Int)).tdiv 2) ≤ ((leftM m j : Nat) : Int)
                    · refine T_then (b := (decide (((((partM m j : Nat) : Int)).tdiv 2) ≤ ((leftM m j : Nat) : Int)))) rfl (decide_eq_true h10) ?_
                      refine T_skip ?_
                      refine T_block ?_
                      refine T_seq ?_
                      have ht : (((partM m j : Nat) : Int)).tdiv 2 = ((partM m j : Nat) : Int) / 2 := Int.tdiv_eq_ediv_of_nonneg (by omega)
                      have hlt : j < dM m := (dot_iff m hm j (by omega) ⟨by omega, hj⟩).1 ⟨by omega, by omega, by omega⟩
                      obtain ⟨hs1, hs2, hs3⟩ := dot_step m hm j (by omega) ⟨by omega, hlt⟩
                      refine T_region [] [ks 4, ks 5, ks 6, ks 7, kb 0, kb 1] (fun _ => mixed) (l' := [ps 4 (iv ((leftM m j : Nat) : Int)), ps 5 (.osl 0 0 L.length), ps 6 (.opt 1 0), ps 7 (iv ((((partM m j : Nat) : Int)).tdiv 2)), pb 0 23 (vals L), pb 1 23 [(iv (((hM m) : Nat) : Int)), (iv ((j : Nat) : Int))]]) (obs := [2 ≠ (0 : Int), InK .i64 ((((partM m j : Nat) : Int)).tdiv 2)]) (by kernel_rfl) (obs_cons (p := 2 ≠ (0 : Int)) (by decide) (obs_cons (p := InK .i64 ((((partM m j : Nat) : Int)).tdiv 2)) (by have := part_bd m j; have h9 : (((partM m j : Nat) : Int)).tdiv 2 = ((partM m j : Nat) : Int) / 2 := Int.tdiv_eq_ediv_of_nonneg (by omega); simp only [InK]; omega) (obs_nil))) ?_
                      refine T_seq ?_
                      refine T_wk (Wk.eq (show [ps 4 (iv ((leftM m j : Nat) : Int)), ps 5 (.osl 0 0 L.length), ps 6 (.opt 1 0), ps 7 (iv ((((partM m j : Nat) : Int)).tdiv 2)), pb 0 23 (vals L), pb 1 23 [(iv (((hM m) : Nat) : Int)), (iv ((j : Nat) : Int))]] = [ps 4 (iv ((leftM m j : Nat) : Int)), ps 5 (.osl 0 0 L.length), ps 6 (.opt 1 0), ps 7 (iv ((partM m (j + 1) : Nat) : Int)), pb 0 23 (vals L), pb 1 23 [(iv (((hM m) : Nat) : Int)), (iv ((j : Nat) : Int))]] from by rw [show (((partM m j : Nat) : Int)).tdiv 2 = ((partM m (j + 1) : Nat) : Int) from by omega])) ?_
                      refine T_region [] [ks 4, ks 5, ks 6, ks 7, kb 0, kb 1] (fun _ => mixed) (l' := [ps 4 (iv (((leftM m j : Nat) : Int) - ((partM m (j + 1) : Nat) : Int))), ps 5 (.osl 0 0 L.length), ps 6 (.opt 1 0), ps 7 (iv ((partM m (j + 1) : Nat) : Int)), pb 0 23 (vals L), pb 1 23 [(iv (((hM m) : Nat) : Int)), (iv ((j : Nat) : Int))]]) (obs := [InK .i64 (((leftM m j : Nat) : Int) - ((partM m (j + 1) : Nat) : Int))]) (by kernel_rfl) (obs_cons (p := InK .i64 (((leftM m j : Nat) : Int) - ((partM m (j + 1) : Nat) : Int))) (by have := left_bd m j; have := part_bd m (j + 1); simp only [InK]; omega) (obs_nil)) ?_
                      refine T_wk (Wk.eq (show [ps 4 (iv (((leftM m j : Nat) : Int) - ((partM m (j + 1) : Nat) : Int))), ps 5 (.osl 0 0 L.length), ps 6 (.opt 1 0), ps 7 (iv ((partM m (j + 1) : Nat) : Int)), pb 0 23 (vals L), pb 1 23 [(iv (((hM m) : Nat) : Int)), (iv ((j : Nat) : Int))]] = [ps 4 (iv ((leftM m (j + 1) : Nat) : Int)), ps 5 (.osl 0 0 L.length), ps 6 (.opt 1 0), ps 7 (iv ((partM m (j + 1) : Nat) : Int)), pb 0 23 (vals L), pb 1 23 [(iv (((hM m) : Nat) : Int)), (iv ((j : Nat) : Int))]] from by rw [show ((leftM m j : Nat) : Int) - ((partM m (j + 1) : Nat) : Int) = ((leftM m (j + 1) : Nat) : Int) from by omega])) ?_
                      refine T_region [] [ks 4, ks 5, ks 6, ks 7, kb 0, kb 1] (fun _ => mixed) (l' := [ps 4 (iv ((leftM m (j + 1) : Nat) : Int)), ps 5 (.osl 0 0 L.length), ps 6 (.opt 1 0), ps 7 (iv ((partM m (j + 1) : Nat) : Int)), pb 0 23 (vals L), pb 1 23 [(iv (((hM m) : Nat) : Int)), (iv (((j : Nat) : Int) + 1))]]) (obs := [InK .i64 (((j : Nat) : Int) + 1)]) (by kernel_rfl) (obs_cons (p := InK .i64 (((j : Nat) : Int) + 1)) (by simp only [InK]; omega) (obs_nil)) ?_
                      refine T_blk ?_
                      exact T_back ⟨j + 1, hlt⟩ (Wk.ren3 [ps 4 (iv ((leftM m (j + 1) : Nat) : Int)), ps 5 (.osl 0 0 L.length), ps 6 (.opt 1 0), ps 7 (iv ((partM m (j + 1) : Nat) : Int)), pb 0 23 (vals L), pb 1 23 [(iv (((hM m) : Nat) : Int)), (iv (((j + 1) : Nat) : Int))]] 0 hc0 [0, 1] [(kb 0, (vals L))] (obs_cons (flat_shd valC (fun _ => rfl) _) (obs_nil)) (by kernel_rfl) rfl rfl (by kernel_rfl) (by kernel_rfl)) (show dM m - (j + 1) < dM m - j from by omega)
                    · refine T_else (b := (decide (((((partM m j : Nat) : Int)).tdiv 2) ≤ ((leftM m j : Nat) : Int)))) rfl (decide_eq_false h10) ?_
                      refine T_break rfl rfl ?_
                      obtain rfl : j = dM m := Nat.le_antisymm hj (Nat.le_of_not_lt fun hc => by
                        have h0 := (dot_iff m hm j (by omega) ⟨by omega, hj⟩).2 hc
                        have ht : (((partM m j : Nat) : Int)).tdiv 2 = ((partM m j : Nat) : Int) / 2 := Int.tdiv_eq_ediv_of_nonneg (by omega)
                        omega)
                      refine T_region [(3, .app none (some (vals (L ++ [((((hM m) : Nat) : Int), (((dM m) : Nat) : Int))]))))] [ks 4, ks 5, kb 130] (fun _ => mixed) (l' := [ps 4 (iv ((leftM m (dM m) : Nat) : Int)), ps 5 (.osl 130 0 (L.length + 1)), pb 130 23 (vals (L ++ [((((hM m) : Nat) : Int), (((dM m) : Nat) : Int))]))]) (obs := [((vals L)).length = L.length * 2, (L.length + 1) * 16 ≤ 140737488355328 ∧ L.length + 1 ≤ 9223372036854775807, (vals L) ++ [(iv (((hM m) : Nat) : Int)), (iv (((dM m) : Nat) : Int))] = (vals (L ++ [((((hM m) : Nat) : Int), (((dM m) : Nat) : Int))]))]) (by kernel_rfl) (obs_cons (p := ((vals L)).length = L.length * 2) (vals_len _) (obs_cons (p := (L.length + 1) * 16 ≤ 140737488355328 ∧ L.length + 1 ≤ 9223372036854775807) (by omega) (obs_cons (p := (vals L) ++ [(iv (((hM m) : Nat) : Int)), (iv (((dM m) : Nat) : Int))] = (vals (L ++ [((((hM m) : Nat) : Int), (((dM m) : Nat) : Int))]))) (flat_app valC L [((((hM m) : Nat) : Int), (((dM m) : Nat) : Int))]).symm (obs_nil)))) ?_
                      refine T_blk ?_
                      exact T_back ⟨(leftM m (dM m), L ++ [(((hM m : Nat) : Int), ((dM m : Nat) : Int))]), ⟨by omega, by rw [List.append_assoc, List.singleton_append, ← hL, ← hp1], by rw [snoc_len]; omega⟩⟩ (Wk.trans (Wk.eq (show [ps 4 (iv ((leftM m (dM m) : Nat) : Int)), ps 5 (.osl 130 0 (L.length + 1)), pb 130 23 (vals (L ++ [((((hM m) : Nat) : Int), (((dM m) : Nat) : Int))]))] = [ps 4 (iv ((leftM m (dM m) : Nat) : Int)), ps 5 (.osl 130 0 ((L ++ [(((hM m : Nat) : Int), ((dM m : Nat) : Int))]).length)), pb 130 23 (vals (L ++ [((((hM m) : Nat) : Int), (((dM m) : Nat) : Int))]))] from by rw [snoc_len])) (Wk.ren3 [ps 4 (iv (((leftM m (dM m)) : Nat) : Int)), ps 5 (.osl 0 0 (L ++ [(((hM m : Nat) : Int), ((dM m : Nat) : Int))]).length), pb 0 23 (vals (L ++ [(((hM m : Nat) : Int), ((dM m : Nat) : Int))]))] 0 hc0 [130] [(kb 0, (vals (L ++ [(((hM m : Nat) : Int), ((dM m : Nat) : Int))])))] (obs_cons (flat_shd valC (fun _ => rfl) _) (obs_nil)) (by kernel_rfl) rfl rfl (by kernel_rfl) (by kernel_rfl))) (show (leftM m (dM m)) < m from by omega)
                  · refine T_region [(4, .gd true (.no)), (5, .gd true (.no)), (6, .yes true), (8, .gd false .no), (9, .gd false .no), (10, .gd false .no), (11, .gd false .no), (12, .yes false)] [ks 4, ks 5, ks 6, ks 7, ks 72, kb 0, kb 1] (fun _ => mixed) (l' := [ps 4 (iv ((leftM m j : Nat) : Int)), ps 5 (.osl 0 0 L.length), ps 6 (.opt 1 0), ps 7 (iv ((partM m j : Nat) : Int)), ps 72 (bv false), pb 0 23 (vals L), pb 1 23 [(iv (((hM m) : Nat) : Int)), (iv ((j : Nat) : Int))]]) (obs := [(decide (((j : Nat) : Int) < 3)) = true, (decide (((j : Nat) : Int) < 3)) = true, (decide (((j : Nat) : Int) < 3)) = true, (decide (1 < ((partM m j : Nat) : Int))) = false, (decide (1 < ((partM m j : Nat) : Int))) = false, (decide (1 < ((partM m j : Nat) : Int))) = false, (decide (1 < ((partM m j : Nat) : Int))) = false, (decide (1 < ((partM m j : Nat) : Int))) = false]) (by kernel_rfl) (obs_cons (p := (decide (((j : Nat) : Int) < 3)) = true) (decide_eq_true h8) (obs_cons (p := (decide (((j : Nat) : Int) < 3)) = true) (decide_eq_true h8) (obs_cons (p := (decide (((j : Nat) : Int) < 3)) = true) (decide_eq_true h8) (obs_cons (p := (decide (1 < ((partM m j : Nat) : Int))) = false) (decide_eq_false h9) (obs_cons (p := (decide (1 < ((partM m j : Nat) : Int))) = false) (decide_eq_false h9) (obs_cons (p := (decide (1 < ((partM m j : Nat) : Int))) = false) (decide_eq_false h9) (obs_cons (p := (decide (1 < ((partM m j : Nat) : Int))) = false) (decide_eq_false h9) (obs_cons (p := (decide (1 < ((partM m j : Nat) : Int))) = false) (decide_eq_false h9) (obs_nil))))))))) ?_
                    refine T_else (b := false) rfl rfl ?_
                    refine T_break rfl rfl ?_
                    obtain rfl : j = dM m := Nat.le_antisymm hj (Nat.le_of_not_lt fun hc => by
                      have h0 := (dot_iff m hm j (by omega) ⟨by omega, hj⟩).2 hc
                      have ht : (((partM m j : Nat) : Int)).tdiv 2 = ((partM m j : Nat) : Int) / 2 := Int.tdiv_eq_ediv_of_nonneg (by omega)
                      omega)
                    refine T_region [(3, .app none (some (vals (L ++ [((((hM m) : Nat) : Int), (((dM m) : Nat) : Int))]))))] [ks 4, ks 5, kb 130] (fun _ => mixed) (l' := [ps 4 (iv ((leftM m (dM m) : Nat) : Int)), ps 5 (.osl 130 0 (L.length + 1)), pb 130 23 (vals (L ++ [((((hM m) : Nat) : Int), (((dM m) : Nat) : Int))]))]) (obs := [((vals L)).length = L.length * 2, (L.length + 1) * 16 ≤ 140737488355328 ∧ L.length + 1 ≤ 9223372036854775807, (vals L) ++ [(iv (((hM m) : Nat) : Int)), (iv (((dM m) : Nat) : Int))] = (vals (L ++ [((((hM m) : Nat) : Int), (((dM m) : Nat) : Int))]))]) (by kernel_rfl) (obs_cons (p := ((vals L)).length = L.length * 2) (vals_len _) (obs_cons (p := (L.length + 1) * 16 ≤ 140737488355328 ∧ L.length + 1 ≤ 9223372036854775807) (by omega) (obs_cons (p := (vals L) ++ [(iv (((hM m) : Nat) : Int)), (iv (((dM m) : Nat) : Int))] = (vals (L ++ [((((hM m) : Nat) : Int), (((dM m) : Nat) : Int))]))) (flat_app valC L [((((hM m) : Nat) : Int), (((dM m) : Nat) : Int))]).symm (obs_nil)))) ?_
                    refine T_blk ?_
                    exact T_back ⟨(leftM m (dM m), L ++ [(((hM m : Nat) : Int), ((dM m : Nat) : Int))]), ⟨by omega, by rw [List.append_assoc, List.singleton_append, ← hL, ← hp1], by rw [snoc_len]; omega⟩⟩ (Wk.trans (Wk.eq (show [ps 4 (iv ((leftM m (dM m) : Nat) : Int)), ps 5 (.osl 130 0 (L.length + 1)), pb 130 23 (vals (L ++ [((((hM m) : Nat) : Int), (((dM m) : Nat) : Int))]))] = [ps 4 (iv ((leftM m (dM m) : Nat) : Int)), ps 5 (.osl 130 0 ((L ++ [(((hM m : Nat) : Int), ((dM m : Nat) : Int))]).length)), pb 130 23 (vals (L ++ [((((hM m) : Nat) : Int), (((dM m) : Nat) : Int))]))] from by rw [snoc_len])) (Wk.ren3 [ps 4 (iv (((leftM m (dM m)) : Nat) : Int)), ps 5 (.osl 0 0 (L ++ [(((hM m : Nat) : Int), ((dM m : Nat) : Int))]).length), pb 0 23 (vals (L ++ [(((hM m : Nat) : Int), ((dM m : Nat) : Int))]))] 0 hc0 [130] [(kb 0, (vals (L ++ [(((hM m : Nat) : Int), ((dM m : Nat) : Int))])))] (obs_cons (flat_shd valC (fun _ => rfl) _) (obs_nil)) (by kernel_rfl) rfl rfl (by kernel_rfl) (by kernel_rfl))) (show (leftM m (dM m)) < m from by omega)
                · refine T_region [(4, .gd false .no), (5, .gd false .no), (6, .yes false), (8, .gd false .no), (9, .gd false .no), (10, .gd false .no), (11, .gd false .no)] [ks 4, ks 5, ks 6, ks 7, ks 72, kb 0, kb 1] (fun _ => mixed) (l' := [ps 4 (iv ((leftM m j : Nat) : Int)), ps 5 (.osl 0 0 L.length), ps 6 (.opt 1 0), ps 7 (iv ((partM m j : Nat) : Int)), ps 72 (bv false), pb 0 23 (vals L), pb 1 23 [(iv (((hM m) : Nat) : Int)), (iv ((j : Nat) : Int))]]) (obs := [(decide (((j : Nat) : Int) < 3)) = false, (decide (((j : Nat) : Int) < 3)) = false, (decide (((j : Nat) : Int) < 3)) = false, false = false, false = false, false = false, false = false]) (by kernel_rfl) (obs_cons (p := (decide (((j : Nat) : Int) < 3)) = false) (decide_eq_false h8) (obs_cons (p := (decide (((j : Nat) : Int) < 3)) = false) (decide_eq_false h8) (obs_cons (p := (decide (((j : Nat) : Int) < 3)) = false) (decide_eq_false h8) (obs_cons (p := false = false) rfl (obs_cons (p := false = false) rfl (obs_cons (p := false = false) rfl (obs_cons (p := false = false) rfl (obs_nil)))))))) ?_
                  refine T_else (b := false) rfl rfl ?_
                  refine T_break rfl rfl ?_
                  obtain rfl : j = dM m := Nat.le_antisymm hj (Nat.le_of_not_lt fun hc => by
                    have h0 := (dot_iff m hm j (by omega) ⟨by omega, hj⟩).2 hc
                    have ht : (((partM m j : Nat) : Int)).tdiv 2 = ((partM m j : Nat) : Int) / 2 := Int.tdiv_eq_ediv_of_nonneg (by omega)
                    omega)
                  refine T_region [(3, .app none (some (vals (L ++ [((((hM m) : Nat) : Int), (((dM m) : Nat) : Int))]))))] [ks 4, ks 5, kb 130] (fun _ => mixed) (l' := [ps 4 (iv ((leftM m (dM m) : Nat) : Int)), ps 5 (.osl 130 0 (L.length + 1)), pb 130 23 (vals (L ++ [((((hM m) : Nat) : Int), (((dM m) : Nat) : Int))]))]) (obs := [((vals L)).length = L.length * 2, (L.length + 1) * 16 ≤ 140737488355328 ∧ L.length + 1 ≤ 9223372036854775807, (vals L) ++ [(iv (((hM m) : Nat) : Int)), (iv (((dM m) : Nat) : Int))] = (vals (L ++ [((((hM m) : Nat) : Int), (((dM m) : Nat) : Int))]))]) (by kernel_rfl) (obs_cons (p := ((vals L)).length = L.length * 2) (vals_len _) (obs_cons (p := (L.length + 1) * 16 ≤ 140737488355328 ∧ L.length + 1 ≤ 9223372036854775807) (by omega) (obs_cons (p := (vals L) ++ [(iv (((hM m) : Nat) : Int)), (iv (((dM m) : Nat) : Int))] = (vals (L ++ [((((hM m) : Nat) : Int), (((dM m) : Nat) : Int))]))) (flat_app valC L [((((hM m) : Nat) : Int), (((dM m) : Nat) : Int))]).symm (obs_nil)))) ?_
                  refine T_blk ?_
                  exact T_back ⟨(leftM m (dM m), L ++ [(((hM m : Nat) : Int), ((dM m : Nat) : Int))]), ⟨by omega, by rw [List.append_assoc, List.singleton_append, ← hL, ← hp1], by rw [snoc_len]; omega⟩⟩ (Wk.trans (Wk.eq (show [ps 4 (iv ((leftM m (dM m) : Nat) : Int)), ps 5 (.osl 130 0 (L.length + 1)), pb 130 23 (vals (L ++ [((((hM m) : Nat) : Int), (((dM m) : Nat) : Int))]))] = [ps 4 (iv ((leftM m (dM m) : Nat) : Int)), ps 5 (.osl 130 0 ((L ++ [(((hM m : Nat) : Int), ((dM m : Nat) : Int))]).length)), pb 130 23 (vals (L ++ [((((hM m) : Nat) : Int), (((dM m) : Nat) : Int))]))] from by rw [snoc_len])) (Wk.ren3 [ps 4 (iv (((leftM m (dM m)) : Nat) : Int)), ps 5 (.osl 0 0 (L ++ [(((hM m : Nat) : Int), ((dM m : Nat) : Int))]).length), pb 0 23 (vals (L ++ [(((hM m : Nat) : Int), ((dM m : Nat) : Int))]))] 0 hc0 [130] [(kb 0, (vals (L ++ [(((hM m : Nat) : Int), ((dM m : Nat) : Int))])))] (obs_cons (flat_shd valC (fun _ => rfl) _) (obs_nil)) (by kernel_rfl) rfl rfl (by kernel_rfl) (by kernel_rfl))) (show (leftM m (dM m)) < m from by omega)
            · refine T_else (b := (decide (0 < ((m : Nat) : Int)))) rfl (decide_eq_false h6) ?_
              refine T_break rfl rfl ?_
              refine T_seq ?_
              refine T_region [] [ks 2, ks 3, kb 0] (fun _ => mixed) (l' := [ps 2 (.osl 0 0 L.length), ps 3 (iv 0), pb 0 23 (vals L)]) (obs := []) (by kernel_rfl) (obs_nil) ?_
              obtain rfl : m = 0 := by omega
              obtain rfl : L = valsS (writeN u d) := by rw [← hL, show pt 0 10 0 = [] from by decide +kernel, List.append_nil]
              refine T_wk (Wk.frz (l' := [ps 2 (.ssl (vals (valsS (writeN u d))) 0 ((valsS (writeN u d)).length)), ps 3 (iv 0), (kb 0, none)]) 0 (T := 23) (cs := (vals (valsS (writeN u d)))) (by kernel_rfl) (flat_shd valC (fun _ => rfl) _) (by kernel_rfl)) ?_
              refine T_wk (Wk.less (l' := [ps 2 (.ssl (vals (valsS (writeN u d))) 0 ((valsS (writeN u d)).length)), ps 3 (iv 0)]) 41 (by kernel_rfl) (by kernel_rfl)) ?_
              rw [writeP_yes hE]
              exact T_ret fun cx_ a_ hI_ => ret_ok (H' := []) (.inr rfl) (Wk.ren2 [ps 2 (.ssl (vals (valsS (writeN u d))) 0 ((valsS (writeN u d)).length)), ps 3 (iv 0)] 0 hc0 [] rfl rfl (by kernel_rfl) (by kernel_rfl)) rfl (obs_nil) (fun cx_ a_ hI_ => ret_res (l' := [ps 2 (.ssl (vals (valsS (writeN u d))) 0 ((valsS (writeN u d)).length)), ps 3 (iv 0)]) (by kernel_rfl) cx_ a_ hI_) hI_
        · refine T_then (b := (!(decide ((((1024 : Int)).tmod d) = 0)))) rfl (congrArg Bool.not (decide_eq_false h4)) ?_
          refine T_seq ?_
          refine T_region [] [ks 2, ks 3] (fun _ => mixed) (l' := [ps 2 (.av (.slice none 0 0)), ps 3 (iv 6)]) (obs := []) (by kernel_rfl) (obs_nil) ?_
          have hm0 : ¬ (1024 : Int) % d = 0 := fun hc => h4 ((Int.tmod_eq_emod_of_nonneg (by decide)).trans hc)
          rw [writeP_no (e := 6) (by unfold writeE; rw [if_neg (by rw [h1]; decide), if_neg (by omega), if_pos hm0]) (by decide)]
          exact T_ret fun cx_ a_ hI_ => ret_ok (H' := []) (.inr rfl) (Wk.ren2 [ps 2 (.av (.slice none 0 0)), ps 3 (iv 6)] 0 hc0 [] rfl rfl (by kernel_rfl) (by kernel_rfl)) rfl (obs_nil) (fun cx_ a_ hI_ => ret_res (l' := [ps 2 (.av (.slice none 0 0)), ps 3 (iv 6)]) (by kernel_rfl) cx_ a_ hI_) hI_
  · refine T_then (b := (!(Fr.rightB u d))) rfl (congrArg Bool.not (Bool.eq_false_iff.2 h1)) ?_
    refine T_seq ?_
    refine T_region [] [ks 2, ks 3] (fun _ => mixed) (l' := [ps 2 (.av (.slice none 0 0)), ps 3 (iv 2)]) (obs := []) (by kernel_rfl) (obs_nil) ?_
    rw [writeP_no (e := 2) (by unfold writeE; rw [if_pos (Bool.eq_false_iff.2 h1)]) (by decide)]
    exact T_ret fun cx_ a_ hI_ => ret_ok (H' := []) (.inr rfl) (Wk.ren2 [ps 2 (.av (.slice none 0 0)), ps 3 (iv 2)] 0 hc0 [] rfl rfl (by kernel_rfl) (by kernel_rfl)) rfl (obs_nil) (fun cx_ a_ hI_ => ret_res (l' := [ps 2 (.av (.slice none 0 0)), ps 3 (iv 2)]) (by kernel_rfl) cx_ a_ hI_) hI_
end Go.Proofs.Ytccpefbfjahfnaa.Pm
namespace Go.Proofs.Ytccpefbfjahfnaa.Pm
open Go Fr

theorem same_vals (l : List (Int × Int)) (hl : l.length ≤ 9223372036854775807) : PC Try.prog 11 [(.ssl (vals l) 0 l.length), (.ssl (vals l) 0 l.length)] [] (bv true) [] := by
  refine pc_intro Try.func11 rfl (by kernel_rfl) (Nat.le_of_ble_eq_true rfl) (by kernel_rfl) (l0 := [ps 0 (.ssl (vals l) 0 l.length), ps 1 (.ssl (vals l) 0 l.length)]) rfl (fun c0 Bor hc0 => ?_)
  refine T_seq ?_
  refine T_region [] [ks 0, ks 1] (fun _ => mixed) (l' := [ps 0 (.ssl (vals l) 0 l.length), ps 1 (.ssl (vals l) 0 l.length)]) (obs := []) (by kernel_rfl) (obs_nil) ?_
  refine T_seq ?_
  refine T_seq ?_
  refine T_region [] [ks 0, ks 1, ks 10] (fun _ => mixed) (l' := [ps 0 (.ssl (vals l) 0 l.length), ps 1 (.ssl (vals l) 0 l.length), ps 10 (bv (!(decide (((l.length : Nat) : Int) = ((l.length : Nat) : Int)))))]) (obs := []) (by kernel_rfl) (obs_nil) ?_
  have h1 : ((l.length : Nat) : Int) = ((l.length : Nat) : Int) := rfl
  refine T_else (b := (!(decide (((l.length : Nat) : Int) = ((l.length : Nat) : Int))))) rfl (congrArg Bool.not (decide_eq_true h1)) ?_
  refine T_skip ?_
  refine T_seq ?_
  refine T_seq ?_
  refine T_region [] [ks 0, ks 1, ks 12, ks 13] (fun _ => mixed) (l' := [ps 0 (.ssl (vals l) 0 l.length), ps 1 (.ssl (vals l) 0 l.length), ps 12 (iv ((l.length : Nat) : Int)), ps 13 (iv 0)]) (obs := []) (by kernel_rfl) (obs_nil) ?_
  refine T_block ?_
  refine T_loop (α := {x : Nat // x ≤ l.length}) (fun x => [ps 0 (.ssl (vals l) 0 l.length), ps 1 (.ssl (vals l) 0 l.length), ps 12 (iv ((l.length : Nat) : Int)), ps 13 (iv ((x.1 : Nat) : Int))]) (fun x => l.length - x.1) 0 ⟨0, Nat.zero_le _⟩ (Wk.ren2 [ps 0 (.ssl (vals l) 0 l.length), ps 1 (.ssl (vals l) 0 l.length), ps 12 (iv ((l.length : Nat) : Int)), ps 13 (iv ((0 : Nat) : Int))] 0 hc0 [] rfl rfl (by kernel_rfl) (by kernel_rfl)) ?_
  rintro ⟨i, hi⟩
  refine T_seq ?_
  refine T_region [] [ks 0, ks 1, ks 12, ks 13, ks 14] (fun _ => mixed) (l' := [ps 0 (.ssl (vals l) 0 l.length), ps 1 (.ssl (vals l) 0 l.length), ps 12 (iv ((l.length : Nat) : Int)), ps 13 (iv ((i : Nat) : Int)), ps 14 (bv (decide (((i : Nat) : Int) < ((l.length : Nat) : Int))))]) (obs := []) (by kernel_rfl) (obs_nil) ?_
  refine T_seq ?_
  by_cases h2 : ((i : Nat) : Int) < ((l.length : Nat) : Int)
  · refine T_then (b := (decide (((i : Nat) : Int) < ((l.length : Nat) : Int)))) rfl (decide_eq_true h2) ?_
    refine T_skip ?_
    refine T_seq ?_
    refine T_block ?_
    refine T_seq ?_
    refine T_region [] [ks 0, ks 1, ks 5, ks 12, ks 13] (fun _ => mixed) (l' := [ps 0 (.ssl (vals l) 0 l.length), ps 1 (.ssl (vals l) 0 l.length), ps 5 (iv ((i : Nat) : Int)), ps 12 (iv ((l.length : Nat) : Int)), ps 13 (iv ((i : Nat) : Int))]) (obs := []) (by kernel_rfl) (obs_nil) ?_
    refine T_seq ?_
    refine T_region [(2, .nat (i * 2)), (3, .cells [(iv ((l.getD i (0, 0)).1)), (iv ((l.getD i (0, 0)).2))]), (6, .nat (i * 2)), (7, .cells [(iv ((l.getD i (0, 0)).1)), (iv ((l.getD i (0, 0)).2))])] [ks 0, ks 1, ks 12, ks 13, ks 24] (fun _ => mixed) (l' := [ps 0 (.ssl (vals l) 0 l.length), ps 1 (.ssl (vals l) 0 l.length), ps 12 (iv ((l.length : Nat) : Int)), ps 13 (iv ((i : Nat) : Int)), ps 24 (bv (!((decide (((l.getD i (0, 0)).1) = ((l.getD i (0, 0)).1))) && (decide (((l.getD i (0, 0)).2) = ((l.getD i (0, 0)).2))))))]) (obs := [(0 : Int) ≤ ((i : Nat) : Int) ∧ ((i : Nat) : Int) < ((l.length : Nat) : Int), 0 + (((i : Nat) : Int) : Int).toNat * 2 = (i * 2), (i * 2) + 2 ≤ ((vals l)).length ∧ (((vals l)).drop (i * 2)).take 2 = [(iv ((l.getD i (0, 0)).1)), (iv ((l.getD i (0, 0)).2))], (0 : Int) ≤ ((i : Nat) : Int) ∧ ((i : Nat) : Int) < ((l.length : Nat) : Int), 0 + (((i : Nat) : Int) : Int).toNat * 2 = (i * 2), (i * 2) + 2 ≤ ((vals l)).length ∧ (((vals l)).drop (i * 2)).take 2 = [(iv ((l.getD i (0, 0)).1)), (iv ((l.getD i (0, 0)).2))]]) (by kernel_rfl) (obs_cons (p := (0 : Int) ≤ ((i : Nat) : Int) ∧ ((i : Nat) : Int) < ((l.length : Nat) : Int)) (by omega) (obs_cons (p := 0 + (((i : Nat) : Int) : Int).toNat * 2 = (i * 2)) (by omega) (obs_cons (p := (i * 2) + 2 ≤ ((vals l)).length ∧ (((vals l)).drop (i * 2)).take 2 = [(iv ((l.getD i (0, 0)).1)), (iv ((l.getD i (0, 0)).2))]) (flat_at valC 2 (fun _ => rfl) (0, 0) l i 0 2 (by omega) (by decide)) (obs_cons (p := (0 : Int) ≤ ((i : Nat) : Int) ∧ ((i : Nat) : Int) < ((l.length : Nat) : Int)) (by omega) (obs_cons (p := 0 + (((i : Nat) : Int) : Int).toNat * 2 = (i * 2)) (by omega) (obs_cons (p := (i * 2) + 2 ≤ ((vals l)).length ∧ (((vals l)).drop (i * 2)).take 2 = [(iv ((l.getD i (0, 0)).1)), (iv ((l.getD i (0, 0)).2))]) (flat_at valC 2 (fun _ => rfl) (0, 0) l i 0 2 (by omega) (by decide)) (obs_nil))))))) ?_
    have h3 : ((decide (((l.getD i (0, 0)).1) = ((l.getD i (0, 0)).1))) && (decide (((l.getD i (0, 0)).2) = ((l.getD i (0, 0)).2)))) = true := by simp
    refine T_else (b := (!((decide (((l.getD i (0, 0)).1) = ((l.getD i (0, 0)).1))) && (decide (((l.getD i (0, 0)).2) = ((l.getD i (0, 0)).2)))))) rfl (congrArg Bool.not h3) ?_
    refine T_skip ?_
    refine T_blk ?_
    refine T_region [] [ks 0, ks 1, ks 12, ks 13] (fun _ => mixed) (l' := [ps 0 (.ssl (vals l) 0 l.length), ps 1 (.ssl (vals l) 0 l.length), ps 12 (iv ((l.length : Nat) : Int)), ps 13 (iv (((i : Nat) : Int) + 1))]) (obs := [InK .i64 (((i : Nat) : Int) + 1)]) (by kernel_rfl) (obs_cons (p := InK .i64 (((i : Nat) : Int) + 1)) (by simp only [InK]; omega) (obs_nil)) ?_
    exact T_back ⟨i + 1, by omega⟩ (Wk.ren2 [ps 0 (.ssl (vals l) 0 l.length), ps 1 (.ssl (vals l) 0 l.length), ps 12 (iv ((l.length : Nat) : Int)), ps 13 (iv (((i + 1) : Nat) : Int))] 0 hc0 [] rfl rfl (by kernel_rfl) (by kernel_rfl)) (show l.length - (i + 1) < l.length - i from by omega)
  · refine T_else (b := (decide (((i : Nat) : Int) < ((l.length : Nat) : Int)))) rfl (decide_eq_false h2) ?_
    refine T_break rfl rfl ?_
    refine T_seq ?_
    refine T_region [] [ks 4] (fun _ => mixed) (l' := [ps 4 (bv true)]) (obs := []) (by kernel_rfl) (obs_nil) ?_
    exact T_ret fun cx_ a_ hI_ => ret_ok (H' := []) (.inr rfl) (Wk.ren2 [ps 4 (bv true)] 0 hc0 [] rfl rfl (by kernel_rfl) (by kernel_rfl)) rfl (obs_nil) (fun cx_ a_ hI_ => ret_res (l' := [ps 4 (bv true)]) (by kernel_rfl) cx_ a_ hI_) hI_
theorem write_yes (u d : Int) (hu : I64 u) (hd : I64 d) (h : writeE u d = 0) : PC Try.prog 9 [.agg [iv u, iv d]] [] (.tup [.ssl (vals (valsS (writeN u d))) 0 (valsS (writeN u d)).length, iv 0]) [] := by rw [← writeP_yes h]; exact write_pc u d hu hd
theorem write_no (u d : Int) (hu : I64 u) (hd : I64 d) (h : ¬ writeE u d = 0) : PC Try.prog 9 [.agg [iv u, iv d]] [] (.tup [.ssl [] 0 0, iv (writeE u d)]) [] := by rw [← writeP_no rfl h]; exact write_pc u d hu hd
theorem ref_write_yes (u d : Int) (hu : I64 u) (hd : I64 d) (h : writeE u d = 0) : PC Try.prog 10 [.agg [iv u, iv d]] [] (.tup [.ssl (vals (valsS (writeN u d))) 0 (valsS (writeN u d)).length, iv 0]) [] := by rw [← writeP_yes h]; exact ref_write_pc u d hu hd
theorem ref_write_no (u d : Int) (hu : I64 u) (hd : I64 d) (h : ¬ writeE u d = 0) : PC Try.prog 10 [.agg [iv u, iv d]] [] (.tup [.ssl [] 0 0, iv (writeE u d)]) [] := by rw [← writeP_no rfl h]; exact ref_write_pc u d hu hd
theorem pt_len (n : Nat) : ∀ r s, (pt n r s).length ≤ r
  | 0, _ => Nat.le_refl _
  | r + 1, s + 1 => by rw [pt]; exact Nat.le_succ_of_le (pt_len n r s)
  | r + 1, 0 => by
    rw [pt]
    split
    · rw [List.length_cons]; exact Nat.succ_le_succ (pt_len n r _)
    · exact Nat.le_succ_of_le (pt_len n r 0)
theorem valsS_len {u d : Int} (h : writeE u d = 0) : (valsS (writeN u d)).length ≤ 70000 := by
  have h1 := (write_num h).2.2
  have h2 := pt_len (writeN u d) 10 0
  unfold valsS
  rw [List.length_append, List.length_replicate]
  omega
set_option maxRecDepth 100000 in
theorem law_writes (h e u d : Int) (hh : I64 h) (he : I64 e) (hu : I64 u) (hd : I64 d) : PC Try.prog 3 [(.agg [(iv h), (iv e)]), (.agg [(iv u), (iv d)])] [] (bv true) [] := by
  refine pc_intro Try.func3 rfl (by kernel_rfl) (Nat.le_of_ble_eq_true rfl) (by kernel_rfl) (l0 := [ps 0 (.agg [(iv h), (iv e)]), ps 1 (.agg [(iv u), (iv d)])]) rfl (fun c0 Bor hc0 => ?_)
  refine T_seq ?_
  refine T_region [] [ks 2, ks 3, kb 0, kb 8] (fun _ => mixed) (l' := [ps 2 (.opt 0 0), ps 3 (.opt 8 0), pb 0 23 [(iv h), (iv e)], pb 8 25 [(iv u), (iv d)]]) (obs := []) (by kernel_rfl) (obs_nil) ?_
  refine T_seq ?_
  refine T_region [(1, .call [] [(.agg [(iv h), (iv e)])] [] (.tup [(.agg [(iv ((lenS h e).1)), (iv ((lenS h e).2.1))]), (iv ((lenS h e).2.2))]) [])] [ks 2, ks 3, ks 5, ks 6, kb 0, kb 8, kb 64] (fun _ => mixed) (l' := [ps 2 (.opt 0 0), ps 3 (.opt 8 0), ps 5 (.opt 64 0), ps 6 (iv ((lenS h e).2.2)), pb 0 23 [(iv h), (iv e)], pb 8 25 [(iv u), (iv d)], pb 64 25 [(iv ((lenS h e).1)), (iv ((lenS h e).2.1))]]) (obs := [PC Try.prog 7 [(.agg [(iv h), (iv e)])] [] (.tup [(.agg [(iv ((lenS h e).1)), (iv ((lenS h e).2.1))]), (iv ((lenS h e).2.2))]) [], [(.agg [(iv h), (iv e)])] = renL (sigi [] 32) [(.agg [(iv h), (iv e)])]]) (by kernel_rfl) (obs_cons (p := PC Try.prog 7 [(.agg [(iv h), (iv e)])] [] (.tup [(.agg [(iv ((lenS h e).1)), (iv ((lenS h e).2.1))]), (iv ((lenS h e).2.2))]) []) (length_pc h e hh he) (obs_cons (p := [(.agg [(iv h), (iv e)])] = renL (sigi [] 32) [(.agg [(iv h), (iv e)])]) rfl (obs_nil))) ?_
  refine T_seq ?_
  refine T_region [(1, .call [] [(.agg [(iv h), (iv e)])] [] (.tup [(.agg [(iv ((lenS h e).1)), (iv ((lenS h e).2.1))]), (iv ((lenS h e).2.2))]) [])] [ks 3, ks 5, ks 6, ks 7, ks 8, kb 8, kb 64, kb 128] (fun _ => mixed) (l' := [ps 3 (.opt 8 0), ps 5 (.opt 64 0), ps 6 (iv ((lenS h e).2.2)), ps 7 (.opt 128 0), ps 8 (iv ((lenS h e).2.2)), pb 8 25 [(iv u), (iv d)], pb 64 25 [(iv ((lenS h e).1)), (iv ((lenS h e).2.1))], pb 128 25 [(iv ((lenS h e).1)), (iv ((lenS h e).2.1))]]) (obs := [PC Try.prog 8 [(.agg [(iv h), (iv e)])] [] (.tup [(.agg [(iv ((lenS h e).1)), (iv ((lenS h e).2.1))]), (iv ((lenS h e).2.2))]) [], [(.agg [(iv h), (iv e)])] = renL (sigi [] 96) [(.agg [(iv h), (iv e)])]]) (by kernel_rfl) (obs_cons (p := PC Try.prog 8 [(.agg [(iv h), (iv e)])] [] (.tup [(.agg [(iv ((lenS h e).1)), (iv ((lenS h e).2.1))]), (iv ((lenS h e).2.2))]) []) (ref_length_pc h e) (obs_cons (p := [(.agg [(iv h), (iv e)])] = renL (sigi [] 96) [(.agg [(iv h), (iv e)])]) rfl (obs_nil))) ?_
  refine T_seq ?_
  refine T_seq ?_
  have h1 : ((decide (((lenS h e).1) = ((lenS h e).1))) && (decide (((lenS h e).2.1) = ((lenS h e).2.1)))) = true := by simp
  refine T_region [(4, .gd false (.no)), (5, .gd false (.no)), (6, .gd false (.no)), (7, .yes false)] [ks 3, ks 28, kb 8] (fun _ => mixed) (l' := [ps 3 (.opt 8 0), ps 28 (bv (!(decide (((lenS h e).2.2) = ((lenS h e).2.2))))), pb 8 25 [(iv u), (iv d)]]) (obs := [(!((decide (((lenS h e).1) = ((lenS h e).1))) && (decide (((lenS h e).2.1) = ((lenS h e).2.1))))) = false, (!((decide (((lenS h e).1) = ((lenS h e).1))) && (decide (((lenS h e).2.1) = ((lenS h e).2.1))))) = false, (!((decide (((lenS h e).1) = ((lenS h e).1))) && (decide (((lenS h e).2.1) = ((lenS h e).2.1))))) = false, (!((decide (((lenS h e).1) = ((lenS h e).1))) && (decide (((lenS h e).2.1) = ((lenS h e).2.1))))) = false]) (by kernel_rfl) (obs_cons (p := (!((decide (((lenS h e).1) = ((lenS h e).1))) && (decide (((lenS h e).2.1) = ((lenS h e).2.1))))) = false) (congrArg Bool.not h1) (obs_cons (p := (!((decide (((lenS h e).1) = ((lenS h e).1))) && (decide (((lenS h e).2.1) = ((lenS h e).2.1))))) = false) (congrArg Bool.not h1) (obs_cons (p := (!((decide (((lenS h e).1) = ((lenS h e).1))) && (decide (((lenS h e).2.1) = ((lenS h e).2.1))))) = false) (congrArg Bool.not h1) (obs_cons (p := (!((decide (((lenS h e).1) = ((lenS h e).1))) && (decide (((lenS h e).2.1) = ((lenS h e).2.1))))) = false) (congrArg Bool.not h1) (obs_nil))))) ?_
  have h2 : ((lenS h e).2.2) = ((lenS h e).2.2) := rfl
  refine T_else (b := (!(decide (((lenS h e).2.2) = ((lenS h e).2.2))))) rfl (congrArg Bool.not (decide_eq_true h2)) ?_
  refine T_skip ?_
  refine T_seq ?_
  by_cases h3 : writeE u d = 0
  · refine T_region [(1, .call [] [(.agg [(iv u), (iv d)])] [] (.tup [(.ssl (vals (valsS (writeN u d))) 0 ((valsS (writeN u d)).length)), (iv 0)]) [])] [ks 3, ks 6, ks 9, kb 8] (fun _ => mixed) (l' := [ps 3 (.opt 8 0), ps 6 (iv 0), ps 9 (.ssl (vals (valsS (writeN u d))) 0 ((valsS (writeN u d)).length)), pb 8 25 [(iv u), (iv d)]]) (obs := [PC Try.prog 9 [(.agg [(iv u), (iv d)])] [] (.tup [(.ssl (vals (valsS (writeN u d))) 0 ((valsS (writeN u d)).length)), (iv 0)]) [], [(.agg [(iv u), (iv d)])] = renL (sigi [] 224) [(.agg [(iv u), (iv d)])]]) (by kernel_rfl) (obs_cons (p := PC Try.prog 9 [(.agg [(iv u), (iv d)])] [] (.tup [(.ssl (vals (valsS (writeN u d))) 0 ((valsS (writeN u d)).length)), (iv 0)]) []) (write_yes u d hu hd h3) (obs_cons (p := [(.agg [(iv u), (iv d)])] = renL (sigi [] 224) [(.agg [(iv u), (iv d)])]) rfl (obs_nil))) ?_
    refine T_seq ?_
    refine T_region [(1, .call [] [(.agg [(iv u), (iv d)])] [] (.tup [(.ssl (vals (valsS (writeN u d))) 0 ((valsS (writeN u d)).length)), (iv 0)]) [])] [ks 6, ks 8, ks 9, ks 10] (fun _ => mixed) (l' := [ps 6 (iv 0), ps 8 (iv 0), ps 9 (.ssl (vals (valsS (writeN u d))) 0 ((valsS (writeN u d)).length)), ps 10 (.ssl (vals (valsS (writeN u d))) 0 ((valsS (writeN u d)).length))]) (obs := [PC Try.prog 10 [(.agg [(iv u), (iv d)])] [] (.tup [(.ssl (vals (valsS (writeN u d))) 0 ((valsS (writeN u d)).length)), (iv 0)]) [], [(.agg [(iv u), (iv d)])] = renL (sigi [] 280) [(.agg [(iv u), (iv d)])]]) (by kernel_rfl) (obs_cons (p := PC Try.prog 10 [(.agg [(iv u), (iv d)])] [] (.tup [(.ssl (vals (valsS (writeN u d))) 0 ((valsS (writeN u d)).length)), (iv 0)]) []) (ref_write_yes u d hu hd h3) (obs_cons (p := [(.agg [(iv u), (iv d)])] = renL (sigi [] 280) [(.agg [(iv u), (iv d)])]) rfl (obs_nil))) ?_
    refine T_seq ?_
    refine T_region [(2, .call [] [(.ssl (vals (valsS (writeN u d))) 0 ((valsS (writeN u d)).length)), (.ssl (vals (valsS (writeN u d))) 0 ((valsS (writeN u d)).length))] [] (bv true) []), (4, .gd true (.no)), (5, .gd true (.no)), (6, .gd true (.no))] [ks 4] (fun _ => mixed) (l' := [ps 4 (bv true)]) (obs := [PC Try.prog 11 [(.ssl (vals (valsS (writeN u d))) 0 ((valsS (writeN u d)).length)), (.ssl (vals (valsS (writeN u d))) 0 ((valsS (writeN u d)).length))] [] (bv true) [], [(.ssl (vals (valsS (writeN u d))) 0 ((valsS (writeN u d)).length)), (.ssl (vals (valsS (writeN u d))) 0 ((valsS (writeN u d)).length))] = renL (sigi [] 344) [(.ssl (vals (valsS (writeN u d))) 0 ((valsS (writeN u d)).length)), (.ssl (vals (valsS (writeN u d))) 0 ((valsS (writeN u d)).length))], true = true, true = true, true = true]) (by kernel_rfl) (obs_cons (p := PC Try.prog 11 [(.ssl (vals (valsS (writeN u d))) 0 ((valsS (writeN u d)).length)), (.ssl (vals (valsS (writeN u d))) 0 ((valsS (writeN u d)).length))] [] (bv true) []) (same_vals (valsS (writeN u d)) (by have := valsS_len h3; omega)) (obs_cons (p := [(.ssl (vals (valsS (writeN u d))) 0 ((valsS (writeN u d)).length)), (.ssl (vals (valsS (writeN u d))) 0 ((valsS (writeN u d)).length))] = renL (sigi [] 344) [(.ssl (vals (valsS (writeN u d))) 0 ((valsS (writeN u d)).length)), (.ssl (vals (valsS (writeN u d))) 0 ((valsS (writeN u d)).length))]) rfl (obs_cons (p := true = true) rfl (obs_cons (p := true = true) rfl (obs_cons (p := true = true) rfl (obs_nil)))))) ?_
    exact T_ret fun cx_ a_ hI_ => ret_ok (H' := []) (.inr rfl) (Wk.ren2 [ps 4 (bv true)] 0 hc0 [] rfl rfl (by kernel_rfl) (by kernel_rfl)) rfl (obs_nil) (fun cx_ a_ hI_ => ret_res (l' := [ps 4 (bv true)]) (by kernel_rfl) cx_ a_ hI_) hI_
  · refine T_region [(1, .call [] [(.agg [(iv u), (iv d)])] [] (.tup [(.ssl [] 0 0), (iv (writeE u d))]) [])] [ks 3, ks 6, ks 9, kb 8] (fun _ => mixed) (l' := [ps 3 (.opt 8 0), ps 6 (iv (writeE u d)), ps 9 (.ssl [] 0 0), pb 8 25 [(iv u), (iv d)]]) (obs := [PC Try.prog 9 [(.agg [(iv u), (iv d)])] [] (.tup [(.ssl [] 0 0), (iv (writeE u d))]) [], [(.agg [(iv u), (iv d)])] = renL (sigi [] 224) [(.agg [(iv u), (iv d)])]]) (by kernel_rfl) (obs_cons (p := PC Try.prog 9 [(.agg [(iv u), (iv d)])] [] (.tup [(.ssl [] 0 0), (iv (writeE u d))]) []) (write_no u d hu hd h3) (obs_cons (p := [(.agg [(iv u), (iv d)])] = renL (sigi [] 224) [(.agg [(iv u), (iv d)])]) rfl (obs_nil))) ?_
    refine T_seq ?_
    refine T_region [(1, .call [] [(.agg [(iv u), (iv d)])] [] (.tup [(.ssl [] 0 0), (iv (writeE u d))]) [])] [ks 6, ks 8, ks 9, ks 10] (fun _ => mixed) (l' := [ps 6 (iv (writeE u d)), ps 8 (iv (writeE u d)), ps 9 (.ssl [] 0 0), ps 10 (.ssl [] 0 0)]) (obs := [PC Try.prog 10 [(.agg [(iv u), (iv d)])] [] (.tup [(.ssl [] 0 0), (iv (writeE u d))]) [], [(.agg [(iv u), (iv d)])] = renL (sigi [] 280) [(.agg [(iv u), (iv d)])]]) (by kernel_rfl) (obs_cons (p := PC Try.prog 10 [(.agg [(iv u), (iv d)])] [] (.tup [(.ssl [] 0 0), (iv (writeE u d))]) []) (ref_write_no u d hu hd h3) (obs_cons (p := [(.agg [(iv u), (iv d)])] = renL (sigi [] 280) [(.agg [(iv u), (iv d)])]) rfl (obs_nil))) ?_
    refine T_seq ?_
    refine T_region [(2, .call [] [(.ssl [] 0 0), (.ssl [] 0 0)] [] (bv true) []), (4, .gd true (.no)), (5, .gd true (.no)), (6, .gd true (.no))] [ks 4] (fun _ => mixed) (l' := [ps 4 (bv (decide ((writeE u d) = (writeE u d))))]) (obs := [PC Try.prog 11 [(.ssl [] 0 0), (.ssl [] 0 0)] [] (bv true) [], [(.ssl [] 0 0), (.ssl [] 0 0)] = renL (sigi [] 344) [(.ssl [] 0 0), (.ssl [] 0 0)], true = true, true = true, true = true]) (by kernel_rfl) (obs_cons (p := PC Try.prog 11 [(.ssl [] 0 0), (.ssl [] 0 0)] [] (bv true) []) (same_vals [] (Nat.zero_le _)) (obs_cons (p := [(.ssl [] 0 0), (.ssl [] 0 0)] = renL (sigi [] 344) [(.ssl [] 0 0), (.ssl [] 0 0)]) rfl (obs_cons (p := true = true) rfl (obs_cons (p := true = true) rfl (obs_cons (p := true = true) rfl (obs_nil)))))) ?_
    refine T_wk (Wk.eq (show [ps 4 (bv (decide ((writeE u d) = (writeE u d))))] = [ps 4 (bv true)] from by rw [decide_eq_true rfl])) ?_
    exact T_ret fun cx_ a_ hI_ => ret_ok (H' := []) (.inr rfl) (Wk.ren2 [ps 4 (bv true)] 0 hc0 [] rfl rfl (by kernel_rfl) (by kernel_rfl)) rfl (obs_nil) (fun cx_ a_ hI_ => ret_res (l' := [ps 4 (bv true)]) (by kernel_rfl) cx_ a_ hI_) hI_
end Go.Proofs.Ytccpefbfjahfnaa.Pm
namespace Go.Proofs.Ytccpefbfjahfnaa.Pm
open Go Fr Gcd

/-- How long a value is, in parts of 1/1024. -/
def wV (v : Int × Int) : Int := (2 ^ (v.2.toNat + 1) - 1) * 2 ^ (10 - v.1.toNat - v.2.toNat)
def okV (v : Int × Int) : Bool := decide (0 ≤ v.1) && decide (0 ≤ v.2) && decide (v.2 ≤ 3) && decide (v.1 + v.2 ≤ 10)
def lowV : Int → List (Int × Int) → Bool
  | _, [] => true
  | b, v :: l => okV v && decide (wV v ≤ b) && decide (0 ≤ wV v) && lowV (wV v) l
theorem pt_low : ∀ m : Nat, m < 1024 → lowV 1024 (pt m 10 0) = true ∧ ((pt m 10 0).map wV).sum = ((m : Nat) : Int) := by decide +kernel
theorem low_mono : ∀ {l : List (Int × Int)} {b c : Int}, lowV b l = true → b ≤ c → lowV c l = true
  | [], _, _, _, _ => rfl
  | v :: l, b, c, h, hb => by
    simp only [lowV, Bool.and_eq_true, decide_eq_true_eq] at h ⊢
    exact ⟨⟨⟨h.1.1.1, by omega⟩, h.1.2⟩, h.2⟩
theorem low_rep (l : List (Int × Int)) (h : lowV 1024 l = true) : ∀ q, lowV 1024 (List.replicate q (0, 0) ++ l) = true
  | 0 => h
  | q + 1 => by
    rw [List.replicate_succ, List.cons_append, lowV, show wV (0, 0) = 1024 from by decide +kernel, low_rep l h q]
    decide
theorem vals_low (n : Nat) : lowV 2048 (valsS n) = true := by
  refine low_mono (b := 1024) ?_ (by decide)
  unfold valsS
  rw [← pt_mod n 10 0 (Nat.le_refl _)]
  exact low_rep _ (pt_low _ (Nat.mod_lt _ (by decide))).1 _
theorem rep_sum : ∀ q : Nat, ((List.replicate q ((0, 0) : Int × Int)).map wV).sum = 1024 * ((q : Nat) : Int)
  | 0 => rfl
  | q + 1 => by
    rw [List.replicate_succ, List.map_cons, List.sum_cons, rep_sum q, show wV (0, 0) = 1024 from by decide +kernel]
    omega
theorem vals_sum (n : Nat) : ((valsS n).map wV).sum = ((n : Nat) : Int) := by
  unfold valsS
  rw [← pt_mod n 10 0 (Nat.le_refl _), List.map_append, List.sum_append, rep_sum, (pt_low _ (Nat.mod_lt _ (by decide))).2]
  omega
def wsum (V : List (Int × Int)) (i : Nat) : Int := ((V.take i).map wV).sum
def lastW (V : List (Int × Int)) : Nat → Int
  | 0 => 2048
  | i + 1 => wV (V.getD i (0, 0))
theorem wsum_next {V : List (Int × Int)} {i : Nat} (h : i < V.length) : wsum V (i + 1) = wsum V i + wV (V.getD i (0, 0)) := by
  unfold wsum
  rw [List.take_add_one, List.map_append, List.sum_append, List.getD_eq_getElem?_getD, List.getElem?_eq_getElem h]
  simp
theorem low_at : ∀ {V : List (Int × Int)} {b : Int}, lowV b V = true → ∀ i, i < V.length → okV (V.getD i (0, 0)) = true ∧ 0 ≤ wV (V.getD i (0, 0)) ∧ wV (V.getD i (0, 0)) ≤ (match i with | 0 => b | i + 1 => wV (V.getD i (0, 0)))
  | v :: l, b, h, 0, _ => by
    simp only [lowV, Bool.and_eq_true, decide_eq_true_eq] at h
    exact ⟨h.1.1.1, h.1.2, h.1.1.2⟩
  | v :: l, b, h, i + 1, hi => by
    simp only [lowV, Bool.and_eq_true, decide_eq_true_eq] at h
    have ih := low_at h.2 i (by simpa using hi)
    refine ⟨ih.1, ih.2.1, ?_⟩
    cases i with
    | zero => exact ih.2.2
    | succ i => exact ih.2.2
theorem low_last {V : List (Int × Int)} (h : lowV 2048 V = true) {i : Nat} (hi : i < V.length) : okV (V.getD i (0, 0)) = true ∧ 0 ≤ wV (V.getD i (0, 0)) ∧ wV (V.getD i (0, 0)) ≤ lastW V i := by
  have := low_at h i hi
  refine ⟨this.1, this.2.1, ?_⟩
  cases i <;> exact this.2.2
theorem wsum_bd {V : List (Int × Int)} (h : lowV 2048 V = true) : ∀ i, i ≤ V.length → 0 ≤ wsum V i ∧ wsum V i ≤ wsum V V.length := by
  have h1 : ∀ i, i ≤ V.length → 0 ≤ wsum V i := fun i => by
    induction i with
    | zero => intro _; exact Int.le_refl 0
    | succ i ih => intro hi; rw [wsum_next (by omega)]; have := ih (by omega); have := (low_last h (i := i) (by omega)).2.1; omega
  have h2 : ∀ k i, i + k = V.length → wsum V i ≤ wsum V V.length := fun k => by
    induction k with
    | zero => intro i hi; rw [← hi]; exact Int.le_refl _
    | succ k ih => intro i hi; have := ih (i + 1) (by omega); rw [wsum_next (by omega)] at this; have := (low_last h (i := i) (by omega)).2.1; omega
  exact fun i hi => ⟨h1 i hi, h2 (V.length - i) i (by omega)⟩
theorem wsum_all (n : Nat) : wsum (valsS n) (valsS n).length = ((n : Nat) : Int) := by
  unfold wsum
  rw [List.take_length]
  exact vals_sum n
theorem len_tab : ∀ h : Nat, h < 11 → ∀ d : Nat, d < 4 → h + d ≤ 10 → lenS h d = (2 ^ (d + 1) - 1, 2 ^ (h + d), 0) ∧ rightB (2 ^ (d + 1) - 1) (2 ^ (h + d)) = true ∧ ((2 : Int) ^ (d + 1) - 1) * 1024 = wV ((h : Int), (d : Int)) * 2 ^ (h + d) := by decide +kernel
theorem len_of {v : Int × Int} (h : okV v = true) : ∃ p q : Int, lenS v.1 v.2 = (p, q, 0) ∧ rightB p q = true ∧ p * 1024 = wV v * q := by
  obtain ⟨x, y⟩ := v
  simp only [okV, Bool.and_eq_true, decide_eq_true_eq] at h
  obtain ⟨a, rfl⟩ : ∃ a : Nat, x = (a : Int) := ⟨x.toNat, by omega⟩
  obtain ⟨b, rfl⟩ : ∃ b : Nat, y = (b : Int) := ⟨y.toNat, by omega⟩
  exact ⟨_, _, len_tab a (by omega) b (by omega) (by omega)⟩
theorem sum_step {a b p q W w : Int} (h1 : rightB a b = true) (h2 : rightB p q = true) (ha : a * 1024 = W * b) (hp : p * 1024 = w * q) (hW : 0 ≤ W + w) (hW2 : W + w ≤ 67108864) :
    ∃ x y : Int, Fr.plus a b p q = (x, y, 0) ∧ rightB x y = true ∧ x * 1024 = (W + w) * y := by
  have hb := pos_of h1
  have hq := pos_of h2
  obtain ⟨d1, d2, d3⟩ := down (u := W + w) (d := 1024) (by decide)
  have hx : (W + w) / g (W + w) 1024 * 1024 = (W + w) * (1024 / g (W + w) 1024) := d3.symm
  have hy1 : (1024 : Int) / g (W + w) 1024 ≤ 1024 := Int.ediv_le_self _ (by decide)
  have hxb : 0 ≤ (W + w) / g (W + w) 1024 ∧ (W + w) / g (W + w) 1024 ≤ 67108864 := by
    have h3 : 0 ≤ (W + w) * (1024 / g (W + w) 1024) := Int.mul_nonneg hW (by omega)
    have h4 : (W + w) * (1024 / g (W + w) 1024) ≤ (W + w) * 1024 := Int.mul_le_mul_of_nonneg_left hy1 hW
    omega
  refine ⟨(W + w) / g (W + w) 1024, 1024 / g (W + w) 1024, ?_, rightB_iff.2 ⟨d1, by omega, by omega, by omega, d2⟩, hx⟩
  rw [plus_of h1 h2]
  refine make_of (mul_one_le hb hq) (rightB_iff.2 ⟨d1, by omega, by omega, by omega, d2⟩) ?_
  generalize (W + w) / g (W + w) 1024 = x at *
  generalize 1024 / g (W + w) 1024 = y at *
  have h5 : (a * q + p * b) * 1024 = (W + w) * (b * q) := by grind
  have h6 : ((a * q + p * b) * y) * 1024 = (x * (b * q)) * 1024 := by grind
  exact mul_cancel (z := 1024) (by decide) h6
theorem sign_le {p q c e w l : Int} (hp : p * 1024 = w * q) (hc : c * 1024 = l * e) (h1 : rightB p q = true) (h2 : rightB c e = true) (hw : w ≤ l) : ¬ 0 < signI (p * e - c * q) := by
  have hq := pos_of h1
  have he := pos_of h2
  have h3 : 1 ≤ q * e := mul_one_le hq he
  have h4 : (p * e - c * q) * 1024 = (w - l) * (q * e) := by grind
  have h5 : (w - l) * (q * e) ≤ 0 := Int.mul_nonpos_of_nonpos_of_nonneg (by omega) (by omega)
  have h6 : p * e - c * q ≤ 0 := by omega
  unfold signI
  split
  · decide
  · rw [if_neg (by omega)]; decide
theorem whole_end {a b u d : Int} (h1 : rightB a b = true) (hE : writeE u d = 0) (hr : rightB u d = true) (ha : a * 1024 = ((writeN u d : Nat) : Int) * b) : a = u ∧ b = d := by
  have hn := (write_num hE).2.1
  have hb := pos_of h1
  have hd := pos_of hr
  have hm : (1024 : Int) % d = 0 := by
    unfold writeE at hE
    rw [if_neg (by rw [hr]; decide)] at hE
    split at hE
    · cases hE
    · split at hE
      · cases hE
      · omega
  have hq : (1024 : Int).tdiv d = 1024 / d := Int.tdiv_eq_ediv_of_nonneg (by decide)
  have hdq : d * (1024 / d) = 1024 := Int.mul_ediv_cancel' (Int.dvd_of_emod_eq_zero hm)
  rw [hq] at hn
  generalize (1024 : Int) / d = k at *
  rw [← hn] at ha
  have h3 : (a * d) * 1024 = (u * b) * 1024 := by grind
  exact lowest (by omega) (by omega) (rightB_iff.1 h1).2.2.2.2 (rightB_iff.1 hr).2.2.2.2 (mul_cancel (z := 1024) (by decide) h3)
theorem writeE_right {u d : Int} (h : writeE u d = 0) : rightB u d = true := by
  unfold writeE at h
  split at h
  · cases h
  · rename_i h1; simpa using h1
theorem sign_pc (a b c d : Int) (h1 : rightB a b = true) (h2 : rightB c d = true) : PC Try.prog 13 [fracP a b, fracP c d] [] (iv (signI (a * d - c * b))) [] :=
  pc_flat (fn_ok Try.func13 (by kernel_rfl) (by kernel_rfl)) rfl rfl fun w => sign_any a b c d w h1 h2
end Go.Proofs.Ytccpefbfjahfnaa.Pm
namespace Go.Proofs.Ytccpefbfjahfnaa.Pm
open Go Fr

theorem alive_pc  : PC Try.prog 12 [] [] (bv true) [] := by
  refine pc_intro Try.func12 rfl (by kernel_rfl) (Nat.le_of_ble_eq_true rfl) (by kernel_rfl) (l0 := []) rfl (fun c0 Bor hc0 => ?_)
  refine T_seq ?_
  refine T_region [] [] (fun _ => mixed) (l' := []) (obs := []) (by kernel_rfl) (obs_nil) ?_
  refine T_seq ?_
  refine T_region [(1, .call [] [(.agg [(iv 2), (iv 1)])] [] (.tup [(.agg [(iv 3), (iv 8)]), (iv 0)]) [])] [ks 1, ks 2, kb 48] (fun _ => mixed) (l' := [ps 1 (.opt 48 0), ps 2 (iv 0), pb 48 25 [(iv 3), (iv 8)]]) (obs := [PC Try.prog 7 [(.agg [(iv 2), (iv 1)])] [] (.tup [(.agg [(iv 3), (iv 8)]), (iv 0)]) [], [(.agg [(iv 2), (iv 1)])] = renL (sigi [] 16) [(.agg [(iv 2), (iv 1)])]]) (by kernel_rfl) (obs_cons (p := PC Try.prog 7 [(.agg [(iv 2), (iv 1)])] [] (.tup [(.agg [(iv 3), (iv 8)]), (iv 0)]) []) (by have h0 := length_pc 2 1 (by unfold Fr.I64; omega) (by unfold Fr.I64; omega); rw [show lenS 2 1 = (3, 8, 0) from by decide +kernel] at h0; exact h0) (obs_cons (p := [(.agg [(iv 2), (iv 1)])] = renL (sigi [] 16) [(.agg [(iv 2), (iv 1)])]) rfl (obs_nil))) ?_
  refine T_seq ?_
  refine T_region [(3, .gd true (.no)), (4, .gd true (.no)), (5, .gd true (.no))] [ks 0] (fun _ => mixed) (l' := [ps 0 (bv ((decide ((3 : Int) = (3 : Int))) && (decide ((8 : Int) = (8 : Int)))))]) (obs := [true = true, true = true, true = true]) (by kernel_rfl) (obs_cons (p := true = true) rfl (obs_cons (p := true = true) rfl (obs_cons (p := true = true) rfl (obs_nil)))) ?_
  refine T_wk (Wk.eq (show [ps 0 (bv ((decide ((3 : Int) = (3 : Int))) && (decide ((8 : Int) = (8 : Int)))))] = [ps 0 (bv true)] from by rfl)) ?_
  exact T_ret fun cx_ a_ hI_ => ret_ok (H' := []) (.inr rfl) (Wk.ren2 [ps 0 (bv true)] 0 hc0 [] rfl rfl (by kernel_rfl) (by kernel_rfl)) rfl (obs_nil) (fun cx_ a_ hI_ => ret_res (l' := [ps 0 (bv true)]) (by kernel_rfl) cx_ a_ hI_) hI_
theorem i64_right {u d : Int} (h : rightB u d = true) : I64 u ∧ I64 d := by
  have := rightB_iff.1 h
  unfold Fr.I64
  omega
set_option maxRecDepth 100000 in
set_option maxHeartbeats 4000000 in
theorem law_whole (u d : Int) (hu : I64 u) (hd : I64 d) : PC Try.prog 4 [(.agg [(iv u), (iv d)])] [] (bv true) [] := by
  refine pc_intro Try.func4 rfl (by kernel_rfl) (Nat.le_of_ble_eq_true rfl) (by kernel_rfl) (l0 := [ps 0 (.agg [(iv u), (iv d)])]) rfl (fun c0 Bor hc0 => ?_)
  refine T_seq ?_
  refine T_region [] [ks 1, kb 0] (fun _ => mixed) (l' := [ps 1 (.opt 0 0), pb 0 25 [(iv u), (iv d)]]) (obs := []) (by kernel_rfl) (obs_nil) ?_
  refine T_seq ?_
  refine T_seq ?_
  refine T_region [(0, .call [] [] [] (bv true) [])] [ks 1, ks 12, kb 0] (fun _ => mixed) (l' := [ps 1 (.opt 0 0), ps 12 (bv false), pb 0 25 [(iv u), (iv d)]]) (obs := [PC Try.prog 12 [] [] (bv true) [], [] = renL (sigi [] 16) []]) (by kernel_rfl) (obs_cons (p := PC Try.prog 12 [] [] (bv true) []) alive_pc (obs_cons (p := [] = renL (sigi [] 16) []) rfl (obs_nil))) ?_
  refine T_else (b := false) rfl rfl ?_
  refine T_skip ?_
  refine T_seq ?_
  by_cases h1 : writeE u d = 0
  · refine T_region [(1, .call [] [(.agg [(iv u), (iv d)])] [] (.tup [(.ssl (vals (valsS (writeN u d))) 0 ((valsS (writeN u d)).length)), (iv 0)]) [])] [ks 1, ks 3, ks 4, kb 0] (fun _ => mixed) (l' := [ps 1 (.opt 0 0), ps 3 (.ssl (vals (valsS (writeN u d))) 0 ((valsS (writeN u d)).length)), ps 4 (iv 0), pb 0 25 [(iv u), (iv d)]]) (obs := [PC Try.prog 9 [(.agg [(iv u), (iv d)])] [] (.tup [(.ssl (vals (valsS (writeN u d))) 0 ((valsS (writeN u d)).length)), (iv 0)]) [], [(.agg [(iv u), (iv d)])] = renL (sigi [] 40) [(.agg [(iv u), (iv d)])]]) (by kernel_rfl) (obs_cons (p := PC Try.prog 9 [(.agg [(iv u), (iv d)])] [] (.tup [(.ssl (vals (valsS (writeN u d))) 0 ((valsS (writeN u d)).length)), (iv 0)]) []) (write_yes u d hu hd h1) (obs_cons (p := [(.agg [(iv u), (iv d)])] = renL (sigi [] 40) [(.agg [(iv u), (iv d)])]) rfl (obs_nil))) ?_
    refine T_seq ?_
    refine T_seq ?_
    refine T_region [] [ks 1, ks 3, ks 19, kb 0] (fun _ => mixed) (l' := [ps 1 (.opt 0 0), ps 3 (.ssl (vals (valsS (writeN u d))) 0 ((valsS (writeN u d)).length)), ps 19 (bv false), pb 0 25 [(iv u), (iv d)]]) (obs := []) (by kernel_rfl) (obs_nil) ?_
    refine T_else (b := false) rfl rfl ?_
    refine T_skip ?_
    refine T_seq ?_
    refine T_seq ?_
    refine T_region [] [ks 1, ks 3, ks 22, kb 0] (fun _ => mixed) (l' := [ps 1 (.opt 0 0), ps 3 (.ssl (vals (valsS (writeN u d))) 0 ((valsS (writeN u d)).length)), ps 22 (bv (decide (70000 < (((valsS (writeN u d)).length : Nat) : Int)))), pb 0 25 [(iv u), (iv d)]]) (obs := []) (by kernel_rfl) (obs_nil) ?_
    have h2 : ¬ (70000 < (((valsS (writeN u d)).length : Nat) : Int)) := by have := valsS_len h1; omega
    refine T_else (b := (decide (70000 < (((valsS (writeN u d)).length : Nat) : Int)))) rfl (decide_eq_false h2) ?_
    refine T_skip ?_
    refine T_seq ?_
    refine T_region [] [ks 1, ks 3, ks 5, kb 0, kb 136] (fun _ => mixed) (l' := [ps 1 (.opt 0 0), ps 3 (.ssl (vals (valsS (writeN u d))) 0 ((valsS (writeN u d)).length)), ps 5 (.opt 136 0), pb 0 25 [(iv u), (iv d)], pb 136 25 [(iv 0), (iv 1)]]) (obs := []) (by kernel_rfl) (obs_nil) ?_
    refine T_seq ?_
    refine T_region [] [ks 1, ks 3, ks 5, ks 6, kb 0, kb 136, kb 160] (fun _ => mixed) (l' := [ps 1 (.opt 0 0), ps 3 (.ssl (vals (valsS (writeN u d))) 0 ((valsS (writeN u d)).length)), ps 5 (.opt 136 0), ps 6 (.opt 160 0), pb 0 25 [(iv u), (iv d)], pb 136 25 [(iv 0), (iv 1)], pb 160 25 [(iv 2), (iv 1)]]) (obs := []) (by kernel_rfl) (obs_nil) ?_
    refine T_seq ?_
    refine T_seq ?_
    refine T_region [] [ks 1, ks 5, ks 6, ks 25, ks 26, ks 27, kb 0, kb 136, kb 160] (fun _ => mixed) (l' := [ps 1 (.opt 0 0), ps 5 (.opt 136 0), ps 6 (.opt 160 0), ps 25 (.ssl (vals (valsS (writeN u d))) 0 ((valsS (writeN u d)).length)), ps 26 (iv (((valsS (writeN u d)).length : Nat) : Int)), ps 27 (iv 0), pb 0 25 [(iv u), (iv d)], pb 136 25 [(iv 0), (iv 1)], pb 160 25 [(iv 2), (iv 1)]]) (obs := []) (by kernel_rfl) (obs_nil) ?_
    refine T_block ?_
    have hV := vals_low (writeN u d)
    have hN := (write_num h1).2.2
    refine T_loop (α := {x : Nat × Int × Int × Int × Int // x.1 ≤ (valsS (writeN u d)).length ∧ rightB x.2.1 x.2.2.1 = true ∧ rightB x.2.2.2.1 x.2.2.2.2 = true ∧ x.2.1 * 1024 = wsum (valsS (writeN u d)) x.1 * x.2.2.1 ∧ x.2.2.2.1 * 1024 = lastW (valsS (writeN u d)) x.1 * x.2.2.2.2}) (fun x => [ps 1 (.opt 0 0), ps 5 (.opt 1 0), ps 6 (.opt 2 0), ps 25 (.ssl (vals (valsS (writeN u d))) 0 ((valsS (writeN u d)).length)), ps 26 (iv (((valsS (writeN u d)).length : Nat) : Int)), ps 27 (iv ((x.1.1 : Nat) : Int)), pb 0 25 [(iv u), (iv d)], pb 1 25 [(iv x.1.2.1), (iv x.1.2.2.1)], pb 2 25 [(iv x.1.2.2.2.1), (iv x.1.2.2.2.2)]]) (fun x => (valsS (writeN u d)).length - x.1.1) 3 ⟨(0, 0, 1, 2, 1), ⟨Nat.zero_le _, by decide +kernel, by decide +kernel, by simp [wsum], by simp [lastW]⟩⟩ (Wk.ren2 [ps 1 (.opt 0 0), ps 5 (.opt 1 0), ps 6 (.opt 2 0), ps 25 (.ssl (vals (valsS (writeN u d))) 0 ((valsS (writeN u d)).length)), ps 26 (iv (((valsS (writeN u d)).length : Nat) : Int)), ps 27 (iv ((0 : Nat) : Int)), pb 0 25 [(iv u), (iv d)], pb 1 25 [(iv 0), (iv 1)], pb 2 25 [(iv 2), (iv 1)]] 0 hc0 [0, 136, 160] rfl rfl (by kernel_rfl) (by kernel_rfl)) ?_
    rintro ⟨⟨i, a, b, c, e⟩, ⟨hi, hab, hce, haw, hcw⟩⟩
    dsimp only at hi hab hce haw hcw
    refine T_seq ?_
    refine T_region [] [ks 1, ks 5, ks 6, ks 25, ks 26, ks 27, ks 28, kb 0, kb 1, kb 2] (fun _ => mixed) (l' := [ps 1 (.opt 0 0), ps 5 (.opt 1 0), ps 6 (.opt 2 0), ps 25 (.ssl (vals (valsS (writeN u d))) 0 ((valsS (writeN u d)).length)), ps 26 (iv (((valsS (writeN u d)).length : Nat) : Int)), ps 27 (iv ((i : Nat) : Int)), ps 28 (bv (decide (((i : Nat) : Int) < (((valsS (writeN u d)).length : Nat) : Int)))), pb 0 25 [(iv u), (iv d)], pb 1 25 [(iv a), (iv b)], pb 2 25 [(iv c), (iv e)]]) (obs := []) (by kernel_rfl) (obs_nil) ?_
    refine T_seq ?_
    by_cases h3 : ((i : Nat) : Int) < (((valsS (writeN u d)).length : Nat) : Int)
    · refine T_then (b := (decide (((i : Nat) : Int) < (((valsS (writeN u d)).length : Nat) : Int)))) rfl (decide_eq_true h3) ?_
      refine T_skip ?_
      refine T_seq ?_
      refine T_block ?_
      refine T_seq ?_
      refine T_region [(0, .nat (i * 2)), (1, .cells [(iv (((valsS (writeN u d)).getD i (0, 0)).1)), (iv (((valsS (writeN u d)).getD i (0, 0)).2))])] [ks 1, ks 5, ks 6, ks 8, ks 25, ks 26, ks 27, kb 0, kb 1, kb 2, kb 27] (fun _ => mixed) (l' := [ps 1 (.opt 0 0), ps 5 (.opt 1 0), ps 6 (.opt 2 0), ps 8 (.opt 27 0), ps 25 (.ssl (vals (valsS (writeN u d))) 0 ((valsS (writeN u d)).length)), ps 26 (iv (((valsS (writeN u d)).length : Nat) : Int)), ps 27 (iv ((i : Nat) : Int)), pb 0 25 [(iv u), (iv d)], pb 1 25 [(iv a), (iv b)], pb 2 25 [(iv c), (iv e)], pb 27 23 [(iv (((valsS (writeN u d)).getD i (0, 0)).1)), (iv (((valsS (writeN u d)).getD i (0, 0)).2))]]) (obs := [(0 : Int) ≤ ((i : Nat) : Int) ∧ ((i : Nat) : Int) < (((valsS (writeN u d)).length : Nat) : Int), 0 + (((i : Nat) : Int) : Int).toNat * 2 = (i * 2), (i * 2) + 2 ≤ ((vals (valsS (writeN u d)))).length ∧ (((vals (valsS (writeN u d)))).drop (i * 2)).take 2 = [(iv (((valsS (writeN u d)).getD i (0, 0)).1)), (iv (((valsS (writeN u d)).getD i (0, 0)).2))]]) (by kernel_rfl) (obs_cons (p := (0 : Int) ≤ ((i : Nat) : Int) ∧ ((i : Nat) : Int) < (((valsS (writeN u d)).length : Nat) : Int)) (by omega) (obs_cons (p := 0 + (((i : Nat) : Int) : Int).toNat * 2 = (i * 2)) (by omega) (obs_cons (p := (i * 2) + 2 ≤ ((vals (valsS (writeN u d)))).length ∧ (((vals (valsS (writeN u d)))).drop (i * 2)).take 2 = [(iv (((valsS (writeN u d)).getD i (0, 0)).1)), (iv (((valsS (writeN u d)).getD i (0, 0)).2))]) (flat_at valC 2 (fun _ => rfl) (0, 0) (valsS (writeN u d)) i 0 2 (by omega) (by decide)) (obs_nil)))) ?_
      refine T_seq ?_
      have hlow := low_last hV (i := i) (by omega)
      obtain ⟨p, q, hlen, hpq, hpw⟩ := len_of hlow.1
      have hok := hlow.1
      simp only [okV, Bool.and_eq_true, decide_eq_true_eq] at hok
      refine T_region [(1, .call [] [(.agg [(iv (((valsS (writeN u d)).getD i (0, 0)).1)), (iv (((valsS (writeN u d)).getD i (0, 0)).2))])] [] (.tup [(.agg [(iv p), (iv q)]), (iv 0)]) [])] [ks 1, ks 5, ks 6, ks 9, ks 10, ks 25, ks 26, ks 27, kb 0, kb 1, kb 2, kb 83] (fun _ => mixed) (l' := [ps 1 (.opt 0 0), ps 5 (.opt 1 0), ps 6 (.opt 2 0), ps 9 (.opt 83 0), ps 10 (iv 0), ps 25 (.ssl (vals (valsS (writeN u d))) 0 ((valsS (writeN u d)).length)), ps 26 (iv (((valsS (writeN u d)).length : Nat) : Int)), ps 27 (iv ((i : Nat) : Int)), pb 0 25 [(iv u), (iv d)], pb 1 25 [(iv a), (iv b)], pb 2 25 [(iv c), (iv e)], pb 83 25 [(iv p), (iv q)]]) (obs := [PC Try.prog 7 [(.agg [(iv (((valsS (writeN u d)).getD i (0, 0)).1)), (iv (((valsS (writeN u d)).getD i (0, 0)).2))])] [] (.tup [(.agg [(iv p), (iv q)]), (iv 0)]) [], [(.agg [(iv (((valsS (writeN u d)).getD i (0, 0)).1)), (iv (((valsS (writeN u d)).getD i (0, 0)).2))])] = renL (sigi [] 51) [(.agg [(iv (((valsS (writeN u d)).getD i (0, 0)).1)), (iv (((valsS (writeN u d)).getD i (0, 0)).2))])]]) (by kernel_rfl) (obs_cons (p := PC Try.prog 7 [(.agg [(iv (((valsS (writeN u d)).getD i (0, 0)).1)), (iv (((valsS (writeN u d)).getD i (0, 0)).2))])] [] (.tup [(.agg [(iv p), (iv q)]), (iv 0)]) []) (by have h0 := length_pc (((valsS (writeN u d)).getD i (0, 0))).1 (((valsS (writeN u d)).getD i (0, 0))).2 (by unfold Fr.I64; omega) (by unfold Fr.I64; omega); rw [hlen] at h0; exact h0) (obs_cons (p := [(.agg [(iv (((valsS (writeN u d)).getD i (0, 0)).1)), (iv (((valsS (writeN u d)).getD i (0, 0)).2))])] = renL (sigi [] 51) [(.agg [(iv (((valsS (writeN u d)).getD i (0, 0)).1)), (iv (((valsS (writeN u d)).getD i (0, 0)).2))])]) rfl (obs_nil))) ?_
      refine T_seq ?_
      refine T_seq ?_
      refine T_region [(3, .gd false (.no)), (4, .gd false (.no)), (5, .gd false (.call [] [(.agg [(iv p), (iv q)]), (.agg [(iv c), (iv e)])] [] (iv (signI (p * e - c * q))) [])), (6, .gd false (.no))] [ks 1, ks 5, ks 6, ks 9, ks 25, ks 26, ks 27, ks 43, kb 0, kb 1, kb 2, kb 83] (fun _ => mixed) (l' := [ps 1 (.opt 0 0), ps 5 (.opt 1 0), ps 6 (.opt 2 0), ps 9 (.opt 83 0), ps 25 (.ssl (vals (valsS (writeN u d))) 0 ((valsS (writeN u d)).length)), ps 26 (iv (((valsS (writeN u d)).length : Nat) : Int)), ps 27 (iv ((i : Nat) : Int)), ps 43 (bv (decide (0 < (signI (p * e - c * q))))), pb 0 25 [(iv u), (iv d)], pb 1 25 [(iv a), (iv b)], pb 2 25 [(iv c), (iv e)], pb 83 25 [(iv p), (iv q)]]) (obs := [false = false, false = false, false = false, PC Try.prog 13 [(.agg [(iv p), (iv q)]), (.agg [(iv c), (iv e)])] [] (iv (signI (p * e - c * q))) [], [(.agg [(iv p), (iv q)]), (.agg [(iv c), (iv e)])] = renL (sigi [] 147) [(.agg [(iv p), (iv q)]), (.agg [(iv c), (iv e)])], false = false]) (by kernel_rfl) (obs_cons (p := false = false) rfl (obs_cons (p := false = false) rfl (obs_cons (p := false = false) rfl (obs_cons (p := PC Try.prog 13 [(.agg [(iv p), (iv q)]), (.agg [(iv c), (iv e)])] [] (iv (signI (p * e - c * q))) []) (sign_pc p q c e hpq hce) (obs_cons (p := [(.agg [(iv p), (iv q)]), (.agg [(iv c), (iv e)])] = renL (sigi [] 147) [(.agg [(iv p), (iv q)]), (.agg [(iv c), (iv e)])]) rfl (obs_cons (p := false = false) rfl (obs_nil))))))) ?_
      have h4 : ¬ (0 < (signI (p * e - c * q))) := sign_le hpw hcw hpq hce hlow.2.2
      refine T_else (b := (decide (0 < (signI (p * e - c * q))))) rfl (decide_eq_false h4) ?_
      refine T_skip ?_
      refine T_seq ?_
      refine T_region [] [ks 1, ks 5, ks 6, ks 9, ks 25, ks 26, ks 27, kb 0, kb 1, kb 2, kb 83] (fun _ => mixed) (l' := [ps 1 (.opt 0 0), ps 5 (.opt 1 0), ps 6 (.opt 2 0), ps 9 (.opt 83 0), ps 25 (.ssl (vals (valsS (writeN u d))) 0 ((valsS (writeN u d)).length)), ps 26 (iv (((valsS (writeN u d)).length : Nat) : Int)), ps 27 (iv ((i : Nat) : Int)), pb 0 25 [(iv u), (iv d)], pb 1 25 [(iv a), (iv b)], pb 2 25 [(iv p), (iv q)], pb 83 25 [(iv p), (iv q)]]) (obs := []) (by kernel_rfl) (obs_nil) ?_
      refine T_seq ?_
      have hs1 := wsum_bd hV (i + 1) (by omega)
      rw [wsum_next (by omega), wsum_all] at hs1
      obtain ⟨x, y, hpl, hxy, hxw⟩ := sum_step hab hpq haw hpw hs1.1 (by omega)
      refine T_region [(2, .call [] [(.agg [(iv a), (iv b)]), (.agg [(iv p), (iv q)])] [] (.tup [(.agg [(iv x), (iv y)]), (iv 0)]) [])] [ks 1, ks 5, ks 6, ks 10, ks 25, ks 26, ks 27, kb 0, kb 1, kb 2] (fun _ => mixed) (l' := [ps 1 (.opt 0 0), ps 5 (.opt 1 0), ps 6 (.opt 2 0), ps 10 (iv 0), ps 25 (.ssl (vals (valsS (writeN u d))) 0 ((valsS (writeN u d)).length)), ps 26 (iv (((valsS (writeN u d)).length : Nat) : Int)), ps 27 (iv ((i : Nat) : Int)), pb 0 25 [(iv u), (iv d)], pb 1 25 [(iv x), (iv y)], pb 2 25 [(iv p), (iv q)]]) (obs := [PC Try.prog 14 [(.agg [(iv a), (iv b)]), (.agg [(iv p), (iv q)])] [] (.tup [(.agg [(iv x), (iv y)]), (iv 0)]) [], [(.agg [(iv a), (iv b)]), (.agg [(iv p), (iv q)])] = renL (sigi [] 203) [(.agg [(iv a), (iv b)]), (.agg [(iv p), (iv q)])]]) (by kernel_rfl) (obs_cons (p := PC Try.prog 14 [(.agg [(iv a), (iv b)]), (.agg [(iv p), (iv q)])] [] (.tup [(.agg [(iv x), (iv y)]), (iv 0)]) []) (by have h0 := ref_plus_pc a b p q (i64_right hab).1 (i64_right hab).2 (i64_right hpq).1 (i64_right hpq).2; rw [hpl] at h0; exact h0) (obs_cons (p := [(.agg [(iv a), (iv b)]), (.agg [(iv p), (iv q)])] = renL (sigi [] 203) [(.agg [(iv a), (iv b)]), (.agg [(iv p), (iv q)])]) rfl (obs_nil))) ?_
      refine T_seq ?_
      refine T_region [] [ks 1, ks 5, ks 6, ks 25, ks 26, ks 27, ks 52, kb 0, kb 1, kb 2] (fun _ => mixed) (l' := [ps 1 (.opt 0 0), ps 5 (.opt 1 0), ps 6 (.opt 2 0), ps 25 (.ssl (vals (valsS (writeN u d))) 0 ((valsS (writeN u d)).length)), ps 26 (iv (((valsS (writeN u d)).length : Nat) : Int)), ps 27 (iv ((i : Nat) : Int)), ps 52 (bv false), pb 0 25 [(iv u), (iv d)], pb 1 25 [(iv x), (iv y)], pb 2 25 [(iv p), (iv q)]]) (obs := []) (by kernel_rfl) (obs_nil) ?_
      refine T_else (b := false) rfl rfl ?_
      refine T_skip ?_
      refine T_blk ?_
      refine T_region [] [ks 1, ks 5, ks 6, ks 25, ks 26, ks 27, kb 0, kb 1, kb 2] (fun _ => mixed) (l' := [ps 1 (.opt 0 0), ps 5 (.opt 1 0), ps 6 (.opt 2 0), ps 25 (.ssl (vals (valsS (writeN u d))) 0 ((valsS (writeN u d)).length)), ps 26 (iv (((valsS (writeN u d)).length : Nat) : Int)), ps 27 (iv (((i : Nat) : Int) + 1)), pb 0 25 [(iv u), (iv d)], pb 1 25 [(iv x), (iv y)], pb 2 25 [(iv p), (iv q)]]) (obs := [InK .i64 (((i : Nat) : Int) + 1)]) (by kernel_rfl) (obs_cons (p := InK .i64 (((i : Nat) : Int) + 1)) (by simp only [InK]; omega) (obs_nil)) ?_
      exact T_back ⟨(i + 1, x, y, p, q), ⟨by omega, hxy, hpq, by rw [wsum_next (by omega)]; exact hxw, hpw⟩⟩ (Wk.ren2 [ps 1 (.opt 0 0), ps 5 (.opt 1 0), ps 6 (.opt 2 0), ps 25 (.ssl (vals (valsS (writeN u d))) 0 ((valsS (writeN u d)).length)), ps 26 (iv (((valsS (writeN u d)).length : Nat) : Int)), ps 27 (iv (((i + 1) : Nat) : Int)), pb 0 25 [(iv u), (iv d)], pb 1 25 [(iv x), (iv y)], pb 2 25 [(iv p), (iv q)]] 0 hc0 [0, 1, 2] rfl rfl (by kernel_rfl) (by kernel_rfl)) (show (valsS (writeN u d)).length - (i + 1) < (valsS (writeN u d)).length - i from by show (valsS (writeN u d)).length - (i + 1) < (valsS (writeN u d)).length - i; omega)
    · refine T_else (b := (decide (((i : Nat) : Int) < (((valsS (writeN u d)).length : Nat) : Int)))) rfl (decide_eq_false h3) ?_
      refine T_break rfl rfl ?_
      refine T_seq ?_
      refine T_region [] [ks 2] (fun _ => mixed) (l' := [ps 2 (bv ((decide (a = u)) && (decide (b = d))))]) (obs := []) (by kernel_rfl) (obs_nil) ?_
      obtain rfl : i = (valsS (writeN u d)).length := by omega
      rw [wsum_all] at haw
      have hend := whole_end hab h1 (writeE_right h1) haw
      refine T_wk (Wk.eq (show [ps 2 (bv ((decide (a = u)) && (decide (b = d))))] = [ps 2 (bv true)] from by rw [hend.1, hend.2]; simp)) ?_
      exact T_ret fun cx_ a_ hI_ => ret_ok (H' := []) (.inr rfl) (Wk.ren2 [ps 2 (bv true)] 0 hc0 [] rfl rfl (by kernel_rfl) (by kernel_rfl)) rfl (obs_nil) (fun cx_ a_ hI_ => ret_res (l' := [ps 2 (bv true)]) (by kernel_rfl) cx_ a_ hI_) hI_
  · refine T_region [(1, .call [] [(.agg [(iv u), (iv d)])] [] (.tup [(.ssl [] 0 0), (iv (writeE u d))]) [])] [ks 1, ks 3, ks 4, kb 0] (fun _ => mixed) (l' := [ps 1 (.opt 0 0), ps 3 (.ssl [] 0 0), ps 4 (iv (writeE u d)), pb 0 25 [(iv u), (iv d)]]) (obs := [PC Try.prog 9 [(.agg [(iv u), (iv d)])] [] (.tup [(.ssl [] 0 0), (iv (writeE u d))]) [], [(.agg [(iv u), (iv d)])] = renL (sigi [] 40) [(.agg [(iv u), (iv d)])]]) (by kernel_rfl) (obs_cons (p := PC Try.prog 9 [(.agg [(iv u), (iv d)])] [] (.tup [(.ssl [] 0 0), (iv (writeE u d))]) []) (write_no u d hu hd h1) (obs_cons (p := [(.agg [(iv u), (iv d)])] = renL (sigi [] 40) [(.agg [(iv u), (iv d)])]) rfl (obs_nil))) ?_
    refine T_seq ?_
    refine T_seq ?_
    refine T_region [] [ks 1, ks 3, ks 19, kb 0] (fun _ => mixed) (l' := [ps 1 (.opt 0 0), ps 3 (.ssl [] 0 0), ps 19 (bv (!(decide ((writeE u d) = 0)))), pb 0 25 [(iv u), (iv d)]]) (obs := []) (by kernel_rfl) (obs_nil) ?_
    have h5 : ¬ ((writeE u d) = 0) := h1
    refine T_then (b := (!(decide ((writeE u d) = 0)))) rfl (congrArg Bool.not (decide_eq_false h5)) ?_
    refine T_seq ?_
    refine T_region [] [ks 2] (fun _ => mixed) (l' := [ps 2 (bv true)]) (obs := []) (by kernel_rfl) (obs_nil) ?_
    exact T_ret fun cx_ a_ hI_ => ret_ok (H' := []) (.inr rfl) (Wk.ren2 [ps 2 (bv true)] 0 hc0 [] rfl rfl (by kernel_rfl) (by kernel_rfl)) rfl (obs_nil) (fun cx_ a_ hI_ => ret_res (l' := [ps 2 (bv true)]) (by kernel_rfl) cx_ a_ hI_) hI_
end Go.Proofs.Ytccpefbfjahfnaa.Pm
namespace Go.Proofs.Ytccpefbfjahfnaa.Pm
open Go Fr

theorem kcs_shd (l : List Beat) : shds (kcs l) := by
  rw [kcs_flat]
  exact flat_shd gB (fun _ => rfl) l
theorem kcs_len (l : List Beat) : (kcs l).length = l.length * 3 := by
  rw [kcs_flat]
  exact flat_len gB 3 (fun _ => rfl) l
theorem kcs_snoc (A : List Beat) (x : Beat) (n : Int) : kcs A ++ [iv (kd x), iv (sh x * n), .ssl (kcs (scL n (kids x))) 0 (scL n (kids x)).length] = kcs (A ++ [scB n x]) := by
  rw [kcs_flat (A ++ [scB n x]), kcs_flat A, List.flatMap_append, scB_eq]
  rfl
theorem scL_next {A : List Beat} {n : Int} {l : List Beat} {i : Nat} {R : List Beat} (h : i < l.length) (hA : A ++ scL n (l.drop i) = R) : (A ++ [scB n (l.getD i dB)]) ++ scL n (l.drop (i + 1)) = R := by
  rw [drop_cons h, scL] at hA
  rw [List.append_assoc, List.singleton_append]
  exact hA
set_option maxRecDepth 100000 in
theorem scaled_step (n : Int) (hn1 : 1 ≤ n) (hn2 : n ≤ 1000) (b : Beat) (ih : ∀ c : Beat, SizeOf.sizeOf c < SizeOf.sizeOf b → good c → cnt c ≤ 4096 → PC Try.prog 20 [.agg (gB c), iv n] [] (.agg (gB (scT n c))) [none]) (hgood : good b) (hc : cnt b ≤ 4096) : PC Try.prog 20 [(.agg [(iv (kd b)), (iv (sh b)), (.ssl (kc b) 0 ((kids b).length))]), (iv n)] [] (.agg [(iv (kd b)), (iv (sh b)), (.ssl (kcs (scL n (kids b))) 0 ((scL n (kids b)).length))]) [none] := by
  refine pc_intro Try.func20 rfl (by kernel_rfl) (Nat.le_of_ble_eq_true rfl) (by kernel_rfl) (l0 := [ps 0 (.agg [(iv (kd b)), (iv (sh b)), (.ssl (kc b) 0 ((kids b).length))]), ps 1 (iv n)]) rfl (fun c0 Bor hc0 => ?_)
  refine T_seq ?_
  refine T_region [] [ks 1, ks 2, ks 4, kb 0, kb 8] (fun _ => mixed) (l' := [ps 1 (iv n), ps 2 (.opt 0 0), ps 4 (.opt 8 0), pb 0 40 [(iv (kd b)), (iv (sh b)), (.ssl (kc b) 0 ((kids b).length))], pb 8 40 [(iv 0), (iv 0), (.av (.slice none 0 0))]]) (obs := []) (by kernel_rfl) (obs_nil) ?_
  refine T_seq ?_
  refine T_region [] [ks 1, ks 2, ks 4, ks 5, kb 0, kb 8, kb 56] (fun _ => mixed) (l' := [ps 1 (iv n), ps 2 (.opt 0 0), ps 4 (.opt 8 0), ps 5 (.opt 56 0), pb 0 40 [(iv (kd b)), (iv (sh b)), (.ssl (kc b) 0 ((kids b).length))], pb 8 40 [(iv 0), (iv 0), (.av (.slice none 0 0))], pb 56 40 [(iv (kd b)), (iv (sh b)), (.av (.slice none 0 0))]]) (obs := []) (by kernel_rfl) (obs_nil) ?_
  refine T_seq ?_
  refine T_seq ?_
  refine T_region [] [ks 1, ks 4, ks 5, ks 15, ks 16, ks 17, kb 8, kb 56] (fun _ => mixed) (l' := [ps 1 (iv n), ps 4 (.opt 8 0), ps 5 (.opt 56 0), ps 15 (.ssl (kc b) 0 ((kids b).length)), ps 16 (iv (((kids b).length : Nat) : Int)), ps 17 (iv 0), pb 8 40 [(iv 0), (iv 0), (.av (.slice none 0 0))], pb 56 40 [(iv (kd b)), (iv (sh b)), (.av (.slice none 0 0))]]) (obs := []) (by kernel_rfl) (obs_nil) ?_
  refine T_block ?_
  obtain ⟨hg1, hg2, hg3, hg⟩ := (good_eq b).1 hgood
  have hcn := cnt_eq b
  have hkl := cntL_len (kids b)
  refine T_wk (Wk.nilc (B := 40) (cells := [(iv (kd b)), (iv (sh b)), (.av (.slice none 0 0))]) 56 2 40 (by kernel_rfl) rfl) ?_
  refine T_wk (Wk.less (l' := [ps 1 (iv n), ps 4 (.opt 8 0), ps 5 (.opt 56 0), ps 15 (.ssl (kc b) 0 ((kids b).length)), ps 16 (iv (((kids b).length : Nat) : Int)), ps 17 (iv 0), pb 8 40 [(iv 0), (iv 0), (.av (.slice none 0 0))], pb 56 40 [(iv (kd b)), (iv (sh b)), (.osl 104 0 0)], pb 104 40 []]) 105 (by kernel_rfl) (by kernel_rfl)) ?_
  refine T_wk (Wk.eq (show [ps 1 (iv n), ps 4 (.opt 8 0), ps 5 (.opt 56 0), ps 15 (.ssl (kc b) 0 ((kids b).length)), ps 16 (iv (((kids b).length : Nat) : Int)), ps 17 (iv 0), pb 8 40 [(iv 0), (iv 0), (.av (.slice none 0 0))], pb 56 40 [(iv (kd b)), (iv (sh b)), (.osl 104 0 0)], pb 104 40 []] = [ps 1 (iv n), ps 4 (.opt 8 0), ps 5 (.opt 56 0), ps 15 (.ssl (kc b) 0 ((kids b).length)), ps 16 (iv (((kids b).length : Nat) : Int)), ps 17 (iv 0), pb 8 40 [(iv 0), (iv 0), (.av (.slice none 0 0))], pb 56 40 [(iv (kd b)), (iv (sh b)), (.osl 104 0 (([] : List Beat).length))], pb 104 40 (kcs [])] from by rfl)) ?_
  refine T_loop (α := {x : Nat × List Beat // x.1 ≤ (kids b).length ∧ x.2 ++ scL n ((kids b).drop x.1) = scL n (kids b) ∧ x.2.length = x.1 ∧ cntL ((kids b).drop x.1) ≤ cntL (kids b)}) (fun x => [ps 1 (iv n), ps 4 (.opt 0 0), ps 5 (.opt 1 0), ps 15 (.ssl (kc b) 0 ((kids b).length)), ps 16 (iv (((kids b).length : Nat) : Int)), ps 17 (iv ((x.1.1 : Nat) : Int)), pb 0 40 [(iv 0), (iv 0), (.av (.slice none 0 0))], pb 1 40 [(iv (kd b)), (iv (sh b)), (.osl 2 0 x.1.2.length)], pb 2 40 (kcs x.1.2)]) (fun x => (kids b).length - x.1.1) 3 ⟨(0, []), ⟨Nat.zero_le _, rfl, rfl, Nat.le_refl _⟩⟩ (Wk.ren3 [ps 1 (iv n), ps 4 (.opt 0 0), ps 5 (.opt 1 0), ps 15 (.ssl (kc b) 0 ((kids b).length)), ps 16 (iv (((kids b).length : Nat) : Int)), ps 17 (iv ((0 : Nat) : Int)), pb 0 40 [(iv 0), (iv 0), (.av (.slice none 0 0))], pb 1 40 [(iv (kd b)), (iv (sh b)), (.osl 2 0 [].length)], pb 2 40 (kcs [])] 0 hc0 [8, 56, 104] [(kb 2, (kcs []))] (obs_cons (kcs_shd _) (obs_nil)) (by kernel_rfl) rfl rfl (by kernel_rfl) (by kernel_rfl)) ?_
  rintro ⟨⟨i, A⟩, ⟨hi, hA, hAl, hcd⟩⟩
  dsimp only at hi hA hAl hcd
  refine T_seq ?_
  refine T_region [] [ks 1, ks 4, ks 5, ks 15, ks 16, ks 17, ks 18, kb 0, kb 1, kb 2] (fun _ => mixed) (l' := [ps 1 (iv n), ps 4 (.opt 0 0), ps 5 (.opt 1 0), ps 15 (.ssl (kc b) 0 ((kids b).length)), ps 16 (iv (((kids b).length : Nat) : Int)), ps 17 (iv ((i : Nat) : Int)), ps 18 (bv (decide (((i : Nat) : Int) < (((kids b).length : Nat) : Int)))), pb 0 40 [(iv 0), (iv 0), (.av (.slice none 0 0))], pb 1 40 [(iv (kd b)), (iv (sh b)), (.osl 2 0 A.length)], pb 2 40 (kcs A)]) (obs := []) (by kernel_rfl) (obs_nil) ?_
  refine T_seq ?_
  by_cases h1 : ((i : Nat) : Int) < (((kids b).length : Nat) : Int)
  · refine T_then (b := (decide (((i : Nat) : Int) < (((kids b).length : Nat) : Int)))) rfl (decide_eq_true h1) ?_
    refine T_skip ?_
    refine T_seq ?_
    refine T_block ?_
    refine T_seq ?_
    refine T_region [(0, .nat (i * 3)), (1, .cells [(iv (kd ((kids b).getD i dB))), (iv (sh ((kids b).getD i dB))), (.ssl (kc ((kids b).getD i dB)) 0 ((kids ((kids b).getD i dB)).length))])] [ks 1, ks 4, ks 5, ks 7, ks 15, ks 16, ks 17, kb 0, kb 1, kb 2, kb 27] (fun _ => mixed) (l' := [ps 1 (iv n), ps 4 (.opt 0 0), ps 5 (.opt 1 0), ps 7 (.opt 27 0), ps 15 (.ssl (kc b) 0 ((kids b).length)), ps 16 (iv (((kids b).length : Nat) : Int)), ps 17 (iv ((i : Nat) : Int)), pb 0 40 [(iv 0), (iv 0), (.av (.slice none 0 0))], pb 1 40 [(iv (kd b)), (iv (sh b)), (.osl 2 0 A.length)], pb 2 40 (kcs A), pb 27 40 [(iv (kd ((kids b).getD i dB))), (iv (sh ((kids b).getD i dB))), (.ssl (kc ((kids b).getD i dB)) 0 ((kids ((kids b).getD i dB)).length))]]) (obs := [(0 : Int) ≤ ((i : Nat) : Int) ∧ ((i : Nat) : Int) < (((kids b).length : Nat) : Int), 0 + (((i : Nat) : Int) : Int).toNat * 3 = (i * 3), (i * 3) + 3 ≤ ((kc b)).length ∧ (((kc b)).drop (i * 3)).take 3 = [(iv (kd ((kids b).getD i dB))), (iv (sh ((kids b).getD i dB))), (.ssl (kc ((kids b).getD i dB)) 0 ((kids ((kids b).getD i dB)).length))]]) (by kernel_rfl) (obs_cons (p := (0 : Int) ≤ ((i : Nat) : Int) ∧ ((i : Nat) : Int) < (((kids b).length : Nat) : Int)) (by omega) (obs_cons (p := 0 + (((i : Nat) : Int) : Int).toNat * 3 = (i * 3)) (by omega) (obs_cons (p := (i * 3) + 3 ≤ ((kc b)).length ∧ (((kc b)).drop (i * 3)).take 3 = [(iv (kd ((kids b).getD i dB))), (iv (sh ((kids b).getD i dB))), (.ssl (kc ((kids b).getD i dB)) 0 ((kids ((kids b).getD i dB)).length))]) (kc_at b i 0 3 (by omega) (by decide)) (obs_nil)))) ?_
    refine T_seq ?_
    refine T_region [(2, .call [] [(.agg [(iv (kd ((kids b).getD i dB))), (iv (sh ((kids b).getD i dB))), (.ssl (kc ((kids b).getD i dB)) 0 ((kids ((kids b).getD i dB)).length))]), (iv n)] [] (.agg [(iv (kd ((kids b).getD i dB))), (iv (sh ((kids b).getD i dB))), (.ssl (kcs (scL n (kids ((kids b).getD i dB)))) 0 ((scL n (kids ((kids b).getD i dB))).length))]) [none])] [ks 1, ks 4, ks 5, ks 8, ks 15, ks 16, ks 17, kb 0, kb 1, kb 2, kb 67] (fun _ => mixed) (l' := [ps 1 (iv n), ps 4 (.opt 0 0), ps 5 (.opt 1 0), ps 8 (.opt 67 0), ps 15 (.ssl (kc b) 0 ((kids b).length)), ps 16 (iv (((kids b).length : Nat) : Int)), ps 17 (iv ((i : Nat) : Int)), pb 0 40 [(iv 0), (iv 0), (.av (.slice none 0 0))], pb 1 40 [(iv (kd b)), (iv (sh b)), (.osl 2 0 A.length)], pb 2 40 (kcs A), pb 67 40 [(iv (kd ((kids b).getD i dB))), (iv (sh ((kids b).getD i dB))), (.ssl (kcs (scL n (kids ((kids b).getD i dB)))) 0 ((scL n (kids ((kids b).getD i dB))).length))]]) (obs := [PC Try.prog 20 [(.agg [(iv (kd ((kids b).getD i dB))), (iv (sh ((kids b).getD i dB))), (.ssl (kc ((kids b).getD i dB)) 0 ((kids ((kids b).getD i dB)).length))]), (iv n)] [] (.agg [(iv (kd ((kids b).getD i dB))), (iv (sh ((kids b).getD i dB))), (.ssl (kcs (scL n (kids ((kids b).getD i dB)))) 0 ((scL n (kids ((kids b).getD i dB))).length))]) [none], [(.agg [(iv (kd ((kids b).getD i dB))), (iv (sh ((kids b).getD i dB))), (.ssl (kc ((kids b).getD i dB)) 0 ((kids ((kids b).getD i dB)).length))]), (iv n)] = renL (sigi [] 59) [(.agg [(iv (kd ((kids b).getD i dB))), (iv (sh ((kids b).getD i dB))), (.ssl (kc ((kids b).getD i dB)) 0 ((kids ((kids b).getD i dB)).length))]), (iv n)]]) (by kernel_rfl) (obs_cons (p := PC Try.prog 20 [(.agg [(iv (kd ((kids b).getD i dB))), (iv (sh ((kids b).getD i dB))), (.ssl (kc ((kids b).getD i dB)) 0 ((kids ((kids b).getD i dB)).length))]), (iv n)] [] (.agg [(iv (kd ((kids b).getD i dB))), (iv (sh ((kids b).getD i dB))), (.ssl (kcs (scL n (kids ((kids b).getD i dB)))) 0 ((scL n (kids ((kids b).getD i dB))).length))]) [none]) (ih ((kids b).getD i dB) (kids_lt (by omega)) (goodL_at hg (by omega)) (by have := cntL_at (l := kids b) (i := i) (by omega); omega)) (obs_cons (p := [(.agg [(iv (kd ((kids b).getD i dB))), (iv (sh ((kids b).getD i dB))), (.ssl (kc ((kids b).getD i dB)) 0 ((kids ((kids b).getD i dB)).length))]), (iv n)] = renL (sigi [] 59) [(.agg [(iv (kd ((kids b).getD i dB))), (iv (sh ((kids b).getD i dB))), (.ssl (kc ((kids b).getD i dB)) 0 ((kids ((kids b).getD i dB)).length))]), (iv n)]) rfl (obs_nil))) ?_
    refine T_seq ?_
    have hgx := (good_eq _).1 (goodL_at hg (show i < (kids b).length by omega))
    have hm1 := Int.mul_le_mul hgx.2.1 hn2 (by omega) (by omega)
    have hm2 := Int.mul_nonneg (show 0 ≤ sh ((kids b).getD i dB) by omega) (show 0 ≤ n by omega)
    refine T_region [] [ks 1, ks 4, ks 5, ks 8, ks 15, ks 16, ks 17, kb 0, kb 1, kb 2, kb 67] (fun _ => mixed) (l' := [ps 1 (iv n), ps 4 (.opt 0 0), ps 5 (.opt 1 0), ps 8 (.opt 67 0), ps 15 (.ssl (kc b) 0 ((kids b).length)), ps 16 (iv (((kids b).length : Nat) : Int)), ps 17 (iv ((i : Nat) : Int)), pb 0 40 [(iv 0), (iv 0), (.av (.slice none 0 0))], pb 1 40 [(iv (kd b)), (iv (sh b)), (.osl 2 0 A.length)], pb 2 40 (kcs A), pb 67 40 [(iv (kd ((kids b).getD i dB))), (iv ((sh ((kids b).getD i dB)) * n)), (.ssl (kcs (scL n (kids ((kids b).getD i dB)))) 0 ((scL n (kids ((kids b).getD i dB))).length))]]) (obs := [InK .i64 ((sh ((kids b).getD i dB)) * n)]) (by kernel_rfl) (obs_cons (p := InK .i64 ((sh ((kids b).getD i dB)) * n)) (by simp only [InK]; omega) (obs_nil)) ?_
    refine T_region [(4, .app none (some (kcs (A ++ [scB n ((kids b).getD i dB)]))))] [ks 1, ks 4, ks 5, ks 15, ks 16, ks 17, kb 0, kb 1, kb 163] (fun _ => mixed) (l' := [ps 1 (iv n), ps 4 (.opt 0 0), ps 5 (.opt 1 0), ps 15 (.ssl (kc b) 0 ((kids b).length)), ps 16 (iv (((kids b).length : Nat) : Int)), ps 17 (iv ((i : Nat) : Int)), pb 0 40 [(iv 0), (iv 0), (.av (.slice none 0 0))], pb 1 40 [(iv (kd b)), (iv (sh b)), (.osl 163 0 (A.length + 1))], pb 163 40 (kcs (A ++ [scB n ((kids b).getD i dB)]))]) (obs := [((kcs A)).length = A.length * 3, (A.length + 1) * 40 ≤ 140737488355328 ∧ A.length + 1 ≤ 9223372036854775807, (kcs A) ++ [(iv (kd ((kids b).getD i dB))), (iv ((sh ((kids b).getD i dB)) * n)), (.ssl (kcs (scL n (kids ((kids b).getD i dB)))) 0 ((scL n (kids ((kids b).getD i dB))).length))] = (kcs (A ++ [scB n ((kids b).getD i dB)]))]) (by kernel_rfl) (obs_cons (p := ((kcs A)).length = A.length * 3) (kcs_len _) (obs_cons (p := (A.length + 1) * 40 ≤ 140737488355328 ∧ A.length + 1 ≤ 9223372036854775807) (by omega) (obs_cons (p := (kcs A) ++ [(iv (kd ((kids b).getD i dB))), (iv ((sh ((kids b).getD i dB)) * n)), (.ssl (kcs (scL n (kids ((kids b).getD i dB)))) 0 ((scL n (kids ((kids b).getD i dB))).length))] = (kcs (A ++ [scB n ((kids b).getD i dB)]))) (kcs_snoc A ((kids b).getD i dB) n) (obs_nil)))) ?_
    refine T_blk ?_
    refine T_region [] [ks 1, ks 4, ks 5, ks 15, ks 16, ks 17, kb 0, kb 1, kb 163] (fun _ => mixed) (l' := [ps 1 (iv n), ps 4 (.opt 0 0), ps 5 (.opt 1 0), ps 15 (.ssl (kc b) 0 ((kids b).length)), ps 16 (iv (((kids b).length : Nat) : Int)), ps 17 (iv (((i : Nat) : Int) + 1)), pb 0 40 [(iv 0), (iv 0), (.av (.slice none 0 0))], pb 1 40 [(iv (kd b)), (iv (sh b)), (.osl 163 0 (A.length + 1))], pb 163 40 (kcs (A ++ [scB n ((kids b).getD i dB)]))]) (obs := [InK .i64 (((i : Nat) : Int) + 1)]) (by kernel_rfl) (obs_cons (p := InK .i64 (((i : Nat) : Int) + 1)) (by simp only [InK]; omega) (obs_nil)) ?_
    exact T_back ⟨(i + 1, (A ++ [scB n ((kids b).getD i dB)])), ⟨by omega, scL_next (by omega) hA, by show (A ++ [_]).length = i + 1; simp; omega, by have h2 := cntL_at (l := kids b) (i := i) (by omega); show cntL ((kids b).drop (i + 1)) ≤ _; omega⟩⟩ (Wk.trans (Wk.eq (show [ps 1 (iv n), ps 4 (.opt 0 0), ps 5 (.opt 1 0), ps 15 (.ssl (kc b) 0 ((kids b).length)), ps 16 (iv (((kids b).length : Nat) : Int)), ps 17 (iv (((i : Nat) : Int) + 1)), pb 0 40 [(iv 0), (iv 0), (.av (.slice none 0 0))], pb 1 40 [(iv (kd b)), (iv (sh b)), (.osl 163 0 (A.length + 1))], pb 163 40 (kcs (A ++ [scB n ((kids b).getD i dB)]))] = [ps 1 (iv n), ps 4 (.opt 0 0), ps 5 (.opt 1 0), ps 15 (.ssl (kc b) 0 ((kids b).length)), ps 16 (iv (((kids b).length : Nat) : Int)), ps 17 (iv (((i : Nat) : Int) + 1)), pb 0 40 [(iv 0), (iv 0), (.av (.slice none 0 0))], pb 1 40 [(iv (kd b)), (iv (sh b)), (.osl 163 0 ((A ++ [scB n ((kids b).getD i dB)]).length))], pb 163 40 (kcs (A ++ [scB n ((kids b).getD i dB)]))] from by rw [snoc_len])) (Wk.ren3 [ps 1 (iv n), ps 4 (.opt 0 0), ps 5 (.opt 1 0), ps 15 (.ssl (kc b) 0 ((kids b).length)), ps 16 (iv (((kids b).length : Nat) : Int)), ps 17 (iv (((i + 1) : Nat) : Int)), pb 0 40 [(iv 0), (iv 0), (.av (.slice none 0 0))], pb 1 40 [(iv (kd b)), (iv (sh b)), (.osl 2 0 (A ++ [scB n ((kids b).getD i dB)]).length)], pb 2 40 (kcs (A ++ [scB n ((kids b).getD i dB)]))] 0 hc0 [0, 1, 163] [(kb 2, (kcs (A ++ [scB n ((kids b).getD i dB)])))] (obs_cons (kcs_shd _) (obs_nil)) (by kernel_rfl) rfl rfl (by kernel_rfl) (by kernel_rfl))) (show (kids b).length - (i + 1) < (kids b).length - i from by show (kids b).length - (i + 1) < (kids b).length - i; omega)
  · refine T_else (b := (decide (((i : Nat) : Int) < (((kids b).length : Nat) : Int)))) rfl (decide_eq_false h1) ?_
    refine T_break rfl rfl ?_
    refine T_seq ?_
    refine T_region [] [ks 4, kb 0, kb 2] (fun _ => mixed) (l' := [ps 4 (.opt 0 0), pb 0 40 [(iv (kd b)), (iv (sh b)), (.osl 2 0 A.length)], pb 2 40 (kcs A)]) (obs := []) (by kernel_rfl) (obs_nil) ?_
    obtain rfl : i = (kids b).length := by omega
    rw [List.drop_length, scL, List.append_nil] at hA
    rw [← hA]
    refine T_wk (Wk.frz (l' := [ps 4 (.opt 0 0), pb 0 40 [(iv (kd b)), (iv (sh b)), (.ssl (kcs A) 0 A.length)], (kb 2, none)]) 2 (T := 40) (cs := (kcs A)) (by kernel_rfl) (kcs_shd _) (by kernel_rfl)) ?_
    refine T_wk (Wk.less (l' := [ps 4 (.opt 0 0), pb 0 40 [(iv (kd b)), (iv (sh b)), (.ssl (kcs A) 0 A.length)]]) 27 (by kernel_rfl) (by kernel_rfl)) ?_
    exact T_ret fun cx_ a_ hI_ => ret_ok (H' := [none]) (.inr rfl) (Wk.ren2 [ps 4 (.opt 0 0), pb 0 40 [(iv (kd b)), (iv (sh b)), (.ssl (kcs A) 0 A.length)]] 0 hc0 [0] rfl rfl (by kernel_rfl) (by kernel_rfl)) rfl (obs_nil) (fun cx_ a_ hI_ => ret_res (l' := [ps 4 (.opt 0 0), pb 0 40 [(iv (kd b)), (iv (sh b)), (.ssl (kcs A) 0 A.length)]]) (by kernel_rfl) cx_ a_ hI_) hI_
theorem scaled_all (n : Int) (hn1 : 1 ≤ n) (hn2 : n ≤ 1000) : ∀ (m : Nat) (b : Beat), SizeOf.sizeOf b < m → good b → cnt b ≤ 4096 → PC Try.prog 20 [.agg (gB b), iv n] [] (.agg (gB (scT n b))) [none]
  | 0, _, h => absurd h (Nat.not_lt_zero _)
  | m + 1, b, h => fun h1 h2 => scaled_step n hn1 hn2 b (fun c hb => scaled_all n hn1 hn2 m c (by omega)) h1 h2
theorem scaled_pc (n : Int) (hn1 : 1 ≤ n) (hn2 : n ≤ 1000) (b : Beat) (h1 : good b) (h2 : cnt b ≤ 4096) : PC Try.prog 20 [.agg (gB b), iv n] [] (.agg (gB (scT n b))) [none] := scaled_all n hn1 hn2 _ b (Nat.lt_succ_self _) h1 h2
theorem chain_at {L : List Sp} {i : Nat} {a b e f : Int} (h : i < L.length) (hc : Chain (L.drop i) a b e f) : ∃ c d, Link (L.getD i dS) a b c d ∧ Chain (L.drop (i + 1)) c d e f := by
  rw [List.drop_eq_getElem_cons h] at hc
  rw [List.getD_eq_getElem?_getD, List.getElem?_eq_getElem h]
  exact hc
theorem whole_spans {b : Beat} {u d : Int} (h : spansE b u d = 0) : wrongE b = 0 := by
  by_cases c : wrongE b = 0
  · exact c
  · unfold spansE at h; rw [if_neg c] at h; exact h
set_option maxRecDepth 100000 in
theorem law_sums (b : Beat) (u d n : Int) (hu : I64 u) (hd : I64 d) : PC Try.prog 6 [(.agg [(iv (kd b)), (iv (sh b)), (.ssl (kc b) 0 ((kids b).length))]), (.agg [(iv u), (iv d)]), (iv n)] [] (bv true) [] := by
  refine pc_intro Try.func6 rfl (by kernel_rfl) (Nat.le_of_ble_eq_true rfl) (by kernel_rfl) (l0 := [ps 0 (.agg [(iv (kd b)), (iv (sh b)), (.ssl (kc b) 0 ((kids b).length))]), ps 1 (.agg [(iv u), (iv d)]), ps 2 (iv n)]) rfl (fun c0 Bor hc0 => ?_)
  refine T_seq ?_
  refine T_region [] [ks 2, ks 3, ks 4, kb 0, kb 8] (fun _ => mixed) (l' := [ps 2 (iv n), ps 3 (.opt 0 0), ps 4 (.opt 8 0), pb 0 40 [(iv (kd b)), (iv (sh b)), (.ssl (kc b) 0 ((kids b).length))], pb 8 25 [(iv u), (iv d)]]) (obs := []) (by kernel_rfl) (obs_nil) ?_
  refine T_seq ?_
  refine T_seq ?_
  refine T_region [(0, .call [] [] [] (bv true) [])] [ks 2, ks 3, ks 4, ks 14, kb 0, kb 8] (fun _ => mixed) (l' := [ps 2 (iv n), ps 3 (.opt 0 0), ps 4 (.opt 8 0), ps 14 (bv false), pb 0 40 [(iv (kd b)), (iv (sh b)), (.ssl (kc b) 0 ((kids b).length))], pb 8 25 [(iv u), (iv d)]]) (obs := [PC Try.prog 12 [] [] (bv true) [], [] = renL (sigi [] 24) []]) (by kernel_rfl) (obs_cons (p := PC Try.prog 12 [] [] (bv true) []) alive_pc (obs_cons (p := [] = renL (sigi [] 24) []) rfl (obs_nil))) ?_
  refine T_else (b := false) rfl rfl ?_
  refine T_skip ?_
  refine T_seq ?_
  by_cases h1 : spansE b u d = 0
  · refine T_region [(2, .call [] [(.agg [(iv (kd b)), (iv (sh b)), (.ssl (kc b) 0 ((kids b).length))]), (.agg [(iv u), (iv d)])] [] (.tup [(.ssl (spans (spansL b u d)) 0 ((spansL b u d).length)), (iv 0)]) [])] [ks 2, ks 3, ks 4, ks 7, ks 8, kb 0, kb 8] (fun _ => mixed) (l' := [ps 2 (iv n), ps 3 (.opt 0 0), ps 4 (.opt 8 0), ps 7 (.ssl (spans (spansL b u d)) 0 ((spansL b u d).length)), ps 8 (iv 0), pb 0 40 [(iv (kd b)), (iv (sh b)), (.ssl (kc b) 0 ((kids b).length))], pb 8 25 [(iv u), (iv d)]]) (obs := [PC Try.prog 17 [(.agg [(iv (kd b)), (iv (sh b)), (.ssl (kc b) 0 ((kids b).length))]), (.agg [(iv u), (iv d)])] [] (.tup [(.ssl (spans (spansL b u d)) 0 ((spansL b u d).length)), (iv 0)]) [], [(.agg [(iv (kd b)), (iv (sh b)), (.ssl (kc b) 0 ((kids b).length))]), (.agg [(iv u), (iv d)])] = renL (sigi [] 56) [(.agg [(iv (kd b)), (iv (sh b)), (.ssl (kc b) 0 ((kids b).length))]), (.agg [(iv u), (iv d)])]]) (by kernel_rfl) (obs_cons (p := PC Try.prog 17 [(.agg [(iv (kd b)), (iv (sh b)), (.ssl (kc b) 0 ((kids b).length))]), (.agg [(iv u), (iv d)])] [] (.tup [(.ssl (spans (spansL b u d)) 0 ((spansL b u d).length)), (iv 0)]) []) (by have h0 := spans_pc b u d hu hd; rw [spansP_yes h1] at h0; exact h0) (obs_cons (p := [(.agg [(iv (kd b)), (iv (sh b)), (.ssl (kc b) 0 ((kids b).length))]), (.agg [(iv u), (iv d)])] = renL (sigi [] 56) [(.agg [(iv (kd b)), (iv (sh b)), (.ssl (kc b) 0 ((kids b).length))]), (.agg [(iv u), (iv d)])]) rfl (obs_nil))) ?_
    refine T_seq ?_
    refine T_seq ?_
    refine T_region [] [ks 2, ks 3, ks 4, ks 7, ks 22, kb 0, kb 8] (fun _ => mixed) (l' := [ps 2 (iv n), ps 3 (.opt 0 0), ps 4 (.opt 8 0), ps 7 (.ssl (spans (spansL b u d)) 0 ((spansL b u d).length)), ps 22 (bv false), pb 0 40 [(iv (kd b)), (iv (sh b)), (.ssl (kc b) 0 ((kids b).length))], pb 8 25 [(iv u), (iv d)]]) (obs := []) (by kernel_rfl) (obs_nil) ?_
    refine T_else (b := false) rfl rfl ?_
    refine T_skip ?_
    refine T_seq ?_
    refine T_region [] [ks 2, ks 3, ks 4, ks 7, ks 9, kb 0, kb 8, kb 128] (fun _ => mixed) (l' := [ps 2 (iv n), ps 3 (.opt 0 0), ps 4 (.opt 8 0), ps 7 (.ssl (spans (spansL b u d)) 0 ((spansL b u d).length)), ps 9 (.opt 128 0), pb 0 40 [(iv (kd b)), (iv (sh b)), (.ssl (kc b) 0 ((kids b).length))], pb 8 25 [(iv u), (iv d)], pb 128 25 [(iv 0), (iv 1)]]) (obs := []) (by kernel_rfl) (obs_nil) ?_
    refine T_seq ?_
    refine T_seq ?_
    refine T_region [] [ks 2, ks 3, ks 4, ks 7, ks 9, ks 24, ks 25, ks 26, kb 0, kb 8, kb 128] (fun _ => mixed) (l' := [ps 2 (iv n), ps 3 (.opt 0 0), ps 4 (.opt 8 0), ps 7 (.ssl (spans (spansL b u d)) 0 ((spansL b u d).length)), ps 9 (.opt 128 0), ps 24 (.ssl (spans (spansL b u d)) 0 ((spansL b u d).length)), ps 25 (iv (((spansL b u d).length : Nat) : Int)), ps 26 (iv 0), pb 0 40 [(iv (kd b)), (iv (sh b)), (.ssl (kc b) 0 ((kids b).length))], pb 8 25 [(iv u), (iv d)], pb 128 25 [(iv 0), (iv 1)]]) (obs := []) (by kernel_rfl) (obs_nil) ?_
    refine T_block ?_
    have hsl := spansL_len h1
    refine T_loop (α := {x : Nat × Int × Int // x.1 ≤ (spansL b u d).length ∧ Chain ((spansL b u d).drop x.1) x.2.1 x.2.2 u d}) (fun x => [ps 2 (iv n), ps 3 (.opt 0 0), ps 4 (.opt 1 0), ps 7 (.ssl (spans (spansL b u d)) 0 ((spansL b u d).length)), ps 9 (.opt 2 0), ps 24 (.ssl (spans (spansL b u d)) 0 ((spansL b u d).length)), ps 25 (iv (((spansL b u d).length : Nat) : Int)), ps 26 (iv ((x.1.1 : Nat) : Int)), pb 0 40 [(iv (kd b)), (iv (sh b)), (.ssl (kc b) 0 ((kids b).length))], pb 1 25 [(iv u), (iv d)], pb 2 25 [(iv x.1.2.1), (iv x.1.2.2)]]) (fun x => (spansL b u d).length - x.1.1) 3 ⟨(0, 0, 1), ⟨Nat.zero_le _, spans_whole h1⟩⟩ (Wk.ren2 [ps 2 (iv n), ps 3 (.opt 0 0), ps 4 (.opt 1 0), ps 7 (.ssl (spans (spansL b u d)) 0 ((spansL b u d).length)), ps 9 (.opt 2 0), ps 24 (.ssl (spans (spansL b u d)) 0 ((spansL b u d).length)), ps 25 (iv (((spansL b u d).length : Nat) : Int)), ps 26 (iv ((0 : Nat) : Int)), pb 0 40 [(iv (kd b)), (iv (sh b)), (.ssl (kc b) 0 ((kids b).length))], pb 1 25 [(iv u), (iv d)], pb 2 25 [(iv 0), (iv 1)]] 0 hc0 [0, 8, 128] rfl rfl (by kernel_rfl) (by kernel_rfl)) ?_
    rintro ⟨⟨i, a, b2⟩, ⟨hi, hch⟩⟩
    dsimp only at hi hch
    refine T_seq ?_
    refine T_region [] [ks 2, ks 3, ks 4, ks 7, ks 9, ks 24, ks 25, ks 26, ks 27, kb 0, kb 1, kb 2] (fun _ => mixed) (l' := [ps 2 (iv n), ps 3 (.opt 0 0), ps 4 (.opt 1 0), ps 7 (.ssl (spans (spansL b u d)) 0 ((spansL b u d).length)), ps 9 (.opt 2 0), ps 24 (.ssl (spans (spansL b u d)) 0 ((spansL b u d).length)), ps 25 (iv (((spansL b u d).length : Nat) : Int)), ps 26 (iv ((i : Nat) : Int)), ps 27 (bv (decide (((i : Nat) : Int) < (((spansL b u d).length : Nat) : Int)))), pb 0 40 [(iv (kd b)), (iv (sh b)), (.ssl (kc b) 0 ((kids b).length))], pb 1 25 [(iv u), (iv d)], pb 2 25 [(iv a), (iv b2)]]) (obs := []) (by kernel_rfl) (obs_nil) ?_
    refine T_seq ?_
    by_cases h2 : ((i : Nat) : Int) < (((spansL b u d).length : Nat) : Int)
    · refine T_then (b := (decide (((i : Nat) : Int) < (((spansL b u d).length : Nat) : Int)))) rfl (decide_eq_true h2) ?_
      refine T_skip ?_
      refine T_seq ?_
      refine T_block ?_
      refine T_seq ?_
      refine T_region [(0, .nat (i * 5)), (1, .cells [(iv (((spansL b u d).getD i dS).1)), (iv (((spansL b u d).getD i dS).2.1)), (iv (((spansL b u d).getD i dS).2.2.1)), (iv (((spansL b u d).getD i dS).2.2.2.1)), (bv ((spansL b u d).getD i dS).2.2.2.2)])] [ks 2, ks 3, ks 4, ks 7, ks 9, ks 11, ks 24, ks 25, ks 26, kb 0, kb 1, kb 2, kb 27] (fun _ => mixed) (l' := [ps 2 (iv n), ps 3 (.opt 0 0), ps 4 (.opt 1 0), ps 7 (.ssl (spans (spansL b u d)) 0 ((spansL b u d).length)), ps 9 (.opt 2 0), ps 11 (.opt 27 0), ps 24 (.ssl (spans (spansL b u d)) 0 ((spansL b u d).length)), ps 25 (iv (((spansL b u d).length : Nat) : Int)), ps 26 (iv ((i : Nat) : Int)), pb 0 40 [(iv (kd b)), (iv (sh b)), (.ssl (kc b) 0 ((kids b).length))], pb 1 25 [(iv u), (iv d)], pb 2 25 [(iv a), (iv b2)], pb 27 48 [(iv (((spansL b u d).getD i dS).1)), (iv (((spansL b u d).getD i dS).2.1)), (iv (((spansL b u d).getD i dS).2.2.1)), (iv (((spansL b u d).getD i dS).2.2.2.1)), (bv ((spansL b u d).getD i dS).2.2.2.2)]]) (obs := [(0 : Int) ≤ ((i : Nat) : Int) ∧ ((i : Nat) : Int) < (((spansL b u d).length : Nat) : Int), 0 + (((i : Nat) : Int) : Int).toNat * 5 = (i * 5), (i * 5) + 5 ≤ ((spans (spansL b u d))).length ∧ (((spans (spansL b u d))).drop (i * 5)).take 5 = [(iv (((spansL b u d).getD i dS).1)), (iv (((spansL b u d).getD i dS).2.1)), (iv (((spansL b u d).getD i dS).2.2.1)), (iv (((spansL b u d).getD i dS).2.2.2.1)), (bv ((spansL b u d).getD i dS).2.2.2.2)]]) (by kernel_rfl) (obs_cons (p := (0 : Int) ≤ ((i : Nat) : Int) ∧ ((i : Nat) : Int) < (((spansL b u d).length : Nat) : Int)) (by omega) (obs_cons (p := 0 + (((i : Nat) : Int) : Int).toNat * 5 = (i * 5)) (by omega) (obs_cons (p := (i * 5) + 5 ≤ ((spans (spansL b u d))).length ∧ (((spans (spansL b u d))).drop (i * 5)).take 5 = [(iv (((spansL b u d).getD i dS).1)), (iv (((spansL b u d).getD i dS).2.1)), (iv (((spansL b u d).getD i dS).2.2.1)), (iv (((spansL b u d).getD i dS).2.2.2.1)), (bv ((spansL b u d).getD i dS).2.2.2.2)]) (flat_at spC 5 (fun _ => rfl) dS (spansL b u d) i 0 5 (by omega) (by decide)) (obs_nil)))) ?_
      refine T_seq ?_
      refine T_seq ?_
      obtain ⟨c, e, ⟨hl1, hl2, hl3, hl4⟩, hch2⟩ := chain_at (by omega) hch
      have hpo := plus_ok hl4
      have h3 : ((decide ((((spansL b u d).getD i dS).1) = a)) && (decide ((((spansL b u d).getD i dS).2.1) = b2))) = true := by rw [hl1, hl2]; simp
      refine T_region [(5, .gd false (.no)), (6, .gd false (.no)), (7, .gd false (.no)), (8, .gd false (.no)), (9, .yes false)] [ks 2, ks 3, ks 4, ks 7, ks 9, ks 11, ks 24, ks 25, ks 26, ks 39, kb 0, kb 1, kb 2, kb 27] (fun _ => mixed) (l' := [ps 2 (iv n), ps 3 (.opt 0 0), ps 4 (.opt 1 0), ps 7 (.ssl (spans (spansL b u d)) 0 ((spansL b u d).length)), ps 9 (.opt 2 0), ps 11 (.opt 27 0), ps 24 (.ssl (spans (spansL b u d)) 0 ((spansL b u d).length)), ps 25 (iv (((spansL b u d).length : Nat) : Int)), ps 26 (iv ((i : Nat) : Int)), ps 39 (bv (decide ((((spansL b u d).getD i dS).2.2.1) < 1))), pb 0 40 [(iv (kd b)), (iv (sh b)), (.ssl (kc b) 0 ((kids b).length))], pb 1 25 [(iv u), (iv d)], pb 2 25 [(iv a), (iv b2)], pb 27 48 [(iv (((spansL b u d).getD i dS).1)), (iv (((spansL b u d).getD i dS).2.1)), (iv (((spansL b u d).getD i dS).2.2.1)), (iv (((spansL b u d).getD i dS).2.2.2.1)), (bv ((spansL b u d).getD i dS).2.2.2.2)]]) (obs := [(!((decide ((((spansL b u d).getD i dS).1) = a)) && (decide ((((spansL b u d).getD i dS).2.1) = b2)))) = false, (!((decide ((((spansL b u d).getD i dS).1) = a)) && (decide ((((spansL b u d).getD i dS).2.1) = b2)))) = false, (!((decide ((((spansL b u d).getD i dS).1) = a)) && (decide ((((spansL b u d).getD i dS).2.1) = b2)))) = false, (!((decide ((((spansL b u d).getD i dS).1) = a)) && (decide ((((spansL b u d).getD i dS).2.1) = b2)))) = false, (!((decide ((((spansL b u d).getD i dS).1) = a)) && (decide ((((spansL b u d).getD i dS).2.1) = b2)))) = false]) (by kernel_rfl) (obs_cons (p := (!((decide ((((spansL b u d).getD i dS).1) = a)) && (decide ((((spansL b u d).getD i dS).2.1) = b2)))) = false) (congrArg Bool.not h3) (obs_cons (p := (!((decide ((((spansL b u d).getD i dS).1) = a)) && (decide ((((spansL b u d).getD i dS).2.1) = b2)))) = false) (congrArg Bool.not h3) (obs_cons (p := (!((decide ((((spansL b u d).getD i dS).1) = a)) && (decide ((((spansL b u d).getD i dS).2.1) = b2)))) = false) (congrArg Bool.not h3) (obs_cons (p := (!((decide ((((spansL b u d).getD i dS).1) = a)) && (decide ((((spansL b u d).getD i dS).2.1) = b2)))) = false) (congrArg Bool.not h3) (obs_cons (p := (!((decide ((((spansL b u d).getD i dS).1) = a)) && (decide ((((spansL b u d).getD i dS).2.1) = b2)))) = false) (congrArg Bool.not h3) (obs_nil)))))) ?_
      have h4 : ¬ ((((spansL b u d).getD i dS).2.2.1) < 1) := by omega
      refine T_else (b := (decide ((((spansL b u d).getD i dS).2.2.1) < 1))) rfl (decide_eq_false h4) ?_
      refine T_skip ?_
      refine T_seq ?_
      refine T_region [(3, .call [] [(.agg [(iv a), (iv b2)]), (.agg [(iv (((spansL b u d).getD i dS).2.2.1)), (iv (((spansL b u d).getD i dS).2.2.2.1))])] [] (.tup [(.agg [(iv c), (iv e)]), (iv 0)]) [])] [ks 2, ks 3, ks 4, ks 7, ks 8, ks 9, ks 24, ks 25, ks 26, kb 0, kb 1, kb 2] (fun _ => mixed) (l' := [ps 2 (iv n), ps 3 (.opt 0 0), ps 4 (.opt 1 0), ps 7 (.ssl (spans (spansL b u d)) 0 ((spansL b u d).length)), ps 8 (iv 0), ps 9 (.opt 2 0), ps 24 (.ssl (spans (spansL b u d)) 0 ((spansL b u d).length)), ps 25 (iv (((spansL b u d).length : Nat) : Int)), ps 26 (iv ((i : Nat) : Int)), pb 0 40 [(iv (kd b)), (iv (sh b)), (.ssl (kc b) 0 ((kids b).length))], pb 1 25 [(iv u), (iv d)], pb 2 25 [(iv c), (iv e)]]) (obs := [PC Try.prog 14 [(.agg [(iv a), (iv b2)]), (.agg [(iv (((spansL b u d).getD i dS).2.2.1)), (iv (((spansL b u d).getD i dS).2.2.2.1))])] [] (.tup [(.agg [(iv c), (iv e)]), (iv 0)]) [], [(.agg [(iv a), (iv b2)]), (.agg [(iv (((spansL b u d).getD i dS).2.2.1)), (iv (((spansL b u d).getD i dS).2.2.2.1))])] = renL (sigi [] 147) [(.agg [(iv a), (iv b2)]), (.agg [(iv (((spansL b u d).getD i dS).2.2.1)), (iv (((spansL b u d).getD i dS).2.2.2.1))])]]) (by kernel_rfl) (obs_cons (p := PC Try.prog 14 [(.agg [(iv a), (iv b2)]), (.agg [(iv (((spansL b u d).getD i dS).2.2.1)), (iv (((spansL b u d).getD i dS).2.2.2.1))])] [] (.tup [(.agg [(iv c), (iv e)]), (iv 0)]) []) (by have h0 := ref_plus_pc a b2 ((spansL b u d).getD i dS).2.2.1 ((spansL b u d).getD i dS).2.2.2.1 (i64_r hpo.1).1 (i64_r hpo.1).2 (i64_r hpo.2.1).1 (i64_r hpo.2.1).2; rw [hl4] at h0; exact h0) (obs_cons (p := [(.agg [(iv a), (iv b2)]), (.agg [(iv (((spansL b u d).getD i dS).2.2.1)), (iv (((spansL b u d).getD i dS).2.2.2.1))])] = renL (sigi [] 147) [(.agg [(iv a), (iv b2)]), (.agg [(iv (((spansL b u d).getD i dS).2.2.1)), (iv (((spansL b u d).getD i dS).2.2.2.1))])]) rfl (obs_nil))) ?_
      refine T_seq ?_
      refine T_region [] [ks 2, ks 3, ks 4, ks 7, ks 9, ks 24, ks 25, ks 26, ks 48, kb 0, kb 1, kb 2] (fun _ => mixed) (l' := [ps 2 (iv n), ps 3 (.opt 0 0), ps 4 (.opt 1 0), ps 7 (.ssl (spans (spansL b u d)) 0 ((spansL b u d).length)), ps 9 (.opt 2 0), ps 24 (.ssl (spans (spansL b u d)) 0 ((spansL b u d).length)), ps 25 (iv (((spansL b u d).length : Nat) : Int)), ps 26 (iv ((i : Nat) : Int)), ps 48 (bv false), pb 0 40 [(iv (kd b)), (iv (sh b)), (.ssl (kc b) 0 ((kids b).length))], pb 1 25 [(iv u), (iv d)], pb 2 25 [(iv c), (iv e)]]) (obs := []) (by kernel_rfl) (obs_nil) ?_
      refine T_else (b := false) rfl rfl ?_
      refine T_skip ?_
      refine T_blk ?_
      refine T_region [] [ks 2, ks 3, ks 4, ks 7, ks 9, ks 24, ks 25, ks 26, kb 0, kb 1, kb 2] (fun _ => mixed) (l' := [ps 2 (iv n), ps 3 (.opt 0 0), ps 4 (.opt 1 0), ps 7 (.ssl (spans (spansL b u d)) 0 ((spansL b u d).length)), ps 9 (.opt 2 0), ps 24 (.ssl (spans (spansL b u d)) 0 ((spansL b u d).length)), ps 25 (iv (((spansL b u d).length : Nat) : Int)), ps 26 (iv (((i : Nat) : Int) + 1)), pb 0 40 [(iv (kd b)), (iv (sh b)), (.ssl (kc b) 0 ((kids b).length))], pb 1 25 [(iv u), (iv d)], pb 2 25 [(iv c), (iv e)]]) (obs := [InK .i64 (((i : Nat) : Int) + 1)]) (by kernel_rfl) (obs_cons (p := InK .i64 (((i : Nat) : Int) + 1)) (by simp only [InK]; omega) (obs_nil)) ?_
      exact T_back ⟨(i + 1, c, e), ⟨by omega, hch2⟩⟩ (Wk.ren2 [ps 2 (iv n), ps 3 (.opt 0 0), ps 4 (.opt 1 0), ps 7 (.ssl (spans (spansL b u d)) 0 ((spansL b u d).length)), ps 9 (.opt 2 0), ps 24 (.ssl (spans (spansL b u d)) 0 ((spansL b u d).length)), ps 25 (iv (((spansL b u d).length : Nat) : Int)), ps 26 (iv (((i + 1) : Nat) : Int)), pb 0 40 [(iv (kd b)), (iv (sh b)), (.ssl (kc b) 0 ((kids b).length))], pb 1 25 [(iv u), (iv d)], pb 2 25 [(iv c), (iv e)]] 0 hc0 [0, 1, 2] rfl rfl (by kernel_rfl) (by kernel_rfl)) (show (spansL b u d).length - (i + 1) < (spansL b u d).length - i from by show (spansL b u d).length - (i + 1) < (spansL b u d).length - i; omega)
    · refine T_else (b := (decide (((i : Nat) : Int) < (((spansL b u d).length : Nat) : Int)))) rfl (decide_eq_false h2) ?_
      refine T_break rfl rfl ?_
      refine T_seq ?_
      refine T_seq ?_
      obtain rfl : i = (spansL b u d).length := by omega
      rw [List.drop_length] at hch
      have hch : a = u ∧ b2 = d := hch
      refine T_region [] [ks 2, ks 3, ks 4, ks 7, ks 52, kb 0, kb 1] (fun _ => mixed) (l' := [ps 2 (iv n), ps 3 (.opt 0 0), ps 4 (.opt 1 0), ps 7 (.ssl (spans (spansL b u d)) 0 ((spansL b u d).length)), ps 52 (bv (!((decide (a = u)) && (decide (b2 = d))))), pb 0 40 [(iv (kd b)), (iv (sh b)), (.ssl (kc b) 0 ((kids b).length))], pb 1 25 [(iv u), (iv d)]]) (obs := []) (by kernel_rfl) (obs_nil) ?_
      have h5 : ((decide (a = u)) && (decide (b2 = d))) = true := by rw [hch.1, hch.2]; simp
      refine T_else (b := (!((decide (a = u)) && (decide (b2 = d))))) rfl (congrArg Bool.not h5) ?_
      refine T_skip ?_
      refine T_seq ?_
      refine T_seq ?_
      by_cases h6 : n < 1
      · refine T_region [(3, .gd true .no), (4, .gd true .no), (5, .yes true)] [ks 2, ks 3, ks 4, ks 7, ks 58, kb 0, kb 1] (fun _ => mixed) (l' := [ps 2 (iv n), ps 3 (.opt 0 0), ps 4 (.opt 1 0), ps 7 (.ssl (spans (spansL b u d)) 0 ((spansL b u d).length)), ps 58 (bv true), pb 0 40 [(iv (kd b)), (iv (sh b)), (.ssl (kc b) 0 ((kids b).length))], pb 1 25 [(iv u), (iv d)]]) (obs := [(decide (n < 1)) = true, (decide (n < 1)) = true, (decide (n < 1)) = true]) (by kernel_rfl) (obs_cons (p := (decide (n < 1)) = true) (decide_eq_true h6) (obs_cons (p := (decide (n < 1)) = true) (decide_eq_true h6) (obs_cons (p := (decide (n < 1)) = true) (decide_eq_true h6) (obs_nil)))) ?_
        refine T_then (b := true) rfl rfl ?_
        refine T_seq ?_
        refine T_region [] [ks 6] (fun _ => mixed) (l' := [ps 6 (bv true)]) (obs := []) (by kernel_rfl) (obs_nil) ?_
        exact T_ret fun cx_ a_ hI_ => ret_ok (H' := []) (.inr rfl) (Wk.ren2 [ps 6 (bv true)] 0 hc0 [] rfl rfl (by kernel_rfl) (by kernel_rfl)) rfl (obs_nil) (fun cx_ a_ hI_ => ret_res (l' := [ps 6 (bv true)]) (by kernel_rfl) cx_ a_ hI_) hI_
      · refine T_region [(3, .gd false (.no)), (4, .gd false (.no)), (5, .yes false)] [ks 2, ks 3, ks 4, ks 7, ks 58, kb 0, kb 1] (fun _ => mixed) (l' := [ps 2 (iv n), ps 3 (.opt 0 0), ps 4 (.opt 1 0), ps 7 (.ssl (spans (spansL b u d)) 0 ((spansL b u d).length)), ps 58 (bv (decide (1000 < n))), pb 0 40 [(iv (kd b)), (iv (sh b)), (.ssl (kc b) 0 ((kids b).length))], pb 1 25 [(iv u), (iv d)]]) (obs := [(decide (n < 1)) = false, (decide (n < 1)) = false, (decide (n < 1)) = false]) (by kernel_rfl) (obs_cons (p := (decide (n < 1)) = false) (decide_eq_false h6) (obs_cons (p := (decide (n < 1)) = false) (decide_eq_false h6) (obs_cons (p := (decide (n < 1)) = false) (decide_eq_false h6) (obs_nil)))) ?_
        by_cases h7 : 1000 < n
        · refine T_then (b := (decide (1000 < n))) rfl (decide_eq_true h7) ?_
          refine T_seq ?_
          refine T_region [] [ks 6] (fun _ => mixed) (l' := [ps 6 (bv true)]) (obs := []) (by kernel_rfl) (obs_nil) ?_
          exact T_ret fun cx_ a_ hI_ => ret_ok (H' := []) (.inr rfl) (Wk.ren2 [ps 6 (bv true)] 0 hc0 [] rfl rfl (by kernel_rfl) (by kernel_rfl)) rfl (obs_nil) (fun cx_ a_ hI_ => ret_res (l' := [ps 6 (bv true)]) (by kernel_rfl) cx_ a_ hI_) hI_
        · refine T_else (b := (decide (1000 < n))) rfl (decide_eq_false h7) ?_
          refine T_skip ?_
          refine T_seq ?_
          by_cases h8 : spansE (scT n b) u d = 3
          · refine T_region [(2, .call [] [(.agg [(iv (kd b)), (iv (sh b)), (.ssl (kc b) 0 ((kids b).length))]), (iv n)] [] (.agg [(iv (kd b)), (iv (sh b)), (.ssl (kcs (scL n (kids b))) 0 ((scL n (kids b)).length))]) [none]), (4, .call [] [(.agg [(iv (kd b)), (iv (sh b)), (.ssl (kcs (scL n (kids b))) 0 ((scL n (kids b)).length))]), (.agg [(iv u), (iv d)])] [] (.tup [(.ssl [] 0 0), (iv 3)]) [])] [ks 7, ks 8, ks 12] (fun _ => mixed) (l' := [ps 7 (.ssl (spans (spansL b u d)) 0 ((spansL b u d).length)), ps 8 (iv 3), ps 12 (.ssl [] 0 0)]) (obs := [PC Try.prog 20 [(.agg [(iv (kd b)), (iv (sh b)), (.ssl (kc b) 0 ((kids b).length))]), (iv n)] [] (.agg [(iv (kd b)), (iv (sh b)), (.ssl (kcs (scL n (kids b))) 0 ((scL n (kids b)).length))]) [none], [(.agg [(iv (kd b)), (iv (sh b)), (.ssl (kc b) 0 ((kids b).length))]), (iv n)] = renL (sigi [] 99) [(.agg [(iv (kd b)), (iv (sh b)), (.ssl (kc b) 0 ((kids b).length))]), (iv n)], PC Try.prog 17 [(.agg [(iv (kd b)), (iv (sh b)), (.ssl (kcs (scL n (kids b))) 0 ((scL n (kids b)).length))]), (.agg [(iv u), (iv d)])] [] (.tup [(.ssl [] 0 0), (iv 3)]) [], [(.agg [(iv (kd b)), (iv (sh b)), (.ssl (kcs (scL n (kids b))) 0 ((scL n (kids b)).length))]), (.agg [(iv u), (iv d)])] = renL (sigi [] 115) [(.agg [(iv (kd b)), (iv (sh b)), (.ssl (kcs (scL n (kids b))) 0 ((scL n (kids b)).length))]), (.agg [(iv u), (iv d)])]]) (by kernel_rfl) (obs_cons (p := PC Try.prog 20 [(.agg [(iv (kd b)), (iv (sh b)), (.ssl (kc b) 0 ((kids b).length))]), (iv n)] [] (.agg [(iv (kd b)), (iv (sh b)), (.ssl (kcs (scL n (kids b))) 0 ((scL n (kids b)).length))]) [none]) (scaled_pc n (by omega) (by omega) b (wrong_good (whole_spans h1)).1 (wrong_good (whole_spans h1)).2) (obs_cons (p := [(.agg [(iv (kd b)), (iv (sh b)), (.ssl (kc b) 0 ((kids b).length))]), (iv n)] = renL (sigi [] 99) [(.agg [(iv (kd b)), (iv (sh b)), (.ssl (kc b) 0 ((kids b).length))]), (iv n)]) rfl (obs_cons (p := PC Try.prog 17 [(.agg [(iv (kd b)), (iv (sh b)), (.ssl (kcs (scL n (kids b))) 0 ((scL n (kids b)).length))]), (.agg [(iv u), (iv d)])] [] (.tup [(.ssl [] 0 0), (iv 3)]) []) (by have h0 := spans_pc (scT n b) u d hu hd; rw [spansP_no h8 (by decide)] at h0; exact h0) (obs_cons (p := [(.agg [(iv (kd b)), (iv (sh b)), (.ssl (kcs (scL n (kids b))) 0 ((scL n (kids b)).length))]), (.agg [(iv u), (iv d)])] = renL (sigi [] 115) [(.agg [(iv (kd b)), (iv (sh b)), (.ssl (kcs (scL n (kids b))) 0 ((scL n (kids b)).length))]), (.agg [(iv u), (iv d)])]) rfl (obs_nil))))) ?_
            refine T_seq ?_
            refine T_region [(3, .gd true .no), (4, .gd true .no), (5, .gd true .no), (9, .gd true .no)] [ks 6] (fun _ => mixed) (l' := [ps 6 (bv true)]) (obs := [true = true, true = true, true = true, true = true]) (by kernel_rfl) (obs_cons (p := true = true) rfl (obs_cons (p := true = true) rfl (obs_cons (p := true = true) rfl (obs_cons (p := true = true) rfl (obs_nil))))) ?_
            exact T_ret fun cx_ a_ hI_ => ret_ok (H' := []) (.inr rfl) (Wk.ren2 [ps 6 (bv true)] 0 hc0 [] rfl rfl (by kernel_rfl) (by kernel_rfl)) rfl (obs_nil) (fun cx_ a_ hI_ => ret_res (l' := [ps 6 (bv true)]) (by kernel_rfl) cx_ a_ hI_) hI_
          · refine T_region [(2, .call [] [(.agg [(iv (kd b)), (iv (sh b)), (.ssl (kc b) 0 ((kids b).length))]), (iv n)] [] (.agg [(iv (kd b)), (iv (sh b)), (.ssl (kcs (scL n (kids b))) 0 ((scL n (kids b)).length))]) [none]), (4, .call [] [(.agg [(iv (kd b)), (iv (sh b)), (.ssl (kcs (scL n (kids b))) 0 ((scL n (kids b)).length))]), (.agg [(iv u), (iv d)])] [] (.tup [(.ssl (spans (spansL b u d)) 0 ((spansL b u d).length)), (iv 0)]) [])] [ks 7, ks 8, ks 12] (fun _ => mixed) (l' := [ps 7 (.ssl (spans (spansL b u d)) 0 ((spansL b u d).length)), ps 8 (iv 0), ps 12 (.ssl (spans (spansL b u d)) 0 ((spansL b u d).length))]) (obs := [PC Try.prog 20 [(.agg [(iv (kd b)), (iv (sh b)), (.ssl (kc b) 0 ((kids b).length))]), (iv n)] [] (.agg [(iv (kd b)), (iv (sh b)), (.ssl (kcs (scL n (kids b))) 0 ((scL n (kids b)).length))]) [none], [(.agg [(iv (kd b)), (iv (sh b)), (.ssl (kc b) 0 ((kids b).length))]), (iv n)] = renL (sigi [] 99) [(.agg [(iv (kd b)), (iv (sh b)), (.ssl (kc b) 0 ((kids b).length))]), (iv n)], PC Try.prog 17 [(.agg [(iv (kd b)), (iv (sh b)), (.ssl (kcs (scL n (kids b))) 0 ((scL n (kids b)).length))]), (.agg [(iv u), (iv d)])] [] (.tup [(.ssl (spans (spansL b u d)) 0 ((spansL b u d).length)), (iv 0)]) [], [(.agg [(iv (kd b)), (iv (sh b)), (.ssl (kcs (scL n (kids b))) 0 ((scL n (kids b)).length))]), (.agg [(iv u), (iv d)])] = renL (sigi [] 115) [(.agg [(iv (kd b)), (iv (sh b)), (.ssl (kcs (scL n (kids b))) 0 ((scL n (kids b)).length))]), (.agg [(iv u), (iv d)])]]) (by kernel_rfl) (obs_cons (p := PC Try.prog 20 [(.agg [(iv (kd b)), (iv (sh b)), (.ssl (kc b) 0 ((kids b).length))]), (iv n)] [] (.agg [(iv (kd b)), (iv (sh b)), (.ssl (kcs (scL n (kids b))) 0 ((scL n (kids b)).length))]) [none]) (scaled_pc n (by omega) (by omega) b (wrong_good (whole_spans h1)).1 (wrong_good (whole_spans h1)).2) (obs_cons (p := [(.agg [(iv (kd b)), (iv (sh b)), (.ssl (kc b) 0 ((kids b).length))]), (iv n)] = renL (sigi [] 99) [(.agg [(iv (kd b)), (iv (sh b)), (.ssl (kc b) 0 ((kids b).length))]), (iv n)]) rfl (obs_cons (p := PC Try.prog 17 [(.agg [(iv (kd b)), (iv (sh b)), (.ssl (kcs (scL n (kids b))) 0 ((scL n (kids b)).length))]), (.agg [(iv u), (iv d)])] [] (.tup [(.ssl (spans (spansL b u d)) 0 ((spansL b u d).length)), (iv 0)]) []) (by have h1 := (scaled_spans (n := n) (by omega) h1).resolve_left h8; have h0 := spans_pc (scT n b) u d hu hd; rw [spansP_yes h1.1, h1.2] at h0; exact h0) (obs_cons (p := [(.agg [(iv (kd b)), (iv (sh b)), (.ssl (kcs (scL n (kids b))) 0 ((scL n (kids b)).length))]), (.agg [(iv u), (iv d)])] = renL (sigi [] 115) [(.agg [(iv (kd b)), (iv (sh b)), (.ssl (kcs (scL n (kids b))) 0 ((scL n (kids b)).length))]), (.agg [(iv u), (iv d)])]) rfl (obs_nil))))) ?_
            refine T_seq ?_
            refine T_region [(3, .gd false (.no)), (4, .gd false (.no)), (5, .gd false (.no)), (6, .gd true (.no)), (7, .gd true (.no)), (8, .gd true (.call [] [(.ssl (spans (spansL b u d)) 0 ((spansL b u d).length)), (.ssl (spans (spansL b u d)) 0 ((spansL b u d).length))] [] (bv true) [])), (9, .gd false (.no))] [ks 6] (fun _ => mixed) (l' := [ps 6 (bv true)]) (obs := [false = false, false = false, false = false, true = true, true = true, true = true, PC Try.prog 19 [(.ssl (spans (spansL b u d)) 0 ((spansL b u d).length)), (.ssl (spans (spansL b u d)) 0 ((spansL b u d).length))] [] (bv true) [], [(.ssl (spans (spansL b u d)) 0 ((spansL b u d).length)), (.ssl (spans (spansL b u d)) 0 ((spansL b u d).length))] = renL (sigi [] 227) [(.ssl (spans (spansL b u d)) 0 ((spansL b u d).length)), (.ssl (spans (spansL b u d)) 0 ((spansL b u d).length))], false = false]) (by kernel_rfl) (obs_cons (p := false = false) rfl (obs_cons (p := false = false) rfl (obs_cons (p := false = false) rfl (obs_cons (p := true = true) rfl (obs_cons (p := true = true) rfl (obs_cons (p := true = true) rfl (obs_cons (p := PC Try.prog 19 [(.ssl (spans (spansL b u d)) 0 ((spansL b u d).length)), (.ssl (spans (spansL b u d)) 0 ((spansL b u d).length))] [] (bv true) []) (same_spans (spansL b u d) (spansL_len h1)) (obs_cons (p := [(.ssl (spans (spansL b u d)) 0 ((spansL b u d).length)), (.ssl (spans (spansL b u d)) 0 ((spansL b u d).length))] = renL (sigi [] 227) [(.ssl (spans (spansL b u d)) 0 ((spansL b u d).length)), (.ssl (spans (spansL b u d)) 0 ((spansL b u d).length))]) rfl (obs_cons (p := false = false) rfl (obs_nil)))))))))) ?_
            exact T_ret fun cx_ a_ hI_ => ret_ok (H' := []) (.inr rfl) (Wk.ren2 [ps 6 (bv true)] 0 hc0 [] rfl rfl (by kernel_rfl) (by kernel_rfl)) rfl (obs_nil) (fun cx_ a_ hI_ => ret_res (l' := [ps 6 (bv true)]) (by kernel_rfl) cx_ a_ hI_) hI_
  · refine T_region [(2, .call [] [(.agg [(iv (kd b)), (iv (sh b)), (.ssl (kc b) 0 ((kids b).length))]), (.agg [(iv u), (iv d)])] [] (.tup [(.ssl [] 0 0), (iv (spansE b u d))]) [])] [ks 2, ks 3, ks 4, ks 7, ks 8, kb 0, kb 8] (fun _ => mixed) (l' := [ps 2 (iv n), ps 3 (.opt 0 0), ps 4 (.opt 8 0), ps 7 (.ssl [] 0 0), ps 8 (iv (spansE b u d)), pb 0 40 [(iv (kd b)), (iv (sh b)), (.ssl (kc b) 0 ((kids b).length))], pb 8 25 [(iv u), (iv d)]]) (obs := [PC Try.prog 17 [(.agg [(iv (kd b)), (iv (sh b)), (.ssl (kc b) 0 ((kids b).length))]), (.agg [(iv u), (iv d)])] [] (.tup [(.ssl [] 0 0), (iv (spansE b u d))]) [], [(.agg [(iv (kd b)), (iv (sh b)), (.ssl (kc b) 0 ((kids b).length))]), (.agg [(iv u), (iv d)])] = renL (sigi [] 56) [(.agg [(iv (kd b)), (iv (sh b)), (.ssl (kc b) 0 ((kids b).length))]), (.agg [(iv u), (iv d)])]]) (by kernel_rfl) (obs_cons (p := PC Try.prog 17 [(.agg [(iv (kd b)), (iv (sh b)), (.ssl (kc b) 0 ((kids b).length))]), (.agg [(iv u), (iv d)])] [] (.tup [(.ssl [] 0 0), (iv (spansE b u d))]) []) (by have h0 := spans_pc b u d hu hd; rw [spansP_no rfl h1] at h0; exact h0) (obs_cons (p := [(.agg [(iv (kd b)), (iv (sh b)), (.ssl (kc b) 0 ((kids b).length))]), (.agg [(iv u), (iv d)])] = renL (sigi [] 56) [(.agg [(iv (kd b)), (iv (sh b)), (.ssl (kc b) 0 ((kids b).length))]), (.agg [(iv u), (iv d)])]) rfl (obs_nil))) ?_
    refine T_seq ?_
    refine T_seq ?_
    refine T_region [] [ks 2, ks 3, ks 4, ks 7, ks 22, kb 0, kb 8] (fun _ => mixed) (l' := [ps 2 (iv n), ps 3 (.opt 0 0), ps 4 (.opt 8 0), ps 7 (.ssl [] 0 0), ps 22 (bv (!(decide ((spansE b u d) = 0)))), pb 0 40 [(iv (kd b)), (iv (sh b)), (.ssl (kc b) 0 ((kids b).length))], pb 8 25 [(iv u), (iv d)]]) (obs := []) (by kernel_rfl) (obs_nil) ?_
    have h9 : ¬ ((spansE b u d) = 0) := h1
    refine T_then (b := (!(decide ((spansE b u d) = 0)))) rfl (congrArg Bool.not (decide_eq_false h9)) ?_
    refine T_seq ?_
    refine T_region [] [ks 6] (fun _ => mixed) (l' := [ps 6 (bv true)]) (obs := []) (by kernel_rfl) (obs_nil) ?_
    exact T_ret fun cx_ a_ hI_ => ret_ok (H' := []) (.inr rfl) (Wk.ren2 [ps 6 (bv true)] 0 hc0 [] rfl rfl (by kernel_rfl) (by kernel_rfl)) rfl (obs_nil) (fun cx_ a_ hI_ => ret_res (l' := [ps 6 (bv true)]) (by kernel_rfl) cx_ a_ hI_) hI_
end Go.Proofs.Ytccpefbfjahfnaa.Pm
namespace Go.Proofs.Ytccpefbfjahfnaa
open Go.ChangeShapes Go.WideShapes Go.ChangeAt Go.RowKit

theorem Try.own : ownKnob Try.prog.godebug = none := by kernel_rfl
theorem Try.laidOut : laidOutB Try.prog = true := by kernel_rfl

section
variable {H : Type} {enc : TypeId × Value → H} {P : Program}
/-- All arguments at once. -/
theorem trodAll_stays (hl : laidOutB P = true) {W W' : World} {sp : Nat → Bool} (hb : Below W.heap.size W W') :
    ∀ {ts : List TypeId} {vs : List Value} {ds : List (DataW H)} {ps : List MemPlace}, (ts.all fun t => P.readableRec t && decide (t < P.types.size)) = true →
      DataW.TrodAll enc P W 0 (fun _ => true) true ts vs ds ps → (∀ x ∈ ps, x.block < W.heap.size) → (∀ x ∈ ps, sp x.block = true) → DataW.TrodAll enc P W' 0 sp true ts vs ds ps
  | [], _, _, _, _, h, _, _ => by obtain ⟨rfl, rfl, rfl⟩ := trodAll_nil h; exact trodAll_mk0
  | t :: ts, _, _, _, hr, h, hlt, hsp => by
    obtain ⟨v, vs, d, ds, p, q, rfl, rfl, rfl, h0, h1⟩ := trodAll_cons h
    simp only [List.all_cons, Bool.and_eq_true, decide_eq_true_eq] at hr
    exact trodAll_cons_mk (WideElems.Trod_stays hl hr.1.1 hr.1.2 h0 (fun x hx => hb.same (hlt x (by simp [hx]))) (fun x hx => hsp x (by simp [hx])))
      (trodAll_stays hl hb hr.2 h1 (fun x hx => hlt x (by simp [hx])) (fun x hx => hsp x (by simp [hx])))

/-- A law's post: true, and each argument reads as it did. -/
theorem law_post {f : Func} {s : ChangeSpec} {apart fresh handsOn again : Bool} {W W' : World} {args : Array Value} {ds : List (DataW H)} {before : List MemPlace} {tb : TypeId}
    (hW : DataW.Whole enc P f.params.toList s.vars apart W args.toList ds [] before) (hl : laidOutB P = true)
    (hv : s.vars = []) (hr : (f.params.toList.all fun t => P.readableRec t && decide (t < P.types.size)) = true) (hrt : f.resultTypes = #[tb]) (htb : P.underlying tb = some .bool)
    (hs : s.fn H (ds ++ []) = { results := [.lit (.bool true)], args := ds }) (hb : Below W.heap.size W W') :
    s.post enc P f apart fresh handsOn again W args (.bool true) W' := by
  have hlt : ∀ p ∈ before, p.block < W.heap.size := fun p hp => hW.lt p hp
  have hold : ∀ p ∈ before, (fun b => decide (b < W.heap.size)) p.block = true := fun p hp => by simpa using hlt p hp
  have hW0 := hW
  obtain ⟨p, q, hA, hV, hpq, hz, hn⟩ := hW
  have hq : q = [] := by rw [hv] at hV; exact (trodVars_none hV).2
  have hpq' : before = p := by rw [hpq, hq, List.append_nil]
  subst hpq'
  have hargs : ∀ sp : Nat → Bool, (∀ x ∈ before, sp x.block = true) → DataW.TrodAll enc P W' 0 sp true f.params.toList args.toList (s.fn H (ds ++ [])).args before := fun sp hsp => by
    rw [hs]; exact trodAll_stays hl hb hr hA hlt hsp
  have hvars : ∀ sp : Nat → Bool, DataW.TrodVars enc P W' sp s.vars (s.fn H (ds ++ [])).vars [] := fun sp => by rw [hs, hv]; rfl
  have hres : ∀ (b : Nat) (sp : Nat → Bool) (hd : Bool), DataW.TrodAll enc P W' b sp hd f.resultTypes.toList (Value.resultList f.resultTypes.size (.bool true)) (s.fn H (ds ++ [])).results [] := fun b sp hd => by
    rw [hrt, hs]; exact trodAll_mk1 (shut_bool htb true)
  have hok : ∀ (j : Nat) (t : TypeId) (r : Value), f.resultTypes[j]? = some t → (Value.resultList f.resultTypes.size (.bool true))[j]? = some r → Value.okWide P W' .any 0 t r := by
    exact ok_one (t := tb) hrt rfl (okWide_bool_mk htb true)
  refine ⟨ds, [], before, [], before, [], hW0, hres _ _ _, hargs _ hold, hvars _, World.keptBut_mono (fun p hp => ⟨hp, ?_⟩) (hb.frame (· ∈ before)), fun _ => ?_⟩
  · exact Or.inr (Or.inl hp)
  · refine ⟨hok, _, _, ([] ++ before) ++ [], ⟨[] ++ before, [], trodAll_append (hargs _ (fun _ _ => rfl)) (hres _ _ _), hvars _, rfl, ?_, ?_⟩, ?_⟩
    · intro b off hp
      have hin : MemPlace.cell b off ∈ before := by simpa using hp
      rw [hb.frozen (hlt _ hin)]
      exact hz b off hin
    · intro ha
      have := hn ha
      simpa using this
    · intro p hp _
      simpa using hp
end
end Go.Proofs.Ytccpefbfjahfnaa
namespace Go.Proofs.Ytccpefbfjahfnaa.Pm
open Go Go.Deep Go.ChangeShapes Go.WideShapes Go.ChangeAt Go.RowKit

theorem cells_from {w : World} {a : Addr} {n : Nat} {f : Nat → Value} (h : ∀ c, c < n → w.cell? (a.add c) = some (f c)) (hn : 0 < n) : ∃ b o, a = ⟨b, o, none⟩ ∧ b < w.heap.size ∧ ∀ c, c < n → w.cell? ⟨b, o + c, none⟩ = some (f c) := by
  obtain ⟨b, o, s⟩ := a
  have h0 := h 0 hn
  have hs : s = none := by
    simp only [Addr.add, if_true, World.cell?] at h0
    cases s with
    | none => rfl
    | some s =>
      exfalso
      split at h0
      · simp at h0
      · cases h0
  subst hs
  refine ⟨b, o, rfl, ?_, fun c hc => ?_⟩
  · simp only [Addr.add, if_true, World.cell?] at h0
    rcases Nat.lt_or_ge b w.heap.size with hb | hb
    · exact hb
    · rw [Array.getElem?_eq_none hb] at h0; cases h0
  · rw [← h c hc]
    unfold Addr.add
    by_cases e : c = 0
    · subst e; rfl
    · rw [if_neg e]
theorem ints_map (l : List Int) : ints l = l.map iv := by
  unfold ints
  induction l with
  | nil => rfl
  | cons a l ih => rw [List.flatMap_cons, ih]; rfl
theorem ints_ones (l : List Int) : ones (ints l) := fun p hp => by
  rw [ints_map] at hp
  obtain ⟨x, _, rfl⟩ := List.mem_map.1 hp
  rfl
theorem srep_ints {w : World} {A : Option Addr} {L C : Nat} {Z : List Int} (hl : L ≤ C) (hz : Z.length = C) (hn : A = none → C = 0) (hc : ∀ a, A = some a → ∀ c, c < C → w.cell? (a.add c) = some (.int .i64 (Z.getD c 0))) :
    SRep w (fun b => b < w.heap.size) (.ssl (ints (Z.take L)) 0 (Z.take L).length) (.slice A L C) := by
  have hL : (Z.take L).length = L := by rw [List.length_take]; omega
  rw [hL]
  rcases Nat.eq_zero_or_pos L with h | h
  · subst h; exact .emp
  · cases A with
    | none => have := hn rfl; omega
    | some a =>
      obtain ⟨b, o, rfl, hb, hcell⟩ := cells_from (hc a rfl) (by omega)
      refine SRep.ssl (a := o) (off := 0) (vf := fun j => .int .i64 (Z.getD j 0)) hb (fun j hj => ?_) (fun j hj => ?_) (ints_ones _) hl
      · rw [ints_len, hL] at hj; exact hcell j (by omega)
      · rw [ints_len, hL] at hj
        have : (ints (Z.take L)).getD j P0 = iv (Z.getD j 0) := by
          rw [ints_map]
          have h1 : j < Z.length := by omega
          simp [List.getD_eq_getElem?_getD, hj, h1]
        rw [this]
        exact .av _
theorem rows_map (T : List (List Int)) : rows T = T.map fun l => .ssl (ints l) 0 l.length := by
  induction T with
  | nil => rfl
  | cons a l ih => unfold rows at ih ⊢; rw [List.flatMap_cons, ih]; rfl
theorem srep_rows {w : World} {a : Addr} {len cap : Nat} {A : Nat → Option Addr} {L C : Nat → Nat} {Z : Nat → List Int} (hl : len ≤ cap)
    (h : ∀ r, r < cap → w.cell? (a.add r) = some (.slice (A r) (L r) (C r)) ∧ L r ≤ C r ∧ (Z r).length = C r ∧ (A r = none → C r = 0) ∧ ∀ a', A r = some a' → ∀ c, c < C r → w.cell? (a'.add c) = some (.int .i64 ((Z r).getD c 0))) :
    SRep w (fun b => b < w.heap.size) (.ssl (rows ((List.range len).map fun r => (Z r).take (L r))) 0 len) (.slice (some a) len cap) := by
  rcases Nat.eq_zero_or_pos len with h0 | h0
  · subst h0; exact .emp
  · obtain ⟨b, o, rfl, hb, hcell⟩ := cells_from (fun c hc => (h c hc).1) (by omega)
    have hlen : (rows ((List.range len).map fun r => (Z r).take (L r))).length = len := by rw [rows_map]; simp
    refine SRep.ssl (a := o) (off := 0) (vf := fun j => .slice (A j) (L j) (C j)) hb (fun j hj => ?_) (fun j hj => ?_) (fun p hp => ?_) hl
    · rw [hlen] at hj; exact hcell j (by omega)
    · rw [hlen] at hj
      have : (rows ((List.range len).map fun r => (Z r).take (L r))).getD j P0 = .ssl (ints ((Z j).take (L j))) 0 ((Z j).take (L j)).length := by
        rw [rows_map]
        simp [List.getD_eq_getElem?_getD, hj]
      rw [this]
      obtain ⟨_, h2, h3, h4, h5⟩ := h j (by omega)
      exact srep_ints h2 h3 h4 h5
    · rw [rows_map] at hp
      obtain ⟨x, _, rfl⟩ := List.mem_map.1 hp
      rfl
/-- A list of numbers that came in. -/
theorem arg_ints {H : Type} {enc : TypeId × Value → H} {P : Program} {w : World} {base : Nat} {t e : TypeId} {v : Value} {d : DataW H} {pl : List MemPlace} {r : Reach} {b0 : Nat} {held : Bool}
    (ht : P.underlying t = some (.slice e)) (he : P.underlying e = some (.int .i64)) (hc : P.cellsOf e = 1) (hv : Value.okWide P w r b0 t v) (h : DataW.Trod enc P w base (fun _ => true) held t v d pl) :
    ∃ l : List Int, SRep w (fun b => b < w.heap.size) (.ssl (ints l) 0 l.length) v ∧ (∀ n ∈ l, (Lit.int .i64 n).wf = true) ∧ (l = [] ∨ ∃ es sp, d = .slice es sp ∧ es.length = l.length) := by
  obtain ⟨a0, len0, cap0, rfl⟩ := okWide_slice ht hv
  obtain ⟨fuel, hf⟩ := h
  rcases open_ints ht he hc hf with ⟨hcs, _⟩ | ⟨a, len, cap, zs, hcs, hb, hl, hm, hz, hx, hcell, hwz⟩
  · simp only [Value.cells, List.cons.injEq, Value.slice.injEq, and_true] at hcs
    obtain ⟨rfl, rfl, rfl⟩ := hcs
    exact ⟨[], .emp, (by simp), .inl rfl⟩
  · simp only [Value.cells, List.cons.injEq, Value.slice.injEq, and_true] at hcs
    obtain ⟨rfl, rfl, rfl⟩ := hcs
    simp only [if_true] at hz
    simp only [Prod.mk.injEq] at hx
    refine ⟨zs.take len0, srep_ints hl hz (fun h => by cases h) (fun a' ha c hc => ?_), fun n hn => hwz n (List.mem_of_mem_take hn), .inr ⟨_, _, hx.1, by simp [lits]⟩⟩
    cases ha
    exact hcell c (by omega)
theorem weights_all_mem {H : Type} {P : Program} {e : TypeId} : ∀ {l : List (DataW H)} {d : DataW H}, d ∈ l → ∀ n ∈ d.weights P e, n ∈ DataW.weightsAll P e l
  | d' :: r, d, hd, n, hn => by
    simp only [DataW.weightsAll, List.mem_append]
    rcases List.mem_cons.1 hd with rfl | h
    · exact Or.inl hn
    · exact Or.inr (weights_all_mem h n hn)
/-- The reach, of a row inside a slice of slices. -/
theorem row_sized {H : Type} {P : Program} {ts : List TypeId} {ds : List (DataW H)} (h : (DataW.weightsEach P ts ds).all (· ≤ reachBytes) = true) {j : Nat} {t e q : TypeId} {elems spare e' sp' : List (DataW H)}
    (ht : ts[j]? = some t) (hd : ds[j]? = some (.slice elems spare)) (hu : P.underlying t = some (.slice e)) (hu2 : P.underlying e = some (.slice q)) (hx : DataW.slice e' sp' ∈ elems) : (e'.length + sp'.length) * P.bytesOf q ≤ reachBytes := by
  refine of_decide_eq_true (List.all_eq_true.1 h _ (DataW.weights_mem_each ht hd _ ?_))
  simp only [DataW.weights, hu, List.mem_cons, List.mem_append]
  exact Or.inr (Or.inl (weights_all_mem hx _ (by simp [DataW.weights, hu2])))
/-- The sizes of a list of numbers. -/
theorem ints_sized {H : Type} {P : Program} {ts : List TypeId} {ds : List (DataW H)} (h : (DataW.weightsEach P ts ds).all (· ≤ reachBytes) = true) {j : Nat} {t e : TypeId} {d : DataW H} {l : List Int} {k : Nat}
    (ht : ts[j]? = some t) (hd : ds[j]? = some d) (hu : P.underlying t = some (.slice e)) (hk : P.bytesOf e = k) (hx : l = [] ∨ ∃ es sp, d = .slice es sp ∧ es.length = l.length) : l.length * k ≤ 140737488351232 := by
  rcases hx with rfl | ⟨es, sp, rfl, he⟩
  · simp
  · have := sized_slice h ht hd hu
    rw [hk] at this
    rw [← he]
    exact Nat.le_trans (Nat.mul_le_mul_right k (Nat.le_add_right _ _)) this
/-- A list of lists of numbers that came in. -/
theorem arg_rows {H : Type} {enc : TypeId × Value → H} {P : Program} {w : World} {base : Nat} {t e q : TypeId} {v : Value} {d : DataW H} {pl : List MemPlace} {r : Reach} {b0 : Nat} {held : Bool}
    (ht : P.underlying t = some (.slice e)) (he : P.underlying e = some (.slice q)) (hq : P.underlying q = some (.int .i64)) (ce : P.cellsOf e = 1) (cq : P.cellsOf q = 1) (bq : P.bytesOf q = 8) (hv : Value.okWide P w r b0 t v) (h : DataW.Trod enc P w base (fun _ => true) held t v d pl)
    {ts : List TypeId} {ds : List (DataW H)} (hs : (DataW.weightsEach P ts ds).all (· ≤ reachBytes) = true) {j : Nat} (hj : ts[j]? = some t) (hd : ds[j]? = some d) :
    ∃ T : List (List Int), SRep w (fun b => b < w.heap.size) (.ssl (rows T) 0 T.length) v ∧ T.length ≤ 9223372036854775807 ∧ (∀ i, (T.getD i []).length * 8 ≤ 140737488351232) ∧ ∀ i, ∀ n ∈ T.getD i [], (Lit.int .i64 n).wf = true := by
  obtain ⟨a0, len0, cap0, rfl⟩ := okWide_slice ht hv
  obtain ⟨fuel, hf⟩ := h
  rcases open_int_rows ht he hq ce cq hf with ⟨hcs, _⟩ | ⟨a, len, cap, A, L, C, Z, hcs, _, hl, hm, hx, hrows⟩
  · simp only [Value.cells, List.cons.injEq, Value.slice.injEq, and_true] at hcs
    obtain ⟨rfl, rfl, rfl⟩ := hcs
    exact ⟨[], .emp, by simp, by simp, by simp⟩
  · simp only [Value.cells, List.cons.injEq, Value.slice.injEq, and_true] at hcs
    obtain ⟨rfl, rfl, rfl⟩ := hcs
    simp only [Prod.mk.injEq] at hx
    have hT : ((List.range len0).map fun r => (Z r).take (L r)).length = len0 := by simp
    have hg : ∀ i, i < len0 → ((List.range len0).map fun r => (Z r).take (L r)).getD i [] = (Z i).take (L i) := fun i hi => by simp [List.getD_eq_getElem?_getD, hi]
    have hg0 : ∀ i, ¬ i < len0 → ((List.range len0).map fun r => (Z r).take (L r)).getD i [] = [] := fun i hi => by rw [List.getD_eq_getElem?_getD, List.getElem?_eq_none (by simpa using hi)]; rfl
    refine ⟨(List.range len0).map fun r => (Z r).take (L r), ?_, ?_, fun i => ?_, fun i n hn => ?_⟩
    · rw [hT]
      exact srep_rows hl fun r hr => by
        obtain ⟨h1, h2, h3, h4, h5, h6, h7⟩ := hrows r hr
        exact ⟨h1, h2, h4, h6, fun a' ha => (h7 a' ha).2⟩
    · rw [hT]; unfold maxLen at hm; omega
    · by_cases hi : i < len0
      · rw [hg i hi]
        obtain ⟨h1, h2, h3, h4, h5, h6, h7⟩ := hrows i (by omega)
        cases hA : A i with
        | none => have := h6 hA; rw [List.length_take]; omega
        | some a' =>
          have hin := row_sized hs hj (by rw [hd, hx.1]) ht he (e' := lits .i64 ((Z i).take (L i))) (sp' := lits .i64 ((Z i).drop (L i))) (List.mem_map.2 ⟨i, List.mem_range.2 hi, by simp [intRow, hA]⟩)
          rw [bq] at hin
          simp only [lits, List.length_map, reachBytes] at hin
          omega
      · rw [hg0 i hi]; simp
    · by_cases hi : i < len0
      · rw [hg i hi] at hn
        exact (hrows i (by omega)).2.2.2.2.1 n (List.mem_of_mem_take hn)
      · rw [hg0 i hi] at hn; cases hn
end Go.Proofs.Ytccpefbfjahfnaa.Pm
namespace Go.Proofs.Ytccpefbfjahfnaa.Pm
open Go Go.Deep Go.ChangeShapes Go.WideShapes Go.ChangeAt Go.RowKit

/-- The parts of a struct, one behind the other. -/
def ShF (r : TypeId → List PV → Prop) : List Field → List PV → Prop
  | [], ps => ps = []
  | f :: fs, ps => ∃ a b, ps = a ++ b ∧ r f.type a ∧ ShF r fs b
/-- The tree's form, by the type. -/
def Sh (P : Program) : Nat → TypeId → List PV → Prop
  | 0, _, _ => False
  | n + 1, t, ps => match P.underlying t with
    | some .bool => ∃ b, ps = [.av (.bool b)]
    | some (.int k) => ∃ m, ps = [.av (.int k m)] ∧ (Lit.int k m).wf = true
    | some (.float k) => ∃ b, ps = [.av (.float k b)] ∧ (Lit.float k b).wf = true
    | some .string => ∃ s : ByteArray, ps = [.av (.string s)] ∧ s.size ≤ maxLen
    | some (.slice e) => ∃ ess : List (List PV), ps = [.ssl ess.flatten 0 ess.length] ∧ ess.length ≤ maxLen ∧ ess.length * P.bytesOf e ≤ reachBytes ∧ ∀ es ∈ ess, Sh P n e es
    | some (.struct fs) => ShF (Sh P n) fs.toList ps
    | _ => False
mutual
/-- How much a reading holds. -/
def bulkW {H : Type} : DataW H → Nat
  | .lit (.string bytes) => bytes.length + 1
  | .lit _ => 1
  | .nil => 1
  | .ptr d => bulkW d + 1
  | .slice elems spare => bulkAll elems + bulkAll spare + 1
  | .agg parts => bulkAll parts + 1
  | .iface _ d => bulkW d + 1
  | .map entries => bulkEntries entries + 1
  | .held _ => 1
def bulkAll {H : Type} : List (DataW H) → Nat
  | [] => 0
  | d :: r => bulkW d + bulkAll r
def bulkEntries {H : Type} : List (Lit × DataW H) → Nat
  | [] => 0
  | x :: r => bulkEntry x + bulkEntries r
def bulkEntry {H : Type} : Lit × DataW H → Nat
  | (.string bytes, d) => bytes.length + bulkW d + 1
  | (_, d) => bulkW d + 1
end
mutual
/-- How much a tree holds. -/
def pvw : PV → Nat
  | .av (.string s) => s.size + 1
  | .ssl cs _ _ => pvws cs + 1
  | .agg cs => pvws cs + 1
  | _ => 1
def pvws : List PV → Nat
  | [] => 0
  | p :: l => pvw p + pvws l
end
theorem pvws_app : ∀ a b : List PV, pvws (a ++ b) = pvws a + pvws b
  | [], b => by simp [pvws]
  | p :: a, b => by rw [List.cons_append, pvws, pvws, pvws_app a b]; omega
theorem pvws_flatten : ∀ l : List (List PV), pvws l.flatten = (l.map pvws).sum
  | [] => rfl
  | a :: l => by rw [List.flatten_cons, pvws_app, pvws_flatten l, List.map_cons, List.sum_cons]
theorem sum_le {H : Type} : ∀ (n : Nat) (f : Nat → Nat) (ds : List (DataW H)), ds.length = n → (∀ i (h : i < ds.length), f i ≤ bulkW ds[i]) → ((List.range n).map f).sum ≤ bulkAll ds
  | 0, f, ds, hl, h => by simp
  | n + 1, f, [], hl, h => by simp at hl
  | n + 1, f, d :: ds, hl, h => by
    rw [List.range_succ_eq_map, List.map_cons, List.sum_cons, List.map_map, bulkAll]
    have h0 := h 0 (by simp)
    have h1 := sum_le n (f ∘ Nat.succ) ds (by simpa using hl) fun i hi => by have := h (i + 1) (by simpa using hi); simpa using this
    simp only [List.getElem_cons_zero] at h0
    omega
def contig (P : Program) : List Field → Nat → Option Nat
  | [], o => some o
  | f :: fs, o => if f.offset = o then contig P fs (o + P.cellsOf f.type) else none
/-- These types can be opened, with all that is in them. -/
def openB (P : Program) (Ts : List TypeId) : Bool := Ts.all fun t => match P.underlying t with
  | some .bool | some (.int _) | some (.float _) | some .string => Nat.beq (P.cellsOf t) 1
  | some (.slice e) => Nat.beq (P.cellsOf t) 1 && Nat.ble 1 (P.cellsOf e) && Ts.contains e
  | some (.struct fs) => contig P fs.toList 0 == some (P.cellsOf t) && fs.toList.all fun f => Ts.contains f.type
  | _ => false
theorem List.getD_app {α : Type} {l m : List α} {i : Nat} {d : α} (h : i < l.length) : (l ++ m).getD i d = l.getD i d := by
  rw [List.getD_eq_getElem?_getD, List.getD_eq_getElem?_getD, List.getElem?_append_left h]
theorem List.getD_app_r {α : Type} {l m : List α} {i : Nat} {d : α} (h : l.length ≤ i) : (l ++ m).getD i d = m.getD (i - l.length) d := by
  rw [List.getD_eq_getElem?_getD, List.getD_eq_getElem?_getD, List.getElem?_append_right h]
theorem flatten_get {k : Nat} : ∀ {ess : List (List PV)}, (∀ es ∈ ess, es.length = k) → ess.flatten.length = ess.length * k ∧ ∀ i j, j < k → i < ess.length → ess.flatten.getD (i * k + j) P0 = (ess.getD i []).getD j P0
  | [], _ => ⟨by simp, fun i j _ h => absurd h (Nat.not_lt_zero _)⟩
  | es :: ess, h => by
    have h0 := h es (by simp)
    obtain ⟨h1, h2⟩ := flatten_get (ess := ess) fun x hx => h x (by simp [hx])
    refine ⟨by rw [List.flatten_cons, List.length_append, h0, h1, List.length_cons, Nat.succ_mul]; omega, fun i j hj hi => ?_⟩
    rw [List.flatten_cons]
    cases i with
    | zero => rw [Nat.zero_mul, Nat.zero_add, List.getD_app (by omega)]; rfl
    | succ i =>
      rw [List.getD_app_r (by rw [h0, Nat.succ_mul]; omega), h0, show (i + 1) * k + j - k = i * k + j from by rw [Nat.succ_mul]; omega, h2 i j hj (by simpa using hi)]
      rfl
section
variable {H : Type} {enc : TypeId × Value → H} {P : Program} {w : World} {base : Nat} {held : Bool}
abbrev Opened (w : World) (ps : List PV) (cs : List Value) : Prop := ones ps ∧ ps.length = cs.length ∧ ∀ i, i < ps.length → SRep w (fun b => b < w.heap.size) (ps.getD i P0) (cs.getD i undef)
theorem opened_one {p : PV} {v : Value} (h : p.one = true) (hr : SRep w (fun b => b < w.heap.size) p v) : Opened w [p] [v] :=
  ⟨fun q hq => by simp only [List.mem_singleton] at hq; rw [hq]; exact h, rfl, fun i hi => by
    have : i = 0 := by simp at hi; omega
    subst this; exact hr⟩
theorem open_fs {Ts : List TypeId} {n : Nat} (ih : ∀ (t : TypeId) (cs : List Value) (x : DataW H × List MemPlace), t ∈ Ts → DataW.trod enc P w base (fun _ => true) held n t cs = some x → (x.1.weights P t).all (· ≤ reachBytes) = true →
    ∃ ps, Sh P n t ps ∧ Opened w ps cs ∧ cs.length = P.cellsOf t ∧ pvws ps ≤ bulkW x.1) (cs : List Value) :
    ∀ (fs : List Field) (xs : List (DataW H × List MemPlace)) (o e : Nat), contig P fs o = some e → e ≤ cs.length → (∀ f ∈ fs, f.type ∈ Ts) → xs.length = fs.length →
      (∀ (i : Nat) (f : Field), fs[i]? = some f → DataW.trod enc P w base (fun _ => true) held n f.type ((cs.drop f.offset).take (P.cellsOf f.type)) = xs[i]?) →
      (DataW.weightsEach P (fs.map (·.type)) (xs.map (·.1))).all (· ≤ reachBytes) = true → ∃ ps, ShF (Sh P n) fs ps ∧ Opened w ps ((cs.drop o).take (e - o)) ∧ o ≤ e ∧ pvws ps ≤ bulkAll (xs.map (·.1))
  | [], xs, o, e, hc, he, _, _, _, _ => by
    simp only [contig, Option.some.injEq] at hc
    subst hc
    exact ⟨[], rfl, ⟨fun p hp => (by cases hp), by simp, fun i hi => by simp at hi⟩, Nat.le_refl _, Nat.zero_le _⟩
  | f :: fs, [], o, e, hc, he, hT, hx, hf, hw => by simp at hx
  | f :: fs, x :: xs, o, e, hc, he, hT, hx, hf, hw => by
    simp only [contig] at hc
    split at hc
    case isFalse => cases hc
    rename_i ho
    simp only [List.map_cons, DataW.weightsEach, List.all_append, Bool.and_eq_true] at hw
    obtain ⟨b, hb1, hb2, hb3, hb4⟩ := open_fs ih cs fs xs _ e hc he (fun g hg => hT g (by simp [hg])) (by simpa using hx) (fun i g hg => by have := hf (i + 1) g (by simpa using hg); simpa using this) hw.2
    obtain ⟨a, ha1, ha2, ha3, ha4⟩ := ih f.type _ x (hT f (by simp)) (by have := hf 0 f (by simp); simpa using this) hw.1
    rw [ho] at ha2 ha3
    have hla : (List.take (P.cellsOf f.type) (List.drop o cs)).length = P.cellsOf f.type := ha3
    have e1 : (cs.drop o).take (e - o) = (cs.drop o).take (P.cellsOf f.type) ++ (cs.drop (o + P.cellsOf f.type)).take (e - (o + P.cellsOf f.type)) := by
      rw [← List.drop_drop, show e - o = P.cellsOf f.type + (e - (o + P.cellsOf f.type)) from by omega, List.take_add]
    refine ⟨a ++ b, ⟨a, b, rfl, ha1, hb1⟩, ?_, by omega, by rw [pvws_app, List.map_cons, bulkAll]; omega⟩
    rw [e1]
    refine ⟨fun p hp => ?_, by rw [List.length_append, List.length_append, ha2.2.1, hb2.2.1], fun i hi => ?_⟩
    · rcases List.mem_append.1 hp with h | h
      · exact ha2.1 p h
      · exact hb2.1 p h
    · have hl := ha2.2.1
      rw [List.length_append] at hi
      by_cases h : i < a.length
      · rw [List.getD_app h, List.getD_app (by omega)]
        exact ha2.2.2 i h
      · rw [List.getD_app_r (by omega), List.getD_app_r (by omega), ← hl]
        exact hb2.2.2 _ (by omega)
theorem open_any {Ts : List TypeId} (hT : openB P Ts = true) : ∀ (n : Nat) (t : TypeId) (cs : List Value) (x : DataW H × List MemPlace), t ∈ Ts → DataW.trod enc P w base (fun _ => true) held n t cs = some x → (x.1.weights P t).all (· ≤ reachBytes) = true →
    ∃ ps, Sh P n t ps ∧ Opened w ps cs ∧ cs.length = P.cellsOf t ∧ pvws ps ≤ bulkW x.1
  | 0, _, _, _, _, h, _ => by simp [DataW.trod] at h
  | n + 1, t, cs, x, ht, h, hw => by
    have hB := List.all_eq_true.1 hT t ht
    split at hB
    · rename_i hu
      obtain ⟨b, rfl, rfl⟩ := DataW.trod_bool hu h
      exact ⟨[.av (.bool b)], by simp only [Sh, hu]; exact ⟨b, rfl⟩, opened_one rfl (.av _), (Nat.eq_of_beq_eq_true hB).symm, by simp [pvws, pvw, bulkW]⟩
    · rename_i k hu
      obtain ⟨b, rfl, rfl, hwf⟩ := DataW.trod_int hu h
      exact ⟨[.av (.int k b)], by simp only [Sh, hu]; exact ⟨b, rfl, hwf⟩, opened_one rfl (.av _), (Nat.eq_of_beq_eq_true hB).symm, by simp [pvws, pvw, bulkW]⟩
    · rename_i k hu
      have : ∃ b, cs = [.float k b] ∧ (Lit.float k b).wf = true ∧ x = (.lit (.float k b), []) := by
        unfold DataW.trod at h
        rw [hu] at h
        split at h <;> simp_all
      obtain ⟨b, rfl, hwf, rfl⟩ := this
      exact ⟨[.av (.float k b)], by simp only [Sh, hu]; exact ⟨b, rfl, hwf⟩, opened_one rfl (.av _), (Nat.eq_of_beq_eq_true hB).symm, by simp [pvws, pvw, bulkW]⟩
    · rename_i hu
      obtain ⟨s, rfl, rfl, hs⟩ := DataW.trod_string hu h
      exact ⟨[.av (.string s)], by simp only [Sh, hu]; exact ⟨s, rfl, hs⟩, opened_one rfl (.av _), (Nat.eq_of_beq_eq_true hB).symm, by simp [pvws, pvw, bulkW]⟩
    · rename_i e hu
      simp only [Bool.and_eq_true] at hB
      obtain ⟨⟨hB1, hB2⟩, hB3⟩ := hB
      have hB1 := Nat.eq_of_beq_eq_true hB1
      have hk := Nat.le_of_ble_eq_true hB2
      have he : e ∈ Ts := by simpa using hB3
      rcases DataW.trod_slice hu h with ⟨rfl, rfl⟩ | ⟨a, len, cap, elems, rest, m, hm, rfl, rfl, hb, hl, hcap, hel, hE, _, _⟩
      · refine ⟨[.ssl [] 0 0], ?_, opened_one rfl .emp, hB1.symm, by simp [pvws, pvw, bulkW]⟩
        simp only [Sh, hu]
        exact ⟨[], rfl, Nat.zero_le _, by simp, by simp⟩
      · obtain rfl : m = n := by omega
        simp only [DataW.weights, hu, List.length_map, List.all_cons, List.all_append, Bool.and_eq_true, decide_eq_true_eq] at hw
        have hwl : ∀ i (hi : i < elems.length), ((elems[i].1).weights P e).all (· ≤ reachBytes) = true := by
          intro i hi
          refine List.all_eq_true.2 fun z hz => ?_
          exact List.all_eq_true.1 hw.2.1 z (weights_all_mem (List.mem_map.2 ⟨elems[i], List.getElem_mem hi, rfl⟩) z hz)
        have each : ∀ i, i < len → ∃ q : List PV × List Value, Sh P m e q.1 ∧ Opened w q.1 q.2 ∧ q.2.length = P.cellsOf e ∧ (∀ j, j < P.cellsOf e → w.cell? (a.add (i * P.cellsOf e + j)) = some (q.2.getD j undef)) ∧ ∀ h : i < elems.length, pvws q.1 ≤ bulkW (elems[i]).1 := by
          intro i hi
          have h1 := hE i hi
          rw [List.getElem?_eq_getElem (by omega), Option.bind_eq_some_iff] at h1
          obtain ⟨cs', h2, h3⟩ := h1
          obtain ⟨ps, h4, h5, h6, h7⟩ := open_any hT m e cs' _ he h3 (hwl i (by omega))
          refine ⟨(ps, cs'), h4, h5, h6, fun j hj => ?_, fun _ => h7⟩
          rw [← Addr.add_add, (World.cells?_some h2).2.2 j hj]
          have : j < cs'.length := by omega
          simp [List.getD_eq_getElem?_getD, this]
        let Q : Nat → List PV × List Value := fun i => if hi : i < len then (each i hi).choose else ([], [])
        have hQ : ∀ i, i < len → Sh P m e (Q i).1 ∧ Opened w (Q i).1 (Q i).2 ∧ (Q i).2.length = P.cellsOf e ∧ (∀ j, j < P.cellsOf e → w.cell? (a.add (i * P.cellsOf e + j)) = some ((Q i).2.getD j undef)) ∧ ∀ h : i < elems.length, pvws (Q i).1 ≤ bulkW (elems[i]).1 := by
          intro i hi
          have e1 : Q i = (each i hi).choose := dif_pos hi
          rw [e1]
          exact (each i hi).choose_spec
        have hlen : ((List.range len).map fun i => (Q i).1).length = len := by simp
        refine ⟨[.ssl ((List.range len).map fun i => (Q i).1).flatten 0 ((List.range len).map fun i => (Q i).1).length], ?_, opened_one rfl ?_, hB1.symm, ?_⟩
        · simp only [Sh, hu]
          refine ⟨_, rfl, by rw [hlen]; omega, by rw [hlen]; exact Nat.le_trans (Nat.mul_le_mul_right _ (by omega)) hw.1, fun es hes => ?_⟩
          obtain ⟨i, hi, rfl⟩ := List.mem_map.1 hes
          exact (hQ i (List.mem_range.1 hi)).1
        · rw [hlen]
          rcases Nat.eq_zero_or_pos len with h0 | h0
          · subst h0; exact .emp
          · have hes : ∀ es ∈ (List.range len).map fun i => (Q i).1, es.length = P.cellsOf e := fun es hes => by
              obtain ⟨i, hi, rfl⟩ := List.mem_map.1 hes
              obtain ⟨_, h2, h3, _⟩ := hQ i (List.mem_range.1 hi)
              exact h2.2.1.trans h3
            obtain ⟨hf1, hf2⟩ := flatten_get hes
            rw [hlen] at hf1 hf2
            have hg : ∀ i, i < len → ((List.range len).map fun i => (Q i).1).getD i [] = (Q i).1 := fun i hi => by simp [List.getD_eq_getElem?_getD, hi]
            obtain ⟨b, o, rfl, hbs, hcell⟩ := cells_from (w := w) (a := a) (n := len * P.cellsOf e) (f := fun c => (Q (c / P.cellsOf e)).2.getD (c % P.cellsOf e) undef) (fun c hc => by
              have hd : c / P.cellsOf e < len := Nat.div_lt_of_lt_mul (by rw [Nat.mul_comm]; exact hc)
              have := (hQ _ hd).2.2.2.1 (c % P.cellsOf e) (Nat.mod_lt _ hk)
              rw [Nat.mul_comm, Nat.div_add_mod] at this
              exact this) (Nat.mul_pos h0 hk)
            refine SRep.ssl (a := o) (off := 0) (vf := fun c => (Q (c / P.cellsOf e)).2.getD (c % P.cellsOf e) undef) hbs (fun j hj => hcell j (by omega)) (fun j hj => ?_) (fun p hp => ?_) hl
            · rw [hf1] at hj
              have hd : j / P.cellsOf e < len := Nat.div_lt_of_lt_mul (by rw [Nat.mul_comm]; exact hj)
              have hm := Nat.mod_lt j hk
              have e1 := hf2 (j / P.cellsOf e) (j % P.cellsOf e) hm hd
              rw [Nat.mul_comm, Nat.div_add_mod, hg _ hd] at e1
              rw [e1]
              obtain ⟨_, h2, h3, _⟩ := hQ _ hd
              exact h2.2.2 _ (by rw [h2.2.1, h3]; exact hm)
            · obtain ⟨es, hes', hp'⟩ := List.mem_flatten.1 hp
              obtain ⟨i, hi, rfl⟩ := List.mem_map.1 hes'
              exact (hQ i (List.mem_range.1 hi)).2.1.1 p hp'
        · simp only [pvws, pvw, bulkW, pvws_flatten, List.map_map]
          have := sum_le len (pvws ∘ fun i => (Q i).1) (elems.map (·.1)) (by simpa using hel) fun i hi => by
            have hi' : i < elems.length := by simpa using hi
            have := (hQ i (by omega)).2.2.2.2 hi'
            simpa using this
          omega
    · rename_i fs hu
      simp only [Bool.and_eq_true, beq_iff_eq, List.all_eq_true] at hB
      obtain ⟨xs, m, hm, rfl, hl, hxl, hf⟩ := DataW.trod_struct hu h
      obtain rfl : m = n := by omega
      simp only [DataW.weights, hu] at hw
      obtain ⟨ps, h1, h2, _, h4⟩ := open_fs (open_any hT m) cs fs.toList xs 0 _ hB.1 (by omega) (fun f hf => by simpa using hB.2 f hf) (by simpa using hxl) (fun i f hif => hf i f (by simpa using hif)) hw
      rw [List.drop_zero, Nat.sub_zero, ← hl, List.take_length] at h2
      exact ⟨ps, by simp only [Sh, hu]; exact h1, h2, hl, by simp only [bulkW]; omega⟩
    · cases hB
end
theorem weights_at {H : Type} {P : Program} {ts : List TypeId} {ds : List (DataW H)} (h : (DataW.weightsEach P ts ds).all (· ≤ reachBytes) = true) {j : Nat} {t : TypeId} {d : DataW H} (ht : ts[j]? = some t) (hd : ds[j]? = some d) : (d.weights P t).all (· ≤ reachBytes) = true :=
  List.all_eq_true.2 fun n hn => List.all_eq_true.1 h n (DataW.weights_mem_each ht hd n hn)
/-- An argument, whatever its type. -/
theorem arg_any {H : Type} {enc : TypeId × Value → H} {P : Program} {w : World} {base : Nat} {t : TypeId} {v : Value} {d : DataW H} {pl : List MemPlace} {r : Reach} {b0 : Nat} {held : Bool} {Ts : List TypeId}
    (hT : openB P Ts = true) (ht : t ∈ Ts) (hv : Value.okWide P w r b0 t v) (h : DataW.Trod enc P w base (fun _ => true) held t v d pl)
    {ts : List TypeId} {ds : List (DataW H)} (hs : (DataW.weightsEach P ts ds).all (· ≤ reachBytes) = true) {j : Nat} (hj : ts[j]? = some t) (hd : ds[j]? = some d) :
    ∃ n ps, Sh P n t ps ∧ pvws ps ≤ bulkW d ∧ match isAggD (P.underlying t) with
      | some true => SRep w (fun b => b < w.heap.size) (.agg ps) v
      | _ => ∃ p, ps = [p] ∧ SRep w (fun b => b < w.heap.size) p v := by
  obtain ⟨n, hf⟩ := h
  obtain ⟨ps, h1, ⟨h2, h3, h4⟩, h5, h6⟩ := open_any hT n t _ _ ht hf (weights_at hs hj hd)
  refine ⟨n, ps, h1, h6, ?_⟩
  have hB := List.all_eq_true.1 hT t ht
  have one : v.cells = #[v] → ∃ p, ps = [p] ∧ SRep w (fun b => b < w.heap.size) p v := fun hc => by
    rw [hc] at h3 h4
    simp only [List.length_cons, List.length_nil] at h3
    obtain ⟨p, rfl⟩ := List.length_eq_one_iff.1 h3
    exact ⟨p, rfl, h4 0 (by simp)⟩
  split at hB
  · rename_i hu
    obtain ⟨b, rfl⟩ := okWide_bool hu hv
    simp only [hu, isAggD]
    exact one rfl
  · rename_i k hu
    obtain ⟨b, rfl⟩ := okWide_int hu hv
    simp only [hu, isAggD]
    exact one rfl
  · rename_i k hu
    have : ∃ b, v = .float k b := by
      simp only [Value.okWide, hu, Cell.okWide] at hv
      cases v <;> simp_all [Cell.ok]
    obtain ⟨b, rfl⟩ := this
    simp only [hu, isAggD]
    exact one rfl
  · rename_i hu
    obtain ⟨b, rfl⟩ := okWide_string hu hv
    simp only [hu, isAggD]
    exact one rfl
  · rename_i e hu
    obtain ⟨a, l, c, rfl⟩ := okWide_slice hu hv
    simp only [hu, isAggD]
    exact one rfl
  · rename_i fs hu
    obtain ⟨cs, rfl, hsz⟩ := okWide_struct hu hv
    simp only [hu, isAggD]
    simp only [Value.cells] at h3 h4
    refine .agg (by simpa using h3.symm) fun i hi => ?_
    have := h4 i hi
    rwa [show cs.toList.getD i undef = cs.getD i undef from by rw [List.getD_eq_getElem?_getD, Array.getElem?_toList, Array.getD_eq_getD_getElem?]] at this
  · cases hB
end Go.Proofs.Ytccpefbfjahfnaa.Pm
namespace Go.Proofs.Ytccpefbfjahfnaa.Pm
open Go

theorem list_of0 {α : Type} {g : α → List PV} : ∀ {ess : List (List PV)}, (∀ es ∈ ess, ∃ x, es = g x) → ∃ l : List α, ess = l.map g
  | [], _ => ⟨[], rfl⟩
  | es :: ess, h => by
    obtain ⟨x, rfl⟩ := h es (by simp)
    obtain ⟨l, rfl⟩ := list_of0 (ess := ess) fun e he => h e (by simp [he])
    exact ⟨x :: l, rfl⟩
theorem sh_int {n : Nat} {ps : List PV} (h : Sh Try.prog n 3 ps) : ∃ m, ps = [iv m] ∧ (Lit.int .i64 m).wf = true := by
  cases n with
  | zero => exact h.elim
  | succ n =>
    simp only [Sh, Try.underlying3] at h
    exact h
theorem beat_of : ∀ (n : Nat) (ps : List PV), Sh Try.prog n 40 ps → ∃ b, ps = gB b := by
  intro n
  induction n using Nat.strongRecOn with
  | ind n ih =>
    intro ps h
    cases n with
    | zero => exact h.elim
    | succ n =>
      simp only [Sh, Try.underlying40, ShF] at h
      obtain ⟨a, b, rfl, h1, c, d, rfl, h2, e, f, rfl, h3, rfl⟩ := h
      obtain ⟨k, rfl, _⟩ := sh_int h1
      obtain ⟨s, rfl, _⟩ := sh_int h2
      cases n with
      | zero => exact h3.elim
      | succ n =>
        simp only [Sh, Try.underlying38] at h3
        obtain ⟨ess, rfl, _, _, h4⟩ := h3
        obtain ⟨l, rfl⟩ := list_of0 fun es hes => ih n (by omega) es (h4 es hes)
        refine ⟨.mk k s l, ?_⟩
        simp only [gB, kd, sh, kids, kc, kcs_flat, List.flatten_eq_flatMap, List.length_map, List.flatMap_map]
        rfl
end Go.Proofs.Ytccpefbfjahfnaa.Pm
namespace Go.Proofs.Ytccpefbfjahfnaa.Pm
open Go Go.Deep Go.ChangeShapes Go.WideShapes Go.ChangeAt Go.RowKit

mutual
theorem bulk_eq {H : Type} : ∀ d : DataW H, Rows.uptoBulk d = bulkW d
  | .lit (.string b) => by simp [Rows.uptoBulk, bulkW]
  | .lit (.bool _) => by simp [Rows.uptoBulk, bulkW]
  | .lit (.int _ _) => by simp [Rows.uptoBulk, bulkW]
  | .lit (.float _ _) => by simp [Rows.uptoBulk, bulkW]
  | .lit .nil => by simp [Rows.uptoBulk, bulkW]
  | .nil => by simp [Rows.uptoBulk, bulkW]
  | .ptr d => by simp [Rows.uptoBulk, bulkW, bulk_eq d]
  | .slice e s => by simp [Rows.uptoBulk, bulkW, bulk_all e, bulk_all s]
  | .agg ps => by simp [Rows.uptoBulk, bulkW, bulk_all ps]
  | .iface _ d => by simp [Rows.uptoBulk, bulkW, bulk_eq d]
  | .map es => by simp [Rows.uptoBulk, bulkW, bulk_entries es]
  | .held _ => by simp [Rows.uptoBulk, bulkW]
theorem bulk_all {H : Type} : ∀ l : List (DataW H), Rows.uptoBulkAll l = bulkAll l
  | [] => by simp [Rows.uptoBulkAll, bulkAll]
  | d :: l => by simp [Rows.uptoBulkAll, bulkAll, bulk_eq d, bulk_all l]
theorem bulk_entries {H : Type} : ∀ l : List (Lit × DataW H), Rows.uptoBulkEntries l = bulkEntries l
  | [] => by simp [Rows.uptoBulkEntries, bulkEntries]
  | x :: l => by simp [Rows.uptoBulkEntries, bulkEntries, bulk_entry x, bulk_entries l]
theorem bulk_entry {H : Type} : ∀ x : Lit × DataW H, Rows.uptoBulkEntry x = bulkEntry x
  | (.string b, d) => by simp [Rows.uptoBulkEntry, bulkEntry, bulk_eq d]
  | (.bool _, d) => by simp [Rows.uptoBulkEntry, bulkEntry, bulk_eq d]
  | (.int _ _, d) => by simp [Rows.uptoBulkEntry, bulkEntry, bulk_eq d]
  | (.float _ _, d) => by simp [Rows.uptoBulkEntry, bulkEntry, bulk_eq d]
  | (.nil, d) => by simp [Rows.uptoBulkEntry, bulkEntry, bulk_eq d]
end
theorem small_bulk {H : Type} {l : List (DataW H)} (hk : Rows.uptoSmall H l = true) : bulkAll l ≤ 1048576 := by
  have h : Rows.uptoBulkAll l ≤ 1048576 := of_decide_eq_true hk
  rwa [bulk_all] at h
theorem bulk_mem {H : Type} {d : DataW H} : ∀ {l : List (DataW H)}, d ∈ l → bulkW d ≤ bulkAll l
  | x :: l, h => by
    rw [bulkAll]
    rcases List.mem_cons.1 h with rfl | h
    · omega
    · have := bulk_mem h; omega
theorem list_of {α : Type} {g : α → List PV} {q : α → Prop} : ∀ {ess : List (List PV)}, (∀ es ∈ ess, ∃ x, es = g x ∧ q x) → ∃ l : List α, ess = l.map g ∧ ∀ x ∈ l, q x
  | [], _ => ⟨[], rfl, by simp⟩
  | es :: ess, h => by
    obtain ⟨x, rfl, hx⟩ := h es (by simp)
    obtain ⟨l, rfl, hl⟩ := list_of (ess := ess) fun e he => h e (by simp [he])
    exact ⟨x :: l, rfl, fun y hy => by
      rcases List.mem_cons.1 hy with rfl | hy
      · exact hx
      · exact hl y hy⟩
theorem flat_of {α : Type} (g : α → List PV) (l : List α) : (l.map g).flatten = l.flatMap g := List.flatMap_def.symm
theorem getD_of {α : Type} {q : α → Prop} {l : List α} (h : ∀ x ∈ l, q x) (d : α) (hd : q d) (i : Nat) : q (l.getD i d) := by
  rcases Nat.lt_or_ge i l.length with h1 | h1
  · rw [List.getD_eq_getElem?_getD, List.getElem?_eq_getElem h1]
    exact h _ (List.getElem_mem h1)
  · rw [List.getD_eq_getElem?_getD, List.getElem?_eq_none h1]
    exact hd
/-- A number of a kind. -/
theorem sh_num {P : Program} {t : TypeId} {k : IntKind} (ht : P.underlying t = some (.int k)) {n : Nat} {ps : List PV} (h : Sh P n t ps) : ∃ m, ps = [.av (.int k m)] ∧ (Lit.int k m).wf = true := by
  cases n with
  | zero => exact h.elim
  | succ n => simpa only [Sh, ht] using h
theorem sh_bool {P : Program} {t : TypeId} (ht : P.underlying t = some .bool) {n : Nat} {ps : List PV} (h : Sh P n t ps) : ∃ b, ps = [bv b] := by
  cases n with
  | zero => exact h.elim
  | succ n => simpa only [Sh, ht] using h
theorem sh_str {P : Program} {t : TypeId} (ht : P.underlying t = some .string) {n : Nat} {ps : List PV} (h : Sh P n t ps) : ∃ s : ByteArray, ps = [.av (.string s)] ∧ s.size ≤ maxLen := by
  cases n with
  | zero => exact h.elim
  | succ n => simpa only [Sh, ht] using h
theorem sh_float {P : Program} {t : TypeId} {k : FloatKind} (ht : P.underlying t = some (.float k)) {n : Nat} {ps : List PV} (h : Sh P n t ps) : ∃ b, ps = [.av (.float k b)] ∧ (Lit.float k b).wf = true := by
  cases n with
  | zero => exact h.elim
  | succ n => simpa only [Sh, ht] using h
/-- A slice of elements that are told. -/
theorem sh_list {P : Program} {t e : TypeId} (ht : P.underlying t = some (.slice e)) {α : Type} {g : α → List PV} {q : α → Prop} {n : Nat} {ps : List PV} (h : Sh P n t ps) (hg : ∀ m es, m < n → Sh P m e es → ∃ x, es = g x ∧ q x) :
    ∃ l : List α, ps = [.ssl (l.flatMap g) 0 l.length] ∧ (∀ x ∈ l, q x) ∧ l.length ≤ maxLen ∧ l.length * P.bytesOf e ≤ reachBytes := by
  cases n with
  | zero => exact h.elim
  | succ n =>
    simp only [Sh, ht] at h
    obtain ⟨ess, rfl, h1, h2, h3⟩ := h
    obtain ⟨l, rfl, hl⟩ := list_of fun es hes => hg n es (Nat.lt_succ_self _) (h3 es hes)
    rw [List.length_map] at h1 h2
    refine ⟨l, by rw [flat_of, List.length_map], hl, h1, h2⟩
theorem sh_ints {P : Program} {t e : TypeId} (ht : P.underlying t = some (.slice e)) (he : P.underlying e = some (.int .i64)) {n : Nat} {ps : List PV} (h : Sh P n t ps) :
    ∃ l : List Int, ps = [.ssl (ints l) 0 l.length] ∧ (∀ m ∈ l, (Lit.int .i64 m).wf = true) ∧ l.length ≤ maxLen ∧ l.length * P.bytesOf e ≤ reachBytes := by
  obtain ⟨l, h1, h2, h3, h4⟩ := sh_list (g := fun m => [iv m]) (q := fun m => (Lit.int .i64 m).wf = true) ht h fun m es _ hs => by
    obtain ⟨x, h1, h2⟩ := sh_num he hs
    exact ⟨x, h1, h2⟩
  exact ⟨l, h1, h2, h3, h4⟩
theorem sh_rows {P : Program} {t e k : TypeId} (ht : P.underlying t = some (.slice e)) (he : P.underlying e = some (.slice k)) (hk : P.underlying k = some (.int .i64)) {n : Nat} {ps : List PV} (h : Sh P n t ps) :
    ∃ T : List (List Int), ps = [.ssl (rows T) 0 T.length] ∧ (∀ l ∈ T, (∀ m ∈ l, (Lit.int .i64 m).wf = true) ∧ l.length * P.bytesOf k ≤ reachBytes) ∧ T.length ≤ maxLen := by
  obtain ⟨l, h1, h2, h3, _⟩ := sh_list (g := fun l : List Int => [.ssl (ints l) 0 l.length]) (q := fun l => (∀ m ∈ l, (Lit.int .i64 m).wf = true) ∧ l.length * P.bytesOf k ≤ reachBytes) ht h fun m es _ hs => by
    obtain ⟨x, h1, h2, _, h3⟩ := sh_ints he hk hs
    exact ⟨x, h1, h2, h3⟩
  exact ⟨l, h1, h2, h3⟩
theorem pvws_ints (l : List Int) : pvws (ints l) = l.length := by
  induction l with
  | nil => rfl
  | cons a l ih =>
    rw [ints_map] at ih ⊢
    rw [List.map_cons, pvws, ih, List.length_cons, pvw]
    · omega
    all_goals intros; simp_all
theorem pvws_rows : ∀ T : List (List Int), pvws (rows T) = (T.map List.length).sum + T.length
  | [] => rfl
  | l :: T => by
    have ih := pvws_rows T
    rw [rows_map] at ih ⊢
    rw [List.map_cons, pvws, ih, pvw, pvws_ints, List.map_cons, List.sum_cons, List.length_cons]
    omega
end Go.Proofs.Ytccpefbfjahfnaa.Pm
