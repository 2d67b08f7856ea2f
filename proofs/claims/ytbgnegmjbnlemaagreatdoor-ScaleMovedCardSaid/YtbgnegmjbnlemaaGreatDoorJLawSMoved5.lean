/-
  CHORDS: notes: walks. (Printed by wip/pm.) | KEYS: plain. | CHORDS: plain, for the walks of what they are. No program in sight. | CHORDS: classes: walks. (Printed by wip/pm.) | CHORDS: fits: walk. (Printed by wip/pm.) | CHORDS: what they are: walk. (Printed by wip/pm.) | KEYS: walks. (Printed by wip/pm/ch8.py.) | THE STEPS OF A KEY: plain. | ScaleMoved: a key that is asked: walks. (Printed by wip/pm.) | CHORDS: plain, for the document's way. No program in sight. | CHORDS: plain: moved, and in whatever octaves. No program in sight. | CHORDS: plain, for the law of moved chords. No program in sight.
-/
import Derived.Test.YtbgnegmjbnlemaaGreatDoorJLawSMoved4
import Derived.Test.YtbgnegmjbnlemaaGreatDoorJLawSMoved2
import Derived.Test.YtbgnegmjbnlemaaGreatDoorJLawSMoved3
namespace Go.Proofs.YtbgnegmjbnlemaaGreatDoor.Pm
open Go Go.Proofs.YtbgnegmjbnlemaaGreatDoor.Pi

set_option maxRecDepth 100000 in
set_option maxHeartbeats 4000000 in
theorem notes_ok_pc (p : Pt) (k : Int) (h0 : (notesS p k).2 = 0) : PC Tryz.prog 5 [(.agg [(iv p.1), (iv p.2.1), (iv p.2.2)]), (iv k)] [] (.tup [(.osl 0 0 ((notesS p k).1.length)), (iv 0)]) [some (23, (pts ((notesS p k).1)))] := by
  refine pc_intro Tryz.func5 rfl (by kernel_rfl) (Nat.le_of_ble_eq_true rfl) (by kernel_rfl) (l0 := [ps 0 (.agg [(iv p.1), (iv p.2.1), (iv p.2.2)]), ps 1 (iv k)]) rfl (fun c0 Bor hc0 => ?_)
  refine T_seq ?_
  refine T_r mixed [] [ps 1 (iv k), ps 2 (.opt 0 0), pb 0 23 [(iv p.1), (iv p.2.1), (iv p.2.2)]] (obs_nil) ?_
  refine T_seq ?_
  by_cases h1 : stkI k = []
  · refine T_r mixed [(1, .call [] [(iv k)] [] (.av (.slice none 0 0)) [])] [ps 2 (.opt 0 0), ps 6 (.av (.slice none 0 0)), pb 0 23 [(iv p.1), (iv p.2.1), (iv p.2.2)]] (obs_cons (stack_nil_pc k h1) (obs_cons (rfl : Ren0 32 [(iv k)]) obs_nil)) ?_
    refine T_seq <| T_seq ?_
    refine T_r mixed [] [ps 2 (.opt 0 0), ps 6 (.av (.slice none 0 0)), ps 17 (bv true), pb 0 23 [(iv p.1), (iv p.2.1), (iv p.2.2)]] (obs_nil) ?_
    refine T_then (b := true) rfl rfl ?_
    refine T_seq ?_
    refine T_r mixed [] [ps 4 (.av (.slice none 0 0)), ps 5 (iv 1)] (obs_nil) ?_
    have hres := notesS_kind (p := p) h1
    exact absurd h0 (by rw [hres]; decide)
  refine T_r mixed [(1, .call [] [(iv k)] [] (.osl 0 0 ((stkT k).length)) [some (9, (txs (stkT k)))])] [ps 2 (.opt 0 0), ps 6 (.osl 32 0 ((stkT k).length)), pb 0 23 [(iv p.1), (iv p.2.1), (iv p.2.2)], pb 32 9 (renL (sigo [] 32) (txs (stkT k)))] (obs_cons (stack_pc k h1) (obs_cons (rfl : Ren0 32 [(iv k)]) obs_nil)) ?_
  refine T_wk (Wk.eq (show _ = [ps 2 (.opt 0 0), ps 6 (.osl 32 0 ((stkT k).length)), pb 0 23 [(iv p.1), (iv p.2.1), (iv p.2.2)], pb 32 9 (txs (stkT k))] from by simp only [renL_shd (txs_shd _)])) ?_
  refine T_seq <| T_seq ?_
  have hsp : 0 < (stkT k).length := stkT_pos1 h1
  refine T_r mixed [] [ps 2 (.opt 0 0), ps 6 (.osl 32 0 ((stkT k).length)), ps 17 (bv false), pb 0 23 [(iv p.1), (iv p.2.1), (iv p.2.2)], pb 32 9 (txs (stkT k))] (obs_cons (by omega : 0 < ((stkT k).length)) obs_nil) ?_
  refine T_else (b := false) rfl rfl ?_
  refine T_skip <| T_seq <| T_seq ?_
  refine T_r mixed [(1, .call [] [(.agg [(iv p.1), (iv p.2.1), (iv p.2.2)])] [] (bv (Pi.rightB p.1 p.2.1 p.2.2)) [])] [ps 2 (.opt 0 0), ps 6 (.osl 32 0 ((stkT k).length)), ps 20 (bv (!(Pi.rightB p.1 p.2.1 p.2.2))), pb 0 23 [(iv p.1), (iv p.2.1), (iv p.2.2)], pb 32 9 (txs (stkT k))] (obs_cons (pright_pc p.1 p.2.1 p.2.2) (obs_cons (rfl : Ren0 72 [(.agg [(iv p.1), (iv p.2.1), (iv p.2.2)])]) obs_nil)) ?_
  by_cases h2 : (Pi.rightB p.1 p.2.1 p.2.2) = true
  · refine T_el (congrArg Bool.not h2) ?_
    refine T_skip <| T_seq ?_
    refine T_r mixed [] [ps 2 (.opt 0 0), ps 6 (.osl 32 0 ((stkT k).length)), ps 7 (.osl 96 0 1), pb 0 23 [(iv p.1), (iv p.2.1), (iv p.2.2)], pb 32 9 (txs (stkT k)), pb 96 23 [(iv p.1), (iv p.2.1), (iv p.2.2)]] (obs_nil) ?_
    refine T_seq <| T_seq ?_
    have hlk := stkT_len k
    have hsl := stk_len k
    refine T_r mixed [] [ps 2 (.opt 0 0), ps 7 (.osl 96 0 1), ps 23 (.osl 32 0 ((stkT k).length)), ps 24 (nv ((stkT k).length)), ps 25 (iv 0), pb 0 23 [(iv p.1), (iv p.2.1), (iv p.2.2)], pb 32 9 (txs (stkT k)), pb 96 23 [(iv p.1), (iv p.2.1), (iv p.2.2)]] (obs_nil) ?_
    refine T_block ?_
    refine T_loop (α := {x : Nat × List Pt // x.1 ≤ (stkT k).length ∧ notesGo p ((stkI k).drop x.1) x.2 = notesGo p (stkI k) [p] ∧ x.2.length ≤ x.1 + 1}) (fun x => [ps 2 (.opt 0 0), ps 7 (.osl 2 0 x.1.2.length), ps 23 (.osl 1 0 ((stkT k).length)), ps 24 (nv ((stkT k).length)), ps 25 (nv x.1.1), pb 0 23 [(iv p.1), (iv p.2.1), (iv p.2.2)], pb 1 9 (txs (stkT k)), pb 2 23 (pts x.1.2)]) (fun x => (stkT k).length - x.1.1) 3 ⟨(0, [p]), ⟨Nat.zero_le _, rfl, Nat.le_refl 1⟩⟩ (Wk.ren3 [ps 2 (.opt 0 0), ps 7 (.osl 2 0 [p].length), ps 23 (.osl 1 0 ((stkT k).length)), ps 24 (nv ((stkT k).length)), ps 25 (nv 0), pb 0 23 [(iv p.1), (iv p.2.1), (iv p.2.2)], pb 1 9 (txs (stkT k)), pb 2 23 (pts [p])] 0 hc0 [0, 32, 96] [(kb 1, (txs (stkT k))), (kb 2, (pts [p]))] (obs_cons (txs_shd _) (obs_cons (pts_shd _) (obs_nil))) (by kernel_rfl) rfl rfl (by kernel_rfl) (by kernel_rfl)) ?_
    rintro ⟨⟨j, out⟩, ⟨hj, hg, hol⟩⟩
    dsimp only at hj hg hol
    refine T_seq ?_
    refine T_r mixed [] [ps 2 (.opt 0 0), ps 7 (.osl 2 0 out.length), ps 23 (.osl 1 0 ((stkT k).length)), ps 24 (nv ((stkT k).length)), ps 25 (nv j), ps 26 (bv (decide (((j : Nat) : Int) < (((stkT k).length : Nat) : Int)))), pb 0 23 [(iv p.1), (iv p.2.1), (iv p.2.2)], pb 1 9 (txs (stkT k)), pb 2 23 (pts out)] (obs_nil) ?_
    refine T_seq ?_
    by_cases h3 : ((j : Nat) : Int) < (((stkT k).length : Nat) : Int)
    · refine T_th (decide_eq_true h3) ?_
      refine T_skip <| T_seq <| T_block <| T_seq ?_
      have hjl : j < (stkI k).length := by omega
      refine T_r mixed [(0, .nat j), (1, .val (sv (st ((stkT k).getD j []))))] [ps 2 (.opt 0 0), ps 7 (.osl 2 0 out.length), ps 9 (sv (st ((stkT k).getD j []))), ps 23 (.osl 1 0 ((stkT k).length)), ps 24 (nv ((stkT k).length)), ps 25 (nv j), pb 0 23 [(iv p.1), (iv p.2.1), (iv p.2.2)], pb 1 9 (txs (stkT k)), pb 2 23 (pts out)] (obs_cons (by omega : (0 : Int) ≤ ((j : Nat) : Int) ∧ ((j : Nat) : Int) < (((stkT k).length : Nat) : Int)) (obs_cons (by omega : 0 + (((j : Nat) : Int) : Int).toNat * 1 = j) (obs_cons (flat_at1 txC (fun _ => rfl) [] (stkT k) j (by omega) : j + 1 ≤ ((txs (stkT k))).length ∧ (((txs (stkT k))).drop j).take 1 = [(sv (st ((stkT k).getD j [])))]) obs_nil))) ?_
      refine T_seq ?_
      refine T_r mixed [(1, .call [] [(sv (st ((stkT k).getD j [])))] [] (.tup [(.agg [(iv (((stkI k).getD j (0, 0)).1)), (iv (((stkI k).getD j (0, 0)).2))]), (iv 0)]) [])] [ps 2 (.opt 0 0), ps 7 (.osl 2 0 out.length), ps 10 (.opt 75 0), ps 23 (.osl 1 0 ((stkT k).length)), ps 24 (nv ((stkT k).length)), ps 25 (nv j), pb 0 23 [(iv p.1), (iv p.2.1), (iv p.2.2)], pb 1 9 (txs (stkT k)), pb 2 23 (pts out), pb 75 37 [(iv (((stkI k).getD j (0, 0)).1)), (iv (((stkI k).getD j (0, 0)).2))]] (obs_cons (by have e := named_pc ((stkT k).getD j []) (by have := (stkT_at (k := k) (j := j) (by omega)).2.2; omega); rw [(stkT_at (k := k) (j := j) (by omega)).2.1] at e; exact e : PC Tryz.prog 16 [(sv (st ((stkT k).getD j [])))] [] (.tup [(.agg [(iv (((stkI k).getD j (0, 0)).1)), (iv (((stkI k).getD j (0, 0)).2))]), (iv 0)]) []) (obs_cons (rfl : Ren0 43 [(sv (st ((stkT k).getD j [])))]) obs_nil)) ?_
      refine T_seq ?_
      refine T_r mixed [(2, .call [] [(.agg [(iv p.1), (iv p.2.1), (iv p.2.2)]), (.agg [(iv (((stkI k).getD j (0, 0)).1)), (iv (((stkI k).getD j (0, 0)).2))])] [] (.tup [(.agg [(iv ((Pi.move p.1 p.2.1 p.2.2 (((stkI k).getD j (0, 0)).1) (((stkI k).getD j (0, 0)).2)).1)), (iv ((Pi.move p.1 p.2.1 p.2.2 (((stkI k).getD j (0, 0)).1) (((stkI k).getD j (0, 0)).2)).2.1)), (iv ((Pi.move p.1 p.2.1 p.2.2 (((stkI k).getD j (0, 0)).1) (((stkI k).getD j (0, 0)).2)).2.2.1))]), (iv ((Pi.move p.1 p.2.1 p.2.2 (((stkI k).getD j (0, 0)).1) (((stkI k).getD j (0, 0)).2)).2.2.2))]) [])] [ps 2 (.opt 0 0), ps 7 (.osl 2 0 out.length), ps 12 (.opt 147 0), ps 13 (iv ((Pi.move p.1 p.2.1 p.2.2 (((stkI k).getD j (0, 0)).1) (((stkI k).getD j (0, 0)).2)).2.2.2)), ps 23 (.osl 1 0 ((stkT k).length)), ps 24 (nv ((stkT k).length)), ps 25 (nv j), pb 0 23 [(iv p.1), (iv p.2.1), (iv p.2.2)], pb 1 9 (txs (stkT k)), pb 2 23 (pts out), pb 147 23 [(iv ((Pi.move p.1 p.2.1 p.2.2 (((stkI k).getD j (0, 0)).1) (((stkI k).getD j (0, 0)).2)).1)), (iv ((Pi.move p.1 p.2.1 p.2.2 (((stkI k).getD j (0, 0)).1) (((stkI k).getD j (0, 0)).2)).2.1)), (iv ((Pi.move p.1 p.2.1 p.2.2 (((stkI k).getD j (0, 0)).1) (((stkI k).getD j (0, 0)).2)).2.2.1))]] (obs_cons (move_pc p.1 p.2.1 p.2.2 (((stkI k).getD j (0, 0)).1) (((stkI k).getD j (0, 0)).2) (by unfold Pi.I64; have := stk_steps (k := k) (j := j) (by omega); have := stk_len k; omega) (by unfold Pi.I64; have := stk_steps (k := k) (j := j) (by omega); omega)) (obs_cons (rfl : Ren0 115 [(.agg [(iv p.1), (iv p.2.1), (iv p.2.2)]), (.agg [(iv (((stkI k).getD j (0, 0)).1)), (iv (((stkI k).getD j (0, 0)).2))])]) obs_nil)) ?_
      refine T_seq <| T_seq ?_
      refine T_r mixed [] [ps 2 (.opt 0 0), ps 7 (.osl 2 0 out.length), ps 12 (.opt 147 0), ps 13 (iv ((Pi.move p.1 p.2.1 p.2.2 (((stkI k).getD j (0, 0)).1) (((stkI k).getD j (0, 0)).2)).2.2.2)), ps 23 (.osl 1 0 ((stkT k).length)), ps 24 (nv ((stkT k).length)), ps 25 (nv j), ps 41 (bv (!(decide (((Pi.move p.1 p.2.1 p.2.2 (((stkI k).getD j (0, 0)).1) (((stkI k).getD j (0, 0)).2)).2.2.2) = 0)))), pb 0 23 [(iv p.1), (iv p.2.1), (iv p.2.2)], pb 1 9 (txs (stkT k)), pb 2 23 (pts out), pb 147 23 [(iv ((Pi.move p.1 p.2.1 p.2.2 (((stkI k).getD j (0, 0)).1) (((stkI k).getD j (0, 0)).2)).1)), (iv ((Pi.move p.1 p.2.1 p.2.2 (((stkI k).getD j (0, 0)).1) (((stkI k).getD j (0, 0)).2)).2.1)), (iv ((Pi.move p.1 p.2.1 p.2.2 (((stkI k).getD j (0, 0)).1) (((stkI k).getD j (0, 0)).2)).2.2.1))]] (obs_nil) ?_
      by_cases h4 : ((Pi.move p.1 p.2.1 p.2.2 (((stkI k).getD j (0, 0)).1) (((stkI k).getD j (0, 0)).2)).2.2.2) = 0
      · refine T_el (bt h4) ?_
        refine T_skip ?_
        refine T_r mixed [(3, .app none (some (pts (out ++ [((Pi.move p.1 p.2.1 p.2.2 (((stkI k).getD j (0, 0)).1) (((stkI k).getD j (0, 0)).2)).1, (Pi.move p.1 p.2.1 p.2.2 (((stkI k).getD j (0, 0)).1) (((stkI k).getD j (0, 0)).2)).2.1, (Pi.move p.1 p.2.1 p.2.2 (((stkI k).getD j (0, 0)).1) (((stkI k).getD j (0, 0)).2)).2.2.1)]))))] [ps 2 (.opt 0 0), ps 7 (.osl 211 0 (out.length + 1)), ps 23 (.osl 1 0 ((stkT k).length)), ps 24 (nv ((stkT k).length)), ps 25 (nv j), pb 0 23 [(iv p.1), (iv p.2.1), (iv p.2.2)], pb 1 9 (txs (stkT k)), pb 211 23 (pts (out ++ [((Pi.move p.1 p.2.1 p.2.2 (((stkI k).getD j (0, 0)).1) (((stkI k).getD j (0, 0)).2)).1, (Pi.move p.1 p.2.1 p.2.2 (((stkI k).getD j (0, 0)).1) (((stkI k).getD j (0, 0)).2)).2.1, (Pi.move p.1 p.2.1 p.2.2 (((stkI k).getD j (0, 0)).1) (((stkI k).getD j (0, 0)).2)).2.2.1)]))] (obs_cons (pts_len _ : ((pts out)).length = out.length * 3) (obs_cons (by omega : (out.length + 1) * 24 ≤ 140737488355328 ∧ out.length + 1 ≤ 9223372036854775807) (obs_cons ((flat_app ptC out [((Pi.move p.1 p.2.1 p.2.2 (((stkI k).getD j (0, 0)).1) (((stkI k).getD j (0, 0)).2)).1, (Pi.move p.1 p.2.1 p.2.2 (((stkI k).getD j (0, 0)).1) (((stkI k).getD j (0, 0)).2)).2.1, (Pi.move p.1 p.2.1 p.2.2 (((stkI k).getD j (0, 0)).1) (((stkI k).getD j (0, 0)).2)).2.2.1)]).symm : (pts out) ++ [(iv ((Pi.move p.1 p.2.1 p.2.2 (((stkI k).getD j (0, 0)).1) (((stkI k).getD j (0, 0)).2)).1)), (iv ((Pi.move p.1 p.2.1 p.2.2 (((stkI k).getD j (0, 0)).1) (((stkI k).getD j (0, 0)).2)).2.1)), (iv ((Pi.move p.1 p.2.1 p.2.2 (((stkI k).getD j (0, 0)).1) (((stkI k).getD j (0, 0)).2)).2.2.1))] = (pts (out ++ [((Pi.move p.1 p.2.1 p.2.2 (((stkI k).getD j (0, 0)).1) (((stkI k).getD j (0, 0)).2)).1, (Pi.move p.1 p.2.1 p.2.2 (((stkI k).getD j (0, 0)).1) (((stkI k).getD j (0, 0)).2)).2.1, (Pi.move p.1 p.2.1 p.2.2 (((stkI k).getD j (0, 0)).1) (((stkI k).getD j (0, 0)).2)).2.2.1)]))) obs_nil))) ?_
        refine T_blk ?_
        refine T_r mixed [] [ps 2 (.opt 0 0), ps 7 (.osl 211 0 (out.length + 1)), ps 23 (.osl 1 0 ((stkT k).length)), ps 24 (nv ((stkT k).length)), ps 25 (iv (((j : Nat) : Int) + 1)), pb 0 23 [(iv p.1), (iv p.2.1), (iv p.2.2)], pb 1 9 (txs (stkT k)), pb 211 23 (pts (out ++ [((Pi.move p.1 p.2.1 p.2.2 (((stkI k).getD j (0, 0)).1) (((stkI k).getD j (0, 0)).2)).1, (Pi.move p.1 p.2.1 p.2.2 (((stkI k).getD j (0, 0)).1) (((stkI k).getD j (0, 0)).2)).2.1, (Pi.move p.1 p.2.1 p.2.2 (((stkI k).getD j (0, 0)).1) (((stkI k).getD j (0, 0)).2)).2.2.1)]))] (obs_cons (by simp only [InK]; omega : InK .i64 (((j : Nat) : Int) + 1)) obs_nil) ?_
        have hme : mvE p ((stkI k).getD j (0, 0)) = 0 := h4
        exact T_back ⟨(j + 1, out ++ [mvP p ((stkI k).getD j (0, 0))]), ⟨by show j + 1 ≤ (stkT k).length; omega, by show notesGo p ((stkI k).drop (j + 1)) (out ++ [mvP p ((stkI k).getD j (0, 0))]) = notesGo p (stkI k) [p]; rw [← notesGo_at hjl hme]; exact hg, by show (out ++ [mvP p ((stkI k).getD j (0, 0))]).length ≤ j + 1 + 1; rw [List.length_append]; show out.length + 1 ≤ j + 1 + 1; omega⟩⟩ (Wk.trans (Wk.eq (show _ = [ps 2 (.opt 0 0), ps 7 (.osl 211 0 ((out ++ [mvP p ((stkI k).getD j (0, 0))]).length)), ps 23 (.osl 1 0 ((stkT k).length)), ps 24 (nv ((stkT k).length)), ps 25 (nv (j + 1)), pb 0 23 [(iv p.1), (iv p.2.1), (iv p.2.2)], pb 1 9 (txs (stkT k)), pb 211 23 (pts (out ++ [mvP p ((stkI k).getD j (0, 0))]))] from by rw [List.length_append]; rfl)) (Wk.ren3 [ps 2 (.opt 0 0), ps 7 (.osl 2 0 (out ++ [mvP p ((stkI k).getD j (0, 0))]).length), ps 23 (.osl 1 0 ((stkT k).length)), ps 24 (nv ((stkT k).length)), ps 25 (nv (j + 1)), pb 0 23 [(iv p.1), (iv p.2.1), (iv p.2.2)], pb 1 9 (txs (stkT k)), pb 2 23 (pts (out ++ [mvP p ((stkI k).getD j (0, 0))]))] 0 hc0 [0, 1, 211] [(kb 1, (txs (stkT k))), (kb 2, (pts (out ++ [mvP p ((stkI k).getD j (0, 0))])))] (obs_cons (txs_shd _) (obs_cons (pts_shd _) (obs_nil))) (by kernel_rfl) rfl rfl (by kernel_rfl) (by kernel_rfl))) (show (stkT k).length - (j + 1) < (stkT k).length - j from by show (stkT k).length - (j + 1) < (stkT k).length - j; omega)
      refine T_th (bf h4) ?_
      refine T_seq ?_
      refine T_r mixed [] [ps 4 (.av (.slice none 0 0)), ps 5 (iv ((Pi.move p.1 p.2.1 p.2.2 (((stkI k).getD j (0, 0)).1) (((stkI k).getD j (0, 0)).2)).2.2.2))] (obs_nil) ?_
      have hres := notes_bad h1 h2 hg hjl rfl h4
      exact absurd h0 (by rw [hres]; exact h4)
    refine T_el (decide_eq_false h3) ?_
    refine T_break rfl rfl ?_
    refine T_seq ?_
    refine T_r mixed [] [ps 4 (.osl 2 0 out.length), ps 5 (iv 0), pb 2 23 (pts out)] (obs_nil) ?_
    have hres := notes_done h1 h2 hg (by omega)
    rw [show (notesS p k).1 = out from by rw [hres]]
    exact T_ret fun cx_ a_ hI_ => ret_ok (H' := [some (23, (pts out))]) (.inr rfl) (Wk.ren3 [ps 4 (.osl 0 0 out.length), ps 5 (iv 0), pb 0 23 (pts out)] 0 hc0 [2] [(kb 0, (pts out))] (obs_cons (pts_shd _) (obs_nil)) (by kernel_rfl) rfl rfl (by kernel_rfl) (by kernel_rfl)) rfl (obs_cons rfl (obs_nil)) (fun cx_ a_ hI_ => ret_res (l' := [ps 4 (.osl 0 0 out.length), ps 5 (iv 0), pb 0 23 (pts out)]) (by kernel_rfl) cx_ a_ hI_) hI_
  refine T_th (congrArg Bool.not (Bool.eq_false_iff.2 h2)) ?_
  refine T_seq ?_
  refine T_r mixed [] [ps 4 (.av (.slice none 0 0)), ps 5 (iv 2)] (obs_nil) ?_
  have hres := notesS_form (p := p) h1 h2
  exact absurd h0 (by rw [hres]; decide)
set_option maxRecDepth 100000 in
set_option maxHeartbeats 4000000 in
theorem notes_no_pc (p : Pt) (k : Int) (h0 : ¬ (notesS p k).2 = 0) : PC Tryz.prog 5 [(.agg [(iv p.1), (iv p.2.1), (iv p.2.2)]), (iv k)] [] (.tup [(.ssl [] 0 0), (iv ((notesS p k).2))]) [] := by
  refine pc_intro Tryz.func5 rfl (by kernel_rfl) (Nat.le_of_ble_eq_true rfl) (by kernel_rfl) (l0 := [ps 0 (.agg [(iv p.1), (iv p.2.1), (iv p.2.2)]), ps 1 (iv k)]) rfl (fun c0 Bor hc0 => ?_)
  refine T_seq ?_
  refine T_r mixed [] [ps 1 (iv k), ps 2 (.opt 0 0), pb 0 23 [(iv p.1), (iv p.2.1), (iv p.2.2)]] (obs_nil) ?_
  refine T_seq ?_
  by_cases h1 : stkI k = []
  · refine T_r mixed [(1, .call [] [(iv k)] [] (.av (.slice none 0 0)) [])] [ps 2 (.opt 0 0), ps 6 (.av (.slice none 0 0)), pb 0 23 [(iv p.1), (iv p.2.1), (iv p.2.2)]] (obs_cons (stack_nil_pc k h1) (obs_cons (rfl : Ren0 32 [(iv k)]) obs_nil)) ?_
    refine T_seq <| T_seq ?_
    refine T_r mixed [] [ps 2 (.opt 0 0), ps 6 (.av (.slice none 0 0)), ps 17 (bv true), pb 0 23 [(iv p.1), (iv p.2.1), (iv p.2.2)]] (obs_nil) ?_
    refine T_then (b := true) rfl rfl ?_
    refine T_seq ?_
    refine T_r mixed [] [ps 4 (.av (.slice none 0 0)), ps 5 (iv 1)] (obs_nil) ?_
    have hres := notesS_kind (p := p) h1
    rw [show (notesS p k).2 = 1 from by rw [hres]]
    exact T_ret fun cx_ a_ hI_ => rt hc0 [ps 4 (.av (.slice none 0 0)), ps 5 (iv 1)] [] hI_
  refine T_r mixed [(1, .call [] [(iv k)] [] (.osl 0 0 ((stkT k).length)) [some (9, (txs (stkT k)))])] [ps 2 (.opt 0 0), ps 6 (.osl 32 0 ((stkT k).length)), pb 0 23 [(iv p.1), (iv p.2.1), (iv p.2.2)], pb 32 9 (renL (sigo [] 32) (txs (stkT k)))] (obs_cons (stack_pc k h1) (obs_cons (rfl : Ren0 32 [(iv k)]) obs_nil)) ?_
  refine T_wk (Wk.eq (show _ = [ps 2 (.opt 0 0), ps 6 (.osl 32 0 ((stkT k).length)), pb 0 23 [(iv p.1), (iv p.2.1), (iv p.2.2)], pb 32 9 (txs (stkT k))] from by simp only [renL_shd (txs_shd _)])) ?_
  refine T_seq <| T_seq ?_
  have hsp : 0 < (stkT k).length := stkT_pos1 h1
  refine T_r mixed [] [ps 2 (.opt 0 0), ps 6 (.osl 32 0 ((stkT k).length)), ps 17 (bv false), pb 0 23 [(iv p.1), (iv p.2.1), (iv p.2.2)], pb 32 9 (txs (stkT k))] (obs_cons (by omega : 0 < ((stkT k).length)) obs_nil) ?_
  refine T_else (b := false) rfl rfl ?_
  refine T_skip <| T_seq <| T_seq ?_
  refine T_r mixed [(1, .call [] [(.agg [(iv p.1), (iv p.2.1), (iv p.2.2)])] [] (bv (Pi.rightB p.1 p.2.1 p.2.2)) [])] [ps 2 (.opt 0 0), ps 6 (.osl 32 0 ((stkT k).length)), ps 20 (bv (!(Pi.rightB p.1 p.2.1 p.2.2))), pb 0 23 [(iv p.1), (iv p.2.1), (iv p.2.2)], pb 32 9 (txs (stkT k))] (obs_cons (pright_pc p.1 p.2.1 p.2.2) (obs_cons (rfl : Ren0 72 [(.agg [(iv p.1), (iv p.2.1), (iv p.2.2)])]) obs_nil)) ?_
  by_cases h2 : (Pi.rightB p.1 p.2.1 p.2.2) = true
  · refine T_el (congrArg Bool.not h2) ?_
    refine T_skip <| T_seq ?_
    refine T_r mixed [] [ps 2 (.opt 0 0), ps 6 (.osl 32 0 ((stkT k).length)), ps 7 (.osl 96 0 1), pb 0 23 [(iv p.1), (iv p.2.1), (iv p.2.2)], pb 32 9 (txs (stkT k)), pb 96 23 [(iv p.1), (iv p.2.1), (iv p.2.2)]] (obs_nil) ?_
    refine T_seq <| T_seq ?_
    have hlk := stkT_len k
    have hsl := stk_len k
    refine T_r mixed [] [ps 2 (.opt 0 0), ps 7 (.osl 96 0 1), ps 23 (.osl 32 0 ((stkT k).length)), ps 24 (nv ((stkT k).length)), ps 25 (iv 0), pb 0 23 [(iv p.1), (iv p.2.1), (iv p.2.2)], pb 32 9 (txs (stkT k)), pb 96 23 [(iv p.1), (iv p.2.1), (iv p.2.2)]] (obs_nil) ?_
    refine T_block ?_
    refine T_loop (α := {x : Nat × List Pt // x.1 ≤ (stkT k).length ∧ notesGo p ((stkI k).drop x.1) x.2 = notesGo p (stkI k) [p] ∧ x.2.length ≤ x.1 + 1}) (fun x => [ps 2 (.opt 0 0), ps 7 (.osl 2 0 x.1.2.length), ps 23 (.osl 1 0 ((stkT k).length)), ps 24 (nv ((stkT k).length)), ps 25 (nv x.1.1), pb 0 23 [(iv p.1), (iv p.2.1), (iv p.2.2)], pb 1 9 (txs (stkT k)), pb 2 23 (pts x.1.2)]) (fun x => (stkT k).length - x.1.1) 3 ⟨(0, [p]), ⟨Nat.zero_le _, rfl, Nat.le_refl 1⟩⟩ (Wk.ren3 [ps 2 (.opt 0 0), ps 7 (.osl 2 0 [p].length), ps 23 (.osl 1 0 ((stkT k).length)), ps 24 (nv ((stkT k).length)), ps 25 (nv 0), pb 0 23 [(iv p.1), (iv p.2.1), (iv p.2.2)], pb 1 9 (txs (stkT k)), pb 2 23 (pts [p])] 0 hc0 [0, 32, 96] [(kb 1, (txs (stkT k))), (kb 2, (pts [p]))] (obs_cons (txs_shd _) (obs_cons (pts_shd _) (obs_nil))) (by kernel_rfl) rfl rfl (by kernel_rfl) (by kernel_rfl)) ?_
    rintro ⟨⟨j, out⟩, ⟨hj, hg, hol⟩⟩
    dsimp only at hj hg hol
    refine T_seq ?_
    refine T_r mixed [] [ps 2 (.opt 0 0), ps 7 (.osl 2 0 out.length), ps 23 (.osl 1 0 ((stkT k).length)), ps 24 (nv ((stkT k).length)), ps 25 (nv j), ps 26 (bv (decide (((j : Nat) : Int) < (((stkT k).length : Nat) : Int)))), pb 0 23 [(iv p.1), (iv p.2.1), (iv p.2.2)], pb 1 9 (txs (stkT k)), pb 2 23 (pts out)] (obs_nil) ?_
    refine T_seq ?_
    by_cases h3 : ((j : Nat) : Int) < (((stkT k).length : Nat) : Int)
    · refine T_th (decide_eq_true h3) ?_
      refine T_skip <| T_seq <| T_block <| T_seq ?_
      have hjl : j < (stkI k).length := by omega
      refine T_r mixed [(0, .nat j), (1, .val (sv (st ((stkT k).getD j []))))] [ps 2 (.opt 0 0), ps 7 (.osl 2 0 out.length), ps 9 (sv (st ((stkT k).getD j []))), ps 23 (.osl 1 0 ((stkT k).length)), ps 24 (nv ((stkT k).length)), ps 25 (nv j), pb 0 23 [(iv p.1), (iv p.2.1), (iv p.2.2)], pb 1 9 (txs (stkT k)), pb 2 23 (pts out)] (obs_cons (by omega : (0 : Int) ≤ ((j : Nat) : Int) ∧ ((j : Nat) : Int) < (((stkT k).length : Nat) : Int)) (obs_cons (by omega : 0 + (((j : Nat) : Int) : Int).toNat * 1 = j) (obs_cons (flat_at1 txC (fun _ => rfl) [] (stkT k) j (by omega) : j + 1 ≤ ((txs (stkT k))).length ∧ (((txs (stkT k))).drop j).take 1 = [(sv (st ((stkT k).getD j [])))]) obs_nil))) ?_
      refine T_seq ?_
      refine T_r mixed [(1, .call [] [(sv (st ((stkT k).getD j [])))] [] (.tup [(.agg [(iv (((stkI k).getD j (0, 0)).1)), (iv (((stkI k).getD j (0, 0)).2))]), (iv 0)]) [])] [ps 2 (.opt 0 0), ps 7 (.osl 2 0 out.length), ps 10 (.opt 75 0), ps 23 (.osl 1 0 ((stkT k).length)), ps 24 (nv ((stkT k).length)), ps 25 (nv j), pb 0 23 [(iv p.1), (iv p.2.1), (iv p.2.2)], pb 1 9 (txs (stkT k)), pb 2 23 (pts out), pb 75 37 [(iv (((stkI k).getD j (0, 0)).1)), (iv (((stkI k).getD j (0, 0)).2))]] (obs_cons (by have e := named_pc ((stkT k).getD j []) (by have := (stkT_at (k := k) (j := j) (by omega)).2.2; omega); rw [(stkT_at (k := k) (j := j) (by omega)).2.1] at e; exact e : PC Tryz.prog 16 [(sv (st ((stkT k).getD j [])))] [] (.tup [(.agg [(iv (((stkI k).getD j (0, 0)).1)), (iv (((stkI k).getD j (0, 0)).2))]), (iv 0)]) []) (obs_cons (rfl : Ren0 43 [(sv (st ((stkT k).getD j [])))]) obs_nil)) ?_
      refine T_seq ?_
      refine T_r mixed [(2, .call [] [(.agg [(iv p.1), (iv p.2.1), (iv p.2.2)]), (.agg [(iv (((stkI k).getD j (0, 0)).1)), (iv (((stkI k).getD j (0, 0)).2))])] [] (.tup [(.agg [(iv ((Pi.move p.1 p.2.1 p.2.2 (((stkI k).getD j (0, 0)).1) (((stkI k).getD j (0, 0)).2)).1)), (iv ((Pi.move p.1 p.2.1 p.2.2 (((stkI k).getD j (0, 0)).1) (((stkI k).getD j (0, 0)).2)).2.1)), (iv ((Pi.move p.1 p.2.1 p.2.2 (((stkI k).getD j (0, 0)).1) (((stkI k).getD j (0, 0)).2)).2.2.1))]), (iv ((Pi.move p.1 p.2.1 p.2.2 (((stkI k).getD j (0, 0)).1) (((stkI k).getD j (0, 0)).2)).2.2.2))]) [])] [ps 2 (.opt 0 0), ps 7 (.osl 2 0 out.length), ps 12 (.opt 147 0), ps 13 (iv ((Pi.move p.1 p.2.1 p.2.2 (((stkI k).getD j (0, 0)).1) (((stkI k).getD j (0, 0)).2)).2.2.2)), ps 23 (.osl 1 0 ((stkT k).length)), ps 24 (nv ((stkT k).length)), ps 25 (nv j), pb 0 23 [(iv p.1), (iv p.2.1), (iv p.2.2)], pb 1 9 (txs (stkT k)), pb 2 23 (pts out), pb 147 23 [(iv ((Pi.move p.1 p.2.1 p.2.2 (((stkI k).getD j (0, 0)).1) (((stkI k).getD j (0, 0)).2)).1)), (iv ((Pi.move p.1 p.2.1 p.2.2 (((stkI k).getD j (0, 0)).1) (((stkI k).getD j (0, 0)).2)).2.1)), (iv ((Pi.move p.1 p.2.1 p.2.2 (((stkI k).getD j (0, 0)).1) (((stkI k).getD j (0, 0)).2)).2.2.1))]] (obs_cons (move_pc p.1 p.2.1 p.2.2 (((stkI k).getD j (0, 0)).1) (((stkI k).getD j (0, 0)).2) (by unfold Pi.I64; have := stk_steps (k := k) (j := j) (by omega); have := stk_len k; omega) (by unfold Pi.I64; have := stk_steps (k := k) (j := j) (by omega); omega)) (obs_cons (rfl : Ren0 115 [(.agg [(iv p.1), (iv p.2.1), (iv p.2.2)]), (.agg [(iv (((stkI k).getD j (0, 0)).1)), (iv (((stkI k).getD j (0, 0)).2))])]) obs_nil)) ?_
      refine T_seq <| T_seq ?_
      refine T_r mixed [] [ps 2 (.opt 0 0), ps 7 (.osl 2 0 out.length), ps 12 (.opt 147 0), ps 13 (iv ((Pi.move p.1 p.2.1 p.2.2 (((stkI k).getD j (0, 0)).1) (((stkI k).getD j (0, 0)).2)).2.2.2)), ps 23 (.osl 1 0 ((stkT k).length)), ps 24 (nv ((stkT k).length)), ps 25 (nv j), ps 41 (bv (!(decide (((Pi.move p.1 p.2.1 p.2.2 (((stkI k).getD j (0, 0)).1) (((stkI k).getD j (0, 0)).2)).2.2.2) = 0)))), pb 0 23 [(iv p.1), (iv p.2.1), (iv p.2.2)], pb 1 9 (txs (stkT k)), pb 2 23 (pts out), pb 147 23 [(iv ((Pi.move p.1 p.2.1 p.2.2 (((stkI k).getD j (0, 0)).1) (((stkI k).getD j (0, 0)).2)).1)), (iv ((Pi.move p.1 p.2.1 p.2.2 (((stkI k).getD j (0, 0)).1) (((stkI k).getD j (0, 0)).2)).2.1)), (iv ((Pi.move p.1 p.2.1 p.2.2 (((stkI k).getD j (0, 0)).1) (((stkI k).getD j (0, 0)).2)).2.2.1))]] (obs_nil) ?_
      by_cases h4 : ((Pi.move p.1 p.2.1 p.2.2 (((stkI k).getD j (0, 0)).1) (((stkI k).getD j (0, 0)).2)).2.2.2) = 0
      · refine T_el (bt h4) ?_
        refine T_skip ?_
        refine T_r mixed [(3, .app none (some (pts (out ++ [((Pi.move p.1 p.2.1 p.2.2 (((stkI k).getD j (0, 0)).1) (((stkI k).getD j (0, 0)).2)).1, (Pi.move p.1 p.2.1 p.2.2 (((stkI k).getD j (0, 0)).1) (((stkI k).getD j (0, 0)).2)).2.1, (Pi.move p.1 p.2.1 p.2.2 (((stkI k).getD j (0, 0)).1) (((stkI k).getD j (0, 0)).2)).2.2.1)]))))] [ps 2 (.opt 0 0), ps 7 (.osl 211 0 (out.length + 1)), ps 23 (.osl 1 0 ((stkT k).length)), ps 24 (nv ((stkT k).length)), ps 25 (nv j), pb 0 23 [(iv p.1), (iv p.2.1), (iv p.2.2)], pb 1 9 (txs (stkT k)), pb 211 23 (pts (out ++ [((Pi.move p.1 p.2.1 p.2.2 (((stkI k).getD j (0, 0)).1) (((stkI k).getD j (0, 0)).2)).1, (Pi.move p.1 p.2.1 p.2.2 (((stkI k).getD j (0, 0)).1) (((stkI k).getD j (0, 0)).2)).2.1, (Pi.move p.1 p.2.1 p.2.2 (((stkI k).getD j (0, 0)).1) (((stkI k).getD j (0, 0)).2)).2.2.1)]))] (obs_cons (pts_len _ : ((pts out)).length = out.length * 3) (obs_cons (by omega : (out.length + 1) * 24 ≤ 140737488355328 ∧ out.length + 1 ≤ 9223372036854775807) (obs_cons ((flat_app ptC out [((Pi.move p.1 p.2.1 p.2.2 (((stkI k).getD j (0, 0)).1) (((stkI k).getD j (0, 0)).2)).1, (Pi.move p.1 p.2.1 p.2.2 (((stkI k).getD j (0, 0)).1) (((stkI k).getD j (0, 0)).2)).2.1, (Pi.move p.1 p.2.1 p.2.2 (((stkI k).getD j (0, 0)).1) (((stkI k).getD j (0, 0)).2)).2.2.1)]).symm : (pts out) ++ [(iv ((Pi.move p.1 p.2.1 p.2.2 (((stkI k).getD j (0, 0)).1) (((stkI k).getD j (0, 0)).2)).1)), (iv ((Pi.move p.1 p.2.1 p.2.2 (((stkI k).getD j (0, 0)).1) (((stkI k).getD j (0, 0)).2)).2.1)), (iv ((Pi.move p.1 p.2.1 p.2.2 (((stkI k).getD j (0, 0)).1) (((stkI k).getD j (0, 0)).2)).2.2.1))] = (pts (out ++ [((Pi.move p.1 p.2.1 p.2.2 (((stkI k).getD j (0, 0)).1) (((stkI k).getD j (0, 0)).2)).1, (Pi.move p.1 p.2.1 p.2.2 (((stkI k).getD j (0, 0)).1) (((stkI k).getD j (0, 0)).2)).2.1, (Pi.move p.1 p.2.1 p.2.2 (((stkI k).getD j (0, 0)).1) (((stkI k).getD j (0, 0)).2)).2.2.1)]))) obs_nil))) ?_
        refine T_blk ?_
        refine T_r mixed [] [ps 2 (.opt 0 0), ps 7 (.osl 211 0 (out.length + 1)), ps 23 (.osl 1 0 ((stkT k).length)), ps 24 (nv ((stkT k).length)), ps 25 (iv (((j : Nat) : Int) + 1)), pb 0 23 [(iv p.1), (iv p.2.1), (iv p.2.2)], pb 1 9 (txs (stkT k)), pb 211 23 (pts (out ++ [((Pi.move p.1 p.2.1 p.2.2 (((stkI k).getD j (0, 0)).1) (((stkI k).getD j (0, 0)).2)).1, (Pi.move p.1 p.2.1 p.2.2 (((stkI k).getD j (0, 0)).1) (((stkI k).getD j (0, 0)).2)).2.1, (Pi.move p.1 p.2.1 p.2.2 (((stkI k).getD j (0, 0)).1) (((stkI k).getD j (0, 0)).2)).2.2.1)]))] (obs_cons (by simp only [InK]; omega : InK .i64 (((j : Nat) : Int) + 1)) obs_nil) ?_
        have hme : mvE p ((stkI k).getD j (0, 0)) = 0 := h4
        exact T_back ⟨(j + 1, out ++ [mvP p ((stkI k).getD j (0, 0))]), ⟨by show j + 1 ≤ (stkT k).length; omega, by show notesGo p ((stkI k).drop (j + 1)) (out ++ [mvP p ((stkI k).getD j (0, 0))]) = notesGo p (stkI k) [p]; rw [← notesGo_at hjl hme]; exact hg, by show (out ++ [mvP p ((stkI k).getD j (0, 0))]).length ≤ j + 1 + 1; rw [List.length_append]; show out.length + 1 ≤ j + 1 + 1; omega⟩⟩ (Wk.trans (Wk.eq (show _ = [ps 2 (.opt 0 0), ps 7 (.osl 211 0 ((out ++ [mvP p ((stkI k).getD j (0, 0))]).length)), ps 23 (.osl 1 0 ((stkT k).length)), ps 24 (nv ((stkT k).length)), ps 25 (nv (j + 1)), pb 0 23 [(iv p.1), (iv p.2.1), (iv p.2.2)], pb 1 9 (txs (stkT k)), pb 211 23 (pts (out ++ [mvP p ((stkI k).getD j (0, 0))]))] from by rw [List.length_append]; rfl)) (Wk.ren3 [ps 2 (.opt 0 0), ps 7 (.osl 2 0 (out ++ [mvP p ((stkI k).getD j (0, 0))]).length), ps 23 (.osl 1 0 ((stkT k).length)), ps 24 (nv ((stkT k).length)), ps 25 (nv (j + 1)), pb 0 23 [(iv p.1), (iv p.2.1), (iv p.2.2)], pb 1 9 (txs (stkT k)), pb 2 23 (pts (out ++ [mvP p ((stkI k).getD j (0, 0))]))] 0 hc0 [0, 1, 211] [(kb 1, (txs (stkT k))), (kb 2, (pts (out ++ [mvP p ((stkI k).getD j (0, 0))])))] (obs_cons (txs_shd _) (obs_cons (pts_shd _) (obs_nil))) (by kernel_rfl) rfl rfl (by kernel_rfl) (by kernel_rfl))) (show (stkT k).length - (j + 1) < (stkT k).length - j from by show (stkT k).length - (j + 1) < (stkT k).length - j; omega)
      refine T_th (bf h4) ?_
      refine T_seq ?_
      refine T_r mixed [] [ps 4 (.av (.slice none 0 0)), ps 5 (iv ((Pi.move p.1 p.2.1 p.2.2 (((stkI k).getD j (0, 0)).1) (((stkI k).getD j (0, 0)).2)).2.2.2))] (obs_nil) ?_
      have hres := notes_bad h1 h2 hg hjl rfl h4
      rw [show (notesS p k).2 = mvE p ((stkI k).getD j (0, 0)) from by rw [hres]]
      exact T_ret fun cx_ a_ hI_ => loop_ret (rt hc0 [ps 4 (.av (.slice none 0 0)), ps 5 (iv ((Pi.move p.1 p.2.1 p.2.2 (((stkI k).getD j (0, 0)).1) (((stkI k).getD j (0, 0)).2)).2.2.2))] [] hI_)
    refine T_el (decide_eq_false h3) ?_
    refine T_break rfl rfl ?_
    refine T_seq ?_
    refine T_r mixed [] [ps 4 (.osl 2 0 out.length), ps 5 (iv 0), pb 2 23 (pts out)] (obs_nil) ?_
    have hres := notes_done h1 h2 hg (by omega)
    exact absurd (by rw [hres]) h0
  refine T_th (congrArg Bool.not (Bool.eq_false_iff.2 h2)) ?_
  refine T_seq ?_
  refine T_r mixed [] [ps 4 (.av (.slice none 0 0)), ps 5 (iv 2)] (obs_nil) ?_
  have hres := notesS_form (p := p) h1 h2
  rw [show (notesS p k).2 = 2 from by rw [hres]]
  exact T_ret fun cx_ a_ hI_ => rt hc0 [ps 4 (.av (.slice none 0 0)), ps 5 (iv 2)] [] hI_
set_option maxRecDepth 100000 in
set_option maxHeartbeats 4000000 in
theorem rnotes_ok_pc (p : Pt) (k : Int) (ia : Pi.I64 p.2.1) (h0 : (notesS p k).2 = 0) : PC Tryz.prog 6 [(.agg [(iv p.1), (iv p.2.1), (iv p.2.2)]), (iv k)] [] (.tup [(.osl 0 0 ((notesS p k).1.length)), (iv 0)]) [some (23, (pts ((notesS p k).1)))] := by
  refine pc_intro Tryz.func6 rfl (by kernel_rfl) (Nat.le_of_ble_eq_true rfl) (by kernel_rfl) (l0 := [ps 0 (.agg [(iv p.1), (iv p.2.1), (iv p.2.2)]), ps 1 (iv k)]) rfl (fun c0 Bor hc0 => ?_)
  refine T_seq ?_
  refine T_r mixed [] [ps 1 (iv k), ps 2 (.opt 0 0), pb 0 23 [(iv p.1), (iv p.2.1), (iv p.2.2)]] (obs_nil) ?_
  refine T_seq ?_
  by_cases h1 : stkI k = []
  · refine T_r mixed [(1, .call [] [(iv k)] [] (.av (.slice none 0 0)) [])] [ps 2 (.opt 0 0), ps 6 (.av (.slice none 0 0)), pb 0 23 [(iv p.1), (iv p.2.1), (iv p.2.2)]] (obs_cons (rstack_nil_pc k h1) (obs_cons (rfl : Ren0 32 [(iv k)]) obs_nil)) ?_
    refine T_seq <| T_seq ?_
    refine T_r mixed [] [ps 2 (.opt 0 0), ps 6 (.av (.slice none 0 0)), ps 15 (bv true), pb 0 23 [(iv p.1), (iv p.2.1), (iv p.2.2)]] (obs_nil) ?_
    refine T_then (b := true) rfl rfl ?_
    refine T_seq ?_
    refine T_r mixed [] [ps 4 (.av (.slice none 0 0)), ps 5 (iv 1)] (obs_nil) ?_
    have hres := notesS_kind (p := p) h1
    exact absurd h0 (by rw [hres]; decide)
  refine T_r mixed [(1, .call [] [(iv k)] [] (.osl 0 0 ((stkR k).length)) [some (3, (ints (stkR k)))])] [ps 2 (.opt 0 0), ps 6 (.osl 32 0 ((stkR k).length)), pb 0 23 [(iv p.1), (iv p.2.1), (iv p.2.2)], pb 32 3 (renL (sigo [] 32) (ints (stkR k)))] (obs_cons (rstack_pc k h1) (obs_cons (rfl : Ren0 32 [(iv k)]) obs_nil)) ?_
  refine T_wk (Wk.eq (show _ = [ps 2 (.opt 0 0), ps 6 (.osl 32 0 ((stkR k).length)), pb 0 23 [(iv p.1), (iv p.2.1), (iv p.2.2)], pb 32 3 (ints (stkR k))] from by simp only [renL_shd (ints_shd _)])) ?_
  refine T_seq <| T_seq ?_
  have hsp : 0 < (stkR k).length := stkR_pos1 h1
  refine T_r mixed [] [ps 2 (.opt 0 0), ps 6 (.osl 32 0 ((stkR k).length)), ps 15 (bv false), pb 0 23 [(iv p.1), (iv p.2.1), (iv p.2.2)], pb 32 3 (ints (stkR k))] (obs_cons (by omega : 0 < ((stkR k).length)) obs_nil) ?_
  refine T_else (b := false) rfl rfl ?_
  refine T_skip <| T_seq <| T_seq ?_
  refine T_r mixed [(1, .call [] [(.agg [(iv p.1), (iv p.2.1), (iv p.2.2)])] [] (bv (Pi.rightB p.1 p.2.1 p.2.2)) [])] [ps 2 (.opt 0 0), ps 6 (.osl 32 0 ((stkR k).length)), ps 18 (bv (!(Pi.rightB p.1 p.2.1 p.2.2))), pb 0 23 [(iv p.1), (iv p.2.1), (iv p.2.2)], pb 32 3 (ints (stkR k))] (obs_cons (ref_pright_pc p.1 p.2.1 p.2.2 ia) (obs_cons (rfl : Ren0 72 [(.agg [(iv p.1), (iv p.2.1), (iv p.2.2)])]) obs_nil)) ?_
  by_cases h2 : (Pi.rightB p.1 p.2.1 p.2.2) = true
  · refine T_el (congrArg Bool.not h2) ?_
    refine T_skip <| T_seq ?_
    refine T_r mixed [] [ps 2 (.opt 0 0), ps 6 (.osl 32 0 ((stkR k).length)), ps 7 (.osl 96 0 1), pb 0 23 [(iv p.1), (iv p.2.1), (iv p.2.2)], pb 32 3 (ints (stkR k)), pb 96 23 [(iv p.1), (iv p.2.1), (iv p.2.2)]] (obs_nil) ?_
    refine T_seq <| T_seq ?_
    have hlk := stkR_len h1
    have hsl := stk_len k
    have hbp := Pi.bounds h2
    refine T_r mixed [] [ps 2 (.opt 0 0), ps 7 (.osl 96 0 1), ps 21 (.osl 32 0 ((stkR k).length)), ps 22 (nv ((stkR k).length)), ps 23 (iv 0), pb 0 23 [(iv p.1), (iv p.2.1), (iv p.2.2)], pb 32 3 (ints (stkR k)), pb 96 23 [(iv p.1), (iv p.2.1), (iv p.2.2)]] (obs_nil) ?_
    refine T_block ?_
    refine T_loop (α := {x : Nat × List Pt // x.1 ≤ 3 ∧ notesGo p ((stkI k).drop x.1) x.2 = notesGo p (stkI k) [p] ∧ x.2.length ≤ x.1 + 1}) (fun x => [ps 2 (.opt 0 0), ps 7 (.osl 2 0 x.1.2.length), ps 21 (.osl 1 0 ((stkR k).length)), ps 22 (nv ((stkR k).length)), ps 23 (nv x.1.1), pb 0 23 [(iv p.1), (iv p.2.1), (iv p.2.2)], pb 1 3 (ints (stkR k)), pb 2 23 (pts x.1.2)]) (fun x => 3 - x.1.1) 3 ⟨(0, [p]), ⟨Nat.zero_le _, rfl, Nat.le_refl 1⟩⟩ (Wk.ren3 [ps 2 (.opt 0 0), ps 7 (.osl 2 0 [p].length), ps 21 (.osl 1 0 ((stkR k).length)), ps 22 (nv ((stkR k).length)), ps 23 (nv 0), pb 0 23 [(iv p.1), (iv p.2.1), (iv p.2.2)], pb 1 3 (ints (stkR k)), pb 2 23 (pts [p])] 0 hc0 [0, 32, 96] [(kb 1, (ints (stkR k))), (kb 2, (pts [p]))] (obs_cons (ints_shd _) (obs_cons (pts_shd _) (obs_nil))) (by kernel_rfl) rfl rfl (by kernel_rfl) (by kernel_rfl)) ?_
    rintro ⟨⟨j, out⟩, ⟨hj, hg, hol⟩⟩
    dsimp only at hj hg hol
    refine T_seq ?_
    refine T_r mixed [] [ps 2 (.opt 0 0), ps 7 (.osl 2 0 out.length), ps 21 (.osl 1 0 ((stkR k).length)), ps 22 (nv ((stkR k).length)), ps 23 (nv j), ps 24 (bv (decide (((j : Nat) : Int) < (((stkR k).length : Nat) : Int)))), pb 0 23 [(iv p.1), (iv p.2.1), (iv p.2.2)], pb 1 3 (ints (stkR k)), pb 2 23 (pts out)] (obs_nil) ?_
    refine T_seq ?_
    by_cases h3 : ((j : Nat) : Int) < (((stkR k).length : Nat) : Int)
    · refine T_th (decide_eq_true h3) ?_
      refine T_skip <| T_seq <| T_block <| T_seq ?_
      have hj3 : j < 3 := by omega
      have hrb := stkR_bd h1 hj3
      refine T_r mixed [(1, .nat j), (2, .val (iv ((stkR k).getD j 0)))] [ps 2 (.opt 0 0), ps 7 (.osl 2 0 out.length), ps 8 (nv j), ps 9 (iv ((stkR k).getD j 0)), ps 21 (.osl 1 0 ((stkR k).length)), ps 22 (nv ((stkR k).length)), ps 23 (nv j), pb 0 23 [(iv p.1), (iv p.2.1), (iv p.2.2)], pb 1 3 (ints (stkR k)), pb 2 23 (pts out)] (obs_cons (by omega : (0 : Int) ≤ ((j : Nat) : Int) ∧ ((j : Nat) : Int) < (((stkR k).length : Nat) : Int)) (obs_cons (by omega : 0 + (((j : Nat) : Int) : Int).toNat * 1 = j) (obs_cons (ints_at (by omega) : j + 1 ≤ ((ints (stkR k))).length ∧ (((ints (stkR k))).drop j).take 1 = [(iv ((stkR k).getD j 0))]) obs_nil))) ?_
      refine T_seq ?_
      refine T_r mixed [] [ps 2 (.opt 0 0), ps 7 (.osl 2 0 out.length), ps 8 (nv j), ps 9 (iv ((stkR k).getD j 0)), ps 21 (.osl 1 0 ((stkR k).length)), ps 22 (nv ((stkR k).length)), ps 23 (nv j), ps 29 (bv (decide (0 < ((stkR k).getD j 0)))), pb 0 23 [(iv p.1), (iv p.2.1), (iv p.2.2)], pb 1 3 (ints (stkR k)), pb 2 23 (pts out)] (obs_nil) ?_
      by_cases h4 : 0 < ((stkR k).getD j 0)
      · refine T_th (decide_eq_true h4) ?_
        refine T_seq ?_
        have hjl := (stkR_pos h1 hj3).1 h4
        refine T_rd mixed [(1, .call [] [(.agg [(iv p.1), (iv p.2.1), (iv p.2.2)])] [] (iv (Pi.steps p.1 p.2.2)) []), (7, .call [] [(.agg [(iv p.1), (iv p.2.1), (iv p.2.2)])] [] (iv (Pi.halves p.1 p.2.1 p.2.2)) []), (10, .call [] [(iv (((Pi.steps p.1 p.2.2) + (2 * ((j : Nat) : Int))) + 2)), (iv ((Pi.halves p.1 p.2.1 p.2.2) + ((stkR k).getD j 0)))] [] (.tup [(.agg [(iv ((((Pi.steps p.1 p.2.2) + (2 * ((j : Nat) : Int))) + 2) % 7)), (iv (((Pi.halves p.1 p.2.1 p.2.2) + ((stkR k).getD j 0)) - white (((Pi.steps p.1 p.2.2) + (2 * ((j : Nat) : Int))) + 2))), (iv ((((Pi.steps p.1 p.2.2) + (2 * ((j : Nat) : Int))) + 2) / 7))]), (bv (rightB ((((Pi.steps p.1 p.2.2) + (2 * ((j : Nat) : Int))) + 2) % 7) (((Pi.halves p.1 p.2.1 p.2.2) + ((stkR k).getD j 0)) - white (((Pi.steps p.1 p.2.2) + (2 * ((j : Nat) : Int))) + 2)) ((((Pi.steps p.1 p.2.2) + (2 * ((j : Nat) : Int))) + 2) / 7)))]) [])] [[], [0], [], [2], [0, 1, 2, 3], [0, 1, 2, 3, 4], [], [0, 1, 6], [], [0, 1, 6, 7, 8], [0, 1, 2, 3, 4, 5, 6, 7, 8, 9], [0, 1, 2, 3, 4, 5, 6, 7, 8, 9, 10], [0, 1, 2, 3, 4, 5, 6, 7, 8, 9, 10, 11], [0, 1, 2, 3, 4, 5, 6, 7, 8, 9, 10, 11], [], [0, 1, 2, 3, 4, 5, 6, 7, 8, 9, 10, 11, 12, 14], [0, 1, 2, 3, 4, 5, 6, 7, 8, 9, 10, 11, 12, 13, 14, 15]] [([62], [1, 4]), ([64], [62]), ([66], [16]), ([68], [66]), ([70], [64, 68]), ([72], [70]), ([74], [1, 4]), ([76], [74]), ([78], [18]), ([80], [76, 78]), ([82], [72, 80]), ([60], [82]), ([84], [60]), ([86], [60]), ([20, 359], []), ([359], [20, 84, 359]), ([22], [86])] [ps 2 (.opt 0 0), ps 7 (.osl 2 0 out.length), ps 10 (.opt 179 0), ps 11 (bv (rightB ((((Pi.steps p.1 p.2.2) + (2 * ((j : Nat) : Int))) + 2) % 7) (((Pi.halves p.1 p.2.1 p.2.2) + ((stkR k).getD j 0)) - white (((Pi.steps p.1 p.2.2) + (2 * ((j : Nat) : Int))) + 2)) ((((Pi.steps p.1 p.2.2) + (2 * ((j : Nat) : Int))) + 2) / 7))), ps 21 (.osl 1 0 ((stkR k).length)), ps 22 (nv ((stkR k).length)), ps 23 (nv j), pb 0 23 [(iv p.1), (iv p.2.1), (iv p.2.2)], pb 1 3 (ints (stkR k)), pb 2 23 (pts out), pb 179 23 [(iv ((((Pi.steps p.1 p.2.2) + (2 * ((j : Nat) : Int))) + 2) % 7)), (iv (((Pi.halves p.1 p.2.1 p.2.2) + ((stkR k).getD j 0)) - white (((Pi.steps p.1 p.2.2) + (2 * ((j : Nat) : Int))) + 2))), (iv ((((Pi.steps p.1 p.2.2) + (2 * ((j : Nat) : Int))) + 2) / 7))]] (obs_cons (ref_psteps_pc p.1 p.2.1 p.2.2 h2) (obs_cons (rfl : Ren0 75 [(.agg [(iv p.1), (iv p.2.1), (iv p.2.2)])]) (obs_cons (by simp only [InK]; omega : InK .i64 (2 * ((j : Nat) : Int))) (obs_cons (by simp only [InK]; omega : InK .i64 ((Pi.steps p.1 p.2.2) + (2 * ((j : Nat) : Int)))) (obs_cons (by simp only [InK]; omega : InK .i64 (((Pi.steps p.1 p.2.2) + (2 * ((j : Nat) : Int))) + 2)) (obs_cons (ref_phalves_pc p.1 p.2.1 p.2.2 h2) (obs_cons (rfl : Ren0 123 [(.agg [(iv p.1), (iv p.2.1), (iv p.2.2)])]) (obs_cons (by simp only [InK]; omega : InK .i64 ((Pi.halves p.1 p.2.1 p.2.2) + ((stkR k).getD j 0))) (obs_cons (ref_pat_pc (((Pi.steps p.1 p.2.2) + (2 * ((j : Nat) : Int))) + 2) ((Pi.halves p.1 p.2.1 p.2.2) + ((stkR k).getD j 0)) (by omega) (by omega)) (obs_cons (rfl : Ren0 147 [(iv (((Pi.steps p.1 p.2.2) + (2 * ((j : Nat) : Int))) + 2)), (iv ((Pi.halves p.1 p.2.1 p.2.2) + ((stkR k).getD j 0)))]) obs_nil)))))))))) ?_
        refine T_seq <| T_seq ?_
        refine T_r mixed [] [ps 2 (.opt 0 0), ps 7 (.osl 2 0 out.length), ps 10 (.opt 179 0), ps 21 (.osl 1 0 ((stkR k).length)), ps 22 (nv ((stkR k).length)), ps 23 (nv j), ps 45 (bv (!(rightB ((((Pi.steps p.1 p.2.2) + (2 * ((j : Nat) : Int))) + 2) % 7) (((Pi.halves p.1 p.2.1 p.2.2) + ((stkR k).getD j 0)) - white (((Pi.steps p.1 p.2.2) + (2 * ((j : Nat) : Int))) + 2)) ((((Pi.steps p.1 p.2.2) + (2 * ((j : Nat) : Int))) + 2) / 7)))), pb 0 23 [(iv p.1), (iv p.2.1), (iv p.2.2)], pb 1 3 (ints (stkR k)), pb 2 23 (pts out), pb 179 23 [(iv ((((Pi.steps p.1 p.2.2) + (2 * ((j : Nat) : Int))) + 2) % 7)), (iv (((Pi.halves p.1 p.2.1 p.2.2) + ((stkR k).getD j 0)) - white (((Pi.steps p.1 p.2.2) + (2 * ((j : Nat) : Int))) + 2))), (iv ((((Pi.steps p.1 p.2.2) + (2 * ((j : Nat) : Int))) + 2) / 7))]] (obs_nil) ?_
        by_cases h5 : (rightB ((((Pi.steps p.1 p.2.2) + (2 * ((j : Nat) : Int))) + 2) % 7) (((Pi.halves p.1 p.2.1 p.2.2) + ((stkR k).getD j 0)) - white (((Pi.steps p.1 p.2.2) + (2 * ((j : Nat) : Int))) + 2)) ((((Pi.steps p.1 p.2.2) + (2 * ((j : Nat) : Int))) + 2) / 7)) = true
        · refine T_el (congrArg Bool.not h5) ?_
          refine T_skip ?_
          refine T_r mixed [(3, .app none (some (pts (out ++ [((((Pi.steps p.1 p.2.2) + (2 * ((j : Nat) : Int))) + 2) % 7, ((Pi.halves p.1 p.2.1 p.2.2) + ((stkR k).getD j 0)) - white (((Pi.steps p.1 p.2.2) + (2 * ((j : Nat) : Int))) + 2), (((Pi.steps p.1 p.2.2) + (2 * ((j : Nat) : Int))) + 2) / 7)]))))] [ps 2 (.opt 0 0), ps 7 (.osl 243 0 (out.length + 1)), ps 21 (.osl 1 0 ((stkR k).length)), ps 22 (nv ((stkR k).length)), ps 23 (nv j), pb 0 23 [(iv p.1), (iv p.2.1), (iv p.2.2)], pb 1 3 (ints (stkR k)), pb 243 23 (pts (out ++ [((((Pi.steps p.1 p.2.2) + (2 * ((j : Nat) : Int))) + 2) % 7, ((Pi.halves p.1 p.2.1 p.2.2) + ((stkR k).getD j 0)) - white (((Pi.steps p.1 p.2.2) + (2 * ((j : Nat) : Int))) + 2), (((Pi.steps p.1 p.2.2) + (2 * ((j : Nat) : Int))) + 2) / 7)]))] (obs_cons (pts_len _ : ((pts out)).length = out.length * 3) (obs_cons (by omega : (out.length + 1) * 24 ≤ 140737488355328 ∧ out.length + 1 ≤ 9223372036854775807) (obs_cons ((flat_app ptC out [((((Pi.steps p.1 p.2.2) + (2 * ((j : Nat) : Int))) + 2) % 7, ((Pi.halves p.1 p.2.1 p.2.2) + ((stkR k).getD j 0)) - white (((Pi.steps p.1 p.2.2) + (2 * ((j : Nat) : Int))) + 2), (((Pi.steps p.1 p.2.2) + (2 * ((j : Nat) : Int))) + 2) / 7)]).symm : (pts out) ++ [(iv ((((Pi.steps p.1 p.2.2) + (2 * ((j : Nat) : Int))) + 2) % 7)), (iv (((Pi.halves p.1 p.2.1 p.2.2) + ((stkR k).getD j 0)) - white (((Pi.steps p.1 p.2.2) + (2 * ((j : Nat) : Int))) + 2))), (iv ((((Pi.steps p.1 p.2.2) + (2 * ((j : Nat) : Int))) + 2) / 7))] = (pts (out ++ [((((Pi.steps p.1 p.2.2) + (2 * ((j : Nat) : Int))) + 2) % 7, ((Pi.halves p.1 p.2.1 p.2.2) + ((stkR k).getD j 0)) - white (((Pi.steps p.1 p.2.2) + (2 * ((j : Nat) : Int))) + 2), (((Pi.steps p.1 p.2.2) + (2 * ((j : Nat) : Int))) + 2) / 7)]))) obs_nil))) ?_
          refine T_blk ?_
          refine T_r mixed [] [ps 2 (.opt 0 0), ps 7 (.osl 243 0 (out.length + 1)), ps 21 (.osl 1 0 ((stkR k).length)), ps 22 (nv ((stkR k).length)), ps 23 (iv (((j : Nat) : Int) + 1)), pb 0 23 [(iv p.1), (iv p.2.1), (iv p.2.2)], pb 1 3 (ints (stkR k)), pb 243 23 (pts (out ++ [((((Pi.steps p.1 p.2.2) + (2 * ((j : Nat) : Int))) + 2) % 7, ((Pi.halves p.1 p.2.1 p.2.2) + ((stkR k).getD j 0)) - white (((Pi.steps p.1 p.2.2) + (2 * ((j : Nat) : Int))) + 2), (((Pi.steps p.1 p.2.2) + (2 * ((j : Nat) : Int))) + 2) / 7)]))] (obs_cons (by simp only [InK]; omega : InK .i64 (((j : Nat) : Int) + 1)) obs_nil) ?_
          obtain ⟨hmp, hme⟩ := (ref_mv (p := p) (i := ((stkI k).getD j (0, 0))) h2 (mv_within hjl) (S := Pi.steps p.1 p.2.2 + 2 * ((j : Nat) : Int) + 2) (H := Pi.halves p.1 p.2.1 p.2.2 + (stkR k).getD j 0) (by have := stk_steps hjl; omega) (by have := stkR_at h1 hj3; omega)).1 h5
          exact T_back ⟨(j + 1, out ++ [mvP p ((stkI k).getD j (0, 0))]), ⟨by show j + 1 ≤ 3; omega, by show notesGo p ((stkI k).drop (j + 1)) (out ++ [mvP p ((stkI k).getD j (0, 0))]) = notesGo p (stkI k) [p]; rw [← notesGo_at hjl hme]; exact hg, by show (out ++ [mvP p ((stkI k).getD j (0, 0))]).length ≤ j + 1 + 1; rw [List.length_append]; show out.length + 1 ≤ j + 1 + 1; omega⟩⟩ (Wk.trans (Wk.eq (show _ = [ps 2 (.opt 0 0), ps 7 (.osl 243 0 ((out ++ [mvP p ((stkI k).getD j (0, 0))]).length)), ps 21 (.osl 1 0 ((stkR k).length)), ps 22 (nv ((stkR k).length)), ps 23 (nv (j + 1)), pb 0 23 [(iv p.1), (iv p.2.1), (iv p.2.2)], pb 1 3 (ints (stkR k)), pb 243 23 (pts (out ++ [mvP p ((stkI k).getD j (0, 0))]))] from by rw [hmp, List.length_append]; rfl)) (Wk.ren3 [ps 2 (.opt 0 0), ps 7 (.osl 2 0 (out ++ [mvP p ((stkI k).getD j (0, 0))]).length), ps 21 (.osl 1 0 ((stkR k).length)), ps 22 (nv ((stkR k).length)), ps 23 (nv (j + 1)), pb 0 23 [(iv p.1), (iv p.2.1), (iv p.2.2)], pb 1 3 (ints (stkR k)), pb 2 23 (pts (out ++ [mvP p ((stkI k).getD j (0, 0))]))] 0 hc0 [0, 1, 243] [(kb 1, (ints (stkR k))), (kb 2, (pts (out ++ [mvP p ((stkI k).getD j (0, 0))])))] (obs_cons (ints_shd _) (obs_cons (pts_shd _) (obs_nil))) (by kernel_rfl) rfl rfl (by kernel_rfl) (by kernel_rfl))) (show 3 - (j + 1) < 3 - j from by show 3 - (j + 1) < 3 - j; omega)
        refine T_th (congrArg Bool.not (Bool.eq_false_iff.2 h5)) ?_
        refine T_seq ?_
        refine T_r mixed [] [ps 4 (.av (.slice none 0 0)), ps 5 (iv 3)] (obs_nil) ?_
        have hme := (ref_mv (p := p) (i := ((stkI k).getD j (0, 0))) h2 (mv_within hjl) (S := Pi.steps p.1 p.2.2 + 2 * ((j : Nat) : Int) + 2) (H := Pi.halves p.1 p.2.1 p.2.2 + (stkR k).getD j 0) (by have := stk_steps hjl; omega) (by have := stkR_at h1 hj3; omega)).2 h5
        have hres := notes_bad h1 h2 hg hjl hme (by decide)
        exact absurd h0 (by rw [hres]; decide)
      refine T_el (decide_eq_false h4) ?_
      refine T_skip <| T_blk ?_
      refine T_r mixed [] [ps 2 (.opt 0 0), ps 7 (.osl 2 0 out.length), ps 21 (.osl 1 0 ((stkR k).length)), ps 22 (nv ((stkR k).length)), ps 23 (iv (((j : Nat) : Int) + 1)), pb 0 23 [(iv p.1), (iv p.2.1), (iv p.2.2)], pb 1 3 (ints (stkR k)), pb 2 23 (pts out)] (obs_cons (by simp only [InK]; omega : InK .i64 (((j : Nat) : Int) + 1)) obs_nil) ?_
      have hnl : (stkI k).length ≤ j := Nat.le_of_not_lt fun c => h4 ((stkR_pos h1 hj3).2 c)
      exact T_back ⟨(j + 1, out), ⟨by show j + 1 ≤ 3; omega, by show notesGo p ((stkI k).drop (j + 1)) out = notesGo p (stkI k) [p]; rw [notesGo_skip hnl]; exact hg, by show out.length ≤ j + 1 + 1; omega⟩⟩ (Wk.trans (Wk.eq (show _ = [ps 2 (.opt 0 0), ps 7 (.osl 2 0 out.length), ps 21 (.osl 1 0 ((stkR k).length)), ps 22 (nv ((stkR k).length)), ps 23 (nv (j + 1)), pb 0 23 [(iv p.1), (iv p.2.1), (iv p.2.2)], pb 1 3 (ints (stkR k)), pb 2 23 (pts out)] from by rfl)) (Wk.ren3 [ps 2 (.opt 0 0), ps 7 (.osl 2 0 out.length), ps 21 (.osl 1 0 ((stkR k).length)), ps 22 (nv ((stkR k).length)), ps 23 (nv (j + 1)), pb 0 23 [(iv p.1), (iv p.2.1), (iv p.2.2)], pb 1 3 (ints (stkR k)), pb 2 23 (pts out)] 0 hc0 [0, 1, 2] [(kb 1, (ints (stkR k))), (kb 2, (pts out))] (obs_cons (ints_shd _) (obs_cons (pts_shd _) (obs_nil))) (by kernel_rfl) rfl rfl (by kernel_rfl) (by kernel_rfl))) (show 3 - (j + 1) < 3 - j from by show 3 - (j + 1) < 3 - j; omega)
    refine T_el (decide_eq_false h3) ?_
    refine T_break rfl rfl ?_
    refine T_seq ?_
    refine T_r mixed [] [ps 4 (.osl 2 0 out.length), ps 5 (iv 0), pb 2 23 (pts out)] (obs_nil) ?_
    have hres := notes_done h1 h2 hg (by omega)
    rw [show (notesS p k).1 = out from by rw [hres]]
    exact T_ret fun cx_ a_ hI_ => ret_ok (H' := [some (23, (pts out))]) (.inr rfl) (Wk.ren3 [ps 4 (.osl 0 0 out.length), ps 5 (iv 0), pb 0 23 (pts out)] 0 hc0 [2] [(kb 0, (pts out))] (obs_cons (pts_shd _) (obs_nil)) (by kernel_rfl) rfl rfl (by kernel_rfl) (by kernel_rfl)) rfl (obs_cons rfl (obs_nil)) (fun cx_ a_ hI_ => ret_res (l' := [ps 4 (.osl 0 0 out.length), ps 5 (iv 0), pb 0 23 (pts out)]) (by kernel_rfl) cx_ a_ hI_) hI_
  refine T_th (congrArg Bool.not (Bool.eq_false_iff.2 h2)) ?_
  refine T_seq ?_
  refine T_r mixed [] [ps 4 (.av (.slice none 0 0)), ps 5 (iv 2)] (obs_nil) ?_
  have hres := notesS_form (p := p) h1 h2
  exact absurd h0 (by rw [hres]; decide)
set_option maxRecDepth 100000 in
set_option maxHeartbeats 4000000 in
theorem rnotes_no_pc (p : Pt) (k : Int) (ia : Pi.I64 p.2.1) (h0 : ¬ (notesS p k).2 = 0) : PC Tryz.prog 6 [(.agg [(iv p.1), (iv p.2.1), (iv p.2.2)]), (iv k)] [] (.tup [(.ssl [] 0 0), (iv ((notesS p k).2))]) [] := by
  refine pc_intro Tryz.func6 rfl (by kernel_rfl) (Nat.le_of_ble_eq_true rfl) (by kernel_rfl) (l0 := [ps 0 (.agg [(iv p.1), (iv p.2.1), (iv p.2.2)]), ps 1 (iv k)]) rfl (fun c0 Bor hc0 => ?_)
  refine T_seq ?_
  refine T_r mixed [] [ps 1 (iv k), ps 2 (.opt 0 0), pb 0 23 [(iv p.1), (iv p.2.1), (iv p.2.2)]] (obs_nil) ?_
  refine T_seq ?_
  by_cases h1 : stkI k = []
  · refine T_r mixed [(1, .call [] [(iv k)] [] (.av (.slice none 0 0)) [])] [ps 2 (.opt 0 0), ps 6 (.av (.slice none 0 0)), pb 0 23 [(iv p.1), (iv p.2.1), (iv p.2.2)]] (obs_cons (rstack_nil_pc k h1) (obs_cons (rfl : Ren0 32 [(iv k)]) obs_nil)) ?_
    refine T_seq <| T_seq ?_
    refine T_r mixed [] [ps 2 (.opt 0 0), ps 6 (.av (.slice none 0 0)), ps 15 (bv true), pb 0 23 [(iv p.1), (iv p.2.1), (iv p.2.2)]] (obs_nil) ?_
    refine T_then (b := true) rfl rfl ?_
    refine T_seq ?_
    refine T_r mixed [] [ps 4 (.av (.slice none 0 0)), ps 5 (iv 1)] (obs_nil) ?_
    have hres := notesS_kind (p := p) h1
    rw [show (notesS p k).2 = 1 from by rw [hres]]
    exact T_ret fun cx_ a_ hI_ => rt hc0 [ps 4 (.av (.slice none 0 0)), ps 5 (iv 1)] [] hI_
  refine T_r mixed [(1, .call [] [(iv k)] [] (.osl 0 0 ((stkR k).length)) [some (3, (ints (stkR k)))])] [ps 2 (.opt 0 0), ps 6 (.osl 32 0 ((stkR k).length)), pb 0 23 [(iv p.1), (iv p.2.1), (iv p.2.2)], pb 32 3 (renL (sigo [] 32) (ints (stkR k)))] (obs_cons (rstack_pc k h1) (obs_cons (rfl : Ren0 32 [(iv k)]) obs_nil)) ?_
  refine T_wk (Wk.eq (show _ = [ps 2 (.opt 0 0), ps 6 (.osl 32 0 ((stkR k).length)), pb 0 23 [(iv p.1), (iv p.2.1), (iv p.2.2)], pb 32 3 (ints (stkR k))] from by simp only [renL_shd (ints_shd _)])) ?_
  refine T_seq <| T_seq ?_
  have hsp : 0 < (stkR k).length := stkR_pos1 h1
  refine T_r mixed [] [ps 2 (.opt 0 0), ps 6 (.osl 32 0 ((stkR k).length)), ps 15 (bv false), pb 0 23 [(iv p.1), (iv p.2.1), (iv p.2.2)], pb 32 3 (ints (stkR k))] (obs_cons (by omega : 0 < ((stkR k).length)) obs_nil) ?_
  refine T_else (b := false) rfl rfl ?_
  refine T_skip <| T_seq <| T_seq ?_
  refine T_r mixed [(1, .call [] [(.agg [(iv p.1), (iv p.2.1), (iv p.2.2)])] [] (bv (Pi.rightB p.1 p.2.1 p.2.2)) [])] [ps 2 (.opt 0 0), ps 6 (.osl 32 0 ((stkR k).length)), ps 18 (bv (!(Pi.rightB p.1 p.2.1 p.2.2))), pb 0 23 [(iv p.1), (iv p.2.1), (iv p.2.2)], pb 32 3 (ints (stkR k))] (obs_cons (ref_pright_pc p.1 p.2.1 p.2.2 ia) (obs_cons (rfl : Ren0 72 [(.agg [(iv p.1), (iv p.2.1), (iv p.2.2)])]) obs_nil)) ?_
  by_cases h2 : (Pi.rightB p.1 p.2.1 p.2.2) = true
  · refine T_el (congrArg Bool.not h2) ?_
    refine T_skip <| T_seq ?_
    refine T_r mixed [] [ps 2 (.opt 0 0), ps 6 (.osl 32 0 ((stkR k).length)), ps 7 (.osl 96 0 1), pb 0 23 [(iv p.1), (iv p.2.1), (iv p.2.2)], pb 32 3 (ints (stkR k)), pb 96 23 [(iv p.1), (iv p.2.1), (iv p.2.2)]] (obs_nil) ?_
    refine T_seq <| T_seq ?_
    have hlk := stkR_len h1
    have hsl := stk_len k
    have hbp := Pi.bounds h2
    refine T_r mixed [] [ps 2 (.opt 0 0), ps 7 (.osl 96 0 1), ps 21 (.osl 32 0 ((stkR k).length)), ps 22 (nv ((stkR k).length)), ps 23 (iv 0), pb 0 23 [(iv p.1), (iv p.2.1), (iv p.2.2)], pb 32 3 (ints (stkR k)), pb 96 23 [(iv p.1), (iv p.2.1), (iv p.2.2)]] (obs_nil) ?_
    refine T_block ?_
    refine T_loop (α := {x : Nat × List Pt // x.1 ≤ 3 ∧ notesGo p ((stkI k).drop x.1) x.2 = notesGo p (stkI k) [p] ∧ x.2.length ≤ x.1 + 1}) (fun x => [ps 2 (.opt 0 0), ps 7 (.osl 2 0 x.1.2.length), ps 21 (.osl 1 0 ((stkR k).length)), ps 22 (nv ((stkR k).length)), ps 23 (nv x.1.1), pb 0 23 [(iv p.1), (iv p.2.1), (iv p.2.2)], pb 1 3 (ints (stkR k)), pb 2 23 (pts x.1.2)]) (fun x => 3 - x.1.1) 3 ⟨(0, [p]), ⟨Nat.zero_le _, rfl, Nat.le_refl 1⟩⟩ (Wk.ren3 [ps 2 (.opt 0 0), ps 7 (.osl 2 0 [p].length), ps 21 (.osl 1 0 ((stkR k).length)), ps 22 (nv ((stkR k).length)), ps 23 (nv 0), pb 0 23 [(iv p.1), (iv p.2.1), (iv p.2.2)], pb 1 3 (ints (stkR k)), pb 2 23 (pts [p])] 0 hc0 [0, 32, 96] [(kb 1, (ints (stkR k))), (kb 2, (pts [p]))] (obs_cons (ints_shd _) (obs_cons (pts_shd _) (obs_nil))) (by kernel_rfl) rfl rfl (by kernel_rfl) (by kernel_rfl)) ?_
    rintro ⟨⟨j, out⟩, ⟨hj, hg, hol⟩⟩
    dsimp only at hj hg hol
    refine T_seq ?_
    refine T_r mixed [] [ps 2 (.opt 0 0), ps 7 (.osl 2 0 out.length), ps 21 (.osl 1 0 ((stkR k).length)), ps 22 (nv ((stkR k).length)), ps 23 (nv j), ps 24 (bv (decide (((j : Nat) : Int) < (((stkR k).length : Nat) : Int)))), pb 0 23 [(iv p.1), (iv p.2.1), (iv p.2.2)], pb 1 3 (ints (stkR k)), pb 2 23 (pts out)] (obs_nil) ?_
    refine T_seq ?_
    by_cases h3 : ((j : Nat) : Int) < (((stkR k).length : Nat) : Int)
    · refine T_th (decide_eq_true h3) ?_
      refine T_skip <| T_seq <| T_block <| T_seq ?_
      have hj3 : j < 3 := by omega
      have hrb := stkR_bd h1 hj3
      refine T_r mixed [(1, .nat j), (2, .val (iv ((stkR k).getD j 0)))] [ps 2 (.opt 0 0), ps 7 (.osl 2 0 out.length), ps 8 (nv j), ps 9 (iv ((stkR k).getD j 0)), ps 21 (.osl 1 0 ((stkR k).length)), ps 22 (nv ((stkR k).length)), ps 23 (nv j), pb 0 23 [(iv p.1), (iv p.2.1), (iv p.2.2)], pb 1 3 (ints (stkR k)), pb 2 23 (pts out)] (obs_cons (by omega : (0 : Int) ≤ ((j : Nat) : Int) ∧ ((j : Nat) : Int) < (((stkR k).length : Nat) : Int)) (obs_cons (by omega : 0 + (((j : Nat) : Int) : Int).toNat * 1 = j) (obs_cons (ints_at (by omega) : j + 1 ≤ ((ints (stkR k))).length ∧ (((ints (stkR k))).drop j).take 1 = [(iv ((stkR k).getD j 0))]) obs_nil))) ?_
      refine T_seq ?_
      refine T_r mixed [] [ps 2 (.opt 0 0), ps 7 (.osl 2 0 out.length), ps 8 (nv j), ps 9 (iv ((stkR k).getD j 0)), ps 21 (.osl 1 0 ((stkR k).length)), ps 22 (nv ((stkR k).length)), ps 23 (nv j), ps 29 (bv (decide (0 < ((stkR k).getD j 0)))), pb 0 23 [(iv p.1), (iv p.2.1), (iv p.2.2)], pb 1 3 (ints (stkR k)), pb 2 23 (pts out)] (obs_nil) ?_
      by_cases h4 : 0 < ((stkR k).getD j 0)
      · refine T_th (decide_eq_true h4) ?_
        refine T_seq ?_
        have hjl := (stkR_pos h1 hj3).1 h4
        refine T_rd mixed [(1, .call [] [(.agg [(iv p.1), (iv p.2.1), (iv p.2.2)])] [] (iv (Pi.steps p.1 p.2.2)) []), (7, .call [] [(.agg [(iv p.1), (iv p.2.1), (iv p.2.2)])] [] (iv (Pi.halves p.1 p.2.1 p.2.2)) []), (10, .call [] [(iv (((Pi.steps p.1 p.2.2) + (2 * ((j : Nat) : Int))) + 2)), (iv ((Pi.halves p.1 p.2.1 p.2.2) + ((stkR k).getD j 0)))] [] (.tup [(.agg [(iv ((((Pi.steps p.1 p.2.2) + (2 * ((j : Nat) : Int))) + 2) % 7)), (iv (((Pi.halves p.1 p.2.1 p.2.2) + ((stkR k).getD j 0)) - white (((Pi.steps p.1 p.2.2) + (2 * ((j : Nat) : Int))) + 2))), (iv ((((Pi.steps p.1 p.2.2) + (2 * ((j : Nat) : Int))) + 2) / 7))]), (bv (rightB ((((Pi.steps p.1 p.2.2) + (2 * ((j : Nat) : Int))) + 2) % 7) (((Pi.halves p.1 p.2.1 p.2.2) + ((stkR k).getD j 0)) - white (((Pi.steps p.1 p.2.2) + (2 * ((j : Nat) : Int))) + 2)) ((((Pi.steps p.1 p.2.2) + (2 * ((j : Nat) : Int))) + 2) / 7)))]) [])] [[], [0], [], [2], [0, 1, 2, 3], [0, 1, 2, 3, 4], [], [0, 1, 6], [], [0, 1, 6, 7, 8], [0, 1, 2, 3, 4, 5, 6, 7, 8, 9], [0, 1, 2, 3, 4, 5, 6, 7, 8, 9, 10], [0, 1, 2, 3, 4, 5, 6, 7, 8, 9, 10, 11], [0, 1, 2, 3, 4, 5, 6, 7, 8, 9, 10, 11], [], [0, 1, 2, 3, 4, 5, 6, 7, 8, 9, 10, 11, 12, 14], [0, 1, 2, 3, 4, 5, 6, 7, 8, 9, 10, 11, 12, 13, 14, 15]] [([62], [1, 4]), ([64], [62]), ([66], [16]), ([68], [66]), ([70], [64, 68]), ([72], [70]), ([74], [1, 4]), ([76], [74]), ([78], [18]), ([80], [76, 78]), ([82], [72, 80]), ([60], [82]), ([84], [60]), ([86], [60]), ([20, 359], []), ([359], [20, 84, 359]), ([22], [86])] [ps 2 (.opt 0 0), ps 7 (.osl 2 0 out.length), ps 10 (.opt 179 0), ps 11 (bv (rightB ((((Pi.steps p.1 p.2.2) + (2 * ((j : Nat) : Int))) + 2) % 7) (((Pi.halves p.1 p.2.1 p.2.2) + ((stkR k).getD j 0)) - white (((Pi.steps p.1 p.2.2) + (2 * ((j : Nat) : Int))) + 2)) ((((Pi.steps p.1 p.2.2) + (2 * ((j : Nat) : Int))) + 2) / 7))), ps 21 (.osl 1 0 ((stkR k).length)), ps 22 (nv ((stkR k).length)), ps 23 (nv j), pb 0 23 [(iv p.1), (iv p.2.1), (iv p.2.2)], pb 1 3 (ints (stkR k)), pb 2 23 (pts out), pb 179 23 [(iv ((((Pi.steps p.1 p.2.2) + (2 * ((j : Nat) : Int))) + 2) % 7)), (iv (((Pi.halves p.1 p.2.1 p.2.2) + ((stkR k).getD j 0)) - white (((Pi.steps p.1 p.2.2) + (2 * ((j : Nat) : Int))) + 2))), (iv ((((Pi.steps p.1 p.2.2) + (2 * ((j : Nat) : Int))) + 2) / 7))]] (obs_cons (ref_psteps_pc p.1 p.2.1 p.2.2 h2) (obs_cons (rfl : Ren0 75 [(.agg [(iv p.1), (iv p.2.1), (iv p.2.2)])]) (obs_cons (by simp only [InK]; omega : InK .i64 (2 * ((j : Nat) : Int))) (obs_cons (by simp only [InK]; omega : InK .i64 ((Pi.steps p.1 p.2.2) + (2 * ((j : Nat) : Int)))) (obs_cons (by simp only [InK]; omega : InK .i64 (((Pi.steps p.1 p.2.2) + (2 * ((j : Nat) : Int))) + 2)) (obs_cons (ref_phalves_pc p.1 p.2.1 p.2.2 h2) (obs_cons (rfl : Ren0 123 [(.agg [(iv p.1), (iv p.2.1), (iv p.2.2)])]) (obs_cons (by simp only [InK]; omega : InK .i64 ((Pi.halves p.1 p.2.1 p.2.2) + ((stkR k).getD j 0))) (obs_cons (ref_pat_pc (((Pi.steps p.1 p.2.2) + (2 * ((j : Nat) : Int))) + 2) ((Pi.halves p.1 p.2.1 p.2.2) + ((stkR k).getD j 0)) (by omega) (by omega)) (obs_cons (rfl : Ren0 147 [(iv (((Pi.steps p.1 p.2.2) + (2 * ((j : Nat) : Int))) + 2)), (iv ((Pi.halves p.1 p.2.1 p.2.2) + ((stkR k).getD j 0)))]) obs_nil)))))))))) ?_
        refine T_seq <| T_seq ?_
        refine T_r mixed [] [ps 2 (.opt 0 0), ps 7 (.osl 2 0 out.length), ps 10 (.opt 179 0), ps 21 (.osl 1 0 ((stkR k).length)), ps 22 (nv ((stkR k).length)), ps 23 (nv j), ps 45 (bv (!(rightB ((((Pi.steps p.1 p.2.2) + (2 * ((j : Nat) : Int))) + 2) % 7) (((Pi.halves p.1 p.2.1 p.2.2) + ((stkR k).getD j 0)) - white (((Pi.steps p.1 p.2.2) + (2 * ((j : Nat) : Int))) + 2)) ((((Pi.steps p.1 p.2.2) + (2 * ((j : Nat) : Int))) + 2) / 7)))), pb 0 23 [(iv p.1), (iv p.2.1), (iv p.2.2)], pb 1 3 (ints (stkR k)), pb 2 23 (pts out), pb 179 23 [(iv ((((Pi.steps p.1 p.2.2) + (2 * ((j : Nat) : Int))) + 2) % 7)), (iv (((Pi.halves p.1 p.2.1 p.2.2) + ((stkR k).getD j 0)) - white (((Pi.steps p.1 p.2.2) + (2 * ((j : Nat) : Int))) + 2))), (iv ((((Pi.steps p.1 p.2.2) + (2 * ((j : Nat) : Int))) + 2) / 7))]] (obs_nil) ?_
        by_cases h5 : (rightB ((((Pi.steps p.1 p.2.2) + (2 * ((j : Nat) : Int))) + 2) % 7) (((Pi.halves p.1 p.2.1 p.2.2) + ((stkR k).getD j 0)) - white (((Pi.steps p.1 p.2.2) + (2 * ((j : Nat) : Int))) + 2)) ((((Pi.steps p.1 p.2.2) + (2 * ((j : Nat) : Int))) + 2) / 7)) = true
        · refine T_el (congrArg Bool.not h5) ?_
          refine T_skip ?_
          refine T_r mixed [(3, .app none (some (pts (out ++ [((((Pi.steps p.1 p.2.2) + (2 * ((j : Nat) : Int))) + 2) % 7, ((Pi.halves p.1 p.2.1 p.2.2) + ((stkR k).getD j 0)) - white (((Pi.steps p.1 p.2.2) + (2 * ((j : Nat) : Int))) + 2), (((Pi.steps p.1 p.2.2) + (2 * ((j : Nat) : Int))) + 2) / 7)]))))] [ps 2 (.opt 0 0), ps 7 (.osl 243 0 (out.length + 1)), ps 21 (.osl 1 0 ((stkR k).length)), ps 22 (nv ((stkR k).length)), ps 23 (nv j), pb 0 23 [(iv p.1), (iv p.2.1), (iv p.2.2)], pb 1 3 (ints (stkR k)), pb 243 23 (pts (out ++ [((((Pi.steps p.1 p.2.2) + (2 * ((j : Nat) : Int))) + 2) % 7, ((Pi.halves p.1 p.2.1 p.2.2) + ((stkR k).getD j 0)) - white (((Pi.steps p.1 p.2.2) + (2 * ((j : Nat) : Int))) + 2), (((Pi.steps p.1 p.2.2) + (2 * ((j : Nat) : Int))) + 2) / 7)]))] (obs_cons (pts_len _ : ((pts out)).length = out.length * 3) (obs_cons (by omega : (out.length + 1) * 24 ≤ 140737488355328 ∧ out.length + 1 ≤ 9223372036854775807) (obs_cons ((flat_app ptC out [((((Pi.steps p.1 p.2.2) + (2 * ((j : Nat) : Int))) + 2) % 7, ((Pi.halves p.1 p.2.1 p.2.2) + ((stkR k).getD j 0)) - white (((Pi.steps p.1 p.2.2) + (2 * ((j : Nat) : Int))) + 2), (((Pi.steps p.1 p.2.2) + (2 * ((j : Nat) : Int))) + 2) / 7)]).symm : (pts out) ++ [(iv ((((Pi.steps p.1 p.2.2) + (2 * ((j : Nat) : Int))) + 2) % 7)), (iv (((Pi.halves p.1 p.2.1 p.2.2) + ((stkR k).getD j 0)) - white (((Pi.steps p.1 p.2.2) + (2 * ((j : Nat) : Int))) + 2))), (iv ((((Pi.steps p.1 p.2.2) + (2 * ((j : Nat) : Int))) + 2) / 7))] = (pts (out ++ [((((Pi.steps p.1 p.2.2) + (2 * ((j : Nat) : Int))) + 2) % 7, ((Pi.halves p.1 p.2.1 p.2.2) + ((stkR k).getD j 0)) - white (((Pi.steps p.1 p.2.2) + (2 * ((j : Nat) : Int))) + 2), (((Pi.steps p.1 p.2.2) + (2 * ((j : Nat) : Int))) + 2) / 7)]))) obs_nil))) ?_
          refine T_blk ?_
          refine T_r mixed [] [ps 2 (.opt 0 0), ps 7 (.osl 243 0 (out.length + 1)), ps 21 (.osl 1 0 ((stkR k).length)), ps 22 (nv ((stkR k).length)), ps 23 (iv (((j : Nat) : Int) + 1)), pb 0 23 [(iv p.1), (iv p.2.1), (iv p.2.2)], pb 1 3 (ints (stkR k)), pb 243 23 (pts (out ++ [((((Pi.steps p.1 p.2.2) + (2 * ((j : Nat) : Int))) + 2) % 7, ((Pi.halves p.1 p.2.1 p.2.2) + ((stkR k).getD j 0)) - white (((Pi.steps p.1 p.2.2) + (2 * ((j : Nat) : Int))) + 2), (((Pi.steps p.1 p.2.2) + (2 * ((j : Nat) : Int))) + 2) / 7)]))] (obs_cons (by simp only [InK]; omega : InK .i64 (((j : Nat) : Int) + 1)) obs_nil) ?_
          obtain ⟨hmp, hme⟩ := (ref_mv (p := p) (i := ((stkI k).getD j (0, 0))) h2 (mv_within hjl) (S := Pi.steps p.1 p.2.2 + 2 * ((j : Nat) : Int) + 2) (H := Pi.halves p.1 p.2.1 p.2.2 + (stkR k).getD j 0) (by have := stk_steps hjl; omega) (by have := stkR_at h1 hj3; omega)).1 h5
          exact T_back ⟨(j + 1, out ++ [mvP p ((stkI k).getD j (0, 0))]), ⟨by show j + 1 ≤ 3; omega, by show notesGo p ((stkI k).drop (j + 1)) (out ++ [mvP p ((stkI k).getD j (0, 0))]) = notesGo p (stkI k) [p]; rw [← notesGo_at hjl hme]; exact hg, by show (out ++ [mvP p ((stkI k).getD j (0, 0))]).length ≤ j + 1 + 1; rw [List.length_append]; show out.length + 1 ≤ j + 1 + 1; omega⟩⟩ (Wk.trans (Wk.eq (show _ = [ps 2 (.opt 0 0), ps 7 (.osl 243 0 ((out ++ [mvP p ((stkI k).getD j (0, 0))]).length)), ps 21 (.osl 1 0 ((stkR k).length)), ps 22 (nv ((stkR k).length)), ps 23 (nv (j + 1)), pb 0 23 [(iv p.1), (iv p.2.1), (iv p.2.2)], pb 1 3 (ints (stkR k)), pb 243 23 (pts (out ++ [mvP p ((stkI k).getD j (0, 0))]))] from by rw [hmp, List.length_append]; rfl)) (Wk.ren3 [ps 2 (.opt 0 0), ps 7 (.osl 2 0 (out ++ [mvP p ((stkI k).getD j (0, 0))]).length), ps 21 (.osl 1 0 ((stkR k).length)), ps 22 (nv ((stkR k).length)), ps 23 (nv (j + 1)), pb 0 23 [(iv p.1), (iv p.2.1), (iv p.2.2)], pb 1 3 (ints (stkR k)), pb 2 23 (pts (out ++ [mvP p ((stkI k).getD j (0, 0))]))] 0 hc0 [0, 1, 243] [(kb 1, (ints (stkR k))), (kb 2, (pts (out ++ [mvP p ((stkI k).getD j (0, 0))])))] (obs_cons (ints_shd _) (obs_cons (pts_shd _) (obs_nil))) (by kernel_rfl) rfl rfl (by kernel_rfl) (by kernel_rfl))) (show 3 - (j + 1) < 3 - j from by show 3 - (j + 1) < 3 - j; omega)
        refine T_th (congrArg Bool.not (Bool.eq_false_iff.2 h5)) ?_
        refine T_seq ?_
        refine T_r mixed [] [ps 4 (.av (.slice none 0 0)), ps 5 (iv 3)] (obs_nil) ?_
        have hme := (ref_mv (p := p) (i := ((stkI k).getD j (0, 0))) h2 (mv_within hjl) (S := Pi.steps p.1 p.2.2 + 2 * ((j : Nat) : Int) + 2) (H := Pi.halves p.1 p.2.1 p.2.2 + (stkR k).getD j 0) (by have := stk_steps hjl; omega) (by have := stkR_at h1 hj3; omega)).2 h5
        have hres := notes_bad h1 h2 hg hjl hme (by decide)
        rw [show (notesS p k).2 = 3 from by rw [hres]]
        exact T_ret fun cx_ a_ hI_ => loop_ret (rt hc0 [ps 4 (.av (.slice none 0 0)), ps 5 (iv 3)] [] hI_)
      refine T_el (decide_eq_false h4) ?_
      refine T_skip <| T_blk ?_
      refine T_r mixed [] [ps 2 (.opt 0 0), ps 7 (.osl 2 0 out.length), ps 21 (.osl 1 0 ((stkR k).length)), ps 22 (nv ((stkR k).length)), ps 23 (iv (((j : Nat) : Int) + 1)), pb 0 23 [(iv p.1), (iv p.2.1), (iv p.2.2)], pb 1 3 (ints (stkR k)), pb 2 23 (pts out)] (obs_cons (by simp only [InK]; omega : InK .i64 (((j : Nat) : Int) + 1)) obs_nil) ?_
      have hnl : (stkI k).length ≤ j := Nat.le_of_not_lt fun c => h4 ((stkR_pos h1 hj3).2 c)
      exact T_back ⟨(j + 1, out), ⟨by show j + 1 ≤ 3; omega, by show notesGo p ((stkI k).drop (j + 1)) out = notesGo p (stkI k) [p]; rw [notesGo_skip hnl]; exact hg, by show out.length ≤ j + 1 + 1; omega⟩⟩ (Wk.trans (Wk.eq (show _ = [ps 2 (.opt 0 0), ps 7 (.osl 2 0 out.length), ps 21 (.osl 1 0 ((stkR k).length)), ps 22 (nv ((stkR k).length)), ps 23 (nv (j + 1)), pb 0 23 [(iv p.1), (iv p.2.1), (iv p.2.2)], pb 1 3 (ints (stkR k)), pb 2 23 (pts out)] from by rfl)) (Wk.ren3 [ps 2 (.opt 0 0), ps 7 (.osl 2 0 out.length), ps 21 (.osl 1 0 ((stkR k).length)), ps 22 (nv ((stkR k).length)), ps 23 (nv (j + 1)), pb 0 23 [(iv p.1), (iv p.2.1), (iv p.2.2)], pb 1 3 (ints (stkR k)), pb 2 23 (pts out)] 0 hc0 [0, 1, 2] [(kb 1, (ints (stkR k))), (kb 2, (pts out))] (obs_cons (ints_shd _) (obs_cons (pts_shd _) (obs_nil))) (by kernel_rfl) rfl rfl (by kernel_rfl) (by kernel_rfl))) (show 3 - (j + 1) < 3 - j from by show 3 - (j + 1) < 3 - j; omega)
    refine T_el (decide_eq_false h3) ?_
    refine T_break rfl rfl ?_
    refine T_seq ?_
    refine T_r mixed [] [ps 4 (.osl 2 0 out.length), ps 5 (iv 0), pb 2 23 (pts out)] (obs_nil) ?_
    have hres := notes_done h1 h2 hg (by omega)
    exact absurd (by rw [hres]) h0
  refine T_th (congrArg Bool.not (Bool.eq_false_iff.2 h2)) ?_
  refine T_seq ?_
  refine T_r mixed [] [ps 4 (.av (.slice none 0 0)), ps 5 (iv 2)] (obs_nil) ?_
  have hres := notesS_form (p := p) h1 h2
  rw [show (notesS p k).2 = 2 from by rw [hres]]
  exact T_ret fun cx_ a_ hI_ => rt hc0 [ps 4 (.av (.slice none 0 0)), ps 5 (iv 2)] [] hI_
end Go.Proofs.YtbgnegmjbnlemaaGreatDoor.Pm
namespace Go.Proofs.YtbgnegmjbnlemaaGreatDoor.Pm
open Go

def I64 (n : Int) : Prop := -9223372036854775808 ≤ n ∧ n ≤ 9223372036854775807
def rightQ (l a o : Int) : Bool := decide (0 ≤ l ∧ l < 7 ∧ -3 ≤ a ∧ a ≤ 3 ∧ -12 ≤ o ∧ o ≤ 12)
theorem rightQ_iff {l a o : Int} : rightQ l a o = true ↔ 0 ≤ l ∧ l < 7 ∧ -3 ≤ a ∧ a ≤ 3 ∧ -12 ≤ o ∧ o ≤ 12 := by simp [rightQ]
theorem rightQ_no {l a o : Int} (h : ¬ (0 ≤ l ∧ l < 7 ∧ -3 ≤ a ∧ a ≤ 3 ∧ -12 ≤ o ∧ o ≤ 12)) : rightQ l a o = false := by simp only [rightQ, decide_eq_false h]
def lineL : List Int := [0, 2, 4, -1, 1, 3, 5]
/-- Where a class stands on the line of fifths; the class at a place. -/
def fifthS (l a : Int) : Int := lineL.getD l.toNat 0 + 7 * a
def atL (n : Int) : Int := ((4 * n).tmod 7 + 7).tmod 7
def atA (n : Int) : Int := (n - fifthS (atL n) 0).tdiv 7
def signsS (l a m : Int) : Int × Int := if m < 0 ∨ 6 < m then (0, 1) else if rightQ l a 0 = false then (0, 2) else if fifthS l a - lineL.getD m.toNat 0 < -7 ∨ 7 < fifthS l a - lineL.getD m.toNat 0 then (0, 3) else (fifthS l a - lineL.getD m.toNat 0, 0)
theorem line_bd (k : Nat) : -1 ≤ lineL.getD k 0 ∧ lineL.getD k 0 ≤ 5 := by
  match k with
  | 0 => decide
  | 1 => decide
  | 2 => decide
  | 3 => decide
  | 4 => decide
  | 5 => decide
  | 6 => decide
  | k + 7 => rw [List.getD_eq_getElem?_getD, List.getElem?_eq_none (by simp [lineL])]; decide
theorem tmod_bd (n : Int) : -7 < n.tmod 7 ∧ n.tmod 7 < 7 := ⟨Int.lt_tmod_of_pos n (by decide), Int.tmod_lt_of_pos n (by decide)⟩
theorem tdiv_eq (n : Int) : 7 * n.tdiv 7 + n.tmod 7 = n := Int.mul_tdiv_add_tmod n 7
theorem atL_bd (n : Int) : 0 ≤ atL n ∧ atL n ≤ 6 := by
  unfold atL
  have h1 := tmod_bd (4 * n)
  have h2 := tmod_bd ((4 * n).tmod 7 + 7)
  have h3 := Int.tmod_nonneg (a := (4 * n).tmod 7 + 7) 7 (by omega)
  omega
theorem fifth_bd (l a : Int) (h : -1000000 ≤ a ∧ a ≤ 1000000) : -7000001 ≤ fifthS l a ∧ fifthS l a ≤ 7000005 := by
  have := line_bd l.toNat
  unfold fifthS
  omega
end Go.Proofs.YtbgnegmjbnlemaaGreatDoor.Pm
namespace Go.Proofs.YtbgnegmjbnlemaaGreatDoor.Pm
open Go Go.Proofs.YtbgnegmjbnlemaaGreatDoor.Pi

theorem fifthS_eq {l a : Int} (h0 : 0 ≤ l) (h1 : l ≤ 6) : fifthS l a = fifC (l, a) := by
  have hc : l = 0 ∨ l = 1 ∨ l = 2 ∨ l = 3 ∨ l = 4 ∨ l = 5 ∨ l = 6 := by omega
  unfold fifthS fifC
  rcases hc with rfl | rfl | rfl | rfl | rfl | rfl | rfl <;> rfl
theorem atL_eq (n : Int) : atL n = 4 * n % 7 := by
  unfold atL
  have h0 := tdiv_eq (4 * n)
  have h1 := tmod_bd (4 * n)
  have h2 := tdiv_eq ((4 * n).tmod 7 + 7)
  have h3 := tmod_bd ((4 * n).tmod 7 + 7)
  have h4 := Int.tmod_nonneg (a := (4 * n).tmod 7 + 7) 7 (by omega)
  omega
theorem lineF_mod (n : Int) : (n - lineF (4 * n % 7)) % 7 = 0 := by
  have hc : n % 7 = 0 ∨ n % 7 = 1 ∨ n % 7 = 2 ∨ n % 7 = 3 ∨ n % 7 = 4 ∨ n % 7 = 5 ∨ n % 7 = 6 := by omega
  rcases hc with h | h | h | h | h | h | h
  · rw [show 4 * n % 7 = 0 from by omega, show lineF 0 = 0 from rfl]; omega
  · rw [show 4 * n % 7 = 4 from by omega, show lineF 4 = 1 from rfl]; omega
  · rw [show 4 * n % 7 = 1 from by omega, show lineF 1 = 2 from rfl]; omega
  · rw [show 4 * n % 7 = 5 from by omega, show lineF 5 = 3 from rfl]; omega
  · rw [show 4 * n % 7 = 2 from by omega, show lineF 2 = 4 from rfl]; omega
  · rw [show 4 * n % 7 = 6 from by omega, show lineF 6 = 5 from rfl]; omega
  · rw [show 4 * n % 7 = 3 from by omega, show lineF 3 = -1 from rfl]; omega
theorem atA_eq (n : Int) : atA n = (n - lineF (4 * n % 7)) / 7 := by
  unfold atA
  have hl := atL_eq n
  rw [hl, fifthS_eq (by omega) (by omega)]
  have e : fifC (4 * n % 7, 0) = lineF (4 * n % 7) := by unfold fifC; show lineF (4 * n % 7) + 7 * 0 = _; omega
  rw [e]
  have h0 := lineF_mod n
  have h1 := tdiv_eq (n - lineF (4 * n % 7))
  have h2 := tmod_bd (n - lineF (4 * n % 7))
  omega
theorem at_atC (n : Int) : (atL n, atA n) = atC n := by unfold atC; rw [atL_eq, atA_eq]
theorem overC_at {r : Cl} {i : Int × Int} (h0 : 0 ≤ r.1) (h1 : r.1 ≤ 6) : overC r i = (atL (fifthS r.1 r.2 + 7 * i.2 - 12 * i.1), atA (fifthS r.1 r.2 + 7 * i.2 - 12 * i.1)) := by
  rw [at_atC, fifthS_eq h0 h1]; rfl
theorem atA_bd (n : Int) (h : -100000 ≤ n ∧ n ≤ 100000) : -100000 ≤ atA n ∧ atA n ≤ 100000 := by
  rw [atA_eq]
  have : -1 ≤ lineF (4 * n % 7) ∧ lineF (4 * n % 7) ≤ 5 := by unfold lineF; omega
  omega

/-! ### looking for a class -/
theorem idxC_bd (c : Cl) : ∀ l, -1 ≤ idxC c l ∧ idxC c l < (l.length : Int)
  | [] => ⟨by show (-1 : Int) ≤ -1; decide, by show (-1 : Int) < 0; decide⟩
  | x :: l => by
    have := idxC_bd c l
    unfold idxC
    rw [List.length_cons]
    split
    · omega
    · split <;> omega
theorem idxC_found {c : Cl} : ∀ {l : List Cl} {i : Nat}, (∀ j, j < i → l.getD j dCl ≠ c) → i < l.length → l.getD i dCl = c → idxC c l = (i : Int)
  | [], i, _, h, _ => by simp at h
  | x :: l, 0, _, _, h => by unfold idxC; exact if_pos h
  | x :: l, i + 1, hj, hi, h => by
    have h0 : ¬ x = c := hj 0 (by omega)
    have := idxC_found (l := l) (i := i) (fun j hj' => hj (j + 1) (by omega)) (by simpa using hi) h
    unfold idxC
    rw [if_neg h0, this, if_neg (by omega)]
    omega
theorem idxC_none {c : Cl} : ∀ {l : List Cl}, (∀ j, j < l.length → l.getD j dCl ≠ c) → idxC c l = -1
  | [], _ => rfl
  | x :: l, hj => by
    have h0 : ¬ x = c := hj 0 (by simp)
    have := idxC_none (l := l) (fun j hj' => hj (j + 1) (by simpa using hj'))
    unfold idxC
    rw [if_neg h0, if_pos this]
theorem idxC_mem {c : Cl} : ∀ {l : List Cl}, 0 ≤ idxC c l ↔ c ∈ l
  | [] => by show (0 : Int) ≤ -1 ↔ _; simp
  | x :: l => by
    have ih := idxC_mem (c := c) (l := l)
    have hb := idxC_bd c l
    unfold idxC
    by_cases h : x = c
    · rw [if_pos h]; simp [h]
    · rw [if_neg h, List.mem_cons]
      by_cases h1 : idxC c l = -1
      · rw [if_pos h1]
        constructor
        · intro h2; omega
        · rintro (h2 | h2)
          · exact absurd h2.symm h
          · have := ih.2 h2; omega
      · rw [if_neg h1]
        constructor
        · intro _; exact .inr (ih.1 (by omega))
        · intro _; omega
theorem cl_eq {x c : Cl} (h : (decide (c.1 = x.1) && decide (c.2 = x.2)) = true) : x = c := by
  simp only [Bool.and_eq_true, decide_eq_true_eq] at h
  exact Prod.ext h.1.symm h.2.symm
theorem cl_ne {x c : Cl} (h : ¬ (decide (c.1 = x.1) && decide (c.2 = x.2)) = true) : x ≠ c := by
  rintro rfl; exact h (by simp)

/-! ### whether a chord fits -/
def allN (r : Cl) (k : Int) (j : Nat) : List Cl := r :: ((stkI k).take j).map (overC r)
theorem allN_all (r : Cl) (k : Int) {j : Nat} (h : (stkI k).length ≤ j) : allN r k j = allS r k := by unfold allN allS; rw [List.take_of_length_le h]
theorem allN_next {r : Cl} {k : Int} {j : Nat} (h : j < (stkI k).length) : allN r k (j + 1) = allN r k j ++ [overC r ((stkI k).getD j (0, 0))] := by
  unfold allN
  rw [List.take_add_one, List.map_append, List.getElem?_eq_getElem h]
  rw [List.getD_eq_getElem?_getD, List.getElem?_eq_getElem h]; rfl
theorem allN_len {r : Cl} {k : Int} {j : Nat} (h : j ≤ (stkI k).length) : (allN r k j).length = j + 1 := by
  unfold allN
  rw [List.length_cons, List.length_map, List.length_take]
  omega
theorem allS_len (r : Cl) (k : Int) : (allS r k).length = (stkI k).length + 1 := by unfold allS; rw [List.length_cons, List.length_map]
noncomputable def fitT (r : Cl) (k : Int) (kn : List Cl) (low : Cl) : Int := if fitsB r k kn = true then idxC low (allS r k) else 0
theorem fit_no {r : Cl} {k : Int} {kn : List Cl} (low : Cl) (h : fitsB r k kn = false) : fitT r k kn low = 0 := by unfold fitT; rw [h]; rfl
theorem fit_yes {r : Cl} {k : Int} {kn : List Cl} (low : Cl) (h : fitsB r k kn = true) : fitT r k kn low = idxC low (allS r k) := by unfold fitT; rw [if_pos h]
theorem fits_len {r : Cl} {k : Int} {kn : List Cl} (h : ¬ ((stkI k).length : Int) + 1 = (kn.length : Int)) : fitsB r k kn = false := decide_eq_false fun c => by rw [allS_len] at c; omega
theorem fits_len2 {r : Cl} {k : Int} {kn : List Cl} (h : ¬ ((allS r k).length : Int) = (kn.length : Int)) : fitsB r k kn = false := decide_eq_false fun c => h (by have := c.1; omega)
theorem fits_out {r : Cl} {k : Int} {kn : List Cl} {j : Nat} (hj : j < (allS r k).length) (h : ¬ (allS r k).getD j dCl ∈ kn) : fitsB r k kn = false := decide_eq_false fun c => h (c.2 _ (by rw [List.getD_eq_getElem?_getD, List.getElem?_eq_getElem hj]; exact List.getElem_mem hj))
theorem fits_all {r : Cl} {k : Int} {kn : List Cl} (hl : (allS r k).length = kn.length) (h : ∀ j, j < (allS r k).length → (allS r k).getD j dCl ∈ kn) : fitsB r k kn = true := decide_eq_true ⟨hl, fun c hc => by
  obtain ⟨j, hj, e⟩ := mem_getD hc
  rw [← e]; exact h j hj⟩
theorem stk_kind {k : Int} (h : 1 ≤ k ∧ k ≤ 9) : ¬ stkI k = [] := by
  have hc : k = 1 ∨ k = 2 ∨ k = 3 ∨ k = 4 ∨ k = 5 ∨ k = 6 ∨ k = 7 ∨ k = 8 ∨ k = 9 := by omega
  rcases hc with rfl | rfl | rfl | rfl | rfl | rfl | rfl | rfl | rfl <;> decide

/-! ### the search -/
theorem known_ok {l : List Pt} : ∀ {i : Nat}, (∀ j, j < i → rb (l.getD j dPt) = true) → ∀ c ∈ knownN l i, 0 ≤ c.1 ∧ c.1 ≤ 6 ∧ -3 ≤ c.2 ∧ c.2 ≤ 3
  | 0, _, c, hc => by cases hc
  | i + 1, h, c, hc => by
    have hc' : c ∈ addK (knownN l i) (cl (l.getD i dPt)) := hc
    unfold addK at hc'
    split at hc'
    · exact known_ok (fun j hj => h j (by omega)) c hc'
    · rcases List.mem_append.1 hc' with h1 | h1
      · exact known_ok (fun j hj => h j (by omega)) c h1
      · rw [List.mem_singleton.1 h1]
        have := rightB_iff.1 (h i (by omega))
        exact ⟨this.1, this.2.1, this.2.2.1, this.2.2.2.1⟩
theorem firstK_yes {r : Cl} {kn : List Cl} {low : Cl} {q : Nat} (hq : q ≤ 9) (h : fitsB r (q : Int) kn = true) : firstK r kn low (10 - q) (q : Int) = some ((q : Int), idxC low (allS r (q : Int))) := by
  rw [show 10 - q = (9 - q) + 1 from by omega]
  exact if_pos h
theorem firstK_no {r : Cl} {kn : List Cl} {low : Cl} {q : Nat} (hq : q ≤ 9) (h : ¬ fitsB r (q : Int) kn = true) : firstK r kn low (10 - q) (q : Int) = firstK r kn low (10 - (q + 1)) ((q + 1 : Nat) : Int) := by
  rw [show 10 - q = (9 - q) + 1 from by omega, show 10 - (q + 1) = 9 - q from by omega]
  show (if _ then _ else _) = _
  rw [if_neg h]; rfl
theorem firstR_yes {kn : List Cl} {low : Cl} {L : List Cl} {j : Nat} (hj : j < L.length) {x : Int × Int} (h : firstK (L.getD j dCl) kn low 9 1 = some x) : firstR kn low (L.drop j) = some (L.getD j dCl, x) := by
  rw [List.drop_eq_getElem_cons hj]
  rw [List.getD_eq_getElem?_getD, List.getElem?_eq_getElem hj] at h ⊢
  show (match firstK L[j] kn low 9 1 with | some x => some (L[j], x) | none => _) = _
  rw [show firstK L[j] kn low 9 1 = some x from h]; rfl
theorem firstR_no {kn : List Cl} {low : Cl} {L : List Cl} {j : Nat} (hj : j < L.length) (h : firstK (L.getD j dCl) kn low 9 1 = none) : firstR kn low (L.drop j) = firstR kn low (L.drop (j + 1)) := by
  rw [List.drop_eq_getElem_cons hj]
  rw [List.getD_eq_getElem?_getD, List.getElem?_eq_getElem hj] at h
  show (match firstK L[j] kn low 9 1 with | some x => some (L[j], x) | none => _) = _
  rw [show firstK L[j] kn low 9 1 = none from h]
theorem what_form {l : List Pt} {j : Nat} (hj : j < l.length) (h : ¬ rb (l.getD j dPt) = true) : whatS l = (((0, 0), 0, 0), 2) := by unfold whatS; rw [if_neg fun c => h (c j hj)]
section
variable {l : List Pt} (ha : allR l) {kn : List Cl} (hk : kn = knownN l l.length) {lw : Cl} (hl : lw = cl (l.getD (lowI l l.length).toNat dPt))
include ha hk hl
theorem what_yes {x : Cl × Int × Int} (h : firstR kn lw kn = some x) : whatS l = (x, 0) := by unfold whatS; rw [if_pos ha, ← hk, ← hl, h]
theorem what_none (h : firstR kn lw kn = none) : whatS l = (((0, 0), 0, 0), 6) := by unfold whatS; rw [if_pos ha, ← hk, ← hl, h]
theorem what_found {j : Nat} (hj : j < kn.length) (hr : firstR kn lw (kn.drop j) = firstR kn lw kn) {q : Nat} (hq : q ≤ 9) (hK : firstK (kn.getD j dCl) kn lw (10 - q) (q : Int) = firstK (kn.getD j dCl) kn lw 9 1) (hf : fitsB (kn.getD j dCl) (q : Int) kn = true) :
    whatS l = ((kn.getD j dCl, (q : Int), idxC lw (allS (kn.getD j dCl) (q : Int))), 0) := by
  rw [firstK_yes hq hf] at hK
  exact what_yes ha hk hl (by rw [← hr, firstR_yes hj hK.symm])
end
theorem first_on {kn : List Cl} {lw : Cl} {j : Nat} (hj : j < kn.length) (hr : firstR kn lw (kn.drop j) = firstR kn lw kn) {q : Nat} (hq : q = 10) (hK : firstK (kn.getD j dCl) kn lw (10 - q) (q : Int) = firstK (kn.getD j dCl) kn lw 9 1) : firstR kn lw (kn.drop (j + 1)) = firstR kn lw kn := by
  subst hq
  rw [← hr, firstR_no hj hK.symm]
theorem low_next {l : List Pt} {i : Nat} : lowI l (i + 1) = if lowI l i < 0 ∨ belowB (l.getD i dPt) (l.getD (lowI l i).toNat dPt) = true then (i : Int) else lowI l i := rfl
theorem known_next {l : List Pt} {i : Nat} : knownN l (i + 1) = addK (knownN l i) (cl (l.getD i dPt)) := rfl
end Go.Proofs.YtbgnegmjbnlemaaGreatDoor.Pm
namespace Go.Proofs.YtbgnegmjbnlemaaGreatDoor.Pm
open Go Go.Proofs.YtbgnegmjbnlemaaGreatDoor.Pi

set_option maxRecDepth 100000 in
set_option maxHeartbeats 4000000 in
theorem fifth_pc (l a : Int) (hl : 0 ≤ l ∧ l < 7) (ha : -1000000 ≤ a ∧ a ≤ 1000000) : PC Tryz.prog 61 [(.agg [(iv l), (iv a)])] [] (iv (fifthS l a)) [] := by
  refine pc_intro Tryz.func61 rfl (by kernel_rfl) (Nat.le_of_ble_eq_true rfl) (by kernel_rfl) (l0 := [ps 0 (.agg [(iv l), (iv a)])]) rfl (fun c0 Bor hc0 => ?_)
  refine T_seq ?_
  refine T_r mixed [] [ps 1 (.opt 0 0), pb 0 30 [(iv l), (iv a)]] (obs_nil) ?_
  refine T_seq ?_
  refine T_r mixed [] [ps 1 (.opt 0 0), ps 3 (.opt 24 0), pb 0 30 [(iv l), (iv a)], pb 24 109 [(iv 0), (iv 2), (iv 4), (iv (-1)), (iv 1), (iv 3), (iv 5)]] (obs_nil) ?_
  refine T_seq ?_
  refine T_wk (Wk.eq (show _ = [ps 1 (.opt 0 0), ps 3 (.opt 24 0), pb 0 30 [(iv l), (iv a)], pb 24 109 (ints lineL)] from by rfl)) ?_
  refine T_rd mixed [(2, .nat l.toNat), (3, .val (iv (lineL.getD l.toNat 0)))] [[], [0], [0, 1], [0, 1, 2], [], [4], [4, 5], [0, 1, 2, 3, 4, 5, 6], [0, 1, 2, 3, 4, 5, 6, 7]] [([10], [2]), ([12], [1, 10]), ([14], [6, 12]), ([16], [14, 49]), ([18], [2]), ([20], [1, 18]), ([22], [20]), ([24], [16, 22]), ([4], [24])] [ps 2 (iv ((lineL.getD l.toNat 0) + (7 * a)))] (obs_cons (by omega : (0 : Int) ≤ l ∧ l < ((7 : Nat) : Int)) (obs_cons (by omega : 0 + (l : Int).toNat * 1 = l.toNat) (obs_cons (ints_at (by show l.toNat < 7; omega) : l.toNat + 1 ≤ ((ints lineL)).length ∧ (((ints lineL)).drop l.toNat).take 1 = [(iv (lineL.getD l.toNat 0))]) (obs_cons (by have := line_bd l.toNat; simp only [InK]; omega : InK .i64 (7 * a)) (obs_cons (by have := line_bd l.toNat; simp only [InK]; omega : InK .i64 ((lineL.getD l.toNat 0) + (7 * a))) obs_nil))))) ?_
  exact T_ret fun cx_ a_ hI_ => rt hc0 [ps 2 (iv ((lineL.getD l.toNat 0) + (7 * a)))] [] hI_
set_option maxRecDepth 100000 in
set_option maxHeartbeats 4000000 in
theorem at_pc0 (n : Int) (hn : -1000000 ≤ n ∧ n ≤ 1000000) : PC Tryz.prog 46 [(iv n)] [] (.agg [(iv (atL n)), (iv (atA n))]) [none] := by
  refine pc_intro Tryz.func46 rfl (by kernel_rfl) (Nat.le_of_ble_eq_true rfl) (by kernel_rfl) (l0 := [ps 0 (iv n)]) rfl (fun c0 Bor hc0 => ?_)
  refine T_seq ?_
  refine T_r mixed [] [ps 0 (iv n), ps 2 (.opt 0 0), pb 0 30 [(iv 0), (iv 0)]] (obs_nil) ?_
  refine T_seq ?_
  refine T_r mixed [] [ps 0 (iv n), ps 2 (.opt 0 0), ps 3 (iv ((((((4 * n)).tmod 7) + 7)).tmod 7)), pb 0 30 [(iv 0), (iv 0)]] (obs_cons (by have h1 := fifth_bd (atL n) 0 (by omega); have h2 := atL_bd n; have h3 := tmod_bd (4 * n); have h4 := tdiv_eq (n - fifthS (atL n) 0); have h5 := tmod_bd (n - fifthS (atL n) 0); unfold atL at h1 h2 h4 h5; simp only [InK]; omega : InK .i64 (4 * n)) (obs_cons (by decide : 7 ≠ (0 : Int)) (obs_cons (by have h1 := fifth_bd (atL n) 0 (by omega); have h2 := atL_bd n; have h3 := tmod_bd (4 * n); have h4 := tdiv_eq (n - fifthS (atL n) 0); have h5 := tmod_bd (n - fifthS (atL n) 0); unfold atL at h1 h2 h4 h5; simp only [InK]; omega : InK .i64 ((((4 * n)).tmod 7) + 7)) (obs_cons (by decide : 7 ≠ (0 : Int)) obs_nil)))) ?_
  refine T_seq ?_
  refine T_r mixed [] [ps 0 (iv n), ps 2 (.opt 0 0), ps 4 (.opt 72 0), pb 0 30 [(iv 0), (iv 0)], pb 72 30 [(iv ((((((4 * n)).tmod 7) + 7)).tmod 7)), (iv 0)]] (obs_nil) ?_
  refine T_seq ?_
  refine T_r mixed [(2, .call [] [(.agg [(iv ((((((4 * n)).tmod 7) + 7)).tmod 7)), (iv 0)])] [] (iv (fifthS ((((((4 * n)).tmod 7) + 7)).tmod 7) 0)) [])] [ps 2 (.opt 0 0), ps 4 (.opt 72 0), pb 0 30 [(iv 0), (iv 0)], pb 72 30 [(iv ((((((4 * n)).tmod 7) + 7)).tmod 7)), (iv (((n - (fifthS ((((((4 * n)).tmod 7) + 7)).tmod 7) 0))).tdiv 7))]] (obs_cons (fifth_pc ((((((4 * n)).tmod 7) + 7)).tmod 7) 0 (by first | omega | (have := atL_bd n; unfold atL at this; omega)) (by omega)) (obs_cons (rfl : Ren0 104 [(.agg [(iv ((((((4 * n)).tmod 7) + 7)).tmod 7)), (iv 0)])]) (obs_cons (by have h1 := fifth_bd (atL n) 0 (by omega); have h2 := atL_bd n; have h3 := tmod_bd (4 * n); have h4 := tdiv_eq (n - fifthS (atL n) 0); have h5 := tmod_bd (n - fifthS (atL n) 0); unfold atL at h1 h2 h4 h5; simp only [InK]; omega : InK .i64 (n - (fifthS ((((((4 * n)).tmod 7) + 7)).tmod 7) 0))) (obs_cons (by decide : 7 ≠ (0 : Int)) (obs_cons (by have h1 := fifth_bd (atL n) 0 (by omega); have h2 := atL_bd n; have h3 := tmod_bd (4 * n); have h4 := tdiv_eq (n - fifthS (atL n) 0); have h5 := tmod_bd (n - fifthS (atL n) 0); unfold atL at h1 h2 h4 h5; simp only [InK]; omega : InK .i64 (((n - (fifthS ((((((4 * n)).tmod 7) + 7)).tmod 7) 0))).tdiv 7)) obs_nil))))) ?_
  refine T_seq ?_
  refine T_r mixed [] [ps 2 (.opt 0 0), pb 0 30 [(iv ((((((4 * n)).tmod 7) + 7)).tmod 7)), (iv (((n - (fifthS ((((((4 * n)).tmod 7) + 7)).tmod 7) 0))).tdiv 7))]] (obs_nil) ?_
  exact T_ret fun cx_ a_ hI_ => rt hc0 [ps 2 (.opt 0 0), pb 0 30 [(iv ((((((4 * n)).tmod 7) + 7)).tmod 7)), (iv (((n - (fifthS ((((((4 * n)).tmod 7) + 7)).tmod 7) 0))).tdiv 7))]] [0] hI_
theorem at_pc (n : Int) (hn : -1000000 ≤ n ∧ n ≤ 1000000) : PC Tryz.prog 46 [iv n] [] (.agg [iv (atL n), iv (atA n)]) [] := pc_trim [none] rfl (fun i => by cases i <;> rfl) (at_pc0 n hn)
set_option maxRecDepth 100000 in
set_option maxHeartbeats 4000000 in
theorem over_pc0 (r : Cl) (i : Int × Int) (h0 : 0 ≤ r.1) (h1 : r.1 ≤ 6) (h2 : -1000 ≤ r.2 ∧ r.2 ≤ 1000) (h3 : -1000 ≤ i.1 ∧ i.1 ≤ 1000) (h4 : -1000 ≤ i.2 ∧ i.2 ≤ 1000) : PC Tryz.prog 44 [(.agg [(iv r.1), (iv r.2)]), (.agg [(iv i.1), (iv i.2)])] [] (.agg [(iv ((overC r i).1)), (iv ((overC r i).2))]) [none] := by
  refine pc_intro Tryz.func44 rfl (by kernel_rfl) (Nat.le_of_ble_eq_true rfl) (by kernel_rfl) (l0 := [ps 0 (.agg [(iv r.1), (iv r.2)]), ps 1 (.agg [(iv i.1), (iv i.2)])]) rfl (fun c0 Bor hc0 => ?_)
  refine T_seq ?_
  refine T_r mixed [] [ps 2 (.opt 0 0), ps 3 (.opt 8 0), ps 4 (.opt 16 0), pb 0 30 [(iv r.1), (iv r.2)], pb 8 37 [(iv i.1), (iv i.2)], pb 16 30 [(iv 0), (iv 0)]] (obs_nil) ?_
  refine T_seq ?_
  have hfb := line_bd r.1.toNat
  have hfd : fifthS r.1 r.2 = lineL.getD r.1.toNat 0 + 7 * r.2 := rfl
  refine T_rd mixed [(1, .call [] [(.agg [(iv r.1), (iv r.2)])] [] (iv (fifthS r.1 r.2)) []), (10, .call [] [(iv (((fifthS r.1 r.2) + (7 * i.2)) - (12 * i.1)))] [] (.agg [(iv (atL (((fifthS r.1 r.2) + (7 * i.2)) - (12 * i.1)))), (iv (atA (((fifthS r.1 r.2) + (7 * i.2)) - (12 * i.1))))]) [])] [[], [0], [], [2], [2, 3], [0, 1, 2, 3, 4], [], [6], [6, 7], [0, 1, 2, 3, 4, 5, 6, 7, 8], [0, 1, 2, 3, 4, 5, 6, 7, 8, 9], [0, 1, 2, 3, 4, 5, 6, 7, 8, 9, 10]] [([10], [1, 4]), ([12], [10]), ([14], [6]), ([16], [14, 17]), ([18], [16]), ([20], [12, 18]), ([22], [6]), ([24], [17, 22]), ([26], [24]), ([28], [20, 26]), ([30], [28]), ([33], [8, 30, 33])] [ps 4 (.opt 16 0), pb 16 30 [(iv (atL (((fifthS r.1 r.2) + (7 * i.2)) - (12 * i.1)))), (iv (atA (((fifthS r.1 r.2) + (7 * i.2)) - (12 * i.1))))]] (obs_cons (fifth_pc r.1 r.2 (by first | omega | (have := atL_bd n; unfold atL at this; omega)) (by omega)) (obs_cons (rfl : Ren0 32 [(.agg [(iv r.1), (iv r.2)])]) (obs_cons (by simp only [InK]; omega : InK .i64 (7 * i.2)) (obs_cons (by simp only [InK]; omega : InK .i64 ((fifthS r.1 r.2) + (7 * i.2))) (obs_cons (by simp only [InK]; omega : InK .i64 (12 * i.1)) (obs_cons (by simp only [InK]; omega : InK .i64 (((fifthS r.1 r.2) + (7 * i.2)) - (12 * i.1))) (obs_cons (at_pc (((fifthS r.1 r.2) + (7 * i.2)) - (12 * i.1)) (by omega)) (obs_cons (rfl : Ren0 104 [(iv (((fifthS r.1 r.2) + (7 * i.2)) - (12 * i.1)))]) obs_nil)))))))) ?_
  rw [overC_at (r := r) (i := i) h0 h1]
  exact T_ret fun cx_ a_ hI_ => rt hc0 [ps 4 (.opt 0 0), pb 0 30 [(iv (atL (((fifthS r.1 r.2) + (7 * i.2)) - (12 * i.1)))), (iv (atA (((fifthS r.1 r.2) + (7 * i.2)) - (12 * i.1))))]] [16] hI_
theorem over_pc (r : Cl) (i : Int × Int) (h0 : 0 ≤ r.1) (h1 : r.1 ≤ 6) (h2 : -1000 ≤ r.2 ∧ r.2 ≤ 1000) (h3 : -1000 ≤ i.1 ∧ i.1 ≤ 1000) (h4 : -1000 ≤ i.2 ∧ i.2 ≤ 1000) : PC Tryz.prog 44 [(.agg [(iv r.1), (iv r.2)]), (.agg [(iv i.1), (iv i.2)])] [] (.agg [(iv ((overC r i).1)), (iv ((overC r i).2))]) [] := pc_trim [none] rfl (fun i => by cases i <;> rfl) (over_pc0 r i h0 h1 h2 h3 h4)
set_option maxRecDepth 100000 in
set_option maxHeartbeats 4000000 in
theorem class_pc0 (p : Pt) : PC Tryz.prog 23 [(.agg [(iv p.1), (iv p.2.1), (iv p.2.2)])] [] (.agg [(iv p.1), (iv p.2.1)]) [none] := by
  refine pc_intro Tryz.func23 rfl (by kernel_rfl) (Nat.le_of_ble_eq_true rfl) (by kernel_rfl) (l0 := [ps 0 (.agg [(iv p.1), (iv p.2.1), (iv p.2.2)])]) rfl (fun c0 Bor hc0 => ?_)
  refine T_seq ?_
  refine T_r mixed [] [ps 1 (.opt 0 0), ps 2 (.opt 8 0), pb 0 23 [(iv p.1), (iv p.2.1), (iv p.2.2)], pb 8 30 [(iv 0), (iv 0)]] (obs_nil) ?_
  refine T_seq ?_
  refine T_r mixed [] [ps 2 (.opt 8 0), pb 8 30 [(iv p.1), (iv p.2.1)]] (obs_nil) ?_
  exact T_ret fun cx_ a_ hI_ => rt hc0 [ps 2 (.opt 0 0), pb 0 30 [(iv p.1), (iv p.2.1)]] [8] hI_
theorem class_pc (p : Pt) : PC Tryz.prog 23 [(.agg [(iv p.1), (iv p.2.1), (iv p.2.2)])] [] (.agg [(iv p.1), (iv p.2.1)]) [] := pc_trim [none] rfl (fun i => by cases i <;> rfl) (class_pc0 p)
set_option maxRecDepth 100000 in
set_option maxHeartbeats 4000000 in
theorem below_pc (p q : Pt) (hp : rb p = true) (hq : rb q = true) : PC Tryz.prog 24 [(.agg [(iv p.1), (iv p.2.1), (iv p.2.2)]), (.agg [(iv q.1), (iv q.2.1), (iv q.2.2)])] [] (bv (belowB p q)) [] := by
  have hb1 := Pi.bounds hp
  have hb2 := Pi.bounds hq
  refine pc_intro Tryz.func24 rfl (by kernel_rfl) (Nat.le_of_ble_eq_true rfl) (by kernel_rfl) (l0 := [ps 0 (.agg [(iv p.1), (iv p.2.1), (iv p.2.2)]), ps 1 (.agg [(iv q.1), (iv q.2.1), (iv q.2.2)])]) rfl (fun c0 Bor hc0 => ?_)
  refine T_seq ?_
  refine T_r mixed [] [ps 2 (.opt 0 0), ps 3 (.opt 8 0), pb 0 23 [(iv p.1), (iv p.2.1), (iv p.2.2)], pb 8 23 [(iv q.1), (iv q.2.1), (iv q.2.2)]] (obs_nil) ?_
  refine T_seq ?_
  refine T_r mixed [(2, .call [] [(.agg [(iv q.1), (iv q.2.1), (iv q.2.2)]), (.agg [(iv p.1), (iv p.2.1), (iv p.2.2)])] [] (.tup [(.agg [(iv (Pi.steps p.1 p.2.2 - Pi.steps q.1 q.2.2)), (iv (Pi.halves p.1 p.2.1 p.2.2 - Pi.halves q.1 q.2.1 q.2.2))]), (iv 0)]) [])] [ps 5 (.opt 72 0), pb 72 37 [(iv (Pi.steps p.1 p.2.2 - Pi.steps q.1 q.2.2)), (iv (Pi.halves p.1 p.2.1 p.2.2 - Pi.halves q.1 q.2.1 q.2.2))]] (obs_cons (by have e := between_pc q.1 q.2.1 q.2.2 p.1 p.2.1 p.2.2; rw [between_of hq hp] at e; exact e : PC Tryz.prog 14 [(.agg [(iv q.1), (iv q.2.1), (iv q.2.2)]), (.agg [(iv p.1), (iv p.2.1), (iv p.2.2)])] [] (.tup [(.agg [(iv (Pi.steps p.1 p.2.2 - Pi.steps q.1 q.2.2)), (iv (Pi.halves p.1 p.2.1 p.2.2 - Pi.halves q.1 q.2.1 q.2.2))]), (iv 0)]) []) (obs_cons (rfl : Ren0 40 [(.agg [(iv q.1), (iv q.2.1), (iv q.2.2)]), (.agg [(iv p.1), (iv p.2.1), (iv p.2.2)])]) obs_nil)) ?_
  refine T_seq ?_
  by_cases h1 : (Pi.steps p.1 p.2.2 - Pi.steps q.1 q.2.2) < 0
  · refine T_r mixed [(4, .gd true .no), (5, .gd true .no), (6, .gd true .no), (7, .gd true .no), (11, .gd true .no), (12, .yes true)] [ps 4 (bv true)] (obs_cons (decide_eq_true h1) (obs_cons (decide_eq_true h1) (obs_cons (decide_eq_true h1) (obs_cons (decide_eq_true h1) (obs_cons (decide_eq_true h1) (obs_cons (decide_eq_true h1) obs_nil)))))) ?_
    rw [show belowB p q = true from decide_eq_true (by omega)]
    exact T_ret fun cx_ a_ hI_ => rt hc0 [ps 4 (bv true)] [] hI_
  by_cases h2 : (Pi.steps p.1 p.2.2 - Pi.steps q.1 q.2.2) = 0
  · refine T_r mixed [(4, .gd false (.no)), (5, .gd false (.no)), (6, .gd false (.no)), (7, .gd false (.no)), (8, .gd true (.no)), (9, .gd true (.no)), (10, .gd true (.no)), (11, .gd false (.yes true)), (12, .yes false)] [ps 4 (bv (decide ((Pi.halves p.1 p.2.1 p.2.2 - Pi.halves q.1 q.2.1 q.2.2) < 0)))] (obs_cons (decide_eq_false h1) (obs_cons (decide_eq_false h1) (obs_cons (decide_eq_false h1) (obs_cons (decide_eq_false h1) (obs_cons (decide_eq_true h2) (obs_cons (decide_eq_true h2) (obs_cons (decide_eq_true h2) (obs_cons (decide_eq_false h1) (obs_cons (decide_eq_true h2) (obs_cons (decide_eq_false h1) obs_nil)))))))))) ?_
    refine T_wk (Wk.eq (show _ = [ps 4 (bv (belowB p q))] from by rw [show decide ((Pi.halves p.1 p.2.1 p.2.2 - Pi.halves q.1 q.2.1 q.2.2) < 0) = belowB p q from decide_eq_decide.2 (by omega)])) ?_
    exact T_ret fun cx_ a_ hI_ => rt hc0 [ps 4 (bv (belowB p q))] [] hI_
  refine T_r mixed [(4, .gd false (.no)), (5, .gd false (.no)), (6, .gd false (.no)), (7, .gd false (.no)), (8, .gd false .no), (9, .gd false .no), (10, .gd false .no), (11, .gd false (.yes false)), (12, .yes false)] [ps 4 (bv false)] (obs_cons (decide_eq_false h1) (obs_cons (decide_eq_false h1) (obs_cons (decide_eq_false h1) (obs_cons (decide_eq_false h1) (obs_cons (decide_eq_false h2) (obs_cons (decide_eq_false h2) (obs_cons (decide_eq_false h2) (obs_cons (decide_eq_false h1) (obs_cons (decide_eq_false h2) (obs_cons (decide_eq_false h1) obs_nil)))))))))) ?_
  rw [show belowB p q = false from decide_eq_false (by omega)]
  exact T_ret fun cx_ a_ hI_ => rt hc0 [ps 4 (bv false)] [] hI_
set_option maxRecDepth 100000 in
set_option maxHeartbeats 4000000 in
theorem index_pc (l : List Cl) (c : Cl) (hl : l.length ≤ 140737488355328) : PC Tryz.prog 43 [(.osl 0 0 l.length), (.agg [(iv c.1), (iv c.2)])] [some (30, (clss l))] (iv (idxC c l)) [some (30, (clss l))] := by
  refine pc_intro Tryz.func43 rfl (by kernel_rfl) (Nat.le_of_ble_eq_true rfl) (by kernel_rfl) (l0 := [ps 0 (.osl 0 0 l.length), ps 1 (.agg [(iv c.1), (iv c.2)]), pb 0 30 (clss l)]) rfl (fun c0 Bor hc0 => ?_)
  refine T_seq ?_
  refine T_r mixed [] [ps 0 (.osl 0 0 l.length), ps 3 (.opt 1 0), pb 0 30 (clss l), pb 1 30 [(iv c.1), (iv c.2)]] (obs_nil) ?_
  refine T_seq <| T_seq ?_
  refine T_r mixed [] [ps 0 (.osl 0 0 l.length), ps 3 (.opt 1 0), ps 7 (nv l.length), ps 8 (iv 0), pb 0 30 (clss l), pb 1 30 [(iv c.1), (iv c.2)]] (obs_nil) ?_
  refine T_block ?_
  refine T_loop (α := {x : Nat // x ≤ l.length ∧ (∀ j, j < x → l.getD j dCl ≠ c)}) (fun x => [ps 0 (.osl 0 0 l.length), ps 3 (.opt 1 0), ps 7 (nv l.length), ps 8 (nv x.1), pb 0 30 (clss l), pb 1 30 [(iv c.1), (iv c.2)]]) (fun x => l.length - x.1) 2 ⟨0, ⟨Nat.zero_le _, fun j hj => absurd hj (Nat.not_lt_zero j)⟩⟩ (Wk.ren3 [ps 0 (.osl 0 0 l.length), ps 3 (.opt 1 0), ps 7 (nv l.length), ps 8 (nv 0), pb 0 30 (clss l), pb 1 30 [(iv c.1), (iv c.2)]] 1 hc0 [0, 1] [(kb 0, (clss l))] (obs_cons (clss_shd _) (obs_nil)) (by kernel_rfl) rfl rfl (by kernel_rfl) (by kernel_rfl)) ?_
  rintro ⟨i, ⟨hi, hj⟩⟩
  refine T_seq ?_
  refine T_r mixed [] [ps 0 (.osl 0 0 l.length), ps 3 (.opt 1 0), ps 7 (nv l.length), ps 8 (nv i), ps 9 (bv (decide (((i : Nat) : Int) < ((l.length : Nat) : Int)))), pb 0 30 (clss l), pb 1 30 [(iv c.1), (iv c.2)]] (obs_nil) ?_
  refine T_seq ?_
  by_cases h1 : ((i : Nat) : Int) < ((l.length : Nat) : Int)
  · refine T_th (decide_eq_true h1) ?_
    refine T_skip <| T_seq <| T_block <| T_seq ?_
    refine T_r mixed [] [ps 0 (.osl 0 0 l.length), ps 3 (.opt 1 0), ps 5 (nv i), ps 7 (nv l.length), ps 8 (nv i), pb 0 30 (clss l), pb 1 30 [(iv c.1), (iv c.2)]] (obs_nil) ?_
    refine T_seq ?_
    refine T_rd mixed [(3, .nat (i * 2)), (4, .cells [(iv ((l.getD i dCl).1)), (iv ((l.getD i dCl).2))])] [[], [], [], [1, 2], [1, 2, 3], [0, 1, 2, 3, 4]] [([22], [3, 6]), ([24], [0]), ([26], [10]), ([28], [24, 26]), ([30], [1, 28]), ([32], [22, 30])] [ps 0 (.osl 0 0 l.length), ps 3 (.opt 1 0), ps 5 (nv i), ps 7 (nv l.length), ps 8 (nv i), ps 16 (bv ((decide (c.1 = ((l.getD i dCl).1))) && (decide (c.2 = ((l.getD i dCl).2))))), pb 0 30 (clss l), pb 1 30 [(iv c.1), (iv c.2)]] (obs_cons (by omega : (0 : Int) ≤ ((i : Nat) : Int) ∧ ((i : Nat) : Int) < ((l.length : Nat) : Int)) (obs_cons (by omega : 0 + (((i : Nat) : Int) : Int).toNat * 2 = (i * 2)) (obs_cons (flat_at clC 2 (fun _ => rfl) dCl l i 0 2 (by omega) (by decide) : (i * 2) + 2 ≤ ((clss l)).length ∧ (((clss l)).drop (i * 2)).take 2 = [(iv ((l.getD i dCl).1)), (iv ((l.getD i dCl).2))]) obs_nil))) ?_
    by_cases h2 : ((decide (c.1 = ((l.getD i dCl).1))) && (decide (c.2 = ((l.getD i dCl).2)))) = true
    · refine T_then (b := ((decide (c.1 = ((l.getD i dCl).1))) && (decide (c.2 = ((l.getD i dCl).2))))) rfl h2 ?_
      refine T_seq ?_
      refine T_r mixed [] [ps 4 (nv i), pb 0 30 (clss l)] (obs_nil) ?_
      rw [idxC_found (c := c) (l := l) (i := i) hj (by omega) (cl_eq h2)]
      exact T_ret fun cx_ a_ hI_ => loop_ret (ret_ok (H' := [some (30, (clss l))]) (.inr rfl) (Wk.ren3 [ps 4 (nv i), pb 0 30 (clss l)] 1 hc0 [0] [(kb 0, (clss l))] (obs_cons (clss_shd _) (obs_nil)) (by kernel_rfl) rfl rfl (by kernel_rfl) (by kernel_rfl)) rfl (obs_cons rfl (obs_nil)) (fun cx_ a_ hI_ => ret_res (l' := [ps 4 (nv i), pb 0 30 (clss l)]) (by kernel_rfl) cx_ a_ hI_) hI_)
    refine T_else (b := ((decide (c.1 = ((l.getD i dCl).1))) && (decide (c.2 = ((l.getD i dCl).2))))) rfl (Bool.eq_false_iff.2 h2) ?_
    refine T_skip <| T_blk ?_
    refine T_r mixed [] [ps 0 (.osl 0 0 l.length), ps 3 (.opt 1 0), ps 7 (nv l.length), ps 8 (iv (((i : Nat) : Int) + 1)), pb 0 30 (clss l), pb 1 30 [(iv c.1), (iv c.2)]] (obs_cons (by simp only [InK]; omega : InK .i64 (((i : Nat) : Int) + 1)) obs_nil) ?_
    exact T_back ⟨i + 1, ⟨by show i + 1 ≤ l.length; omega, by show ∀ j, j < i + 1 → l.getD j dCl ≠ c; intro j hj2; by_cases hji : j < i; exact hj j hji; rw [show j = i from by omega]; exact cl_ne h2⟩⟩ (Wk.trans (Wk.eq (show _ = [ps 0 (.osl 0 0 l.length), ps 3 (.opt 1 0), ps 7 (nv l.length), ps 8 (nv (i + 1)), pb 0 30 (clss l), pb 1 30 [(iv c.1), (iv c.2)]] from by rfl)) (Wk.ren3 [ps 0 (.osl 0 0 l.length), ps 3 (.opt 1 0), ps 7 (nv l.length), ps 8 (nv (i + 1)), pb 0 30 (clss l), pb 1 30 [(iv c.1), (iv c.2)]] 1 hc0 [0, 1] [(kb 0, (clss l))] (obs_cons (clss_shd _) (obs_nil)) (by kernel_rfl) rfl rfl (by kernel_rfl) (by kernel_rfl))) (show l.length - (i + 1) < l.length - i from by show l.length - (i + 1) < l.length - i; omega)
  refine T_el (decide_eq_false h1) ?_
  refine T_break rfl rfl ?_
  refine T_seq ?_
  refine T_r mixed [] [ps 4 (iv (-1)), pb 0 30 (clss l)] (obs_nil) ?_
  rw [idxC_none (c := c) (l := l) (fun j hj2 => hj j (by omega))]
  exact T_ret fun cx_ a_ hI_ => ret_ok (H' := [some (30, (clss l))]) (.inr rfl) (Wk.ren3 [ps 4 (iv (-1)), pb 0 30 (clss l)] 1 hc0 [0] [(kb 0, (clss l))] (obs_cons (clss_shd _) (obs_nil)) (by kernel_rfl) rfl rfl (by kernel_rfl) (by kernel_rfl)) rfl (obs_cons rfl (obs_nil)) (fun cx_ a_ hI_ => ret_res (l' := [ps 4 (iv (-1)), pb 0 30 (clss l)]) (by kernel_rfl) cx_ a_ hI_) hI_
set_option maxRecDepth 100000 in
set_option maxHeartbeats 4000000 in
theorem contains_pc2 (l : List Cl) (c : Cl) (hl : l.length ≤ 140737488355328) : PC Tryz.prog 22 [(.osl 0 0 l.length), (.agg [(iv c.1), (iv c.2)])] [some (30, (clss l))] (bv (decide (c ∈ l))) [some (30, (clss l))] := by
  refine pc_intro Tryz.func22 rfl (by kernel_rfl) (Nat.le_of_ble_eq_true rfl) (by kernel_rfl) (l0 := [ps 0 (.osl 0 0 l.length), ps 1 (.agg [(iv c.1), (iv c.2)]), pb 0 30 (clss l)]) rfl (fun c0 Bor hc0 => ?_)
  refine T_seq ?_
  refine T_r mixed [] [ps 0 (.osl 0 0 l.length), ps 3 (.opt 1 0), pb 0 30 (clss l), pb 1 30 [(iv c.1), (iv c.2)]] (obs_nil) ?_
  refine T_seq ?_
  refine T_r mixed [(2, .callR [0] [(.osl 0 0 l.length), (.agg [(iv c.1), (iv c.2)])] [some (30, (clss l))] (iv (idxC c l)))] [ps 4 (bv (decide (0 ≤ (idxC c l)))), pb 0 30 (clss l)] (obs_cons (index_pc l c hl) (obs_cons (rfl : [(.osl 0 0 l.length), (.agg [(iv c.1), (iv c.2)])] = renL (sigi [0] 33) [(.osl 0 0 l.length), (.agg [(iv c.1), (iv c.2)])]) (obs_cons ((renL_shd (clss_shd _)).symm : (clss l) = renL (sigi [0] 33) (clss l)) (obs_cons ((renL_shd (clss_shd _)).symm : (clss l) = renL (sigo [0] 33) (clss l)) obs_nil)))) ?_
  refine T_wk (Wk.eq (show _ = [ps 4 (bv (decide (c ∈ l))), pb 0 30 (clss l)] from by rw [show decide (0 ≤ idxC c l) = decide (c ∈ l) from decide_eq_decide.2 idxC_mem])) ?_
  exact T_ret fun cx_ a_ hI_ => ret_ok (H' := [some (30, (clss l))]) (.inr rfl) (Wk.ren3 [ps 4 (bv (decide (c ∈ l))), pb 0 30 (clss l)] 1 hc0 [0] [(kb 0, (clss l))] (obs_cons (clss_shd _) (obs_nil)) (by kernel_rfl) rfl rfl (by kernel_rfl) (by kernel_rfl)) rfl (obs_cons rfl (obs_nil)) (fun cx_ a_ hI_ => ret_res (l' := [ps 4 (bv (decide (c ∈ l))), pb 0 30 (clss l)]) (by kernel_rfl) cx_ a_ hI_) hI_
end Go.Proofs.YtbgnegmjbnlemaaGreatDoor.Pm
namespace Go.Proofs.YtbgnegmjbnlemaaGreatDoor.Pm
open Go Go.Proofs.YtbgnegmjbnlemaaGreatDoor.Pi

set_option maxRecDepth 100000 in
set_option maxHeartbeats 4000000 in
theorem fits_pc (r : Cl) (k : Int) (kn : List Cl) (low : Cl) (hr0 : 0 ≤ r.1) (hr1 : r.1 ≤ 6) (hr2 : -3 ≤ r.2 ∧ r.2 ≤ 3) (hk : 1 ≤ k ∧ k ≤ 9) (hl : kn.length ≤ 140737488355328) : PC Tryz.prog 25 [(.agg [(iv r.1), (iv r.2)]), (iv k), (.osl 0 0 kn.length), (.agg [(iv low.1), (iv low.2)])] [some (30, (clss kn))] (.tup [(iv (fitT r k kn low)), (bv (fitsB r k kn))]) [some (30, (clss kn))] := by
  have hkk := stk_kind hk
  have hsl := stk_len k
  refine pc_intro Tryz.func25 rfl (by kernel_rfl) (Nat.le_of_ble_eq_true rfl) (by kernel_rfl) (l0 := [ps 0 (.agg [(iv r.1), (iv r.2)]), ps 1 (iv k), ps 2 (.osl 0 0 kn.length), ps 3 (.agg [(iv low.1), (iv low.2)]), pb 0 30 (clss kn)]) rfl (fun c0 Bor hc0 => ?_)
  refine T_seq ?_
  refine T_r mixed [] [ps 1 (iv k), ps 2 (.osl 0 0 kn.length), ps 4 (.opt 1 0), ps 7 (.opt 9 0), pb 0 30 (clss kn), pb 1 30 [(iv r.1), (iv r.2)], pb 9 30 [(iv low.1), (iv low.2)]] (obs_nil) ?_
  refine T_seq ?_
  refine T_r mixed [] [ps 1 (iv k), ps 2 (.osl 0 0 kn.length), ps 4 (.opt 1 0), ps 7 (.opt 9 0), ps 10 (.osl 41 0 1), pb 0 30 (clss kn), pb 1 30 [(iv r.1), (iv r.2)], pb 9 30 [(iv low.1), (iv low.2)], pb 41 30 [(iv r.1), (iv r.2)]] (obs_nil) ?_
  refine T_seq <| T_seq ?_
  refine T_r mixed [(1, .call [] [(iv k)] [] (.osl 0 0 ((stkT k).length)) [some (9, (txs (stkT k)))])] [ps 2 (.osl 0 0 kn.length), ps 4 (.opt 1 0), ps 7 (.opt 9 0), ps 10 (.osl 41 0 1), ps 20 (.osl 65 0 ((stkT k).length)), ps 21 (nv ((stkT k).length)), ps 22 (iv 0), pb 0 30 (clss kn), pb 1 30 [(iv r.1), (iv r.2)], pb 9 30 [(iv low.1), (iv low.2)], pb 41 30 [(iv r.1), (iv r.2)], pb 65 9 (renL (sigo [] 65) (txs (stkT k)))] (obs_cons (stack_pc k hkk) (obs_cons (rfl : Ren0 65 [(iv k)]) obs_nil)) ?_
  refine T_wk (Wk.eq (show _ = [ps 2 (.osl 0 0 kn.length), ps 4 (.opt 1 0), ps 7 (.opt 9 0), ps 10 (.osl 41 0 1), ps 20 (.osl 65 0 ((stkT k).length)), ps 21 (nv ((stkT k).length)), ps 22 (iv 0), pb 0 30 (clss kn), pb 1 30 [(iv r.1), (iv r.2)], pb 9 30 [(iv low.1), (iv low.2)], pb 41 30 [(iv r.1), (iv r.2)], pb 65 9 (txs (stkT k))] from by simp only [renL_shd (txs_shd _)])) ?_
  refine T_block ?_
  have hlk := stkT_len k
  refine T_loop (α := {x : Nat // x ≤ (stkI k).length}) (fun x => [ps 2 (.osl 0 0 kn.length), ps 4 (.opt 1 0), ps 7 (.opt 2 0), ps 10 (.osl 4 0 (x.1 + 1)), ps 20 (.osl 3 0 ((stkT k).length)), ps 21 (nv ((stkT k).length)), ps 22 (nv x.1), pb 0 30 (clss kn), pb 1 30 [(iv r.1), (iv r.2)], pb 2 30 [(iv low.1), (iv low.2)], pb 3 9 (txs (stkT k)), pb 4 30 (clss (allN r k x.1))]) (fun x => (stkI k).length - x.1) 5 ⟨0, Nat.zero_le _⟩ (Wk.ren3 [ps 2 (.osl 0 0 kn.length), ps 4 (.opt 1 0), ps 7 (.opt 2 0), ps 10 (.osl 4 0 (0 + 1)), ps 20 (.osl 3 0 ((stkT k).length)), ps 21 (nv ((stkT k).length)), ps 22 (nv 0), pb 0 30 (clss kn), pb 1 30 [(iv r.1), (iv r.2)], pb 2 30 [(iv low.1), (iv low.2)], pb 3 9 (txs (stkT k)), pb 4 30 (clss (allN r k 0))] 1 hc0 [0, 1, 9, 65, 41] [(kb 0, (clss kn)), (kb 3, (txs (stkT k))), (kb 4, (clss (allN r k 0)))] (obs_cons (clss_shd _) (obs_cons (txs_shd _) (obs_cons (clss_shd _) (obs_nil)))) (by kernel_rfl) rfl rfl (by kernel_rfl) (by kernel_rfl)) ?_
  rintro ⟨j, hj⟩
  refine T_seq ?_
  refine T_r mixed [] [ps 2 (.osl 0 0 kn.length), ps 4 (.opt 1 0), ps 7 (.opt 2 0), ps 10 (.osl 4 0 (j + 1)), ps 20 (.osl 3 0 ((stkT k).length)), ps 21 (nv ((stkT k).length)), ps 22 (nv j), ps 23 (bv (decide (((j : Nat) : Int) < (((stkT k).length : Nat) : Int)))), pb 0 30 (clss kn), pb 1 30 [(iv r.1), (iv r.2)], pb 2 30 [(iv low.1), (iv low.2)], pb 3 9 (txs (stkT k)), pb 4 30 (clss (allN r k j))] (obs_nil) ?_
  refine T_seq ?_
  by_cases h1 : ((j : Nat) : Int) < (((stkT k).length : Nat) : Int)
  · refine T_th (decide_eq_true h1) ?_
    refine T_skip <| T_seq <| T_block <| T_seq ?_
    refine T_r mixed [(0, .nat j), (1, .val (sv (st ((stkT k).getD j []))))] [ps 2 (.osl 0 0 kn.length), ps 4 (.opt 1 0), ps 7 (.opt 2 0), ps 10 (.osl 4 0 (j + 1)), ps 12 (sv (st ((stkT k).getD j []))), ps 20 (.osl 3 0 ((stkT k).length)), ps 21 (nv ((stkT k).length)), ps 22 (nv j), pb 0 30 (clss kn), pb 1 30 [(iv r.1), (iv r.2)], pb 2 30 [(iv low.1), (iv low.2)], pb 3 9 (txs (stkT k)), pb 4 30 (clss (allN r k j))] (obs_cons (by omega : (0 : Int) ≤ ((j : Nat) : Int) ∧ ((j : Nat) : Int) < (((stkT k).length : Nat) : Int)) (obs_cons (by omega : 0 + (((j : Nat) : Int) : Int).toNat * 1 = j) (obs_cons (flat_at1 txC (fun _ => rfl) [] (stkT k) j (by omega) : j + 1 ≤ ((txs (stkT k))).length ∧ (((txs (stkT k))).drop j).take 1 = [(sv (st ((stkT k).getD j [])))]) obs_nil))) ?_
    refine T_seq ?_
    have hal := allN_len (r := r) (k := k) hj
    refine T_r mixed [(1, .call [] [(sv (st ((stkT k).getD j [])))] [] (.tup [(.agg [(iv (((stkI k).getD j (0, 0)).1)), (iv (((stkI k).getD j (0, 0)).2))]), (iv 0)]) [])] [ps 2 (.osl 0 0 kn.length), ps 4 (.opt 1 0), ps 7 (.opt 2 0), ps 10 (.osl 4 0 (j + 1)), ps 13 (.opt 77 0), ps 20 (.osl 3 0 ((stkT k).length)), ps 21 (nv ((stkT k).length)), ps 22 (nv j), pb 0 30 (clss kn), pb 1 30 [(iv r.1), (iv r.2)], pb 2 30 [(iv low.1), (iv low.2)], pb 3 9 (txs (stkT k)), pb 4 30 (clss (allN r k j)), pb 77 37 [(iv (((stkI k).getD j (0, 0)).1)), (iv (((stkI k).getD j (0, 0)).2))]] (obs_cons (by have e := named_pc ((stkT k).getD j []) (by have := (stkT_at (k := k) (j := j) (by omega)).2.2; omega); rw [(stkT_at (k := k) (j := j) (by omega)).2.1] at e; exact e : PC Tryz.prog 16 [(sv (st ((stkT k).getD j [])))] [] (.tup [(.agg [(iv (((stkI k).getD j (0, 0)).1)), (iv (((stkI k).getD j (0, 0)).2))]), (iv 0)]) []) (obs_cons (rfl : Ren0 45 [(sv (st ((stkT k).getD j [])))]) obs_nil)) ?_
    refine T_r mixed [(3, .call [] [(.agg [(iv r.1), (iv r.2)]), (.agg [(iv (((stkI k).getD j (0, 0)).1)), (iv (((stkI k).getD j (0, 0)).2))])] [] (.agg [(iv ((overC r ((stkI k).getD j (0, 0))).1)), (iv ((overC r ((stkI k).getD j (0, 0))).2))]) []), (5, .app none (some (clss ((allN r k j) ++ [((overC r ((stkI k).getD j (0, 0))).1, (overC r ((stkI k).getD j (0, 0))).2)]))))] [ps 2 (.osl 0 0 kn.length), ps 4 (.opt 1 0), ps 7 (.opt 2 0), ps 10 (.osl 141 0 ((j + 1) + 1)), ps 20 (.osl 3 0 ((stkT k).length)), ps 21 (nv ((stkT k).length)), ps 22 (nv j), pb 0 30 (clss kn), pb 1 30 [(iv r.1), (iv r.2)], pb 2 30 [(iv low.1), (iv low.2)], pb 3 9 (txs (stkT k)), pb 141 30 (clss ((allN r k j) ++ [((overC r ((stkI k).getD j (0, 0))).1, (overC r ((stkI k).getD j (0, 0))).2)]))] (obs_cons (over_pc r ((stkI k).getD j (0, 0)) hr0 hr1 (by omega) (by have := stk_steps (k := k) (j := j) (by omega); have := stk_len k; omega) (by have := stk_steps (k := k) (j := j) (by omega); omega)) (obs_cons (rfl : Ren0 125 [(.agg [(iv r.1), (iv r.2)]), (.agg [(iv (((stkI k).getD j (0, 0)).1)), (iv (((stkI k).getD j (0, 0)).2))])]) (obs_cons (by rw [clss_len, hal] : ((clss (allN r k j))).length = (j + 1) * 2) (obs_cons (by omega : ((j + 1) + 1) * 16 ≤ 140737488355328 ∧ (j + 1) + 1 ≤ 9223372036854775807) (obs_cons ((flat_app clC (allN r k j) [((overC r ((stkI k).getD j (0, 0))).1, (overC r ((stkI k).getD j (0, 0))).2)]).symm : (clss (allN r k j)) ++ [(iv ((overC r ((stkI k).getD j (0, 0))).1)), (iv ((overC r ((stkI k).getD j (0, 0))).2))] = (clss ((allN r k j) ++ [((overC r ((stkI k).getD j (0, 0))).1, (overC r ((stkI k).getD j (0, 0))).2)]))) obs_nil))))) ?_
    refine T_blk ?_
    refine T_r mixed [] [ps 2 (.osl 0 0 kn.length), ps 4 (.opt 1 0), ps 7 (.opt 2 0), ps 10 (.osl 141 0 ((j + 1) + 1)), ps 20 (.osl 3 0 ((stkT k).length)), ps 21 (nv ((stkT k).length)), ps 22 (iv (((j : Nat) : Int) + 1)), pb 0 30 (clss kn), pb 1 30 [(iv r.1), (iv r.2)], pb 2 30 [(iv low.1), (iv low.2)], pb 3 9 (txs (stkT k)), pb 141 30 (clss ((allN r k j) ++ [((overC r ((stkI k).getD j (0, 0))).1, (overC r ((stkI k).getD j (0, 0))).2)]))] (obs_cons (by simp only [InK]; omega : InK .i64 (((j : Nat) : Int) + 1)) obs_nil) ?_
    exact T_back ⟨j + 1, by show j + 1 ≤ (stkI k).length; omega⟩ (Wk.trans (Wk.eq (show _ = [ps 2 (.osl 0 0 kn.length), ps 4 (.opt 1 0), ps 7 (.opt 2 0), ps 10 (.osl 141 0 ((j + 1) + 1)), ps 20 (.osl 3 0 ((stkT k).length)), ps 21 (nv ((stkT k).length)), ps 22 (nv (j + 1)), pb 0 30 (clss kn), pb 1 30 [(iv r.1), (iv r.2)], pb 2 30 [(iv low.1), (iv low.2)], pb 3 9 (txs (stkT k)), pb 141 30 (clss (allN r k (j + 1)))] from by rw [allN_next (show j < (stkI k).length from by omega)]; rfl)) (Wk.ren3 [ps 2 (.osl 0 0 kn.length), ps 4 (.opt 1 0), ps 7 (.opt 2 0), ps 10 (.osl 4 0 ((j + 1) + 1)), ps 20 (.osl 3 0 ((stkT k).length)), ps 21 (nv ((stkT k).length)), ps 22 (nv (j + 1)), pb 0 30 (clss kn), pb 1 30 [(iv r.1), (iv r.2)], pb 2 30 [(iv low.1), (iv low.2)], pb 3 9 (txs (stkT k)), pb 4 30 (clss (allN r k (j + 1)))] 1 hc0 [0, 1, 2, 3, 141] [(kb 0, (clss kn)), (kb 3, (txs (stkT k))), (kb 4, (clss (allN r k (j + 1))))] (obs_cons (clss_shd _) (obs_cons (txs_shd _) (obs_cons (clss_shd _) (obs_nil)))) (by kernel_rfl) rfl rfl (by kernel_rfl) (by kernel_rfl))) (show (stkI k).length - (j + 1) < (stkI k).length - j from by show (stkI k).length - (j + 1) < (stkI k).length - j; omega)
  refine T_el (decide_eq_false h1) ?_
  refine T_break rfl rfl ?_
  refine T_seq <| T_seq ?_
  have hal := allS_len r k
  refine T_wk (Wk.eq (show _ = [ps 2 (.osl 0 0 kn.length), ps 4 (.opt 1 0), ps 7 (.opt 2 0), ps 10 (.osl 4 0 ((allS r k).length)), ps 20 (.osl 3 0 ((stkT k).length)), ps 21 (nv ((stkT k).length)), ps 22 (nv j), ps 23 (bv (decide (((j : Nat) : Int) < (((stkT k).length : Nat) : Int)))), pb 0 30 (clss kn), pb 1 30 [(iv r.1), (iv r.2)], pb 2 30 [(iv low.1), (iv low.2)], pb 3 9 (txs (stkT k)), pb 4 30 (clss (allS r k))] from by rw [allN_all r k (show (stkI k).length ≤ j from by omega), show j + 1 = (allS r k).length from by rw [allS_len]; omega])) ?_
  refine T_r mixed [] [ps 2 (.osl 0 0 kn.length), ps 7 (.opt 2 0), ps 10 (.osl 4 0 ((allS r k).length)), ps 42 (bv (!(decide ((((allS r k).length : Nat) : Int) = ((kn.length : Nat) : Int))))), pb 0 30 (clss kn), pb 2 30 [(iv low.1), (iv low.2)], pb 4 30 (clss (allS r k))] (obs_nil) ?_
  by_cases h2 : (((allS r k).length : Nat) : Int) = ((kn.length : Nat) : Int)
  · refine T_el (bt h2) ?_
    refine T_skip <| T_seq <| T_seq ?_
    refine T_r mixed [] [ps 2 (.osl 0 0 kn.length), ps 7 (.opt 2 0), ps 10 (.osl 4 0 ((allS r k).length)), ps 43 (.osl 4 0 ((allS r k).length)), ps 44 (nv ((allS r k).length)), ps 45 (iv 0), pb 0 30 (clss kn), pb 2 30 [(iv low.1), (iv low.2)], pb 4 30 (clss (allS r k))] (obs_nil) ?_
    refine T_block ?_
    refine T_loop (α := {x : Nat // x ≤ (allS r k).length ∧ (∀ i, i < x → (allS r k).getD i dCl ∈ kn)}) (fun x => [ps 2 (.osl 0 0 kn.length), ps 7 (.opt 1 0), ps 10 (.osl 2 0 ((allS r k).length)), ps 43 (.osl 2 0 ((allS r k).length)), ps 44 (nv ((allS r k).length)), ps 45 (nv x.1), pb 0 30 (clss kn), pb 1 30 [(iv low.1), (iv low.2)], pb 2 30 (clss (allS r k))]) (fun x => (allS r k).length - x.1) 3 ⟨0, ⟨Nat.zero_le _, fun i hi => absurd hi (Nat.not_lt_zero i)⟩⟩ (Wk.ren3 [ps 2 (.osl 0 0 kn.length), ps 7 (.opt 1 0), ps 10 (.osl 2 0 ((allS r k).length)), ps 43 (.osl 2 0 ((allS r k).length)), ps 44 (nv ((allS r k).length)), ps 45 (nv 0), pb 0 30 (clss kn), pb 1 30 [(iv low.1), (iv low.2)], pb 2 30 (clss (allS r k))] 1 hc0 [0, 2, 4] [(kb 0, (clss kn)), (kb 2, (clss (allS r k)))] (obs_cons (clss_shd _) (obs_cons (clss_shd _) (obs_nil))) (by kernel_rfl) rfl rfl (by kernel_rfl) (by kernel_rfl)) ?_
    rintro ⟨j, ⟨hj2, hin⟩⟩
    refine T_seq ?_
    refine T_r mixed [] [ps 2 (.osl 0 0 kn.length), ps 7 (.opt 1 0), ps 10 (.osl 2 0 ((allS r k).length)), ps 43 (.osl 2 0 ((allS r k).length)), ps 44 (nv ((allS r k).length)), ps 45 (nv j), ps 46 (bv (decide (((j : Nat) : Int) < (((allS r k).length : Nat) : Int)))), pb 0 30 (clss kn), pb 1 30 [(iv low.1), (iv low.2)], pb 2 30 (clss (allS r k))] (obs_nil) ?_
    refine T_seq ?_
    by_cases h3 : ((j : Nat) : Int) < (((allS r k).length : Nat) : Int)
    · refine T_th (decide_eq_true h3) ?_
      refine T_skip <| T_seq <| T_block <| T_seq ?_
      refine T_r mixed [(0, .nat (j * 2)), (1, .cells [(iv (((allS r k).getD j dCl).1)), (iv (((allS r k).getD j dCl).2))])] [ps 2 (.osl 0 0 kn.length), ps 7 (.opt 1 0), ps 10 (.osl 2 0 ((allS r k).length)), ps 16 (.opt 27 0), ps 43 (.osl 2 0 ((allS r k).length)), ps 44 (nv ((allS r k).length)), ps 45 (nv j), pb 0 30 (clss kn), pb 1 30 [(iv low.1), (iv low.2)], pb 2 30 (clss (allS r k)), pb 27 30 [(iv (((allS r k).getD j dCl).1)), (iv (((allS r k).getD j dCl).2))]] (obs_cons (by omega : (0 : Int) ≤ ((j : Nat) : Int) ∧ ((j : Nat) : Int) < (((allS r k).length : Nat) : Int)) (obs_cons (by omega : 0 + (((j : Nat) : Int) : Int).toNat * 2 = (j * 2)) (obs_cons (flat_at clC 2 (fun _ => rfl) dCl (allS r k) j 0 2 (by omega) (by decide) : (j * 2) + 2 ≤ ((clss (allS r k))).length ∧ (((clss (allS r k))).drop (j * 2)).take 2 = [(iv (((allS r k).getD j dCl).1)), (iv (((allS r k).getD j dCl).2))]) obs_nil))) ?_
      refine T_seq ?_
      refine T_r mixed [(2, .callR [0] [(.osl 0 0 kn.length), (.agg [(iv (((allS r k).getD j dCl).1)), (iv (((allS r k).getD j dCl).2))])] [some (30, (clss kn))] (bv (decide (((allS r k).getD j dCl) ∈ kn))))] [ps 2 (.osl 0 0 kn.length), ps 7 (.opt 1 0), ps 10 (.osl 2 0 ((allS r k).length)), ps 43 (.osl 2 0 ((allS r k).length)), ps 44 (nv ((allS r k).length)), ps 45 (nv j), ps 52 (bv (!(decide (((allS r k).getD j dCl) ∈ kn)))), pb 0 30 (clss kn), pb 1 30 [(iv low.1), (iv low.2)], pb 2 30 (clss (allS r k))] (obs_cons (contains_pc2 kn ((allS r k).getD j dCl) (by omega)) (obs_cons (rfl : [(.osl 0 0 kn.length), (.agg [(iv (((allS r k).getD j dCl).1)), (iv (((allS r k).getD j dCl).2))])] = renL (sigi [0] 59) [(.osl 0 0 kn.length), (.agg [(iv (((allS r k).getD j dCl).1)), (iv (((allS r k).getD j dCl).2))])]) (obs_cons ((renL_shd (clss_shd _)).symm : (clss kn) = renL (sigi [0] 59) (clss kn)) (obs_cons ((renL_shd (clss_shd _)).symm : (clss kn) = renL (sigo [0] 59) (clss kn)) obs_nil)))) ?_
      by_cases h4 : ((allS r k).getD j dCl) ∈ kn
      · refine T_el (bt h4) ?_
        refine T_skip <| T_blk ?_
        refine T_r mixed [] [ps 2 (.osl 0 0 kn.length), ps 7 (.opt 1 0), ps 10 (.osl 2 0 ((allS r k).length)), ps 43 (.osl 2 0 ((allS r k).length)), ps 44 (nv ((allS r k).length)), ps 45 (iv (((j : Nat) : Int) + 1)), pb 0 30 (clss kn), pb 1 30 [(iv low.1), (iv low.2)], pb 2 30 (clss (allS r k))] (obs_cons (by simp only [InK]; omega : InK .i64 (((j : Nat) : Int) + 1)) obs_nil) ?_
        exact T_back ⟨j + 1, ⟨by show j + 1 ≤ (allS r k).length; omega, by show ∀ i, i < j + 1 → (allS r k).getD i dCl ∈ kn; intro i hi; by_cases hij : i < j; exact hin i hij; rw [show i = j from by omega]; exact h4⟩⟩ (Wk.trans (Wk.eq (show _ = [ps 2 (.osl 0 0 kn.length), ps 7 (.opt 1 0), ps 10 (.osl 2 0 ((allS r k).length)), ps 43 (.osl 2 0 ((allS r k).length)), ps 44 (nv ((allS r k).length)), ps 45 (nv (j + 1)), pb 0 30 (clss kn), pb 1 30 [(iv low.1), (iv low.2)], pb 2 30 (clss (allS r k))] from by rfl)) (Wk.ren3 [ps 2 (.osl 0 0 kn.length), ps 7 (.opt 1 0), ps 10 (.osl 2 0 ((allS r k).length)), ps 43 (.osl 2 0 ((allS r k).length)), ps 44 (nv ((allS r k).length)), ps 45 (nv (j + 1)), pb 0 30 (clss kn), pb 1 30 [(iv low.1), (iv low.2)], pb 2 30 (clss (allS r k))] 1 hc0 [0, 1, 2] [(kb 0, (clss kn)), (kb 2, (clss (allS r k)))] (obs_cons (clss_shd _) (obs_cons (clss_shd _) (obs_nil))) (by kernel_rfl) rfl rfl (by kernel_rfl) (by kernel_rfl))) (show (allS r k).length - (j + 1) < (allS r k).length - j from by show (allS r k).length - (j + 1) < (allS r k).length - j; omega)
      refine T_th (bf h4) ?_
      refine T_seq ?_
      refine T_r mixed [] [ps 8 (iv 0), ps 9 (bv false), pb 0 30 (clss kn)] (obs_nil) ?_
      have hf := fits_out (show j < (allS r k).length from by omega) h4
      rw [fit_no low hf, hf]
      exact T_ret fun cx_ a_ hI_ => loop_ret (ret_ok (H' := [some (30, (clss kn))]) (.inr rfl) (Wk.ren3 [ps 8 (iv 0), ps 9 (bv false), pb 0 30 (clss kn)] 1 hc0 [0] [(kb 0, (clss kn))] (obs_cons (clss_shd _) (obs_nil)) (by kernel_rfl) rfl rfl (by kernel_rfl) (by kernel_rfl)) rfl (obs_cons rfl (obs_nil)) (fun cx_ a_ hI_ => ret_res (l' := [ps 8 (iv 0), ps 9 (bv false), pb 0 30 (clss kn)]) (by kernel_rfl) cx_ a_ hI_) hI_)
    refine T_el (decide_eq_false h3) ?_
    refine T_break rfl rfl ?_
    refine T_seq ?_
    refine T_r mixed [(2, .callR [2] [(.osl 0 0 ((allS r k).length)), (.agg [(iv low.1), (iv low.2)])] [some (30, (clss (allS r k)))] (iv (idxC low (allS r k))))] [ps 8 (iv (idxC low (allS r k))), ps 9 (bv true), pb 0 30 (clss kn)] (obs_cons (index_pc (allS r k) low (by rw [allS_len]; omega)) (obs_cons (rfl : [(.osl 2 0 ((allS r k).length)), (.agg [(iv low.1), (iv low.2)])] = renL (sigi [2] 27) [(.osl 0 0 ((allS r k).length)), (.agg [(iv low.1), (iv low.2)])]) (obs_cons ((renL_shd (clss_shd _)).symm : (clss (allS r k)) = renL (sigi [2] 27) (clss (allS r k))) (obs_cons ((renL_shd (clss_shd _)).symm : (clss (allS r k)) = renL (sigo [2] 27) (clss (allS r k))) obs_nil)))) ?_
    have hf := fits_all (r := r) (k := k) (kn := kn) (by omega) (fun i hi => hin i (by omega))
    rw [fit_yes low hf, hf]
    exact T_ret fun cx_ a_ hI_ => ret_ok (H' := [some (30, (clss kn))]) (.inr rfl) (Wk.ren3 [ps 8 (iv (idxC low (allS r k))), ps 9 (bv true), pb 0 30 (clss kn)] 1 hc0 [0] [(kb 0, (clss kn))] (obs_cons (clss_shd _) (obs_nil)) (by kernel_rfl) rfl rfl (by kernel_rfl) (by kernel_rfl)) rfl (obs_cons rfl (obs_nil)) (fun cx_ a_ hI_ => ret_res (l' := [ps 8 (iv (idxC low (allS r k))), ps 9 (bv true), pb 0 30 (clss kn)]) (by kernel_rfl) cx_ a_ hI_) hI_
  refine T_th (bf h2) ?_
  refine T_seq ?_
  refine T_r mixed [] [ps 8 (iv 0), ps 9 (bv false), pb 0 30 (clss kn)] (obs_nil) ?_
  have hf := fits_len2 h2
  rw [fit_no low hf, hf]
  exact T_ret fun cx_ a_ hI_ => ret_ok (H' := [some (30, (clss kn))]) (.inr rfl) (Wk.ren3 [ps 8 (iv 0), ps 9 (bv false), pb 0 30 (clss kn)] 1 hc0 [0] [(kb 0, (clss kn))] (obs_cons (clss_shd _) (obs_nil)) (by kernel_rfl) rfl rfl (by kernel_rfl) (by kernel_rfl)) rfl (obs_cons rfl (obs_nil)) (fun cx_ a_ hI_ => ret_res (l' := [ps 8 (iv 0), ps 9 (bv false), pb 0 30 (clss kn)]) (by kernel_rfl) cx_ a_ hI_) hI_
end Go.Proofs.YtbgnegmjbnlemaaGreatDoor.Pm
namespace Go.Proofs.YtbgnegmjbnlemaaGreatDoor.Pm
open Go Go.Proofs.YtbgnegmjbnlemaaGreatDoor.Pi

set_option maxRecDepth 100000 in
set_option maxHeartbeats 4000000 in
theorem what_pc0 (l : List Pt) (hl : l.length ≤ 5864062014805) : PC Tryz.prog 8 [(.ssl (pts l) 0 l.length)] [] (.tup [(.agg [(iv ((whatS l).1.1.1)), (iv ((whatS l).1.1.2)), (iv ((whatS l).1.2.1)), (iv ((whatS l).1.2.2))]), (iv ((whatS l).2))]) [none] := by
  refine pc_intro Tryz.func8 rfl (by kernel_rfl) (Nat.le_of_ble_eq_true rfl) (by kernel_rfl) (l0 := [ps 0 (.ssl (pts l) 0 l.length)]) rfl (fun c0 Bor hc0 => ?_)
  refine T_seq ?_
  refine T_r mixed [] [ps 0 (.ssl (pts l) 0 l.length), ps 2 (.opt 0 0), pb 0 32 [(iv 0), (iv 0), (iv 0), (iv 0)]] (obs_nil) ?_
  refine T_seq ?_
  refine T_r mixed [] [ps 0 (.ssl (pts l) 0 l.length), ps 2 (.opt 0 0), ps 4 (.av (.slice none 0 0)), pb 0 32 [(iv 0), (iv 0), (iv 0), (iv 0)]] (obs_nil) ?_
  refine T_seq ?_
  refine T_r mixed [] [ps 0 (.ssl (pts l) 0 l.length), ps 2 (.opt 0 0), ps 4 (.av (.slice none 0 0)), ps 5 (iv (-1)), pb 0 32 [(iv 0), (iv 0), (iv 0), (iv 0)]] (obs_nil) ?_
  refine T_seq <| T_seq ?_
  refine T_r mixed [] [ps 0 (.ssl (pts l) 0 l.length), ps 2 (.opt 0 0), ps 4 (.av (.slice none 0 0)), ps 5 (iv (-1)), ps 13 (.ssl (pts l) 0 l.length), ps 14 (nv l.length), ps 15 (iv 0), pb 0 32 [(iv 0), (iv 0), (iv 0), (iv 0)]] (obs_nil) ?_
  refine T_block ?_
  refine T_wk (Wk.nil (s := 4) 30 (by kernel_rfl)) ?_
  refine T_wk (Wk.less (l' := [ps 0 (.ssl (pts l) 0 l.length), ps 2 (.opt 0 0), ps 4 (.osl 56 0 0), ps 5 (iv (-1)), ps 13 (.ssl (pts l) 0 l.length), ps 14 (nv l.length), ps 15 (iv 0), pb 0 32 [(iv 0), (iv 0), (iv 0), (iv 0)], pb 56 30 []]) 57 (by kernel_rfl) (by kernel_rfl)) ?_
  refine T_loop (α := {x : Nat // x ≤ l.length ∧ (∀ j, j < x → rb (l.getD j dPt) = true)}) (fun x => [ps 0 (.ssl (pts l) 0 l.length), ps 2 (.opt 0 0), ps 4 (.osl 1 0 ((knownN l x.1).length)), ps 5 (iv (lowI l x.1)), ps 13 (.ssl (pts l) 0 l.length), ps 14 (nv l.length), ps 15 (nv x.1), pb 0 32 [(iv 0), (iv 0), (iv 0), (iv 0)], pb 1 30 (clss (knownN l x.1))]) (fun x => l.length - x.1) 2 ⟨0, ⟨Nat.zero_le _, fun j hj => absurd hj (Nat.not_lt_zero j)⟩⟩ (Wk.ren3 [ps 0 (.ssl (pts l) 0 l.length), ps 2 (.opt 0 0), ps 4 (.osl 1 0 ((knownN l 0).length)), ps 5 (iv (lowI l 0)), ps 13 (.ssl (pts l) 0 l.length), ps 14 (nv l.length), ps 15 (nv 0), pb 0 32 [(iv 0), (iv 0), (iv 0), (iv 0)], pb 1 30 (clss (knownN l 0))] 0 hc0 [0, 56] [(kb 1, (clss (knownN l 0)))] (obs_cons (clss_shd _) (obs_nil)) (by kernel_rfl) rfl rfl (by kernel_rfl) (by kernel_rfl)) ?_
  rintro ⟨i, ⟨hi, hri⟩⟩
  refine T_seq ?_
  refine T_r mixed [] [ps 0 (.ssl (pts l) 0 l.length), ps 2 (.opt 0 0), ps 4 (.osl 1 0 ((knownN l i).length)), ps 5 (iv (lowI l i)), ps 13 (.ssl (pts l) 0 l.length), ps 14 (nv l.length), ps 15 (nv i), ps 16 (bv (decide (((i : Nat) : Int) < ((l.length : Nat) : Int)))), pb 0 32 [(iv 0), (iv 0), (iv 0), (iv 0)], pb 1 30 (clss (knownN l i))] (obs_nil) ?_
  refine T_seq ?_
  by_cases h1 : ((i : Nat) : Int) < ((l.length : Nat) : Int)
  · refine T_th (decide_eq_true h1) ?_
    refine T_skip <| T_seq <| T_block <| T_seq ?_
    refine T_r mixed [(1, .nat (i * 3)), (2, .cells [(iv ((l.getD i dPt).1)), (iv ((l.getD i dPt).2.1)), (iv ((l.getD i dPt).2.2))])] [ps 0 (.ssl (pts l) 0 l.length), ps 2 (.opt 0 0), ps 4 (.osl 1 0 ((knownN l i).length)), ps 5 (iv (lowI l i)), ps 6 (nv i), ps 7 (.opt 34 0), ps 13 (.ssl (pts l) 0 l.length), ps 14 (nv l.length), ps 15 (nv i), pb 0 32 [(iv 0), (iv 0), (iv 0), (iv 0)], pb 1 30 (clss (knownN l i)), pb 34 23 [(iv ((l.getD i dPt).1)), (iv ((l.getD i dPt).2.1)), (iv ((l.getD i dPt).2.2))]] (obs_cons (by omega : (0 : Int) ≤ ((i : Nat) : Int) ∧ ((i : Nat) : Int) < ((l.length : Nat) : Int)) (obs_cons (by omega : 0 + (((i : Nat) : Int) : Int).toNat * 3 = (i * 3)) (obs_cons (flat_at ptC 3 (fun _ => rfl) dPt l i 0 3 (by omega) (by decide) : (i * 3) + 3 ≤ ((pts l)).length ∧ (((pts l)).drop (i * 3)).take 3 = [(iv ((l.getD i dPt).1)), (iv ((l.getD i dPt).2.1)), (iv ((l.getD i dPt).2.2))]) obs_nil))) ?_
    refine T_seq <| T_seq ?_
    refine T_r mixed [(1, .call [] [(.agg [(iv ((l.getD i dPt).1)), (iv ((l.getD i dPt).2.1)), (iv ((l.getD i dPt).2.2))])] [] (bv (Pi.rightB ((l.getD i dPt).1) ((l.getD i dPt).2.1) ((l.getD i dPt).2.2))) [])] [ps 0 (.ssl (pts l) 0 l.length), ps 2 (.opt 0 0), ps 4 (.osl 1 0 ((knownN l i).length)), ps 5 (iv (lowI l i)), ps 6 (nv i), ps 7 (.opt 34 0), ps 13 (.ssl (pts l) 0 l.length), ps 14 (nv l.length), ps 15 (nv i), ps 22 (bv (!(Pi.rightB ((l.getD i dPt).1) ((l.getD i dPt).2.1) ((l.getD i dPt).2.2)))), pb 0 32 [(iv 0), (iv 0), (iv 0), (iv 0)], pb 1 30 (clss (knownN l i)), pb 34 23 [(iv ((l.getD i dPt).1)), (iv ((l.getD i dPt).2.1)), (iv ((l.getD i dPt).2.2))]] (obs_cons (pright_pc ((l.getD i dPt).1) ((l.getD i dPt).2.1) ((l.getD i dPt).2.2)) (obs_cons (rfl : Ren0 66 [(.agg [(iv ((l.getD i dPt).1)), (iv ((l.getD i dPt).2.1)), (iv ((l.getD i dPt).2.2))])]) obs_nil)) ?_
    by_cases h2 : (Pi.rightB ((l.getD i dPt).1) ((l.getD i dPt).2.1) ((l.getD i dPt).2.2)) = true
    · refine T_el (congrArg Bool.not h2) ?_
      refine T_skip <| T_seq <| T_seq ?_
      have hkl := known_len l i
      have hlb := low_bd l i
      refine T_r mixed [(2, .call [] [(.agg [(iv ((l.getD i dPt).1)), (iv ((l.getD i dPt).2.1)), (iv ((l.getD i dPt).2.2))])] [] (.agg [(iv ((l.getD i dPt).1)), (iv ((l.getD i dPt).2.1))]) []), (3, .callR [1] [(.osl 0 0 ((knownN l i).length)), (.agg [(iv ((l.getD i dPt).1)), (iv ((l.getD i dPt).2.1))])] [some (30, (clss (knownN l i)))] (bv (decide (cl (l.getD i dPt) ∈ (knownN l i)))))] [ps 0 (.ssl (pts l) 0 l.length), ps 2 (.opt 0 0), ps 4 (.osl 1 0 ((knownN l i).length)), ps 5 (iv (lowI l i)), ps 6 (nv i), ps 7 (.opt 34 0), ps 13 (.ssl (pts l) 0 l.length), ps 14 (nv l.length), ps 15 (nv i), ps 28 (bv (!(decide (cl (l.getD i dPt) ∈ (knownN l i))))), pb 0 32 [(iv 0), (iv 0), (iv 0), (iv 0)], pb 1 30 (clss (knownN l i)), pb 34 23 [(iv ((l.getD i dPt).1)), (iv ((l.getD i dPt).2.1)), (iv ((l.getD i dPt).2.2))]] (obs_cons (class_pc (l.getD i dPt)) (obs_cons (rfl : Ren0 98 [(.agg [(iv ((l.getD i dPt).1)), (iv ((l.getD i dPt).2.1)), (iv ((l.getD i dPt).2.2))])]) (obs_cons (contains_pc2 (knownN l i) (cl (l.getD i dPt)) (by omega)) (obs_cons (rfl : [(.osl 1 0 ((knownN l i).length)), (.agg [(iv ((l.getD i dPt).1)), (iv ((l.getD i dPt).2.1))])] = renL (sigi [1] 106) [(.osl 0 0 ((knownN l i).length)), (.agg [(iv ((l.getD i dPt).1)), (iv ((l.getD i dPt).2.1))])]) (obs_cons ((renL_shd (clss_shd _)).symm : (clss (knownN l i)) = renL (sigi [1] 106) (clss (knownN l i))) (obs_cons ((renL_shd (clss_shd _)).symm : (clss (knownN l i)) = renL (sigo [1] 106) (clss (knownN l i))) obs_nil)))))) ?_
      by_cases h3 : cl (l.getD i dPt) ∈ (knownN l i)
      · refine T_el (bt h3) ?_
        refine T_skip <| T_seq ?_
        by_cases h4 : (lowI l i) < 0
        · refine T_rd mixed [(3, .gd true .no), (4, .gd true .no), (5, .gd true .no), (6, .gd true .no), (7, .gd true .no), (8, .gd true .no), (9, .yes true)] [[], [0], [0, 1], [0, 1, 2], [0, 1, 2], [0, 1, 2], [0, 1, 2, 4, 5], [0, 1, 2, 4, 5, 6], [0, 1, 2, 3, 4, 5, 6, 7], [0, 1, 2, 3, 4, 5, 6, 7, 8]] [([68], [10]), ([70], [68]), ([72], [70]), ([74], [72]), ([76], [72]), ([78], [72]), ([80], [72]), ([82], [72]), ([84], [72]), ([86], [72, 84])] [ps 0 (.ssl (pts l) 0 l.length), ps 2 (.opt 0 0), ps 4 (.osl 1 0 ((knownN l i).length)), ps 5 (iv (lowI l i)), ps 6 (nv i), ps 13 (.ssl (pts l) 0 l.length), ps 14 (nv l.length), ps 15 (nv i), ps 43 (bv true), pb 0 32 [(iv 0), (iv 0), (iv 0), (iv 0)], pb 1 30 (clss (knownN l i))] (obs_cons (decide_eq_true h4) (obs_cons (decide_eq_true h4) (obs_cons (decide_eq_true h4) (obs_cons (decide_eq_true h4) (obs_cons (decide_eq_true h4) (obs_cons (decide_eq_true h4) (obs_cons (decide_eq_true h4) obs_nil))))))) ?_
          refine T_then (b := true) rfl rfl ?_
          refine T_r mixed [] [ps 0 (.ssl (pts l) 0 l.length), ps 2 (.opt 0 0), ps 4 (.osl 1 0 ((knownN l i).length)), ps 5 (nv i), ps 13 (.ssl (pts l) 0 l.length), ps 14 (nv l.length), ps 15 (nv i), pb 0 32 [(iv 0), (iv 0), (iv 0), (iv 0)], pb 1 30 (clss (knownN l i))] (obs_nil) ?_
          refine T_blk ?_
          refine T_r mixed [] [ps 0 (.ssl (pts l) 0 l.length), ps 2 (.opt 0 0), ps 4 (.osl 1 0 ((knownN l i).length)), ps 5 (nv i), ps 13 (.ssl (pts l) 0 l.length), ps 14 (nv l.length), ps 15 (iv (((i : Nat) : Int) + 1)), pb 0 32 [(iv 0), (iv 0), (iv 0), (iv 0)], pb 1 30 (clss (knownN l i))] (obs_cons (by simp only [InK]; omega : InK .i64 (((i : Nat) : Int) + 1)) obs_nil) ?_
          have hkn := known_len l i
          have hk1 : knownN l (i + 1) = knownN l i := by rw [known_next]; exact addK_yes h3
          have hl1 : lowI l (i + 1) = (i : Int) := by rw [low_next]; exact if_pos (.inl h4)
          exact T_back ⟨i + 1, ⟨by show i + 1 ≤ l.length; omega, by show ∀ j, j < i + 1 → rb (l.getD j dPt) = true; intro j hj; by_cases hji : j < i; exact hri j hji; rw [show j = i from by omega]; exact h2⟩⟩ (Wk.trans (Wk.eq (show _ = [ps 0 (.ssl (pts l) 0 l.length), ps 2 (.opt 0 0), ps 4 (.osl 1 0 ((knownN l (i + 1)).length)), ps 5 (iv (lowI l (i + 1))), ps 13 (.ssl (pts l) 0 l.length), ps 14 (nv l.length), ps 15 (nv (i + 1)), pb 0 32 [(iv 0), (iv 0), (iv 0), (iv 0)], pb 1 30 (clss (knownN l (i + 1)))] from by rw [hl1, hk1]; rfl)) (Wk.ren3 [ps 0 (.ssl (pts l) 0 l.length), ps 2 (.opt 0 0), ps 4 (.osl 1 0 ((knownN l (i + 1)).length)), ps 5 (iv (lowI l (i + 1))), ps 13 (.ssl (pts l) 0 l.length), ps 14 (nv l.length), ps 15 (nv (i + 1)), pb 0 32 [(iv 0), (iv 0), (iv 0), (iv 0)], pb 1 30 (clss (knownN l (i + 1)))] 0 hc0 [0, 1] [(kb 1, (clss (knownN l (i + 1))))] (obs_cons (clss_shd _) (obs_nil)) (by kernel_rfl) rfl rfl (by kernel_rfl) (by kernel_rfl))) (show l.length - (i + 1) < l.length - i from by show l.length - (i + 1) < l.length - i; omega)
        refine T_rd mixed [(3, .gd false (.no)), (4, .gd false (.no)), (5, .gd false (.no)), (6, .gd false (.nat (((lowI l i).toNat) * 3))), (7, .gd false (.cells [(iv ((l.getD ((lowI l i).toNat) dPt).1)), (iv ((l.getD ((lowI l i).toNat) dPt).2.1)), (iv ((l.getD ((lowI l i).toNat) dPt).2.2))])), (8, .gd false (.call [] [(.agg [(iv ((l.getD i dPt).1)), (iv ((l.getD i dPt).2.1)), (iv ((l.getD i dPt).2.2))]), (.agg [(iv ((l.getD ((lowI l i).toNat) dPt).1)), (iv ((l.getD ((lowI l i).toNat) dPt).2.1)), (iv ((l.getD ((lowI l i).toNat) dPt).2.2))])] [] (bv (belowB (l.getD i dPt) (l.getD ((lowI l i).toNat) dPt))) [])), (9, .yes false)] [[], [0], [0, 1], [0, 1, 2], [0, 1, 2], [0, 1, 2], [0, 1, 2, 4, 5], [0, 1, 2, 4, 5, 6], [0, 1, 2, 3, 4, 5, 6, 7], [0, 1, 2, 3, 4, 5, 6, 7, 8]] [([68], [10]), ([70], [68]), ([72], [70]), ([74], [14, 69, 72]), ([76], [0, 72]), ([78], [10, 72]), ([80], [72, 76, 78]), ([82], [72, 80]), ([84], [72, 74, 82]), ([86], [72, 84])] [ps 0 (.ssl (pts l) 0 l.length), ps 2 (.opt 0 0), ps 4 (.osl 1 0 ((knownN l i).length)), ps 5 (iv (lowI l i)), ps 6 (nv i), ps 13 (.ssl (pts l) 0 l.length), ps 14 (nv l.length), ps 15 (nv i), ps 43 (bv (belowB (l.getD i dPt) (l.getD ((lowI l i).toNat) dPt))), pb 0 32 [(iv 0), (iv 0), (iv 0), (iv 0)], pb 1 30 (clss (knownN l i))] (obs_cons (decide_eq_false h4) (obs_cons (decide_eq_false h4) (obs_cons (decide_eq_false h4) (obs_cons (decide_eq_false h4) (obs_cons (by omega : (0 : Int) ≤ (lowI l i) ∧ (lowI l i) < ((l.length : Nat) : Int)) (obs_cons (by omega : 0 + ((lowI l i) : Int).toNat * 3 = (((lowI l i).toNat) * 3)) (obs_cons (decide_eq_false h4) (obs_cons (flat_at ptC 3 (fun _ => rfl) dPt l ((lowI l i).toNat) 0 3 (by omega) (by decide) : (((lowI l i).toNat) * 3) + 3 ≤ ((pts l)).length ∧ (((pts l)).drop (((lowI l i).toNat) * 3)).take 3 = [(iv ((l.getD ((lowI l i).toNat) dPt).1)), (iv ((l.getD ((lowI l i).toNat) dPt).2.1)), (iv ((l.getD ((lowI l i).toNat) dPt).2.2))]) (obs_cons (decide_eq_false h4) (obs_cons (below_pc (l.getD i dPt) (l.getD ((lowI l i).toNat) dPt) h2 (hri _ (by omega)) : PC Tryz.prog 24 [(.agg [(iv ((l.getD i dPt).1)), (iv ((l.getD i dPt).2.1)), (iv ((l.getD i dPt).2.2))]), (.agg [(iv ((l.getD ((lowI l i).toNat) dPt).1)), (iv ((l.getD ((lowI l i).toNat) dPt).2.1)), (iv ((l.getD ((lowI l i).toNat) dPt).2.2))])] [] (bv (belowB (l.getD i dPt) (l.getD ((lowI l i).toNat) dPt))) []) (obs_cons (rfl : Ren0 186 [(.agg [(iv ((l.getD i dPt).1)), (iv ((l.getD i dPt).2.1)), (iv ((l.getD i dPt).2.2))]), (.agg [(iv ((l.getD ((lowI l i).toNat) dPt).1)), (iv ((l.getD ((lowI l i).toNat) dPt).2.1)), (iv ((l.getD ((lowI l i).toNat) dPt).2.2))])]) (obs_cons (decide_eq_false h4) obs_nil)))))))))))) ?_
        by_cases h5 : (belowB (l.getD i dPt) (l.getD ((lowI l i).toNat) dPt)) = true
        · refine T_then (b := (belowB (l.getD i dPt) (l.getD ((lowI l i).toNat) dPt))) rfl h5 ?_
          refine T_r mixed [] [ps 0 (.ssl (pts l) 0 l.length), ps 2 (.opt 0 0), ps 4 (.osl 1 0 ((knownN l i).length)), ps 5 (nv i), ps 13 (.ssl (pts l) 0 l.length), ps 14 (nv l.length), ps 15 (nv i), pb 0 32 [(iv 0), (iv 0), (iv 0), (iv 0)], pb 1 30 (clss (knownN l i))] (obs_nil) ?_
          refine T_blk ?_
          refine T_r mixed [] [ps 0 (.ssl (pts l) 0 l.length), ps 2 (.opt 0 0), ps 4 (.osl 1 0 ((knownN l i).length)), ps 5 (nv i), ps 13 (.ssl (pts l) 0 l.length), ps 14 (nv l.length), ps 15 (iv (((i : Nat) : Int) + 1)), pb 0 32 [(iv 0), (iv 0), (iv 0), (iv 0)], pb 1 30 (clss (knownN l i))] (obs_cons (by simp only [InK]; omega : InK .i64 (((i : Nat) : Int) + 1)) obs_nil) ?_
          have hkn := known_len l i
          have hk1 : knownN l (i + 1) = knownN l i := by rw [known_next]; exact addK_yes h3
          have hl1 : lowI l (i + 1) = (i : Int) := by rw [low_next]; exact if_pos (.inr h5)
          exact T_back ⟨i + 1, ⟨by show i + 1 ≤ l.length; omega, by show ∀ j, j < i + 1 → rb (l.getD j dPt) = true; intro j hj; by_cases hji : j < i; exact hri j hji; rw [show j = i from by omega]; exact h2⟩⟩ (Wk.trans (Wk.eq (show _ = [ps 0 (.ssl (pts l) 0 l.length), ps 2 (.opt 0 0), ps 4 (.osl 1 0 ((knownN l (i + 1)).length)), ps 5 (iv (lowI l (i + 1))), ps 13 (.ssl (pts l) 0 l.length), ps 14 (nv l.length), ps 15 (nv (i + 1)), pb 0 32 [(iv 0), (iv 0), (iv 0), (iv 0)], pb 1 30 (clss (knownN l (i + 1)))] from by rw [hl1, hk1]; rfl)) (Wk.ren3 [ps 0 (.ssl (pts l) 0 l.length), ps 2 (.opt 0 0), ps 4 (.osl 1 0 ((knownN l (i + 1)).length)), ps 5 (iv (lowI l (i + 1))), ps 13 (.ssl (pts l) 0 l.length), ps 14 (nv l.length), ps 15 (nv (i + 1)), pb 0 32 [(iv 0), (iv 0), (iv 0), (iv 0)], pb 1 30 (clss (knownN l (i + 1)))] 0 hc0 [0, 1] [(kb 1, (clss (knownN l (i + 1))))] (obs_cons (clss_shd _) (obs_nil)) (by kernel_rfl) rfl rfl (by kernel_rfl) (by kernel_rfl))) (show l.length - (i + 1) < l.length - i from by show l.length - (i + 1) < l.length - i; omega)
        refine T_else (b := (belowB (l.getD i dPt) (l.getD ((lowI l i).toNat) dPt))) rfl (Bool.eq_false_iff.2 h5) ?_
        refine T_skip <| T_blk ?_
        refine T_r mixed [] [ps 0 (.ssl (pts l) 0 l.length), ps 2 (.opt 0 0), ps 4 (.osl 1 0 ((knownN l i).length)), ps 5 (iv (lowI l i)), ps 13 (.ssl (pts l) 0 l.length), ps 14 (nv l.length), ps 15 (iv (((i : Nat) : Int) + 1)), pb 0 32 [(iv 0), (iv 0), (iv 0), (iv 0)], pb 1 30 (clss (knownN l i))] (obs_cons (by simp only [InK]; omega : InK .i64 (((i : Nat) : Int) + 1)) obs_nil) ?_
        have hkn := known_len l i
        have hk1 : knownN l (i + 1) = knownN l i := by rw [known_next]; exact addK_yes h3
        have hl1 : lowI l (i + 1) = lowI l i := by rw [low_next]; exact if_neg (by rintro (c | c); exact h4 c; exact h5 c)
        exact T_back ⟨i + 1, ⟨by show i + 1 ≤ l.length; omega, by show ∀ j, j < i + 1 → rb (l.getD j dPt) = true; intro j hj; by_cases hji : j < i; exact hri j hji; rw [show j = i from by omega]; exact h2⟩⟩ (Wk.trans (Wk.eq (show _ = [ps 0 (.ssl (pts l) 0 l.length), ps 2 (.opt 0 0), ps 4 (.osl 1 0 ((knownN l (i + 1)).length)), ps 5 (iv (lowI l (i + 1))), ps 13 (.ssl (pts l) 0 l.length), ps 14 (nv l.length), ps 15 (nv (i + 1)), pb 0 32 [(iv 0), (iv 0), (iv 0), (iv 0)], pb 1 30 (clss (knownN l (i + 1)))] from by rw [hl1, hk1]; rfl)) (Wk.ren3 [ps 0 (.ssl (pts l) 0 l.length), ps 2 (.opt 0 0), ps 4 (.osl 1 0 ((knownN l (i + 1)).length)), ps 5 (iv (lowI l (i + 1))), ps 13 (.ssl (pts l) 0 l.length), ps 14 (nv l.length), ps 15 (nv (i + 1)), pb 0 32 [(iv 0), (iv 0), (iv 0), (iv 0)], pb 1 30 (clss (knownN l (i + 1)))] 0 hc0 [0, 1] [(kb 1, (clss (knownN l (i + 1))))] (obs_cons (clss_shd _) (obs_nil)) (by kernel_rfl) rfl rfl (by kernel_rfl) (by kernel_rfl))) (show l.length - (i + 1) < l.length - i from by show l.length - (i + 1) < l.length - i; omega)
      refine T_th (bf h3) ?_
      refine T_r mixed [(2, .call [] [(.agg [(iv ((l.getD i dPt).1)), (iv ((l.getD i dPt).2.1)), (iv ((l.getD i dPt).2.2))])] [] (.agg [(iv ((l.getD i dPt).1)), (iv ((l.getD i dPt).2.1))]) []), (4, .app none (some (clss ((knownN l i) ++ [((l.getD i dPt).1, (l.getD i dPt).2.1)]))))] [ps 0 (.ssl (pts l) 0 l.length), ps 2 (.opt 0 0), ps 4 (.osl 154 0 (((knownN l i).length) + 1)), ps 5 (iv (lowI l i)), ps 6 (nv i), ps 7 (.opt 34 0), ps 13 (.ssl (pts l) 0 l.length), ps 14 (nv l.length), ps 15 (nv i), pb 0 32 [(iv 0), (iv 0), (iv 0), (iv 0)], pb 34 23 [(iv ((l.getD i dPt).1)), (iv ((l.getD i dPt).2.1)), (iv ((l.getD i dPt).2.2))], pb 154 30 (clss ((knownN l i) ++ [((l.getD i dPt).1, (l.getD i dPt).2.1)]))] (obs_cons (class_pc (l.getD i dPt)) (obs_cons (rfl : Ren0 138 [(.agg [(iv ((l.getD i dPt).1)), (iv ((l.getD i dPt).2.1)), (iv ((l.getD i dPt).2.2))])]) (obs_cons (clss_len _ : ((clss (knownN l i))).length = ((knownN l i).length) * 2) (obs_cons (by omega : (((knownN l i).length) + 1) * 16 ≤ 140737488355328 ∧ ((knownN l i).length) + 1 ≤ 9223372036854775807) (obs_cons ((flat_app clC (knownN l i) [((l.getD i dPt).1, (l.getD i dPt).2.1)]).symm : (clss (knownN l i)) ++ [(iv ((l.getD i dPt).1)), (iv ((l.getD i dPt).2.1))] = (clss ((knownN l i) ++ [((l.getD i dPt).1, (l.getD i dPt).2.1)]))) obs_nil))))) ?_
      refine T_seq ?_
      by_cases h6 : (lowI l i) < 0
      · refine T_rd mixed [(3, .gd true .no), (4, .gd true .no), (5, .gd true .no), (6, .gd true .no), (7, .gd true .no), (8, .gd true .no), (9, .yes true)] [[], [0], [0, 1], [0, 1, 2], [0, 1, 2], [0, 1, 2], [0, 1, 2, 4, 5], [0, 1, 2, 4, 5, 6], [0, 1, 2, 3, 4, 5, 6, 7], [0, 1, 2, 3, 4, 5, 6, 7, 8]] [([68], [10]), ([70], [68]), ([72], [70]), ([74], [72]), ([76], [72]), ([78], [72]), ([80], [72]), ([82], [72]), ([84], [72]), ([86], [72, 84])] [ps 0 (.ssl (pts l) 0 l.length), ps 2 (.opt 0 0), ps 4 (.osl 154 0 (((knownN l i).length) + 1)), ps 5 (iv (lowI l i)), ps 6 (nv i), ps 13 (.ssl (pts l) 0 l.length), ps 14 (nv l.length), ps 15 (nv i), ps 43 (bv true), pb 0 32 [(iv 0), (iv 0), (iv 0), (iv 0)], pb 154 30 (clss ((knownN l i) ++ [((l.getD i dPt).1, (l.getD i dPt).2.1)]))] (obs_cons (decide_eq_true h6) (obs_cons (decide_eq_true h6) (obs_cons (decide_eq_true h6) (obs_cons (decide_eq_true h6) (obs_cons (decide_eq_true h6) (obs_cons (decide_eq_true h6) (obs_cons (decide_eq_true h6) obs_nil))))))) ?_
        refine T_then (b := true) rfl rfl ?_
        refine T_r mixed [] [ps 0 (.ssl (pts l) 0 l.length), ps 2 (.opt 0 0), ps 4 (.osl 154 0 (((knownN l i).length) + 1)), ps 5 (nv i), ps 13 (.ssl (pts l) 0 l.length), ps 14 (nv l.length), ps 15 (nv i), pb 0 32 [(iv 0), (iv 0), (iv 0), (iv 0)], pb 154 30 (clss ((knownN l i) ++ [((l.getD i dPt).1, (l.getD i dPt).2.1)]))] (obs_nil) ?_
        refine T_blk ?_
        refine T_r mixed [] [ps 0 (.ssl (pts l) 0 l.length), ps 2 (.opt 0 0), ps 4 (.osl 154 0 (((knownN l i).length) + 1)), ps 5 (nv i), ps 13 (.ssl (pts l) 0 l.length), ps 14 (nv l.length), ps 15 (iv (((i : Nat) : Int) + 1)), pb 0 32 [(iv 0), (iv 0), (iv 0), (iv 0)], pb 154 30 (clss ((knownN l i) ++ [((l.getD i dPt).1, (l.getD i dPt).2.1)]))] (obs_cons (by simp only [InK]; omega : InK .i64 (((i : Nat) : Int) + 1)) obs_nil) ?_
        have hkn := known_len l i
        have hk1 : knownN l (i + 1) = knownN l i ++ [cl (l.getD i dPt)] := by rw [known_next]; exact addK_no h3
        have hl1 : lowI l (i + 1) = (i : Int) := by rw [low_next]; exact if_pos (.inl h6)
        exact T_back ⟨i + 1, ⟨by show i + 1 ≤ l.length; omega, by show ∀ j, j < i + 1 → rb (l.getD j dPt) = true; intro j hj; by_cases hji : j < i; exact hri j hji; rw [show j = i from by omega]; exact h2⟩⟩ (Wk.trans (Wk.eq (show _ = [ps 0 (.ssl (pts l) 0 l.length), ps 2 (.opt 0 0), ps 4 (.osl 154 0 ((knownN l (i + 1)).length)), ps 5 (iv (lowI l (i + 1))), ps 13 (.ssl (pts l) 0 l.length), ps 14 (nv l.length), ps 15 (nv (i + 1)), pb 0 32 [(iv 0), (iv 0), (iv 0), (iv 0)], pb 154 30 (clss (knownN l (i + 1)))] from by rw [hl1, hk1]; rw [List.length_append]; rfl)) (Wk.ren3 [ps 0 (.ssl (pts l) 0 l.length), ps 2 (.opt 0 0), ps 4 (.osl 1 0 ((knownN l (i + 1)).length)), ps 5 (iv (lowI l (i + 1))), ps 13 (.ssl (pts l) 0 l.length), ps 14 (nv l.length), ps 15 (nv (i + 1)), pb 0 32 [(iv 0), (iv 0), (iv 0), (iv 0)], pb 1 30 (clss (knownN l (i + 1)))] 0 hc0 [0, 154] [(kb 1, (clss (knownN l (i + 1))))] (obs_cons (clss_shd _) (obs_nil)) (by kernel_rfl) rfl rfl (by kernel_rfl) (by kernel_rfl))) (show l.length - (i + 1) < l.length - i from by show l.length - (i + 1) < l.length - i; omega)
      refine T_rd mixed [(3, .gd false (.no)), (4, .gd false (.no)), (5, .gd false (.no)), (6, .gd false (.nat (((lowI l i).toNat) * 3))), (7, .gd false (.cells [(iv ((l.getD ((lowI l i).toNat) dPt).1)), (iv ((l.getD ((lowI l i).toNat) dPt).2.1)), (iv ((l.getD ((lowI l i).toNat) dPt).2.2))])), (8, .gd false (.call [] [(.agg [(iv ((l.getD i dPt).1)), (iv ((l.getD i dPt).2.1)), (iv ((l.getD i dPt).2.2))]), (.agg [(iv ((l.getD ((lowI l i).toNat) dPt).1)), (iv ((l.getD ((lowI l i).toNat) dPt).2.1)), (iv ((l.getD ((lowI l i).toNat) dPt).2.2))])] [] (bv (belowB (l.getD i dPt) (l.getD ((lowI l i).toNat) dPt))) [])), (9, .yes false)] [[], [0], [0, 1], [0, 1, 2], [0, 1, 2], [0, 1, 2], [0, 1, 2, 4, 5], [0, 1, 2, 4, 5, 6], [0, 1, 2, 3, 4, 5, 6, 7], [0, 1, 2, 3, 4, 5, 6, 7, 8]] [([68], [10]), ([70], [68]), ([72], [70]), ([74], [14, 69, 72]), ([76], [0, 72]), ([78], [10, 72]), ([80], [72, 76, 78]), ([82], [72, 80]), ([84], [72, 74, 82]), ([86], [72, 84])] [ps 0 (.ssl (pts l) 0 l.length), ps 2 (.opt 0 0), ps 4 (.osl 154 0 (((knownN l i).length) + 1)), ps 5 (iv (lowI l i)), ps 6 (nv i), ps 13 (.ssl (pts l) 0 l.length), ps 14 (nv l.length), ps 15 (nv i), ps 43 (bv (belowB (l.getD i dPt) (l.getD ((lowI l i).toNat) dPt))), pb 0 32 [(iv 0), (iv 0), (iv 0), (iv 0)], pb 154 30 (clss ((knownN l i) ++ [((l.getD i dPt).1, (l.getD i dPt).2.1)]))] (obs_cons (decide_eq_false h6) (obs_cons (decide_eq_false h6) (obs_cons (decide_eq_false h6) (obs_cons (decide_eq_false h6) (obs_cons (by omega : (0 : Int) ≤ (lowI l i) ∧ (lowI l i) < ((l.length : Nat) : Int)) (obs_cons (by omega : 0 + ((lowI l i) : Int).toNat * 3 = (((lowI l i).toNat) * 3)) (obs_cons (decide_eq_false h6) (obs_cons (flat_at ptC 3 (fun _ => rfl) dPt l ((lowI l i).toNat) 0 3 (by omega) (by decide) : (((lowI l i).toNat) * 3) + 3 ≤ ((pts l)).length ∧ (((pts l)).drop (((lowI l i).toNat) * 3)).take 3 = [(iv ((l.getD ((lowI l i).toNat) dPt).1)), (iv ((l.getD ((lowI l i).toNat) dPt).2.1)), (iv ((l.getD ((lowI l i).toNat) dPt).2.2))]) (obs_cons (decide_eq_false h6) (obs_cons (below_pc (l.getD i dPt) (l.getD ((lowI l i).toNat) dPt) h2 (hri _ (by omega)) : PC Tryz.prog 24 [(.agg [(iv ((l.getD i dPt).1)), (iv ((l.getD i dPt).2.1)), (iv ((l.getD i dPt).2.2))]), (.agg [(iv ((l.getD ((lowI l i).toNat) dPt).1)), (iv ((l.getD ((lowI l i).toNat) dPt).2.1)), (iv ((l.getD ((lowI l i).toNat) dPt).2.2))])] [] (bv (belowB (l.getD i dPt) (l.getD ((lowI l i).toNat) dPt))) []) (obs_cons (rfl : Ren0 234 [(.agg [(iv ((l.getD i dPt).1)), (iv ((l.getD i dPt).2.1)), (iv ((l.getD i dPt).2.2))]), (.agg [(iv ((l.getD ((lowI l i).toNat) dPt).1)), (iv ((l.getD ((lowI l i).toNat) dPt).2.1)), (iv ((l.getD ((lowI l i).toNat) dPt).2.2))])]) (obs_cons (decide_eq_false h6) obs_nil)))))))))))) ?_
      by_cases h7 : (belowB (l.getD i dPt) (l.getD ((lowI l i).toNat) dPt)) = true
      · refine T_then (b := (belowB (l.getD i dPt) (l.getD ((lowI l i).toNat) dPt))) rfl h7 ?_
        refine T_r mixed [] [ps 0 (.ssl (pts l) 0 l.length), ps 2 (.opt 0 0), ps 4 (.osl 154 0 (((knownN l i).length) + 1)), ps 5 (nv i), ps 13 (.ssl (pts l) 0 l.length), ps 14 (nv l.length), ps 15 (nv i), pb 0 32 [(iv 0), (iv 0), (iv 0), (iv 0)], pb 154 30 (clss ((knownN l i) ++ [((l.getD i dPt).1, (l.getD i dPt).2.1)]))] (obs_nil) ?_
        refine T_blk ?_
        refine T_r mixed [] [ps 0 (.ssl (pts l) 0 l.length), ps 2 (.opt 0 0), ps 4 (.osl 154 0 (((knownN l i).length) + 1)), ps 5 (nv i), ps 13 (.ssl (pts l) 0 l.length), ps 14 (nv l.length), ps 15 (iv (((i : Nat) : Int) + 1)), pb 0 32 [(iv 0), (iv 0), (iv 0), (iv 0)], pb 154 30 (clss ((knownN l i) ++ [((l.getD i dPt).1, (l.getD i dPt).2.1)]))] (obs_cons (by simp only [InK]; omega : InK .i64 (((i : Nat) : Int) + 1)) obs_nil) ?_
        have hkn := known_len l i
        have hk1 : knownN l (i + 1) = knownN l i ++ [cl (l.getD i dPt)] := by rw [known_next]; exact addK_no h3
        have hl1 : lowI l (i + 1) = (i : Int) := by rw [low_next]; exact if_pos (.inr h7)
        exact T_back ⟨i + 1, ⟨by show i + 1 ≤ l.length; omega, by show ∀ j, j < i + 1 → rb (l.getD j dPt) = true; intro j hj; by_cases hji : j < i; exact hri j hji; rw [show j = i from by omega]; exact h2⟩⟩ (Wk.trans (Wk.eq (show _ = [ps 0 (.ssl (pts l) 0 l.length), ps 2 (.opt 0 0), ps 4 (.osl 154 0 ((knownN l (i + 1)).length)), ps 5 (iv (lowI l (i + 1))), ps 13 (.ssl (pts l) 0 l.length), ps 14 (nv l.length), ps 15 (nv (i + 1)), pb 0 32 [(iv 0), (iv 0), (iv 0), (iv 0)], pb 154 30 (clss (knownN l (i + 1)))] from by rw [hl1, hk1]; rw [List.length_append]; rfl)) (Wk.ren3 [ps 0 (.ssl (pts l) 0 l.length), ps 2 (.opt 0 0), ps 4 (.osl 1 0 ((knownN l (i + 1)).length)), ps 5 (iv (lowI l (i + 1))), ps 13 (.ssl (pts l) 0 l.length), ps 14 (nv l.length), ps 15 (nv (i + 1)), pb 0 32 [(iv 0), (iv 0), (iv 0), (iv 0)], pb 1 30 (clss (knownN l (i + 1)))] 0 hc0 [0, 154] [(kb 1, (clss (knownN l (i + 1))))] (obs_cons (clss_shd _) (obs_nil)) (by kernel_rfl) rfl rfl (by kernel_rfl) (by kernel_rfl))) (show l.length - (i + 1) < l.length - i from by show l.length - (i + 1) < l.length - i; omega)
      refine T_else (b := (belowB (l.getD i dPt) (l.getD ((lowI l i).toNat) dPt))) rfl (Bool.eq_false_iff.2 h7) ?_
      refine T_skip <| T_blk ?_
      refine T_r mixed [] [ps 0 (.ssl (pts l) 0 l.length), ps 2 (.opt 0 0), ps 4 (.osl 154 0 (((knownN l i).length) + 1)), ps 5 (iv (lowI l i)), ps 13 (.ssl (pts l) 0 l.length), ps 14 (nv l.length), ps 15 (iv (((i : Nat) : Int) + 1)), pb 0 32 [(iv 0), (iv 0), (iv 0), (iv 0)], pb 154 30 (clss ((knownN l i) ++ [((l.getD i dPt).1, (l.getD i dPt).2.1)]))] (obs_cons (by simp only [InK]; omega : InK .i64 (((i : Nat) : Int) + 1)) obs_nil) ?_
      have hkn := known_len l i
      have hk1 : knownN l (i + 1) = knownN l i ++ [cl (l.getD i dPt)] := by rw [known_next]; exact addK_no h3
      have hl1 : lowI l (i + 1) = lowI l i := by rw [low_next]; exact if_neg (by rintro (c | c); exact h6 c; exact h7 c)
      exact T_back ⟨i + 1, ⟨by show i + 1 ≤ l.length; omega, by show ∀ j, j < i + 1 → rb (l.getD j dPt) = true; intro j hj; by_cases hji : j < i; exact hri j hji; rw [show j = i from by omega]; exact h2⟩⟩ (Wk.trans (Wk.eq (show _ = [ps 0 (.ssl (pts l) 0 l.length), ps 2 (.opt 0 0), ps 4 (.osl 154 0 ((knownN l (i + 1)).length)), ps 5 (iv (lowI l (i + 1))), ps 13 (.ssl (pts l) 0 l.length), ps 14 (nv l.length), ps 15 (nv (i + 1)), pb 0 32 [(iv 0), (iv 0), (iv 0), (iv 0)], pb 154 30 (clss (knownN l (i + 1)))] from by rw [hl1, hk1]; rw [List.length_append]; rfl)) (Wk.ren3 [ps 0 (.ssl (pts l) 0 l.length), ps 2 (.opt 0 0), ps 4 (.osl 1 0 ((knownN l (i + 1)).length)), ps 5 (iv (lowI l (i + 1))), ps 13 (.ssl (pts l) 0 l.length), ps 14 (nv l.length), ps 15 (nv (i + 1)), pb 0 32 [(iv 0), (iv 0), (iv 0), (iv 0)], pb 1 30 (clss (knownN l (i + 1)))] 0 hc0 [0, 154] [(kb 1, (clss (knownN l (i + 1))))] (obs_cons (clss_shd _) (obs_nil)) (by kernel_rfl) rfl rfl (by kernel_rfl) (by kernel_rfl))) (show l.length - (i + 1) < l.length - i from by show l.length - (i + 1) < l.length - i; omega)
    refine T_th (congrArg Bool.not (Bool.eq_false_iff.2 h2)) ?_
    refine T_seq ?_
    refine T_r mixed [] [ps 2 (.opt 0 0), ps 3 (iv 2), pb 0 32 [(iv 0), (iv 0), (iv 0), (iv 0)]] (obs_nil) ?_
    rw [what_form (show i < l.length from by omega) h2]
    exact T_ret fun cx_ a_ hI_ => loop_ret (rt hc0 [ps 2 (.opt 0 0), ps 3 (iv 2), pb 0 32 [(iv 0), (iv 0), (iv 0), (iv 0)]] [0] hI_)
  refine T_el (decide_eq_false h1) ?_
  refine T_break rfl rfl ?_
  refine T_seq <| T_seq ?_
  have hil : i = l.length := by omega
  subst hil
  have hlb := low_bd l l.length
  have hkl := known_len l l.length
  have hko := known_ok hri
  obtain ⟨kn, hkn⟩ : ∃ kn, kn = knownN l l.length := ⟨_, rfl⟩
  obtain ⟨lw, hlw⟩ : ∃ lw, lw = lowI l l.length := ⟨_, rfl⟩
  refine T_wk (Wk.eq (show _ = [ps 0 (.ssl (pts l) 0 l.length), ps 2 (.opt 0 0), ps 4 (.osl 1 0 kn.length), ps 5 (iv lw), ps 13 (.ssl (pts l) 0 l.length), ps 14 (nv l.length), ps 15 (nv l.length), ps 16 (bv (decide (((l.length : Nat) : Int) < ((l.length : Nat) : Int)))), pb 0 32 [(iv 0), (iv 0), (iv 0), (iv 0)], pb 1 30 (clss kn)] from by rw [hkn, hlw])) ?_
  rw [← hkn] at hkl hko
  rw [← hlw] at hlb
  refine T_r mixed [] [ps 0 (.ssl (pts l) 0 l.length), ps 2 (.opt 0 0), ps 4 (.osl 1 0 kn.length), ps 5 (iv lw), ps 46 (.osl 1 0 kn.length), ps 47 (nv kn.length), ps 48 (iv 0), pb 0 32 [(iv 0), (iv 0), (iv 0), (iv 0)], pb 1 30 (clss kn)] (obs_nil) ?_
  refine T_block ?_
  refine T_loop (α := {x : Nat // x ≤ kn.length ∧ firstR kn (cl (l.getD (lw).toNat dPt)) (kn.drop x) = firstR kn (cl (l.getD (lw).toNat dPt)) kn}) (fun x => [ps 0 (.ssl (pts l) 0 l.length), ps 2 (.opt 0 0), ps 4 (.osl 1 0 kn.length), ps 5 (iv lw), ps 46 (.osl 1 0 kn.length), ps 47 (nv kn.length), ps 48 (nv x.1), pb 0 32 [(iv 0), (iv 0), (iv 0), (iv 0)], pb 1 30 (clss kn)]) (fun x => kn.length - x.1) 2 ⟨0, ⟨Nat.zero_le _, rfl⟩⟩ (Wk.ren3 [ps 0 (.ssl (pts l) 0 l.length), ps 2 (.opt 0 0), ps 4 (.osl 1 0 kn.length), ps 5 (iv lw), ps 46 (.osl 1 0 kn.length), ps 47 (nv kn.length), ps 48 (nv 0), pb 0 32 [(iv 0), (iv 0), (iv 0), (iv 0)], pb 1 30 (clss kn)] 0 hc0 [0, 1] [(kb 1, (clss kn))] (obs_cons (clss_shd _) (obs_nil)) (by kernel_rfl) rfl rfl (by kernel_rfl) (by kernel_rfl)) ?_
  rintro ⟨j, ⟨hj, hF⟩⟩
  refine T_seq ?_
  refine T_r mixed [] [ps 0 (.ssl (pts l) 0 l.length), ps 2 (.opt 0 0), ps 4 (.osl 1 0 kn.length), ps 5 (iv lw), ps 46 (.osl 1 0 kn.length), ps 47 (nv kn.length), ps 48 (nv j), ps 49 (bv (decide (((j : Nat) : Int) < ((kn.length : Nat) : Int)))), pb 0 32 [(iv 0), (iv 0), (iv 0), (iv 0)], pb 1 30 (clss kn)] (obs_nil) ?_
  refine T_seq ?_
  by_cases h8 : ((j : Nat) : Int) < ((kn.length : Nat) : Int)
  · refine T_th (decide_eq_true h8) ?_
    refine T_skip <| T_seq <| T_block <| T_seq ?_
    refine T_r mixed [(0, .nat (j * 2)), (1, .cells [(iv ((kn.getD j dCl).1)), (iv ((kn.getD j dCl).2))])] [ps 0 (.ssl (pts l) 0 l.length), ps 2 (.opt 0 0), ps 4 (.osl 1 0 kn.length), ps 5 (iv lw), ps 9 (.opt 26 0), ps 46 (.osl 1 0 kn.length), ps 47 (nv kn.length), ps 48 (nv j), pb 0 32 [(iv 0), (iv 0), (iv 0), (iv 0)], pb 1 30 (clss kn), pb 26 30 [(iv ((kn.getD j dCl).1)), (iv ((kn.getD j dCl).2))]] (obs_cons (by omega : (0 : Int) ≤ ((j : Nat) : Int) ∧ ((j : Nat) : Int) < ((kn.length : Nat) : Int)) (obs_cons (by omega : 0 + (((j : Nat) : Int) : Int).toNat * 2 = (j * 2)) (obs_cons (flat_at clC 2 (fun _ => rfl) dCl kn j 0 2 (by omega) (by decide) : (j * 2) + 2 ≤ ((clss kn)).length ∧ (((clss kn)).drop (j * 2)).take 2 = [(iv ((kn.getD j dCl).1)), (iv ((kn.getD j dCl).2))]) obs_nil))) ?_
    refine T_seq ?_
    have hjl : j < kn.length := by omega
    have hok := hko _ (show kn.getD j dCl ∈ kn from by rw [List.getD_eq_getElem?_getD, List.getElem?_eq_getElem hjl]; exact List.getElem_mem hjl)
    refine T_r mixed [] [ps 0 (.ssl (pts l) 0 l.length), ps 2 (.opt 0 0), ps 4 (.osl 1 0 kn.length), ps 5 (iv lw), ps 9 (.opt 26 0), ps 10 (iv 1), ps 46 (.osl 1 0 kn.length), ps 47 (nv kn.length), ps 48 (nv j), pb 0 32 [(iv 0), (iv 0), (iv 0), (iv 0)], pb 1 30 (clss kn), pb 26 30 [(iv ((kn.getD j dCl).1)), (iv ((kn.getD j dCl).2))]] (obs_nil) ?_
    refine T_block ?_
    refine T_loop (α := {x : Nat // x ≤ 10 ∧ 1 ≤ x ∧ firstK (kn.getD j dCl) kn (cl (l.getD (lw).toNat dPt)) (10 - x) ((x : Nat) : Int) = firstK (kn.getD j dCl) kn (cl (l.getD (lw).toNat dPt)) 9 1}) (fun x => [ps 0 (.ssl (pts l) 0 l.length), ps 2 (.opt 0 0), ps 4 (.osl 1 0 kn.length), ps 5 (iv lw), ps 9 (.opt 2 0), ps 10 (nv x.1), ps 46 (.osl 1 0 kn.length), ps 47 (nv kn.length), ps 48 (nv j), pb 0 32 [(iv 0), (iv 0), (iv 0), (iv 0)], pb 1 30 (clss kn), pb 2 30 [(iv ((kn.getD j dCl).1)), (iv ((kn.getD j dCl).2))]]) (fun x => 10 - x.1) 3 ⟨1, ⟨by decide, by decide, rfl⟩⟩ (Wk.ren3 [ps 0 (.ssl (pts l) 0 l.length), ps 2 (.opt 0 0), ps 4 (.osl 1 0 kn.length), ps 5 (iv lw), ps 9 (.opt 2 0), ps 10 (nv 1), ps 46 (.osl 1 0 kn.length), ps 47 (nv kn.length), ps 48 (nv j), pb 0 32 [(iv 0), (iv 0), (iv 0), (iv 0)], pb 1 30 (clss kn), pb 2 30 [(iv ((kn.getD j dCl).1)), (iv ((kn.getD j dCl).2))]] 0 hc0 [0, 1, 26] [(kb 1, (clss kn))] (obs_cons (clss_shd _) (obs_nil)) (by kernel_rfl) rfl rfl (by kernel_rfl) (by kernel_rfl)) ?_
    rintro ⟨q, ⟨hq, hq1, hK⟩⟩
    refine T_seq <| T_seq ?_
    refine T_r mixed [] [ps 0 (.ssl (pts l) 0 l.length), ps 2 (.opt 0 0), ps 4 (.osl 1 0 kn.length), ps 5 (iv lw), ps 9 (.opt 2 0), ps 10 (nv q), ps 46 (.osl 1 0 kn.length), ps 47 (nv kn.length), ps 48 (nv j), ps 53 (bv (decide (((q : Nat) : Int) ≤ 9))), pb 0 32 [(iv 0), (iv 0), (iv 0), (iv 0)], pb 1 30 (clss kn), pb 2 30 [(iv ((kn.getD j dCl).1)), (iv ((kn.getD j dCl).2))]] (obs_nil) ?_
    by_cases h9 : ((q : Nat) : Int) ≤ 9
    · refine T_th (decide_eq_true h9) ?_
      refine T_skip <| T_seq <| T_block <| T_seq ?_
      refine T_rd mixed [(5, .nat (((lw).toNat) * 3)), (6, .cells [(iv ((l.getD ((lw).toNat) dPt).1)), (iv ((l.getD ((lw).toNat) dPt).2.1)), (iv ((l.getD ((lw).toNat) dPt).2.2))]), (7, .call [] [(.agg [(iv ((l.getD ((lw).toNat) dPt).1)), (iv ((l.getD ((lw).toNat) dPt).2.1)), (iv ((l.getD ((lw).toNat) dPt).2.2))])] [] (.agg [(iv ((l.getD ((lw).toNat) dPt).1)), (iv ((l.getD ((lw).toNat) dPt).2.1))]) []), (8, .callR [1] [(.agg [(iv ((kn.getD j dCl).1)), (iv ((kn.getD j dCl).2))]), (nv q), (.osl 0 0 kn.length), (.agg [(iv ((l.getD ((lw).toNat) dPt).1)), (iv ((l.getD ((lw).toNat) dPt).2.1))])] [some (30, (clss kn))] (.tup [(iv (fitT (kn.getD j dCl) ((q : Nat) : Int) kn (cl (l.getD (lw).toNat dPt)))), (bv (fitsB (kn.getD j dCl) ((q : Nat) : Int) kn))]))] [[], [], [], [], [], [3, 4], [3, 4, 5], [3, 4, 5, 6], [0, 1, 2, 3, 4, 5, 6, 7], [0, 1, 2, 3, 4, 5, 6, 7, 8], [0, 1, 2, 3, 4, 5, 6, 7, 8, 9], [0, 1, 2, 3, 4, 5, 6, 7, 8, 9], [0, 1, 2, 3, 4, 5, 6, 7, 8, 9, 10], [0, 1, 2, 3, 4, 5, 6, 7, 8, 9, 10, 11, 12]] [([114], [5, 18]), ([116], [20]), ([118], [8]), ([120], [0]), ([122], [10]), ([124], [120, 122]), ([126], [124]), ([128], [126]), ([130], [3, 114, 116, 118, 128]), ([112], [130]), ([132], [112]), ([134], [112]), ([22], [132]), ([24], [134])] [ps 0 (.ssl (pts l) 0 l.length), ps 2 (.opt 0 0), ps 4 (.osl 1 0 kn.length), ps 5 (iv lw), ps 9 (.opt 2 0), ps 10 (nv q), ps 11 (iv (fitT (kn.getD j dCl) ((q : Nat) : Int) kn (cl (l.getD (lw).toNat dPt)))), ps 12 (bv (fitsB (kn.getD j dCl) ((q : Nat) : Int) kn)), ps 46 (.osl 1 0 kn.length), ps 47 (nv kn.length), ps 48 (nv j), pb 0 32 [(iv 0), (iv 0), (iv 0), (iv 0)], pb 1 30 (clss kn), pb 2 30 [(iv ((kn.getD j dCl).1)), (iv ((kn.getD j dCl).2))]] (obs_cons (by omega : (0 : Int) ≤ lw ∧ lw < ((l.length : Nat) : Int)) (obs_cons (by omega : 0 + (lw : Int).toNat * 3 = (((lw).toNat) * 3)) (obs_cons (flat_at ptC 3 (fun _ => rfl) dPt l ((lw).toNat) 0 3 (by omega) (by decide) : (((lw).toNat) * 3) + 3 ≤ ((pts l)).length ∧ (((pts l)).drop (((lw).toNat) * 3)).take 3 = [(iv ((l.getD ((lw).toNat) dPt).1)), (iv ((l.getD ((lw).toNat) dPt).2.1)), (iv ((l.getD ((lw).toNat) dPt).2.2))]) (obs_cons (class_pc (l.getD ((lw).toNat) dPt)) (obs_cons (rfl : Ren0 75 [(.agg [(iv ((l.getD ((lw).toNat) dPt).1)), (iv ((l.getD ((lw).toNat) dPt).2.1)), (iv ((l.getD ((lw).toNat) dPt).2.2))])]) (obs_cons (fits_pc (kn.getD j dCl) ((q : Nat) : Int) kn (cl (l.getD (lw).toNat dPt)) hok.1 hok.2.1 hok.2.2 (by omega) (by omega)) (obs_cons (rfl : [(.agg [(iv ((kn.getD j dCl).1)), (iv ((kn.getD j dCl).2))]), (nv q), (.osl 1 0 kn.length), (.agg [(iv ((l.getD ((lw).toNat) dPt).1)), (iv ((l.getD ((lw).toNat) dPt).2.1))])] = renL (sigi [1] 83) [(.agg [(iv ((kn.getD j dCl).1)), (iv ((kn.getD j dCl).2))]), (nv q), (.osl 0 0 kn.length), (.agg [(iv ((l.getD ((lw).toNat) dPt).1)), (iv ((l.getD ((lw).toNat) dPt).2.1))])]) (obs_cons ((renL_shd (clss_shd _)).symm : (clss kn) = renL (sigi [1] 83) (clss kn)) (obs_cons ((renL_shd (clss_shd _)).symm : (clss kn) = renL (sigo [1] 83) (clss kn)) obs_nil))))))))) ?_
      refine T_seq ?_
      refine T_r mixed [] [ps 0 (.ssl (pts l) 0 l.length), ps 2 (.opt 0 0), ps 4 (.osl 1 0 kn.length), ps 5 (iv lw), ps 9 (.opt 2 0), ps 10 (nv q), ps 11 (iv (fitT (kn.getD j dCl) ((q : Nat) : Int) kn (cl (l.getD (lw).toNat dPt)))), ps 46 (.osl 1 0 kn.length), ps 47 (nv kn.length), ps 48 (nv j), ps 68 (bv (fitsB (kn.getD j dCl) ((q : Nat) : Int) kn)), pb 0 32 [(iv 0), (iv 0), (iv 0), (iv 0)], pb 1 30 (clss kn), pb 2 30 [(iv ((kn.getD j dCl).1)), (iv ((kn.getD j dCl).2))]] (obs_nil) ?_
      by_cases h10 : (fitsB (kn.getD j dCl) ((q : Nat) : Int) kn) = true
      · refine T_then (b := (fitsB (kn.getD j dCl) ((q : Nat) : Int) kn)) rfl h10 ?_
        refine T_seq ?_
        refine T_r mixed [] [ps 2 (.opt 0 0), ps 3 (iv 0), pb 0 32 [(iv ((kn.getD j dCl).1)), (iv ((kn.getD j dCl).2)), (nv q), (iv (fitT (kn.getD j dCl) ((q : Nat) : Int) kn (cl (l.getD (lw).toNat dPt))))]] (obs_nil) ?_
        rw [what_found hri hkn (lw := (cl (l.getD (lw).toNat dPt))) (by rw [hlw]) hjl hF (show q ≤ 9 from by omega) hK h10]
        refine T_wk (Wk.eq (show _ = [ps 2 (.opt 0 0), ps 3 (iv 0), pb 0 32 [(iv ((kn.getD j dCl).1)), (iv ((kn.getD j dCl).2)), (iv ((q : Nat) : Int)), (iv (idxC (cl (l.getD (lw).toNat dPt)) (allS (kn.getD j dCl) ((q : Nat) : Int))))]] from by rw [fit_yes (cl (l.getD (lw).toNat dPt)) h10])) ?_
        exact T_ret fun cx_ a_ hI_ => loop_ret (loop_ret (rt hc0 [ps 2 (.opt 0 0), ps 3 (iv 0), pb 0 32 [(iv ((kn.getD j dCl).1)), (iv ((kn.getD j dCl).2)), (iv ((q : Nat) : Int)), (iv (idxC (cl (l.getD (lw).toNat dPt)) (allS (kn.getD j dCl) ((q : Nat) : Int))))]] [0] hI_))
      refine T_else (b := (fitsB (kn.getD j dCl) ((q : Nat) : Int) kn)) rfl (Bool.eq_false_iff.2 h10) ?_
      refine T_skip <| T_blk ?_
      refine T_r mixed [] [ps 0 (.ssl (pts l) 0 l.length), ps 2 (.opt 0 0), ps 4 (.osl 1 0 kn.length), ps 5 (iv lw), ps 9 (.opt 2 0), ps 10 (iv (((q : Nat) : Int) + 1)), ps 46 (.osl 1 0 kn.length), ps 47 (nv kn.length), ps 48 (nv j), pb 0 32 [(iv 0), (iv 0), (iv 0), (iv 0)], pb 1 30 (clss kn), pb 2 30 [(iv ((kn.getD j dCl).1)), (iv ((kn.getD j dCl).2))]] (obs_cons (by simp only [InK]; omega : InK .i64 (((q : Nat) : Int) + 1)) obs_nil) ?_
      exact T_back ⟨q + 1, ⟨by show q + 1 ≤ 10; omega, by show 1 ≤ q + 1; omega, (firstK_no (by omega) h10).symm.trans hK⟩⟩ (Wk.trans (Wk.eq (show _ = [ps 0 (.ssl (pts l) 0 l.length), ps 2 (.opt 0 0), ps 4 (.osl 1 0 kn.length), ps 5 (iv lw), ps 9 (.opt 2 0), ps 10 (nv (q + 1)), ps 46 (.osl 1 0 kn.length), ps 47 (nv kn.length), ps 48 (nv j), pb 0 32 [(iv 0), (iv 0), (iv 0), (iv 0)], pb 1 30 (clss kn), pb 2 30 [(iv ((kn.getD j dCl).1)), (iv ((kn.getD j dCl).2))]] from by rfl)) (Wk.ren3 [ps 0 (.ssl (pts l) 0 l.length), ps 2 (.opt 0 0), ps 4 (.osl 1 0 kn.length), ps 5 (iv lw), ps 9 (.opt 2 0), ps 10 (nv (q + 1)), ps 46 (.osl 1 0 kn.length), ps 47 (nv kn.length), ps 48 (nv j), pb 0 32 [(iv 0), (iv 0), (iv 0), (iv 0)], pb 1 30 (clss kn), pb 2 30 [(iv ((kn.getD j dCl).1)), (iv ((kn.getD j dCl).2))]] 0 hc0 [0, 1, 2] [(kb 1, (clss kn))] (obs_cons (clss_shd _) (obs_nil)) (by kernel_rfl) rfl rfl (by kernel_rfl) (by kernel_rfl))) (show 10 - (q + 1) < 10 - q from by show 10 - (q + 1) < 10 - q; omega)
    refine T_el (decide_eq_false h9) ?_
    refine T_break rfl rfl ?_
    refine T_blk ?_
    refine T_r mixed [] [ps 0 (.ssl (pts l) 0 l.length), ps 2 (.opt 0 0), ps 4 (.osl 1 0 kn.length), ps 5 (iv lw), ps 46 (.osl 1 0 kn.length), ps 47 (nv kn.length), ps 48 (iv (((j : Nat) : Int) + 1)), pb 0 32 [(iv 0), (iv 0), (iv 0), (iv 0)], pb 1 30 (clss kn)] (obs_cons (by simp only [InK]; omega : InK .i64 (((j : Nat) : Int) + 1)) obs_nil) ?_
    exact T_back ⟨j + 1, ⟨by show j + 1 ≤ kn.length; omega, first_on (show j < kn.length from by omega) hF (show q = 10 from by omega) hK⟩⟩ (Wk.trans (Wk.eq (show _ = [ps 0 (.ssl (pts l) 0 l.length), ps 2 (.opt 0 0), ps 4 (.osl 1 0 kn.length), ps 5 (iv lw), ps 46 (.osl 1 0 kn.length), ps 47 (nv kn.length), ps 48 (nv (j + 1)), pb 0 32 [(iv 0), (iv 0), (iv 0), (iv 0)], pb 1 30 (clss kn)] from by rfl)) (Wk.ren3 [ps 0 (.ssl (pts l) 0 l.length), ps 2 (.opt 0 0), ps 4 (.osl 1 0 kn.length), ps 5 (iv lw), ps 46 (.osl 1 0 kn.length), ps 47 (nv kn.length), ps 48 (nv (j + 1)), pb 0 32 [(iv 0), (iv 0), (iv 0), (iv 0)], pb 1 30 (clss kn)] 0 hc0 [0, 1] [(kb 1, (clss kn))] (obs_cons (clss_shd _) (obs_nil)) (by kernel_rfl) rfl rfl (by kernel_rfl) (by kernel_rfl))) (show kn.length - (j + 1) < kn.length - j from by show kn.length - (j + 1) < kn.length - j; omega)
  refine T_el (decide_eq_false h8) ?_
  refine T_break rfl rfl ?_
  refine T_seq ?_
  refine T_r mixed [] [ps 2 (.opt 0 0), ps 3 (iv 6), pb 0 32 [(iv 0), (iv 0), (iv 0), (iv 0)]] (obs_nil) ?_
  rw [what_none hri hkn (lw := (cl (l.getD (lw).toNat dPt))) (by rw [hlw]) (by rw [← hF, show kn.drop j = [] from List.drop_eq_nil_of_le (by omega)]; rfl)]
  exact T_ret fun cx_ a_ hI_ => rt hc0 [ps 2 (.opt 0 0), ps 3 (iv 6), pb 0 32 [(iv 0), (iv 0), (iv 0), (iv 0)]] [0] hI_
theorem what_pc (l : List Pt) (hl : l.length ≤ 5864062014805) : PC Tryz.prog 8 [.ssl (pts l) 0 l.length] [] ((.tup [(.agg [(iv ((whatS l).1.1.1)), (iv ((whatS l).1.1.2)), (iv ((whatS l).1.2.1)), (iv ((whatS l).1.2.2))]), (iv ((whatS l).2))])) [] := pc_trim [none] rfl (fun i => by cases i <;> rfl) (what_pc0 l hl)
end Go.Proofs.YtbgnegmjbnlemaaGreatDoor.Pm
namespace Go.Proofs.YtbgnegmjbnlemaaGreatDoor.Pm
open Go Go.Proofs.YtbgnegmjbnlemaaGreatDoor.Pi

theorem rightQ_B (l a o : Int) : rightQ l a o = rightB l a o := decide_eq_decide.2 (by omega)
set_option maxRecDepth 100000 in
set_option maxHeartbeats 4000000 in
theorem cright_pc (l a : Int) : PC Tryz.prog 62 [(.agg [(iv l), (iv a)])] [] (bv (rightQ l a 0)) [] := by
  refine pc_intro Tryz.func62 rfl (by kernel_rfl) (Nat.le_of_ble_eq_true rfl) (by kernel_rfl) (l0 := [ps 0 (.agg [(iv l), (iv a)])]) rfl (fun c0 Bor hc0 => ?_)
  refine T_seq ?_
  refine T_r mixed [] [ps 1 (.opt 0 0), pb 0 30 [(iv l), (iv a)]] (obs_nil) ?_
  refine T_seq ?_
  refine T_r mixed [(5, .call [] [(.agg [(iv l), (iv a), (iv 0)])] [] (bv (rightQ l a 0)) [])] [ps 2 (bv (rightQ l a 0))] (obs_cons (by have e := pright_pc l a 0; rw [← rightQ_B] at e; exact e : PC Tryz.prog 13 [(.agg [(iv l), (iv a), (iv 0)])] [] (bv (rightQ l a 0)) []) (obs_cons (rfl : Ren0 56 [(.agg [(iv l), (iv a), (iv 0)])]) obs_nil)) ?_
  exact T_ret fun cx_ a_ hI_ => rt hc0 [ps 2 (bv (rightQ l a 0))] [] hI_
set_option maxRecDepth 100000 in
set_option maxHeartbeats 4000000 in
theorem shift_0  : PC Tryz.prog 63 [(iv 0)] [] (iv 0) [] := by
  refine pc_intro Tryz.func63 rfl (by kernel_rfl) (Nat.le_of_ble_eq_true rfl) (by kernel_rfl) (l0 := [ps 0 (iv 0)]) rfl (fun c0 Bor hc0 => ?_)
  refine T_seq ?_
  refine T_r mixed [] [ps 0 (iv 0)] (obs_nil) ?_
  refine T_seq ?_
  refine T_r mixed [] [ps 2 (iv 0)] (obs_cons (by omega : (0 : Int) ≤ 0 ∧ 0 < ((7 : Nat) : Int)) obs_nil) ?_
  exact T_ret fun cx_ a_ hI_ => rt hc0 [ps 2 (iv 0)] [] hI_
set_option maxRecDepth 100000 in
set_option maxHeartbeats 4000000 in
theorem shift_1  : PC Tryz.prog 63 [(iv 1)] [] (iv 2) [] := by
  refine pc_intro Tryz.func63 rfl (by kernel_rfl) (Nat.le_of_ble_eq_true rfl) (by kernel_rfl) (l0 := [ps 0 (iv 1)]) rfl (fun c0 Bor hc0 => ?_)
  refine T_seq ?_
  refine T_r mixed [] [ps 0 (iv 1)] (obs_nil) ?_
  refine T_seq ?_
  refine T_r mixed [] [ps 2 (iv 2)] (obs_cons (by omega : (0 : Int) ≤ 1 ∧ 1 < ((7 : Nat) : Int)) obs_nil) ?_
  exact T_ret fun cx_ a_ hI_ => rt hc0 [ps 2 (iv 2)] [] hI_
set_option maxRecDepth 100000 in
set_option maxHeartbeats 4000000 in
theorem shift_2  : PC Tryz.prog 63 [(iv 2)] [] (iv 4) [] := by
  refine pc_intro Tryz.func63 rfl (by kernel_rfl) (Nat.le_of_ble_eq_true rfl) (by kernel_rfl) (l0 := [ps 0 (iv 2)]) rfl (fun c0 Bor hc0 => ?_)
  refine T_seq ?_
  refine T_r mixed [] [ps 0 (iv 2)] (obs_nil) ?_
  refine T_seq ?_
  refine T_r mixed [] [ps 2 (iv 4)] (obs_cons (by omega : (0 : Int) ≤ 2 ∧ 2 < ((7 : Nat) : Int)) obs_nil) ?_
  exact T_ret fun cx_ a_ hI_ => rt hc0 [ps 2 (iv 4)] [] hI_
set_option maxRecDepth 100000 in
set_option maxHeartbeats 4000000 in
theorem shift_3  : PC Tryz.prog 63 [(iv 3)] [] (iv (-1)) [] := by
  refine pc_intro Tryz.func63 rfl (by kernel_rfl) (Nat.le_of_ble_eq_true rfl) (by kernel_rfl) (l0 := [ps 0 (iv 3)]) rfl (fun c0 Bor hc0 => ?_)
  refine T_seq ?_
  refine T_r mixed [] [ps 0 (iv 3)] (obs_nil) ?_
  refine T_seq ?_
  refine T_r mixed [] [ps 2 (iv (-1))] (obs_cons (by omega : (0 : Int) ≤ 3 ∧ 3 < ((7 : Nat) : Int)) obs_nil) ?_
  exact T_ret fun cx_ a_ hI_ => rt hc0 [ps 2 (iv (-1))] [] hI_
set_option maxRecDepth 100000 in
set_option maxHeartbeats 4000000 in
theorem shift_4  : PC Tryz.prog 63 [(iv 4)] [] (iv 1) [] := by
  refine pc_intro Tryz.func63 rfl (by kernel_rfl) (Nat.le_of_ble_eq_true rfl) (by kernel_rfl) (l0 := [ps 0 (iv 4)]) rfl (fun c0 Bor hc0 => ?_)
  refine T_seq ?_
  refine T_r mixed [] [ps 0 (iv 4)] (obs_nil) ?_
  refine T_seq ?_
  refine T_r mixed [] [ps 2 (iv 1)] (obs_cons (by omega : (0 : Int) ≤ 4 ∧ 4 < ((7 : Nat) : Int)) obs_nil) ?_
  exact T_ret fun cx_ a_ hI_ => rt hc0 [ps 2 (iv 1)] [] hI_
set_option maxRecDepth 100000 in
set_option maxHeartbeats 4000000 in
theorem shift_5  : PC Tryz.prog 63 [(iv 5)] [] (iv 3) [] := by
  refine pc_intro Tryz.func63 rfl (by kernel_rfl) (Nat.le_of_ble_eq_true rfl) (by kernel_rfl) (l0 := [ps 0 (iv 5)]) rfl (fun c0 Bor hc0 => ?_)
  refine T_seq ?_
  refine T_r mixed [] [ps 0 (iv 5)] (obs_nil) ?_
  refine T_seq ?_
  refine T_r mixed [] [ps 2 (iv 3)] (obs_cons (by omega : (0 : Int) ≤ 5 ∧ 5 < ((7 : Nat) : Int)) obs_nil) ?_
  exact T_ret fun cx_ a_ hI_ => rt hc0 [ps 2 (iv 3)] [] hI_
set_option maxRecDepth 100000 in
set_option maxHeartbeats 4000000 in
theorem shift_6  : PC Tryz.prog 63 [(iv 6)] [] (iv 5) [] := by
  refine pc_intro Tryz.func63 rfl (by kernel_rfl) (Nat.le_of_ble_eq_true rfl) (by kernel_rfl) (l0 := [ps 0 (iv 6)]) rfl (fun c0 Bor hc0 => ?_)
  refine T_seq ?_
  refine T_r mixed [] [ps 0 (iv 6)] (obs_nil) ?_
  refine T_seq ?_
  refine T_r mixed [] [ps 2 (iv 5)] (obs_cons (by omega : (0 : Int) ≤ 6 ∧ 6 < ((7 : Nat) : Int)) obs_nil) ?_
  exact T_ret fun cx_ a_ hI_ => rt hc0 [ps 2 (iv 5)] [] hI_
theorem shift_pc (m : Int) (hm : 0 ≤ m ∧ m < 7) : PC Tryz.prog 63 [iv m] [] (iv (lineL.getD m.toNat 0)) [] := by
  have h : m = 0 ∨ m = 1 ∨ m = 2 ∨ m = 3 ∨ m = 4 ∨ m = 5 ∨ m = 6 := by omega
  rcases h with rfl | rfl | rfl | rfl | rfl | rfl | rfl
  · exact shift_0
  · exact shift_1
  · exact shift_2
  · exact shift_3
  · exact shift_4
  · exact shift_5
  · exact shift_6
set_option maxRecDepth 100000 in
set_option maxHeartbeats 4000000 in
theorem signs_pc (l a m : Int) : PC Tryz.prog 45 [(.agg [(iv l), (iv a)]), (iv m)] [] (.tup [(iv ((signsS l a m).1)), (iv ((signsS l a m).2))]) [] := by
  refine pc_intro Tryz.func45 rfl (by kernel_rfl) (Nat.le_of_ble_eq_true rfl) (by kernel_rfl) (l0 := [ps 0 (.agg [(iv l), (iv a)]), ps 1 (iv m)]) rfl (fun c0 Bor hc0 => ?_)
  refine T_seq ?_
  refine T_r mixed [] [ps 1 (iv m), ps 2 (.opt 0 0), pb 0 30 [(iv l), (iv a)]] (obs_nil) ?_
  refine T_seq <| T_seq ?_
  by_cases h1 : m < 0
  · refine T_r mixed [(3, .gd true .no), (4, .gd true .no), (5, .yes true)] [ps 1 (iv m), ps 2 (.opt 0 0), ps 12 (bv true), pb 0 30 [(iv l), (iv a)]] (obs_cons (decide_eq_true h1) (obs_cons (decide_eq_true h1) (obs_cons (decide_eq_true h1) obs_nil))) ?_
    refine T_then (b := true) rfl rfl ?_
    refine T_seq ?_
    refine T_r mixed [] [ps 4 (iv 0), ps 5 (iv 1)] (obs_nil) ?_
    rw [show signsS l a m = (0, 1) from if_pos (by omega)]
    exact T_ret fun cx_ a_ hI_ => rt hc0 [ps 4 (iv 0), ps 5 (iv 1)] [] hI_
  refine T_r mixed [(3, .gd false (.no)), (4, .gd false (.no)), (5, .yes false)] [ps 1 (iv m), ps 2 (.opt 0 0), ps 12 (bv (decide (6 < m))), pb 0 30 [(iv l), (iv a)]] (obs_cons (decide_eq_false h1) (obs_cons (decide_eq_false h1) (obs_cons (decide_eq_false h1) obs_nil))) ?_
  by_cases h2 : 6 < m
  · refine T_th (decide_eq_true h2) ?_
    refine T_seq ?_
    refine T_r mixed [] [ps 4 (iv 0), ps 5 (iv 1)] (obs_nil) ?_
    rw [show signsS l a m = (0, 1) from if_pos (by omega)]
    exact T_ret fun cx_ a_ hI_ => rt hc0 [ps 4 (iv 0), ps 5 (iv 1)] [] hI_
  refine T_el (decide_eq_false h2) ?_
  refine T_skip <| T_seq <| T_seq ?_
  refine T_r mixed [(1, .call [] [(.agg [(iv l), (iv a)])] [] (bv (rightQ l a 0)) [])] [ps 1 (iv m), ps 2 (.opt 0 0), ps 15 (bv (!(rightQ l a 0))), pb 0 30 [(iv l), (iv a)]] (obs_cons (cright_pc l a) (obs_cons (rfl : Ren0 80 [(.agg [(iv l), (iv a)])]) obs_nil)) ?_
  by_cases h3 : (rightQ l a 0) = true
  · refine T_el (congrArg Bool.not h3) ?_
    refine T_skip <| T_seq ?_
    have hR := rightQ_iff.1 h3
    have hb1 := fifth_bd l a (by omega)
    have hb2 := line_bd m.toNat
    refine T_r mixed [(1, .call [] [(.agg [(iv l), (iv a)])] [] (iv (fifthS l a)) []), (3, .call [] [(iv m)] [] (iv (lineL.getD m.toNat 0)) [])] [ps 6 (iv ((fifthS l a) - (lineL.getD m.toNat 0)))] (obs_cons (fifth_pc l a (by omega) (by omega)) (obs_cons (rfl : Ren0 104 [(.agg [(iv l), (iv a)])]) (obs_cons (shift_pc m (by omega)) (obs_cons (rfl : Ren0 120 [(iv m)]) (obs_cons (by simp only [InK]; omega : InK .i64 ((fifthS l a) - (lineL.getD m.toNat 0))) obs_nil))))) ?_
    refine T_seq <| T_seq ?_
    by_cases h4 : ((fifthS l a) - (lineL.getD m.toNat 0)) < (-7)
    · refine T_r mixed [(3, .gd true .no), (4, .gd true .no), (5, .yes true)] [ps 6 (iv ((fifthS l a) - (lineL.getD m.toNat 0))), ps 26 (bv true)] (obs_cons (decide_eq_true h4) (obs_cons (decide_eq_true h4) (obs_cons (decide_eq_true h4) obs_nil))) ?_
      refine T_then (b := true) rfl rfl ?_
      refine T_seq ?_
      refine T_r mixed [] [ps 4 (iv 0), ps 5 (iv 3)] (obs_nil) ?_
      rw [show signsS l a m = (0, 3) from by unfold signsS; rw [if_neg (by omega), if_neg (by rw [h3]; decide), if_pos (by omega)]]
      exact T_ret fun cx_ a_ hI_ => rt hc0 [ps 4 (iv 0), ps 5 (iv 3)] [] hI_
    refine T_r mixed [(3, .gd false (.no)), (4, .gd false (.no)), (5, .yes false)] [ps 6 (iv ((fifthS l a) - (lineL.getD m.toNat 0))), ps 26 (bv (decide (7 < ((fifthS l a) - (lineL.getD m.toNat 0)))))] (obs_cons (decide_eq_false h4) (obs_cons (decide_eq_false h4) (obs_cons (decide_eq_false h4) obs_nil))) ?_
    by_cases h5 : 7 < ((fifthS l a) - (lineL.getD m.toNat 0))
    · refine T_th (decide_eq_true h5) ?_
      refine T_seq ?_
      refine T_r mixed [] [ps 4 (iv 0), ps 5 (iv 3)] (obs_nil) ?_
      rw [show signsS l a m = (0, 3) from by unfold signsS; rw [if_neg (by omega), if_neg (by rw [h3]; decide), if_pos (by omega)]]
      exact T_ret fun cx_ a_ hI_ => rt hc0 [ps 4 (iv 0), ps 5 (iv 3)] [] hI_
    refine T_el (decide_eq_false h5) ?_
    refine T_skip <| T_seq ?_
    refine T_r mixed [] [ps 4 (iv ((fifthS l a) - (lineL.getD m.toNat 0))), ps 5 (iv 0)] (obs_nil) ?_
    rw [show signsS l a m = (fifthS l a - lineL.getD m.toNat 0, 0) from by unfold signsS; rw [if_neg (by omega), if_neg (by rw [h3]; decide), if_neg (by omega)]]
    exact T_ret fun cx_ a_ hI_ => rt hc0 [ps 4 (iv ((fifthS l a) - (lineL.getD m.toNat 0))), ps 5 (iv 0)] [] hI_
  refine T_th (congrArg Bool.not (Bool.eq_false_iff.2 h3)) ?_
  refine T_seq ?_
  refine T_r mixed [] [ps 4 (iv 0), ps 5 (iv 2)] (obs_nil) ?_
  rw [show signsS l a m = (0, 2) from by unfold signsS; rw [if_neg (by omega), if_pos (Bool.eq_false_iff.2 h3)]]
  exact T_ret fun cx_ a_ hI_ => rt hc0 [ps 4 (iv 0), ps 5 (iv 2)] [] hI_
end Go.Proofs.YtbgnegmjbnlemaaGreatDoor.Pm
namespace Go.Proofs.YtbgnegmjbnlemaaGreatDoor.Pm
open Go

abbrev valC (v : Int × Int) : List PV := [iv v.1, iv v.2]
abbrev vals (l : List (Int × Int)) : List PV := l.flatMap valC
theorem vals_len (l : List (Int × Int)) : (vals l).length = l.length * 2 := flat_len _ 2 (fun _ => rfl) l
theorem snoc_len {α : Type} (L : List α) (x : α) : (L ++ [x]).length = L.length + 1 := by simp
def inS (l n : Int) (k : Nat) : Nat → List (Int × Int)
  | 0 => []
  | t + 1 => if atL (n - 1 + (t : Int)) = (l + (k : Int)).tmod 7 then inS l n k t ++ [(atL (n - 1 + (t : Int)), atA (n - 1 + (t : Int)))] else inS l n k t
def preS (l n : Int) : Nat → List (Int × Int)
  | 0 => []
  | k + 1 => preS l n k ++ inS l n k 7
def outS (l n : Int) (k t : Nat) : List (Int × Int) := preS l n k ++ inS l n k t
theorem outS_yes {l n : Int} {k t : Nat} (h : atL (n - 1 + (t : Int)) = (l + (k : Int)).tmod 7) : outS l n k (t + 1) = outS l n k t ++ [(atL (n - 1 + (t : Int)), atA (n - 1 + (t : Int)))] := by
  unfold outS
  rw [inS, if_pos h, List.append_assoc]
theorem outS_no {l n : Int} {k t : Nat} (h : ¬ atL (n - 1 + (t : Int)) = (l + (k : Int)).tmod 7) : outS l n k (t + 1) = outS l n k t := by
  unfold outS
  rw [inS, if_neg h]
theorem outS_next (l n : Int) (k : Nat) : outS l n k 7 = outS l n (k + 1) 0 := by
  unfold outS
  rw [preS, show inS l n (k + 1) 0 = [] from rfl, List.append_nil]
theorem inS_len (l n : Int) (k : Nat) : ∀ t, (inS l n k t).length ≤ t
  | 0 => Nat.le_refl _
  | t + 1 => by
    rw [inS]
    have := inS_len l n k t
    split
    · rw [snoc_len]; omega
    · omega
theorem outS_len (l n : Int) (k t : Nat) : (outS l n k t).length ≤ 7 * k + t := by
  have h1 : ∀ k, (preS l n k).length ≤ 7 * k := fun k => by
    induction k with
    | zero => exact Nat.le_refl _
    | succ k ih => rw [preS, List.length_append]; have := inS_len l n k 7; omega
  have := inS_len l n k t
  have := h1 k
  unfold outS
  rw [List.length_append]
  omega
def scaleS (l n : Int) : List (Int × Int) := outS l n 7 0
def scaleP (l a m : Int) : PV := if (signsS l a m).2 = 0 then .tup [.ssl (vals (scaleS l (signsS l a m).1)) 0 (scaleS l (signsS l a m).1).length, iv 0] else .tup [.ssl [] 0 0, iv (signsS l a m).2]
theorem scaleP_yes {l a m : Int} (h : (signsS l a m).2 = 0) : scaleP l a m = .tup [.ssl (vals (scaleS l (signsS l a m).1)) 0 (scaleS l (signsS l a m).1).length, iv 0] := if_pos h
theorem scaleP_no {l a m : Int} (h : ¬ (signsS l a m).2 = 0) : scaleP l a m = .tup [.ssl [] 0 0, iv (signsS l a m).2] := if_neg h
theorem signs_ok {l a m : Int} (h : (signsS l a m).2 = 0) : (0 ≤ m ∧ m ≤ 6) ∧ rightQ l a 0 = true ∧ (signsS l a m).1 = fifthS l a - lineL.getD m.toNat 0 ∧ -7 ≤ (signsS l a m).1 ∧ (signsS l a m).1 ≤ 7 := by
  unfold signsS at h ⊢
  split at h
  · exact absurd h (by decide)
  · split at h
    · exact absurd h (by decide)
    · split at h
      · exact absurd h (by decide)
      · rename_i h1 h2 h3
        rw [if_neg h1, if_neg h2, if_neg h3]
        exact ⟨by omega, by simpa using h2, rfl, by simp only; omega, by simp only; omega⟩
end Go.Proofs.YtbgnegmjbnlemaaGreatDoor.Pm
namespace Go.Proofs.YtbgnegmjbnlemaaGreatDoor.Pm
open Go Go.Proofs.YtbgnegmjbnlemaaGreatDoor.Pi

set_option maxRecDepth 100000 in
set_option maxHeartbeats 4000000 in
theorem scale_pc (l a m : Int) : PC Tryz.prog 28 [(.agg [(iv l), (iv a)]), (iv m)] [] (scaleP l a m) [] := by
  refine pc_intro Tryz.func28 rfl (by kernel_rfl) (Nat.le_of_ble_eq_true rfl) (by kernel_rfl) (l0 := [ps 0 (.agg [(iv l), (iv a)]), ps 1 (iv m)]) rfl (fun c0 Bor hc0 => ?_)
  refine T_seq ?_
  refine T_r mixed [] [ps 1 (iv m), ps 2 (.opt 0 0), pb 0 30 [(iv l), (iv a)]] (obs_nil) ?_
  refine T_seq ?_
  refine T_r mixed [(2, .call [] [(.agg [(iv l), (iv a)]), (iv m)] [] (.tup [(iv ((signsS l a m).1)), (iv ((signsS l a m).2))]) [])] [ps 2 (.opt 0 0), ps 6 (iv ((signsS l a m).1)), ps 7 (iv ((signsS l a m).2)), pb 0 30 [(iv l), (iv a)]] (obs_cons (signs_pc l a m) (obs_cons (rfl : Ren0 40 [(.agg [(iv l), (iv a)]), (iv m)]) obs_nil)) ?_
  refine T_seq <| T_seq ?_
  refine T_r mixed [] [ps 2 (.opt 0 0), ps 6 (iv ((signsS l a m).1)), ps 7 (iv ((signsS l a m).2)), ps 20 (bv (!(decide (((signsS l a m).2) = 0)))), pb 0 30 [(iv l), (iv a)]] (obs_nil) ?_
  by_cases h1 : ((signsS l a m).2) = 0
  · refine T_el (bt h1) ?_
    refine T_skip <| T_seq ?_
    obtain ⟨hS1, hS2, hS3, hS4, hS5⟩ := signs_ok h1
    have hR := rightQ_iff.1 hS2
    obtain ⟨n, hn⟩ : ∃ n, (signsS l a m).1 = n := ⟨_, rfl⟩
    rw [hn] at hS4 hS5
    refine T_wk (Wk.eq (show _ = [ps 2 (.opt 0 0), ps 6 (iv n), ps 7 (iv ((signsS l a m).2)), ps 20 (bv (!(decide (((signsS l a m).2) = 0)))), pb 0 30 [(iv l), (iv a)]] from by rw [hn])) ?_
    refine T_r mixed [] [ps 2 (.opt 0 0), ps 6 (iv n), ps 8 (.av (.slice none 0 0)), pb 0 30 [(iv l), (iv a)]] (obs_nil) ?_
    refine T_seq <| T_seq ?_
    refine T_r mixed [] [ps 2 (.opt 0 0), ps 6 (iv n), ps 8 (.av (.slice none 0 0)), ps 22 (iv 0), pb 0 30 [(iv l), (iv a)]] (obs_nil) ?_
    refine T_block ?_
    refine T_wk (Wk.nil (s := 8) 30 (by kernel_rfl)) ?_
    refine T_wk (Wk.less (l' := [ps 2 (.opt 0 0), ps 6 (iv n), ps 8 (.osl 120 0 0), ps 22 (iv 0), pb 0 30 [(iv l), (iv a)], pb 120 30 []]) 121 (by kernel_rfl) (by kernel_rfl)) ?_
    refine T_wk (Wk.eq (show _ = [ps 2 (.opt 0 0), ps 6 (iv n), ps 8 (.osl 120 0 ((outS l n 0 0).length)), ps 22 (iv 0), pb 0 30 [(iv l), (iv a)], pb 120 30 (vals (outS l n 0 0))] from by rfl)) ?_
    refine T_loop (α := {x : Nat // x ≤ 7}) (fun x => [ps 2 (.opt 0 0), ps 6 (iv n), ps 8 (.osl 1 0 ((outS l n x.1 0).length)), ps 22 (nv x.1), pb 0 30 [(iv l), (iv a)], pb 1 30 (vals (outS l n x.1 0))]) (fun x => 7 - x.1) 2 ⟨0, Nat.zero_le _⟩ (Wk.ren3 [ps 2 (.opt 0 0), ps 6 (iv n), ps 8 (.osl 1 0 ((outS l n 0 0).length)), ps 22 (nv 0), pb 0 30 [(iv l), (iv a)], pb 1 30 (vals (outS l n 0 0))] 0 hc0 [0, 120] [(kb 1, (vals (outS l n 0 0)))] (obs_cons (flat_shd valC (fun _ => rfl) _) (obs_nil)) (by kernel_rfl) rfl rfl (by kernel_rfl) (by kernel_rfl)) ?_
    rintro ⟨k, hk⟩
    refine T_seq ?_
    refine T_r mixed [] [ps 2 (.opt 0 0), ps 6 (iv n), ps 8 (.osl 1 0 ((outS l n k 0).length)), ps 22 (nv k), ps 23 (bv (decide (((k : Nat) : Int) < 7))), pb 0 30 [(iv l), (iv a)], pb 1 30 (vals (outS l n k 0))] (obs_nil) ?_
    refine T_seq ?_
    by_cases h2 : ((k : Nat) : Int) < 7
    · refine T_th (decide_eq_true h2) ?_
      refine T_skip <| T_seq <| T_block <| T_seq ?_
      refine T_r mixed [] [ps 2 (.opt 0 0), ps 6 (iv n), ps 8 (.osl 1 0 ((outS l n k 0).length)), ps 9 (nv k), ps 22 (nv k), pb 0 30 [(iv l), (iv a)], pb 1 30 (vals (outS l n k 0))] (obs_nil) ?_
      refine T_seq ?_
      refine T_r mixed [] [ps 2 (.opt 0 0), ps 6 (iv n), ps 8 (.osl 1 0 ((outS l n k 0).length)), ps 10 (iv (((l + ((k : Nat) : Int))).tmod 7)), ps 22 (nv k), pb 0 30 [(iv l), (iv a)], pb 1 30 (vals (outS l n k 0))] (obs_cons (by simp only [InK]; omega : InK .i64 (l + ((k : Nat) : Int))) (obs_cons (by decide : 7 ≠ (0 : Int)) obs_nil)) ?_
      refine T_seq ?_
      refine T_r mixed [] [ps 2 (.opt 0 0), ps 6 (iv n), ps 8 (.osl 1 0 ((outS l n k 0).length)), ps 10 (iv (((l + ((k : Nat) : Int))).tmod 7)), ps 11 (iv (n - 1)), ps 22 (nv k), pb 0 30 [(iv l), (iv a)], pb 1 30 (vals (outS l n k 0))] (obs_cons (by simp only [InK]; omega : InK .i64 (n - 1)) obs_nil) ?_
      refine T_block ?_
      refine T_wk (Wk.eq (show _ = [ps 2 (.opt 0 0), ps 6 (iv n), ps 8 (.osl 1 0 ((outS l n k 0).length)), ps 10 (iv (((l + ((k : Nat) : Int))).tmod 7)), ps 11 (iv (n - 1 + ((0 : Nat) : Int))), ps 22 (nv k), pb 0 30 [(iv l), (iv a)], pb 1 30 (vals (outS l n k 0))] from by rw [show n - 1 + ((0 : Nat) : Int) = n - 1 from by omega])) ?_
      refine T_loop (α := {x : Nat // x ≤ 7}) (fun x => [ps 2 (.opt 0 0), ps 6 (iv n), ps 8 (.osl 1 0 ((outS l n k x.1).length)), ps 10 (iv (((l + ((k : Nat) : Int))).tmod 7)), ps 11 (iv (n - 1 + ((x.1 : Nat) : Int))), ps 22 (nv k), pb 0 30 [(iv l), (iv a)], pb 1 30 (vals (outS l n k x.1))]) (fun x => 7 - x.1) 2 ⟨0, Nat.zero_le _⟩ (Wk.ren3 [ps 2 (.opt 0 0), ps 6 (iv n), ps 8 (.osl 1 0 ((outS l n k 0).length)), ps 10 (iv (((l + ((k : Nat) : Int))).tmod 7)), ps 11 (iv (n - 1 + ((0 : Nat) : Int))), ps 22 (nv k), pb 0 30 [(iv l), (iv a)], pb 1 30 (vals (outS l n k 0))] 0 hc0 [0, 1] [(kb 1, (vals (outS l n k 0)))] (obs_cons (flat_shd valC (fun _ => rfl) _) (obs_nil)) (by kernel_rfl) rfl rfl (by kernel_rfl) (by kernel_rfl)) ?_
      rintro ⟨t, ht⟩
      refine T_seq <| T_seq ?_
      refine T_r mixed [] [ps 2 (.opt 0 0), ps 6 (iv n), ps 8 (.osl 1 0 ((outS l n k t).length)), ps 10 (iv (((l + ((k : Nat) : Int))).tmod 7)), ps 11 (iv (n - 1 + ((t : Nat) : Int))), ps 22 (nv k), ps 35 (bv (decide ((n - 1 + ((t : Nat) : Int)) ≤ (n + 5)))), pb 0 30 [(iv l), (iv a)], pb 1 30 (vals (outS l n k t))] (obs_cons (by simp only [InK]; omega : InK .i64 (n + 5)) obs_nil) ?_
      by_cases h3 : (n - 1 + ((t : Nat) : Int)) ≤ (n + 5)
      · refine T_th (decide_eq_true h3) ?_
        refine T_skip <| T_seq <| T_block <| T_seq ?_
        refine T_r mixed [(1, .call [] [(iv (n - 1 + ((t : Nat) : Int)))] [] (.agg [(iv (atL (n - 1 + ((t : Nat) : Int)))), (iv (atA (n - 1 + ((t : Nat) : Int))))]) [])] [ps 2 (.opt 0 0), ps 6 (iv n), ps 8 (.osl 1 0 ((outS l n k t).length)), ps 10 (iv (((l + ((k : Nat) : Int))).tmod 7)), ps 11 (iv (n - 1 + ((t : Nat) : Int))), ps 12 (.opt 50 0), ps 22 (nv k), pb 0 30 [(iv l), (iv a)], pb 1 30 (vals (outS l n k t)), pb 50 30 [(iv (atL (n - 1 + ((t : Nat) : Int)))), (iv (atA (n - 1 + ((t : Nat) : Int))))]] (obs_cons (at_pc (n - 1 + ((t : Nat) : Int)) (by omega)) (obs_cons (rfl : Ren0 42 [(iv (n - 1 + ((t : Nat) : Int)))]) obs_nil)) ?_
        refine T_seq ?_
        refine T_r mixed [] [ps 2 (.opt 0 0), ps 6 (iv n), ps 8 (.osl 1 0 ((outS l n k t).length)), ps 10 (iv (((l + ((k : Nat) : Int))).tmod 7)), ps 11 (iv (n - 1 + ((t : Nat) : Int))), ps 12 (.opt 50 0), ps 22 (nv k), ps 43 (bv (decide ((atL (n - 1 + ((t : Nat) : Int))) = (((l + ((k : Nat) : Int))).tmod 7)))), pb 0 30 [(iv l), (iv a)], pb 1 30 (vals (outS l n k t)), pb 50 30 [(iv (atL (n - 1 + ((t : Nat) : Int)))), (iv (atA (n - 1 + ((t : Nat) : Int))))]] (obs_nil) ?_
        by_cases h4 : (atL (n - 1 + ((t : Nat) : Int))) = (((l + ((k : Nat) : Int))).tmod 7)
        · refine T_th (decide_eq_true h4) ?_
          refine T_r mixed [(3, .app none (some (vals ((outS l n k t) ++ [((atL (n - 1 + ((t : Nat) : Int))), (atA (n - 1 + ((t : Nat) : Int))))]))))] [ps 2 (.opt 0 0), ps 6 (iv n), ps 8 (.osl 122 0 (((outS l n k t).length) + 1)), ps 10 (iv (((l + ((k : Nat) : Int))).tmod 7)), ps 11 (iv (n - 1 + ((t : Nat) : Int))), ps 22 (nv k), pb 0 30 [(iv l), (iv a)], pb 122 30 (vals ((outS l n k t) ++ [((atL (n - 1 + ((t : Nat) : Int))), (atA (n - 1 + ((t : Nat) : Int))))]))] (obs_cons (vals_len _ : ((vals (outS l n k t))).length = ((outS l n k t).length) * 2) (obs_cons (by have := outS_len l n k t; omega : (((outS l n k t).length) + 1) * 16 ≤ 140737488355328 ∧ ((outS l n k t).length) + 1 ≤ 9223372036854775807) (obs_cons ((flat_app valC (outS l n k t) [((atL (n - 1 + ((t : Nat) : Int))), (atA (n - 1 + ((t : Nat) : Int))))]).symm : (vals (outS l n k t)) ++ [(iv (atL (n - 1 + ((t : Nat) : Int)))), (iv (atA (n - 1 + ((t : Nat) : Int))))] = (vals ((outS l n k t) ++ [((atL (n - 1 + ((t : Nat) : Int))), (atA (n - 1 + ((t : Nat) : Int))))]))) obs_nil))) ?_
          refine T_blk ?_
          refine T_r mixed [] [ps 2 (.opt 0 0), ps 6 (iv n), ps 8 (.osl 122 0 (((outS l n k t).length) + 1)), ps 10 (iv (((l + ((k : Nat) : Int))).tmod 7)), ps 11 (iv ((n - 1 + ((t : Nat) : Int)) + 1)), ps 22 (nv k), pb 0 30 [(iv l), (iv a)], pb 122 30 (vals ((outS l n k t) ++ [((atL (n - 1 + ((t : Nat) : Int))), (atA (n - 1 + ((t : Nat) : Int))))]))] (obs_cons (by simp only [InK]; omega : InK .i64 ((n - 1 + ((t : Nat) : Int)) + 1)) obs_nil) ?_
          exact T_back ⟨t + 1, by omega⟩ (Wk.trans (Wk.eq (show _ = [ps 2 (.opt 0 0), ps 6 (iv n), ps 8 (.osl 122 0 ((outS l n k (t + 1)).length)), ps 10 (iv (((l + ((k : Nat) : Int))).tmod 7)), ps 11 (iv (n - 1 + ((t + 1 : Nat) : Int))), ps 22 (nv k), pb 0 30 [(iv l), (iv a)], pb 122 30 (vals (outS l n k (t + 1)))] from by rw [outS_yes h4, show n - 1 + ((t : Nat) : Int) + 1 = n - 1 + ((t + 1 : Nat) : Int) from by omega, snoc_len])) (Wk.ren3 [ps 2 (.opt 0 0), ps 6 (iv n), ps 8 (.osl 1 0 ((outS l n k (t + 1)).length)), ps 10 (iv (((l + ((k : Nat) : Int))).tmod 7)), ps 11 (iv (n - 1 + (((t + 1) : Nat) : Int))), ps 22 (nv k), pb 0 30 [(iv l), (iv a)], pb 1 30 (vals (outS l n k (t + 1)))] 0 hc0 [0, 122] [(kb 1, (vals (outS l n k (t + 1))))] (obs_cons (flat_shd valC (fun _ => rfl) _) (obs_nil)) (by kernel_rfl) rfl rfl (by kernel_rfl) (by kernel_rfl))) (show 7 - (t + 1) < 7 - t from by omega)
        refine T_el (decide_eq_false h4) ?_
        refine T_skip <| T_blk ?_
        refine T_r mixed [] [ps 2 (.opt 0 0), ps 6 (iv n), ps 8 (.osl 1 0 ((outS l n k t).length)), ps 10 (iv (((l + ((k : Nat) : Int))).tmod 7)), ps 11 (iv ((n - 1 + ((t : Nat) : Int)) + 1)), ps 22 (nv k), pb 0 30 [(iv l), (iv a)], pb 1 30 (vals (outS l n k t))] (obs_cons (by simp only [InK]; omega : InK .i64 ((n - 1 + ((t : Nat) : Int)) + 1)) obs_nil) ?_
        exact T_back ⟨t + 1, by omega⟩ (Wk.trans (Wk.eq (show _ = [ps 2 (.opt 0 0), ps 6 (iv n), ps 8 (.osl 1 0 ((outS l n k (t + 1)).length)), ps 10 (iv (((l + ((k : Nat) : Int))).tmod 7)), ps 11 (iv (n - 1 + ((t + 1 : Nat) : Int))), ps 22 (nv k), pb 0 30 [(iv l), (iv a)], pb 1 30 (vals (outS l n k (t + 1)))] from by rw [outS_no h4, show n - 1 + ((t : Nat) : Int) + 1 = n - 1 + ((t + 1 : Nat) : Int) from by omega])) (Wk.ren3 [ps 2 (.opt 0 0), ps 6 (iv n), ps 8 (.osl 1 0 ((outS l n k (t + 1)).length)), ps 10 (iv (((l + ((k : Nat) : Int))).tmod 7)), ps 11 (iv (n - 1 + (((t + 1) : Nat) : Int))), ps 22 (nv k), pb 0 30 [(iv l), (iv a)], pb 1 30 (vals (outS l n k (t + 1)))] 0 hc0 [0, 1] [(kb 1, (vals (outS l n k (t + 1))))] (obs_cons (flat_shd valC (fun _ => rfl) _) (obs_nil)) (by kernel_rfl) rfl rfl (by kernel_rfl) (by kernel_rfl))) (show 7 - (t + 1) < 7 - t from by omega)
      refine T_el (decide_eq_false h3) ?_
      refine T_break rfl rfl ?_
      refine T_blk ?_
      refine T_r mixed [] [ps 2 (.opt 0 0), ps 6 (iv n), ps 8 (.osl 1 0 ((outS l n k t).length)), ps 22 (iv (((k : Nat) : Int) + 1)), pb 0 30 [(iv l), (iv a)], pb 1 30 (vals (outS l n k t))] (obs_cons (by simp only [InK]; omega : InK .i64 (((k : Nat) : Int) + 1)) obs_nil) ?_
      obtain rfl : t = 7 := by omega
      exact T_back ⟨k + 1, by omega⟩ (Wk.trans (Wk.eq (show _ = [ps 2 (.opt 0 0), ps 6 (iv n), ps 8 (.osl 1 0 ((outS l n (k + 1) 0).length)), ps 22 (iv (((k : Nat) : Int) + 1)), pb 0 30 [(iv l), (iv a)], pb 1 30 (vals (outS l n (k + 1) 0))] from by rw [outS_next])) (Wk.ren3 [ps 2 (.opt 0 0), ps 6 (iv n), ps 8 (.osl 1 0 ((outS l n (k + 1) 0).length)), ps 22 (nv (k + 1)), pb 0 30 [(iv l), (iv a)], pb 1 30 (vals (outS l n (k + 1) 0))] 0 hc0 [0, 1] [(kb 1, (vals (outS l n (k + 1) 0)))] (obs_cons (flat_shd valC (fun _ => rfl) _) (obs_nil)) (by kernel_rfl) rfl rfl (by kernel_rfl) (by kernel_rfl))) (show 7 - (k + 1) < 7 - k from by omega)
    refine T_el (decide_eq_false h2) ?_
    refine T_break rfl rfl ?_
    refine T_seq ?_
    refine T_r mixed [] [ps 4 (.osl 1 0 ((outS l n k 0).length)), ps 5 (iv 0), pb 1 30 (vals (outS l n k 0))] (obs_nil) ?_
    obtain rfl : k = 7 := by omega
    refine T_wk (Wk.frz (l' := [ps 4 (.ssl (vals (outS l n 7 0)) 0 ((outS l n 7 0).length)), ps 5 (iv 0), (kb 1, none)]) 1 (T := 30) (cs := (vals (outS l n 7 0))) (by kernel_rfl) (flat_shd valC (fun _ => rfl) _) (by kernel_rfl)) ?_
    refine T_wk (Wk.less (l' := [ps 4 (.ssl (vals (outS l n 7 0)) 0 ((outS l n 7 0).length)), ps 5 (iv 0)]) 34 (by kernel_rfl) (by kernel_rfl)) ?_
    rw [scaleP_yes h1, hn]
    exact T_ret fun cx_ a_ hI_ => rt hc0 [ps 4 (.ssl (vals (outS l n 7 0)) 0 ((outS l n 7 0).length)), ps 5 (iv 0)] [] hI_
  refine T_th (bf h1) ?_
  refine T_seq ?_
  refine T_r mixed [] [ps 4 (.av (.slice none 0 0)), ps 5 (iv ((signsS l a m).2))] (obs_nil) ?_
  rw [scaleP_no h1]
  exact T_ret fun cx_ a_ hI_ => rt hc0 [ps 4 (.av (.slice none 0 0)), ps 5 (iv ((signsS l a m).2))] [] hI_
set_option maxRecDepth 100000 in
set_option maxHeartbeats 4000000 in
theorem alive_pc  : PC Tryz.prog 10 [] [] (bv true) [] := by
  refine pc_intro Tryz.func10 rfl (by kernel_rfl) (Nat.le_of_ble_eq_true rfl) (by kernel_rfl) (l0 := []) rfl (fun c0 Bor hc0 => ?_)
  refine T_seq ?_
  refine T_r mixed [] [] (obs_nil) ?_
  refine T_seq ?_
  refine T_r mixed [(1, .call [] [(.agg [(iv 4), (iv 0)]), (iv 0)] [] (.tup [(.ssl [(iv 4), (iv 0), (iv 5), (iv 0), (iv 6), (iv 0), (iv 0), (iv 0), (iv 1), (iv 0), (iv 2), (iv 0), (iv 3), (iv 1)] 0 7), (iv 0)]) [])] [ps 1 (.ssl [(iv 4), (iv 0), (iv 5), (iv 0), (iv 6), (iv 0), (iv 0), (iv 0), (iv 1), (iv 0), (iv 2), (iv 0), (iv 3), (iv 1)] 0 7), ps 2 (iv 0)] (obs_cons (by have h0 := scale_pc 4 0 0; rw [scaleP_yes (by decide +kernel), show scaleS 4 (signsS 4 0 0).1 = [(4, 0), (5, 0), (6, 0), (0, 0), (1, 0), (2, 0), (3, 1)] from by decide +kernel] at h0; exact h0 : PC Tryz.prog 28 [(.agg [(iv 4), (iv 0)]), (iv 0)] [] (.tup [(.ssl [(iv 4), (iv 0), (iv 5), (iv 0), (iv 6), (iv 0), (iv 0), (iv 0), (iv 1), (iv 0), (iv 2), (iv 0), (iv 3), (iv 1)] 0 7), (iv 0)]) []) (obs_cons (rfl : Ren0 16 [(.agg [(iv 4), (iv 0)]), (iv 0)]) obs_nil)) ?_
  refine T_seq ?_
  refine T_r mixed [(3, .gd true (.no)), (4, .gd true (.no)), (5, .gd true (.no)), (8, .gd true (.no)), (9, .gd true (.no)), (10, .gd true (.no)), (11, .gd true (.no)), (12, .gd true (.no))] [ps 0 (bv ((decide ((3 : Int) = (3 : Int))) && (decide ((1 : Int) = (1 : Int)))))] (obs_cons (rfl : true = true) (obs_cons (rfl : true = true) (obs_cons (rfl : true = true) (obs_cons (rfl : true = true) (obs_cons (rfl : true = true) (obs_cons (by decide : (0 : Int) ≤ 6 ∧ 6 < ((7 : Nat) : Int)) (obs_cons (rfl : true = true) (obs_cons (rfl : true = true) (obs_cons (rfl : true = true) obs_nil))))))))) ?_
  refine T_wk (Wk.eq (show _ = [ps 0 (bv true)] from by rfl)) ?_
  exact T_ret fun cx_ a_ hI_ => rt hc0 [ps 0 (bv true)] [] hI_
end Go.Proofs.YtbgnegmjbnlemaaGreatDoor.Pm
namespace Go.Proofs.YtbgnegmjbnlemaaGreatDoor.Pm
open Go Go.Proofs.YtbgnegmjbnlemaaGreatDoor.Pi

def lowP (l : List Pt) : Nat → Pt
  | 0 => dPt
  | i + 1 => if i = 0 ∨ steps (l.getD i dPt).1 (l.getD i dPt).2.2 < steps (lowP l i).1 (lowP l i).2.2 ∨ (steps (l.getD i dPt).1 (l.getD i dPt).2.2 = steps (lowP l i).1 (lowP l i).2.2 ∧ (l.getD i dPt).2.1 < (lowP l i).2.1) then l.getD i dPt else lowP l i
theorem below_alt {p q : Pt} (hp : rb p = true) (hq : rb q = true) : belowB p q = true ↔ (steps p.1 p.2.2 < steps q.1 q.2.2 ∨ (steps p.1 p.2.2 = steps q.1 q.2.2 ∧ p.2.1 < q.2.1)) := by
  have h1 := rightB_iff.1 hp
  have h2 := rightB_iff.1 hq
  obtain ⟨l, a, o⟩ := p
  obtain ⟨m, b, u⟩ := q
  simp only at h1 h2
  unfold belowB steps halves
  rw [decide_eq_true_iff]
  simp only
  constructor
  · rintro (h | ⟨h, h'⟩)
    · exact .inl h
    · obtain rfl : o = u := by omega
      obtain rfl : l = m := by omega
      exact .inr ⟨h, by omega⟩
  · rintro (h | ⟨h, h'⟩)
    · exact .inl h
    · obtain rfl : o = u := by omega
      obtain rfl : l = m := by omega
      exact .inr ⟨h, by omega⟩
theorem lowP_eq {l : List Pt} : ∀ {i : Nat}, (∀ j, j < i → rb (l.getD j dPt) = true) → 0 < i → lowP l i = l.getD (lowI l i).toNat dPt ∧ (lowI l i).toNat < i
  | 0, _, h => absurd h (Nat.lt_irrefl 0)
  | i + 1, h, _ => by
    by_cases h0 : i = 0
    · subst h0
      have e : lowI l (0 + 1) = ((0 : Nat) : Int) := if_pos (.inl (by show (-1 : Int) < 0; decide))
      have e2 : lowP l (0 + 1) = l.getD 0 dPt := if_pos (.inl rfl)
      rw [e, e2]
      exact ⟨rfl, by decide⟩
    · obtain ⟨ih1, ih2⟩ := lowP_eq (l := l) (i := i) (fun j hj => h j (by omega)) (by omega)
      have hb := low_bd l i
      have hal := below_alt (h i (by omega)) (h (lowI l i).toNat (by omega))
      by_cases hc : belowB (l.getD i dPt) (l.getD (lowI l i).toNat dPt) = true
      · have eI : lowI l (i + 1) = (i : Int) := by rw [low_next]; exact if_pos (.inr hc)
        have hc2 := hal.1 hc
        rw [← ih1] at hc2
        have eP : lowP l (i + 1) = l.getD i dPt := if_pos (.inr hc2)
        rw [eI, eP]
        exact ⟨by rw [Int.toNat_natCast], by rw [Int.toNat_natCast]; omega⟩
      · have eI : lowI l (i + 1) = lowI l i := by rw [low_next]; exact if_neg (by rintro (c | c); omega; exact hc c)
        have eP : lowP l (i + 1) = lowP l i := by
          refine if_neg ?_
          rintro (c | c)
          · exact h0 c
          · rw [ih1] at c; exact hc (hal.2 c)
        rw [eI, eP]
        exact ⟨ih1, by omega⟩
theorem lowP_end {l : List Pt} (h : allR l) : lowP l l.length = l.getD (lowI l l.length).toNat dPt := by
  rcases Nat.eq_zero_or_pos l.length with c | c
  · have : l = [] := List.eq_nil_of_length_eq_zero c
    subst this; rfl
  · exact (lowP_eq h c).1
theorem lowP_rb {l : List Pt} {i : Nat} (h : ∀ j, j < i → rb (l.getD j dPt) = true) (h0 : 0 < i) : rb (lowP l i) = true := by
  obtain ⟨h1, h2⟩ := lowP_eq h h0
  rw [h1]; exact h _ h2
theorem low_in {l : List Pt} (h : allR l) (h0 : 0 < l.length) : cl (lowP l l.length) ∈ knownN l l.length := by
  obtain ⟨h1, h2⟩ := lowP_eq h h0
  rw [h1]; exact known_has l _ _ h2
/-- What was found fair so far. -/
def okN (r : Cl) (k : Int) (kn : List Cl) (j : Nat) : Bool := decide ((allS r k).length = kn.length ∧ ∀ i, i < j → (allS r k).getD i dCl ∈ kn)
theorem okN_0 (r : Cl) (k : Int) (kn : List Cl) : okN r k kn 0 = decide (((allS r k).length : Int) = (kn.length : Int)) := by
  unfold okN
  refine decide_eq_decide.2 ⟨fun h => by omega, fun h => ⟨by omega, fun i hi => absurd hi (Nat.not_lt_zero i)⟩⟩
theorem okN_yes {r : Cl} {k : Int} {kn : List Cl} {j : Nat} (h : okN r k kn j = true) : okN r k kn (j + 1) = decide ((allS r k).getD j dCl ∈ kn) := by
  have h := of_decide_eq_true h
  unfold okN
  refine decide_eq_decide.2 ⟨fun c => c.2 j (by omega), fun c => ⟨h.1, fun i hi => ?_⟩⟩
  by_cases hij : i < j
  · exact h.2 i hij
  · rw [show i = j from by omega]; exact c
theorem okN_no {r : Cl} {k : Int} {kn : List Cl} {j : Nat} (h : ¬ okN r k kn j = true) : okN r k kn (j + 1) = false := by
  refine decide_eq_false fun c => h (decide_eq_true ⟨c.1, fun i hi => c.2 i (by omega)⟩)
theorem okN_end {r : Cl} {k : Int} {kn : List Cl} {j : Nat} (hj : (allS r k).length ≤ j) (h : okN r k kn j = true) : fitsB r k kn = true := by
  have h := of_decide_eq_true h
  exact fits_all h.1 fun i hi => h.2 i (by omega)
theorem okN_end_no {r : Cl} {k : Int} {kn : List Cl} {j : Nat} (hj : j ≤ (allS r k).length) (h : ¬ okN r k kn j = true) : ¬ fitsB r k kn = true := fun c => h (by
  have c := of_decide_eq_true c
  refine decide_eq_true ⟨c.1, fun i hi => c.2 _ ?_⟩
  rw [List.getD_eq_getElem?_getD, List.getElem?_eq_getElem (by omega)]; exact List.getElem_mem _)
theorem turn_yes {all : List Cl} {p : Pt} {i : Nat} (h1 : (all.getD i dCl).1 = p.1) (h2 : (all.getD i dCl).2 = p.2.1) : turnN all (cl p) (i + 1) = (i : Int) := if_pos (Prod.ext h1 h2)
theorem turn_no {all : List Cl} {p : Pt} {i : Nat} (h : ¬ ((all.getD i dCl).1 = p.1 ∧ (all.getD i dCl).2 = p.2.1)) : turnN all (cl p) (i + 1) = turnN all (cl p) i := if_neg fun c => h (by rw [c]; exact ⟨rfl, rfl⟩)
theorem allN_skip {r : Cl} {k : Int} {j : Nat} (h : (stkI k).length ≤ j) : allN r k (j + 1) = allN r k j := by rw [allN_all r k h, allN_all r k (by omega)]
theorem stk_pair {k : Int} (hk : ¬ stkI k = []) {j : Nat} (hj : j < 3) (h : 0 < (stkR k).getD j 0) : j < (stkI k).length ∧ (2 * (j : Int) + 2, (stkR k).getD j 0) = (stkI k).getD j (0, 0) := by
  have h1 := (stkR_pos hk hj).1 h
  have h2 := stk_steps h1
  exact ⟨h1, Prod.ext h2.1.symm (stkR_at hk hj)⟩
theorem allN_len3 (r : Cl) (k : Int) (j : Nat) : (allN r k j).length ≤ 4 := by
  unfold allN
  rw [List.length_cons, List.length_map, List.length_take]
  have := stk_len k
  omega
theorem overC_at2 {r : Cl} {s h : Int} (h0 : 0 ≤ r.1) (h1 : r.1 ≤ 6) : overC r (s, h) = ((r.1 + s) % 7, white r.1 + r.2 + h - white (r.1 + s)) := by
  obtain ⟨l, a⟩ := r
  rw [overC_white h0 h1]
  refine Prod.ext rfl ?_
  show nat7 l + a + h - white (l + s) = white l + a + h - white (l + s)
  simp only at h0 h1
  have : white l = nat7 l := by unfold white; rw [show l / 7 = 0 from by omega, show l % 7 = l from by omega]; omega
  omega
section
variable {l : List Pt} (ha : allR l) {kn : List Cl} (hk : kn = knownN l l.length) {lp : Pt} (hl : lp = lowP l l.length)
include ha hk hl
theorem what_found2 {j : Nat} (hj : j < kn.length) (hr : firstR kn (cl lp) (kn.drop j) = firstR kn (cl lp) kn) {q : Nat} (hq : q ≤ 9) (hK : firstK (kn.getD j dCl) kn (cl lp) (10 - q) (q : Int) = firstK (kn.getD j dCl) kn (cl lp) 9 1) (hf : fitsB (kn.getD j dCl) (q : Int) kn = true) :
    whatS l = ((kn.getD j dCl, (q : Int), turnN (allS (kn.getD j dCl) (q : Int)) (cl lp) (allS (kn.getD j dCl) (q : Int)).length), 0) := by
  have hlw : cl lp = cl (l.getD (lowI l l.length).toNat dPt) := by rw [hl, lowP_end ha]
  have hok := known_ok (l := l) (i := l.length) ha (kn.getD j dCl) (by rw [← hk, List.getD_eq_getElem?_getD, List.getElem?_eq_getElem hj]; exact List.getElem_mem hj)
  have h0 : 0 < l.length := by
    rcases Nat.eq_zero_or_pos l.length with c | c
    · have := known_len l l.length; rw [← hk] at this; omega
    · exact c
  rw [what_found ha hk hlw hj hr hq hK hf, turn_idx hok.1 hok.2.1 hf (by rw [hk, hl]; exact low_in ha h0)]
theorem what_none2 {j : Nat} (hj : kn.length ≤ j) (hr : firstR kn (cl lp) (kn.drop j) = firstR kn (cl lp) kn) : whatS l = (((0, 0), 0, 0), 6) := by
  have hlw : cl lp = cl (l.getD (lowI l l.length).toNat dPt) := by rw [hl, lowP_end ha]
  exact what_none ha hk hlw (by rw [← hr, List.drop_eq_nil_of_le hj]; rfl)
end
theorem notes_len {p : Pt} {k : Int} (h : (notesS p k).2 = 0) : (notesS p k).1.length ≤ 4 ∧ (notesS p k).1.length = (stkI k).length + 1 ∧ rb p = true ∧ ¬ stkI k = [] := by
  have hs := stk_len k
  by_cases h1 : stkI k = []
  · rw [notesS_kind h1] at h; exact absurd h (by decide)
  · by_cases h2 : rb p = true
    · rw [notesS_go h1 h2] at h ⊢
      rw [notesGo_len h]
      refine ⟨?_, ?_, h2, h1⟩
      · show 1 + _ ≤ 4; omega
      · show 1 + _ = _; omega
    · rw [notesS_form h1 h2] at h; exact absurd h (by decide)
end Go.Proofs.YtbgnegmjbnlemaaGreatDoor.Pm
namespace Go.Proofs.YtbgnegmjbnlemaaGreatDoor.Pm
open Go Go.Proofs.YtbgnegmjbnlemaaGreatDoor.Pi

/-! ### the line of fifths -/
def okC (c : Cl) : Prop := 0 ≤ c.1 ∧ c.1 ≤ 6
def shC (c : Cl) (d : Int) : Cl := atC (fifC c + d)
theorem atC_ok (n : Int) : okC (atC n) := by unfold atC okC; show 0 ≤ 4 * n % 7 ∧ 4 * n % 7 ≤ 6; omega
theorem fif_at (n : Int) : fifC (atC n) = n := by
  unfold fifC atC
  have h := lineF_mod n
  show lineF (4 * n % 7) + 7 * ((n - lineF (4 * n % 7)) / 7) = n
  omega
theorem at_fif {c : Cl} (h : okC c) : atC (fifC c) = c := by
  obtain ⟨l, a⟩ := c
  obtain ⟨h0, h1⟩ := h
  simp only at h0 h1
  unfold atC fifC
  have hc : l = 0 ∨ l = 1 ∨ l = 2 ∨ l = 3 ∨ l = 4 ∨ l = 5 ∨ l = 6 := by omega
  have key : ∀ l a : Int, 4 * (lineF l + 7 * a) % 7 = l → ((4 * (lineF l + 7 * a) % 7, (lineF l + 7 * a - lineF (4 * (lineF l + 7 * a) % 7)) / 7) : Cl) = (l, a) := fun l a h => by
    rw [h]; exact Prod.ext rfl (by show (lineF l + 7 * a - lineF l) / 7 = a; omega)
  refine key l a ?_
  rcases hc with rfl | rfl | rfl | rfl | rfl | rfl | rfl
  · rw [show lineF 0 = 0 from rfl]; omega
  · rw [show lineF 1 = 2 from rfl]; omega
  · rw [show lineF 2 = 4 from rfl]; omega
  · rw [show lineF 3 = -1 from rfl]; omega
  · rw [show lineF 4 = 1 from rfl]; omega
  · rw [show lineF 5 = 3 from rfl]; omega
  · rw [show lineF 6 = 5 from rfl]; omega
theorem fif_inj {c d : Cl} (hc : okC c) (hd : okC d) (h : fifC c = fifC d) : c = d := by rw [← at_fif hc, ← at_fif hd, h]
theorem shC_ok (c : Cl) (d : Int) : okC (shC c d) := atC_ok _
theorem shC_fif (c : Cl) (d : Int) : fifC (shC c d) = fifC c + d := fif_at _
theorem shC_inj {c e : Cl} (hc : okC c) (he : okC e) {d : Int} (h : shC c d = shC e d) : c = e := by
  refine fif_inj hc he ?_
  have := congrArg fifC h
  rw [shC_fif, shC_fif] at this; omega
def dI (i : Int × Int) : Int := 7 * i.2 - 12 * i.1
theorem overC_sh (c : Cl) (i : Int × Int) : overC c i = shC c (dI i) := by unfold overC shC dI; congr 1; omega
theorem shC_sh (c : Cl) (d e : Int) : shC (shC c d) e = shC (shC c e) d := by unfold shC; rw [fif_at, fif_at]; congr 1; omega
def FI (k : Int) : List Int := 0 :: (stkI k).map dI
theorem allS_F {r : Cl} (h : okC r) (k : Int) : allS r k = (FI k).map (shC r) := by
  unfold allS FI
  rw [List.map_cons, List.map_map]
  congr 1
  · unfold shC; rw [Int.add_zero, at_fif h]
  · exact List.map_congr_left fun i _ => overC_sh r i
theorem allS_ok {r : Cl} (h : okC r) (k : Int) : ∀ c ∈ allS r k, okC c := by
  intro c hc
  rw [allS_F h] at hc
  obtain ⟨d, _, rfl⟩ := List.mem_map.1 hc
  exact shC_ok _ _
theorem allS_sh {r : Cl} (h : okC r) (k : Int) (d : Int) : allS (shC r d) k = (allS r k).map (fun c => shC c d) := by
  rw [allS_F (shC_ok r d), allS_F h, List.map_map]
  exact List.map_congr_left fun e _ => shC_sh r d e
theorem mem_sh {c : Cl} {L : List Cl} (hc : okC c) (hL : ∀ x ∈ L, okC x) (d : Int) : shC c d ∈ L.map (fun x => shC x d) ↔ c ∈ L := by
  rw [List.mem_map]
  constructor
  · rintro ⟨x, hx, e⟩
    rw [← shC_inj (hL x hx) hc e]; exact hx
  · exact fun h => ⟨c, h, rfl⟩

/-! ### moved -/
theorem fits_sh {r : Cl} {kn : List Cl} (h : okC r) (hk : ∀ x ∈ kn, okC x) (k : Int) (d : Int) : fitsB (shC r d) k (kn.map (fun c => shC c d)) = fitsB r k kn := by
  unfold fitsB
  refine decide_eq_decide.2 ?_
  rw [allS_sh h, List.length_map, List.length_map]
  refine and_congr_right fun _ => ⟨fun hc c hcm => ?_, fun hc c hcm => ?_⟩
  · exact (mem_sh (allS_ok h k c hcm) hk d).1 (hc _ (List.mem_map.2 ⟨c, hcm, rfl⟩))
  · obtain ⟨x, hx, rfl⟩ := List.mem_map.1 hcm
    exact (mem_sh (allS_ok h k x hx) hk d).2 (hc x hx)
theorem idxC_sh {c : Cl} (hc : okC c) (d : Int) : ∀ {L : List Cl}, (∀ x ∈ L, okC x) → idxC (shC c d) (L.map (fun x => shC x d)) = idxC c L
  | [], _ => rfl
  | x :: L, h => by
    have ih := idxC_sh hc d (L := L) fun y hy => h y (by simp [hy])
    rw [List.map_cons]
    unfold idxC
    by_cases hx : x = c
    · rw [if_pos (by rw [hx]), if_pos hx]
    · rw [if_neg (fun e => hx (shC_inj (h x (by simp)) hc e)), if_neg hx, ih]
theorem firstK_sh {r low : Cl} {kn : List Cl} (h : okC r) (hl : okC low) (hk : ∀ x ∈ kn, okC x) (d : Int) : ∀ n k, firstK (shC r d) (kn.map (fun c => shC c d)) (shC low d) n k = firstK r kn low n k
  | 0, _ => rfl
  | n + 1, k => by
    unfold firstK
    rw [fits_sh h hk, firstK_sh h hl hk d n (k + 1), allS_sh h, idxC_sh hl d (allS_ok h k)]
theorem firstR_sh {low : Cl} {kn : List Cl} (hl : okC low) (hk : ∀ x ∈ kn, okC x) (d : Int) : ∀ L : List Cl, (∀ x ∈ L, okC x) → firstR (kn.map (fun c => shC c d)) (shC low d) (L.map (fun c => shC c d)) = (firstR kn low L).map (fun x => (shC x.1 d, x.2))
  | [], _ => rfl
  | r :: L, h => by
    rw [List.map_cons]
    unfold firstR
    rw [firstK_sh (h r (by simp)) hl hk d, firstR_sh hl hk d L fun y hy => h y (by simp [hy])]
    cases firstK r kn low 9 1 <;> rfl
/-- All moved by one interval. -/
structure MovedBy (l m : List Pt) (i : Int × Int) : Prop where
  len : m.length = l.length
  rl : allR l
  rm : allR m
  st : ∀ j, j < l.length → steps (m.getD j dPt).1 (m.getD j dPt).2.2 = steps (l.getD j dPt).1 (l.getD j dPt).2.2 + i.1
  ha : ∀ j, j < l.length → halves (m.getD j dPt).1 (m.getD j dPt).2.1 (m.getD j dPt).2.2 = halves (l.getD j dPt).1 (l.getD j dPt).2.1 (l.getD j dPt).2.2 + i.2
theorem cl_ok {p : Pt} (h : rb p = true) : okC (cl p) := by have := rightB_iff.1 h; exact ⟨this.1, this.2.1⟩
theorem cl_moved {p q : Pt} {i : Int × Int} (hp : rb p = true) (hq : rb q = true) (hs : steps q.1 q.2.2 = steps p.1 p.2.2 + i.1) (hh : halves q.1 q.2.1 q.2.2 = halves p.1 p.2.1 p.2.2 + i.2) : cl q = shC (cl p) (dI i) := by
  have h1 := rightB_iff.1 hp
  have h2 := rightB_iff.1 hq
  obtain ⟨s, h⟩ := i
  rw [← overC_sh]
  unfold cl
  rw [overC_white h1.1 h1.2.1]
  obtain ⟨l, a, o⟩ := p
  obtain ⟨m, b, u⟩ := q
  simp only at *
  unfold steps at hs
  unfold halves at hh
  have e1 : (l + s) % 7 = m := by omega
  refine Prod.ext (by show m = _; omega) ?_
  show b = nat7 l + a + h - white (l + s)
  unfold white
  rw [e1, show (l + s) / 7 = u - o from by omega]
  omega
section
variable {l m : List Pt} {i : Int × Int} (M : MovedBy l m i)
include M
theorem moved_cl {j : Nat} (h : j < l.length) : cl (m.getD j dPt) = shC (cl (l.getD j dPt)) (dI i) :=
  cl_moved (M.rl j h) (M.rm j (by rw [M.len]; exact h)) (M.st j h) (M.ha j h)
theorem moved_below {j u : Nat} (h : j < l.length) (h' : u < l.length) : belowB (m.getD j dPt) (m.getD u dPt) = belowB (l.getD j dPt) (l.getD u dPt) := by
  unfold belowB
  refine decide_eq_decide.2 ?_
  have a := M.st j h
  have b := M.st u h'
  have c := M.ha j h
  have d := M.ha u h'
  omega
theorem moved_low : ∀ j, j ≤ l.length → lowI m j = lowI l j
  | 0, _ => rfl
  | j + 1, h => by
    rw [low_next, low_next, moved_low j (by omega)]
    by_cases h0 : lowI l j < 0
    · rw [if_pos (.inl h0), if_pos (.inl h0)]
    · have hb := low_bd l j
      rw [moved_below M (by omega) (by omega)]
theorem moved_known : ∀ j, j ≤ l.length → knownN m j = (knownN l j).map (fun c => shC c (dI i))
  | 0, _ => rfl
  | j + 1, h => by
    rw [known_next, known_next, moved_known j (by omega), moved_cl M (by omega)]
    have hok := known_ok (l := l) (i := j) fun u hu => M.rl u (by omega)
    have hm := mem_sh (cl_ok (M.rl j (by omega))) (fun x hx => ⟨(hok x hx).1, (hok x hx).2.1⟩) (dI i)
    by_cases hc : cl (l.getD j dPt) ∈ knownN l j
    · rw [addK_yes hc, addK_yes (hm.2 hc)]
    · rw [addK_no hc, addK_no (fun c => hc (hm.1 c)), List.map_append]; rfl
theorem moved_first : firstR (knownN m m.length) (cl (m.getD (lowI m m.length).toNat dPt)) (knownN m m.length) = (firstR (knownN l l.length) (cl (l.getD (lowI l l.length).toNat dPt)) (knownN l l.length)).map (fun x => (shC x.1 (dI i), x.2)) := by
  rw [M.len, moved_low M _ (Nat.le_refl _), moved_known M _ (Nat.le_refl _)]
  rcases Nat.eq_zero_or_pos l.length with c | c
  · have hl : l = [] := List.eq_nil_of_length_eq_zero c
    subst hl; rfl
  · have hb := low_bd l l.length
    have hj : (lowI l l.length).toNat < l.length := by omega
    have hok := known_ok (l := l) (i := l.length) M.rl
    rw [moved_cl M hj]
    exact firstR_sh (cl_ok (M.rl _ hj)) (fun x hx => ⟨(hok x hx).1, (hok x hx).2.1⟩) _ _ fun x hx => ⟨(hok x hx).1, (hok x hx).2.1⟩
/-- A chord that is moved: its kind and turn stay, its root moves. -/
theorem what_moved : (whatS m).2 = (whatS l).2 ∧ ((whatS l).2 = 0 → (whatS m).1.2 = (whatS l).1.2 ∧ (whatS m).1.1 = shC (whatS l).1.1 (dI i)) := by
  have hf := moved_first M
  unfold whatS
  rw [if_pos M.rl, if_pos M.rm, hf]
  cases firstR (knownN l l.length) (cl (l.getD (lowI l l.length).toNat dPt)) (knownN l l.length) with
  | none => exact ⟨rfl, fun h => by cases h⟩
  | some x => exact ⟨rfl, fun _ => ⟨rfl, rfl⟩⟩
end

/-! ### in whatever octaves -/
theorem F_only : ∀ q k : Fin 9, (FI ((q.1 : Int) + 1)).length = (FI ((k.1 : Int) + 1)).length → (∀ d ∈ FI ((q.1 : Int) + 1), d ∈ FI ((k.1 : Int) + 1)) → q = k := by decide
theorem fits_only {r : Cl} (h : okC r) {q k : Int} (hq : 1 ≤ q ∧ q ≤ 9) (hk : 1 ≤ k ∧ k ≤ 9) (hf : fitsB r q (allS r k) = true) : q = k := by
  obtain ⟨h1, h2⟩ := of_decide_eq_true hf
  rw [allS_F h, allS_F h, List.length_map, List.length_map] at h1
  have h3 : ∀ d ∈ FI q, d ∈ FI k := by
    intro d hd
    have := h2 (shC r d) (by rw [allS_F h]; exact List.mem_map.2 ⟨d, hd, rfl⟩)
    rw [allS_F h] at this
    obtain ⟨e, he, hx⟩ := List.mem_map.1 this
    have hx := congrArg fifC hx
    rw [shC_fif, shC_fif] at hx
    rw [show d = e from by omega]; exact he
  have eq : ((⟨(q - 1).toNat, by omega⟩ : Fin 9).1 : Int) + 1 = q := by show (((q - 1).toNat : Nat) : Int) + 1 = q; omega
  have ek : ((⟨(k - 1).toNat, by omega⟩ : Fin 9).1 : Int) + 1 = k := by show (((k - 1).toNat : Nat) : Int) + 1 = k; omega
  have := F_only ⟨(q - 1).toNat, by omega⟩ ⟨(k - 1).toNat, by omega⟩ (by rw [eq, ek]; exact h1) (by rw [eq, ek]; exact h3)
  have := congrArg Fin.val this
  have h5 : (q - 1).toNat = (k - 1).toNat := this
  omega
theorem fits_self (r : Cl) (k : Int) : fitsB r k (allS r k) = true := decide_eq_true ⟨rfl, fun _ h => h⟩
theorem firstK_self {r low : Cl} (h : okC r) {k : Int} (hk : 1 ≤ k ∧ k ≤ 9) : ∀ (q : Nat), 1 ≤ q → (q : Int) ≤ k → firstK r (allS r k) low (10 - q) (q : Int) = some (k, idxC low (allS r k))
  | q, h1, h2 => by
    by_cases hq : (q : Int) = k
    · have := firstK_yes (r := r) (kn := allS r k) (low := low) (q := q) (by omega) (by rw [hq]; exact fits_self r k)
      rw [this, hq]
    · rw [firstK_no (by omega) (fun c => hq (fits_only h (by omega) hk c))]
      exact firstK_self h hk (q + 1) (by omega) (by omega)
termination_by q => 10 - q
/-- What a chord is made of, in whatever octaves: each class as it stands there. -/
theorem known_all {n : List Pt} {r : Cl} {k : Int} (h0 : 0 ≤ r.1) (h1 : r.1 ≤ 6) (hl : n.length = (allS r k).length) (hc : ∀ j, j < n.length → cl (n.getD j dPt) = (allS r k).getD j dCl) : ∀ j, j ≤ n.length → knownN n j = (allS r k).take j
  | 0, _ => rfl
  | j + 1, h => by
    have hj : j < (allS r k).length := by omega
    rw [known_next, known_all h0 h1 hl hc j (by omega), hc j (by omega)]
    rw [List.take_add_one, List.getElem?_eq_getElem hj]
    rw [List.getD_eq_getElem?_getD, List.getElem?_eq_getElem hj]
    refine addK_no ?_
    intro hm
    obtain ⟨u, hu, e⟩ := List.mem_iff_getElem.1 hm
    rw [List.length_take] at hu
    rw [List.getElem_take] at e
    have hn := all_nd (r := r) (k := k) h0 h1
    have e1 := idxC_at (c := (allS r k)[j]) hn (show u < (allS r k).length from by omega) (by rw [List.getD_eq_getElem?_getD, List.getElem?_eq_getElem (show u < (allS r k).length from by omega)]; exact e)
    have e2 := idxC_at (c := (allS r k)[j]) hn hj (by rw [List.getD_eq_getElem?_getD, List.getElem?_eq_getElem hj]; rfl)
    omega
theorem steps_ne {n : List Pt} {r : Cl} {k : Int} (h0 : 0 ≤ r.1) (h1 : r.1 ≤ 6) (hl : n.length = (allS r k).length) (hc : ∀ j, j < n.length → cl (n.getD j dPt) = (allS r k).getD j dCl) {j u : Nat} (hj : j < n.length) (hu : u < n.length) (hne : j ≠ u) (rj : rb (n.getD j dPt) = true) (ru : rb (n.getD u dPt) = true) :
    steps (n.getD j dPt).1 (n.getD j dPt).2.2 ≠ steps (n.getD u dPt).1 (n.getD u dPt).2.2 := by
  intro e
  have a := rightB_iff.1 rj
  have b := rightB_iff.1 ru
  unfold steps at e
  have e1 : (n.getD j dPt).1 = (n.getD u dPt).1 := by omega
  -- the letters of a chord are all different
  have hlet : ∀ w, w < n.length → (n.getD w dPt).1 = (r.1 + 2 * (w : Int)) % 7 := by
    intro w hw
    have h2 : (n.getD w dPt).1 = ((allS r k).getD w dCl).1 := congrArg Prod.fst (hc w hw)
    rw [h2]
    cases w with
    | zero => show r.1 = (r.1 + 2 * ((0 : Nat) : Int)) % 7; omega
    | succ w =>
      rw [allS_len] at hl
      have hw' : w < (stkI k).length := by omega
      have hs := stk_steps hw'
      have : (allS r k).getD (w + 1) dCl = overC r ((stkI k).getD w (0, 0)) := by
        unfold allS
        rw [List.getD_cons_succ, List.getD_eq_getElem?_getD, List.getElem?_map, List.getElem?_eq_getElem hw', List.getD_eq_getElem?_getD, List.getElem?_eq_getElem hw']
        rfl
      rw [this]
      obtain ⟨x, y⟩ := r
      have ho := over_let (l := x) (a := y) (s := ((stkI k).getD w (0, 0)).1) (h := ((stkI k).getD w (0, 0)).2) h0 h1
      have ho2 : (overC (x, y) ((stkI k).getD w (0, 0))).1 = (x + ((stkI k).getD w (0, 0)).1) % 7 := ho
      rw [ho2, hs.1]
      show (x + (2 * (w : Int) + 2)) % 7 = (x + 2 * ((w + 1 : Nat) : Int)) % 7
      rw [show x + (2 * (w : Int) + 2) = x + 2 * ((w + 1 : Nat) : Int) from by omega]
  have hlen : n.length ≤ 4 := by rw [hl, allS_len]; have := stk_len k; omega
  have h3 := hlet j hj
  have h4 := hlet u hu
  omega
/-- Which one is the lowest: the first one that is lower than those ahead of it. -/
def lowN (n : List Pt) : Nat → Nat
  | 0 => 0
  | i + 1 => if steps (n.getD i dPt).1 (n.getD i dPt).2.2 - steps (n.getD (lowN n i) dPt).1 (n.getD (lowN n i) dPt).2.2 < 0 then i else lowN n i
theorem lowN_le (n : List Pt) : ∀ i, lowN n i ≤ i - 1
  | 0 => Nat.le_refl 0
  | i + 1 => by
    have := lowN_le n i
    show (if _ then i else lowN n i) ≤ i
    split
    · exact Nat.le_refl i
    · omega
section
variable {n : List Pt} {r : Cl} {k : Int} (h0 : 0 ≤ r.1) (h1 : r.1 ≤ 6) (hl : n.length = (allS r k).length) (hc : ∀ j, j < n.length → cl (n.getD j dPt) = (allS r k).getD j dCl) (hr : allR n)
include h0 h1 hl hc hr
theorem low_N : ∀ i, i ≤ n.length → 0 < i → lowI n i = (lowN n i : Int)
  | 0, _, h => absurd h (Nat.lt_irrefl 0)
  | i + 1, h, _ => by
    rw [low_next]
    show _ = ((if _ then i else lowN n i : Nat) : Int)
    by_cases hi : i = 0
    · subst hi
      rw [if_pos (.inl (by show (-1 : Int) < 0; decide))]
      split <;> rfl
    · have ih := low_N i (by omega) (by omega)
      have hle := lowN_le n i
      have hne := steps_ne h0 h1 hl hc (j := i) (u := lowN n i) (by omega) (by omega) (by omega) (hr _ (by omega)) (hr _ (by omega))
      rw [ih, Int.toNat_natCast]
      by_cases hb : steps (n.getD i dPt).1 (n.getD i dPt).2.2 - steps (n.getD (lowN n i) dPt).1 (n.getD (lowN n i) dPt).2.2 < 0
      · rw [if_pos hb, if_pos (.inr (decide_eq_true (.inl (by omega))))]
      · rw [if_neg hb, if_neg]
        rintro (c | c)
        · omega
        · have c := of_decide_eq_true c
          omega
theorem what_self (hk : 1 ≤ k ∧ k ≤ 9) : whatS n = ((r, k, (lowN n n.length : Int)), 0) := by
  have hlen : 0 < n.length := by rw [hl, allS_len]; omega
  have hkn : knownN n n.length = allS r k := by rw [known_all h0 h1 hl hc _ (Nat.le_refl _), hl, List.take_length]
  have hlo := low_N h0 h1 hl hc hr _ (Nat.le_refl _) hlen
  have hle := lowN_le n n.length
  have hnd := all_nd (r := r) (k := k) h0 h1
  unfold whatS
  rw [if_pos hr, hkn, hlo, Int.toNat_natCast, hc _ (by omega)]
  have e1 : firstR (allS r k) ((allS r k).getD (lowN n n.length) dCl) (allS r k) = some (r, k, idxC ((allS r k).getD (lowN n n.length) dCl) (allS r k)) := by
    have := firstK_self (r := r) (low := (allS r k).getD (lowN n n.length) dCl) ⟨h0, h1⟩ hk 1 (Nat.le_refl 1) hk.1
    have h2 := firstR_yes (kn := allS r k) (low := (allS r k).getD (lowN n n.length) dCl) (L := allS r k) (j := 0) (by rw [allS_len]; omega) (x := (k, idxC ((allS r k).getD (lowN n n.length) dCl) (allS r k))) this
    exact h2
  rw [e1, idxC_at hnd (by omega) rfl]
end
end Go.Proofs.YtbgnegmjbnlemaaGreatDoor.Pm
namespace Go.Proofs.YtbgnegmjbnlemaaGreatDoor.Pm
open Go Go.Proofs.YtbgnegmjbnlemaaGreatDoor.Pi

theorem splice_flat {α : Type} (f : α → List PV) (s : Nat) (hf : ∀ x, (f x).length = s) (d : α) : ∀ (l : List α) (k j : Nat) (ps : List PV) (v : α), k < l.length → j + ps.length ≤ s → f v = splice (f (l.getD k d)) j ps →
    k * s + j + ps.length ≤ (l.flatMap f).length ∧ splice (l.flatMap f) (k * s + j) ps = (l.set k v).flatMap f
  | x :: l, 0, j, ps, v, _, hj, hv => by
    have hx := hf x
    refine ⟨by rw [flat_len f s hf, List.length_cons, Nat.succ_mul]; omega, ?_⟩
    rw [List.set_cons_zero, List.flatMap_cons, List.flatMap_cons, hv]
    simp only [List.getD_cons_zero, Nat.zero_mul, Nat.zero_add, splice]
    rw [List.take_append_of_le_length (by omega), List.drop_append_of_le_length (by omega)]
    simp only [List.append_assoc]
  | x :: l, k + 1, j, ps, v, hk, hj, hv => by
    have hx := hf x
    obtain ⟨h1, h2⟩ := splice_flat f s hf d l k j ps v (by simpa using hk) hj (by simpa using hv)
    refine ⟨by rw [List.flatMap_cons, List.length_append, hx, Nat.succ_mul]; omega, ?_⟩
    rw [List.set_cons_succ, List.flatMap_cons, List.flatMap_cons, ← h2]
    simp only [splice]
    rw [show (k + 1) * s + j = (f x).length + (k * s + j) from by rw [Nat.succ_mul]; omega, List.take_length_add_append, Nat.add_assoc (f x).length, List.drop_length_add_append]
    simp only [List.append_assoc]

theorem oct_set {n : List Pt} {j : Nat} {x : Int} (h : j < n.length) : j * 3 + 2 + 1 ≤ (pts n).length ∧ splice (pts n) (j * 3 + 2) [iv x] = pts (n.set j ((n.getD j dPt).1, (n.getD j dPt).2.1, x)) :=
  splice_flat ptC 3 (fun _ => rfl) dPt n j 2 [iv x] ((n.getD j dPt).1, (n.getD j dPt).2.1, x) h (show 2 + 1 ≤ 3 from by decide) rfl
/-! ### moved lists -/
def mvAll (l : List Pt) (i : Int × Int) : Prop := ∀ j, j < l.length → mvE (l.getD j dPt) i = 0
def mvL (l : List Pt) (i : Int × Int) (j : Nat) : List Pt := (l.take j).map (fun p => mvP p i)
theorem mvL_next {l : List Pt} {i : Int × Int} {j : Nat} (h : j < l.length) : mvL l i (j + 1) = mvL l i j ++ [mvP (l.getD j dPt) i] := by
  unfold mvL
  rw [List.take_add_one, List.map_append, List.getElem?_eq_getElem h, List.getD_eq_getElem?_getD, List.getElem?_eq_getElem h]; rfl
theorem mvL_len {l : List Pt} {i : Int × Int} {j : Nat} (h : j ≤ l.length) : (mvL l i j).length = j := by unfold mvL; rw [List.length_map, List.length_take]; omega
theorem mvL_at {l : List Pt} {i : Int × Int} {j : Nat} (h : j < l.length) : (mvL l i l.length).getD j dPt = mvP (l.getD j dPt) i := by
  unfold mvL
  rw [List.take_length, List.getD_eq_getElem?_getD, List.getElem?_map, List.getD_eq_getElem?_getD, List.getElem?_eq_getElem h]; rfl
theorem mv_ok {p : Pt} {i : Int × Int} (h : mvE p i = 0) : rb p = true ∧ withinB i.1 i.2 = true ∧ rb (mvP p i) = true ∧ steps (mvP p i).1 (mvP p i).2.2 = steps p.1 p.2.2 + i.1 ∧ halves (mvP p i).1 (mvP p i).2.1 (mvP p i).2.2 = halves p.1 p.2.1 p.2.2 + i.2 := by
  have k : Pi.move p.1 p.2.1 p.2.2 i.1 i.2 = ((mvP p i).1, (mvP p i).2.1, (mvP p i).2.2, 0) := by
    have h' : (Pi.move p.1 p.2.1 p.2.2 i.1 i.2).2.2.2 = 0 := h
    rw [← h']; rfl
  exact move_ok k
theorem moved_by {l : List Pt} {i : Int × Int} (h : mvAll l i) : MovedBy l (mvL l i l.length) i where
  len := mvL_len (Nat.le_refl _)
  rl := fun j hj => (mv_ok (h j hj)).1
  rm := fun j hj => by
    rw [mvL_len (Nat.le_refl _)] at hj
    rw [mvL_at hj]; exact (mv_ok (h j hj)).2.2.1
  st := fun j hj => by rw [mvL_at hj]; exact (mv_ok (h j hj)).2.2.2.1
  ha := fun j hj => by rw [mvL_at hj]; exact (mv_ok (h j hj)).2.2.2.2
theorem what_some {l : List Pt} (h : (whatS l).2 = 0) : 0 < l.length ∧ okC (whatS l).1.1 ∧ -3 ≤ (whatS l).1.1.2 ∧ (whatS l).1.1.2 ≤ 3 := by
  unfold whatS at h ⊢
  split at h
  · rename_i ha
    rw [if_pos ha]
    have hko := known_ok (l := l) (i := l.length) ha
    have key : ∀ (kn : List Cl) (low : Cl) (L : List Cl) x, firstR kn low L = some x → x.1 ∈ L := by
      intro kn low L
      induction L with
      | nil => intro x hx; cases hx
      | cons r L ih =>
        intro x hx
        unfold firstR at hx
        split at hx
        · cases hx; simp
        · simp [ih x hx]
    cases hf : firstR (knownN l l.length) (cl (l.getD (lowI l l.length).toNat dPt)) (knownN l l.length) with
    | none => rw [hf] at h; exact absurd h (by decide)
    | some x =>
      have hm := key _ _ _ _ hf
      have h2 := hko _ hm
      refine ⟨?_, ⟨h2.1, h2.2.1⟩, h2.2.2.1, h2.2.2.2⟩
      rcases Nat.eq_zero_or_pos l.length with c | c
      · have := known_len l l.length
        have h3 := List.length_pos_of_mem hm
        omega
      · exact c
  · exact absurd h (by decide)
theorem sevens (s : Int) : 0 ≤ (s.tmod 7 + 7).tmod 7 ∧ (s.tmod 7 + 7).tmod 7 ≤ 6 ∧ 7 * (s - (s.tmod 7 + 7).tmod 7).tdiv 7 = s - (s.tmod 7 + 7).tmod 7 := by
  have h0 := tdiv_eq s
  have h1 := tmod_bd s
  have h2 := tdiv_eq (s.tmod 7 + 7)
  have h3 := tmod_bd (s.tmod 7 + 7)
  have h4 := Int.tmod_nonneg (a := s.tmod 7 + 7) 7 (by omega)
  have h5 := tdiv_eq (s - (s.tmod 7 + 7).tmod 7)
  have h6 := tmod_bd (s - (s.tmod 7 + 7).tmod 7)
  omega
/-- The root, moved in one octave, is the moved root. -/
theorem root_moved {c : Cl} {i : Int × Int} {s h q : Int} (hs : 7 * q = i.1 - s) (hh : h = i.2 - 12 * q) (hm : mvE (c.1, c.2, 0) (s, h) = 0) : (mvP (c.1, c.2, 0) (s, h)).1 = (shC c (dI i)).1 ∧ (mvP (c.1, c.2, 0) (s, h)).2.1 = (shC c (dI i)).2 := by
  have h1 := mv_ok hm
  have h2 := cl_moved (i := (s, h)) h1.1 h1.2.2.1 h1.2.2.2.1 h1.2.2.2.2
  have hd : dI (s, h) = dI i := by unfold dI; show 7 * h - 12 * s = 7 * i.2 - 12 * i.1; omega
  rw [hd] at h2
  have h3 : cl (c.1, c.2, 0) = c := rfl
  rw [h3] at h2
  exact ⟨congrArg Prod.fst h2, congrArg Prod.snd h2⟩

/-! ### the notes of a chord -/
theorem notesGo_is {p : Pt} : ∀ {L : List (Int × Int)} {acc : List Pt}, (notesGo p L acc).2 = 0 → (notesGo p L acc).1 = acc ++ L.map (mvP p) ∧ ∀ i ∈ L, mvE p i = 0
  | [], acc, _ => ⟨by simp [notesGo], fun i hi => by cases hi⟩
  | i :: L, acc, h => by
    unfold notesGo at h ⊢
    split at h
    · rename_i c
      rw [if_pos c]
      obtain ⟨h1, h2⟩ := notesGo_is h
      refine ⟨by rw [h1]; simp, fun j hj => ?_⟩
      rcases List.mem_cons.1 hj with rfl | hj
      · exact c
      · exact h2 j hj
    · rename_i c; exact absurd h c
theorem notes_is {p : Pt} {k : Int} (h : (notesS p k).2 = 0) : (notesS p k).1 = p :: (stkI k).map (mvP p) ∧ ∀ i ∈ stkI k, mvE p i = 0 := by
  obtain ⟨_, _, h2, h1⟩ := notes_len h
  rw [notesS_go h1 h2] at h ⊢
  exact notesGo_is h
theorem notes_cl {p : Pt} {k : Int} (h : (notesS p k).2 = 0) : ∀ j, j < (notesS p k).1.length → rb ((notesS p k).1.getD j dPt) = true ∧ cl ((notesS p k).1.getD j dPt) = (allS (cl p) k).getD j dCl := by
  obtain ⟨h1, h2⟩ := notes_is h
  obtain ⟨_, _, hr, _⟩ := notes_len h
  intro j hj
  rw [h1] at hj ⊢
  cases j with
  | zero => exact ⟨hr, rfl⟩
  | succ j =>
    rw [List.length_cons, List.length_map] at hj
    have hj' : j < (stkI k).length := by omega
    have hm := mv_ok (h2 _ (List.getElem_mem hj'))
    have e1 : (p :: (stkI k).map (mvP p)).getD (j + 1) dPt = mvP p (stkI k)[j] := by
      rw [List.getD_cons_succ, List.getD_eq_getElem?_getD, List.getElem?_map, List.getElem?_eq_getElem hj']; rfl
    have e2 : (allS (cl p) k).getD (j + 1) dCl = overC (cl p) (stkI k)[j] := by
      unfold allS
      rw [List.getD_cons_succ, List.getD_eq_getElem?_getD, List.getElem?_map, List.getElem?_eq_getElem hj']; rfl
    rw [e1, e2]
    refine ⟨hm.2.2.1, ?_⟩
    rw [overC_sh]
    exact cl_moved hr hm.2.2.1 hm.2.2.2.1 hm.2.2.2.2
theorem set_at {n : List Pt} {j u : Nat} {v : Pt} (hj : j < n.length) : (n.set j v).getD u dPt = if u = j then v else n.getD u dPt := by
  rw [List.getD_eq_getElem?_getD, List.getElem?_set]
  by_cases h : j = u
  · subst h; rw [if_pos rfl, if_pos rfl, if_pos hj]; rfl
  · rw [if_neg h, if_neg (fun c => h c.symm), List.getD_eq_getElem?_getD]
theorem lowN_same {n m : List Pt} : ∀ {i : Nat}, (∀ u, u < i → n.getD u dPt = m.getD u dPt) → lowN n i = lowN m i
  | 0, _ => rfl
  | i + 1, h => by
    have ih := lowN_same (n := n) (m := m) (i := i) fun u hu => h u (by omega)
    have hle := lowN_le m i
    show (if _ then i else lowN n i) = (if _ then i else lowN m i)
    rw [ih, h i (by omega), h (lowN m i) (by omega)]
theorem lowN_yes {n : List Pt} {i : Nat} (h : steps (n.getD i dPt).1 (n.getD i dPt).2.2 - steps (n.getD (lowN n i) dPt).1 (n.getD (lowN n i) dPt).2.2 < 0) : lowN n (i + 1) = i := if_pos h
theorem lowN_no {n : List Pt} {i : Nat} (h : ¬ steps (n.getD i dPt).1 (n.getD i dPt).2.2 - steps (n.getD (lowN n i) dPt).1 (n.getD (lowN n i) dPt).2.2 < 0) : lowN n (i + 1) = lowN n i := if_neg h
theorem kind_of {k : Int} (h : ¬ stkI k = []) : 1 ≤ k ∧ k ≤ 9 := by
  have := stk_kinds h
  omega

/-! ### octaves, one by one -/
structure Oct (N n : List Pt) (j : Nat) : Prop where
  len : n.length = N.length
  cls : ∀ u, u < n.length → cl (n.getD u dPt) = cl (N.getD u dPt)
  rbs : ∀ u, u < j → rb (n.getD u dPt) = true
  ori : ∀ u, j ≤ u → n.getD u dPt = N.getD u dPt
structure Oct1 (N n m : List Pt) (j : Nat) : Prop where
  len : m.length = N.length
  cls : ∀ u, u < m.length → cl (m.getD u dPt) = cl (N.getD u dPt)
  rbs : ∀ u, u < j → rb (m.getD u dPt) = true
  ori : ∀ u, j < u → m.getD u dPt = N.getD u dPt
  low : lowN m j = lowN n j
theorem Oct.start (N : List Pt) : Oct N N 0 := ⟨rfl, fun _ _ => rfl, fun u hu => absurd hu (Nat.not_lt_zero u), fun _ _ => rfl⟩
theorem Oct.same {N n : List Pt} {j : Nat} (h : Oct N n j) : Oct1 N n n j := ⟨h.len, h.cls, h.rbs, fun u hu => h.ori u (by omega), rfl⟩
theorem Oct.set {N n : List Pt} {j : Nat} (h : Oct N n j) (hj : j < n.length) (x : Int) : Oct1 N n (n.set j ((n.getD j dPt).1, (n.getD j dPt).2.1, x)) j where
  len := by rw [List.length_set]; exact h.len
  cls := fun u hu => by
    rw [List.length_set] at hu
    rw [set_at hj]
    by_cases e : u = j
    · rw [if_pos e, ← h.cls u hu, e]; rfl
    · rw [if_neg e]; exact h.cls u hu
  rbs := fun u hu => by rw [set_at hj, if_neg (by omega)]; exact h.rbs u hu
  ori := fun u hu => by rw [set_at hj, if_neg (by omega)]; exact h.ori u (by omega)
  low := lowN_same fun u hu => by rw [set_at hj, if_neg (by omega)]
theorem Oct1.next {N n m : List Pt} {j : Nat} (h : Oct1 N n m j) (hr : rb (m.getD j dPt) = true) : Oct N m (j + 1) where
  len := h.len
  cls := h.cls
  rbs := fun u hu => by
    by_cases e : u < j
    · exact h.rbs u e
    · rw [show u = j from by omega]; exact hr
  ori := fun u hu => h.ori u (by omega)
theorem Oct1.lowr {N n m : List Pt} {j : Nat} (h : Oct1 N n m j) (hr : rb (m.getD j dPt) = true) : rb (m.getD (lowN m j) dPt) = true := by
  have := lowN_le m j
  by_cases e : lowN m j < j
  · exact h.rbs _ e
  · rw [show lowN m j = j from by omega]; exact hr
theorem Oct.what {p : Pt} {k : Int} {n : List Pt} (h0 : (notesS p k).2 = 0) (h : Oct (notesS p k).1 n n.length) : whatS n = (((p.1, p.2.1), k, (lowN n n.length : Int)), 0) := by
  obtain ⟨_, hl, hr, hk⟩ := notes_len h0
  have hp := rightB_iff.1 hr
  have hc := notes_cl h0
  refine what_self (r := cl p) (k := k) hp.1 hp.2.1 (by rw [h.len, hl, allS_len]) (fun j hj => ?_) h.rbs (kind_of hk)
  rw [h.cls j hj]
  exact (hc j (by rw [← h.len]; exact hj)).2
end Go.Proofs.YtbgnegmjbnlemaaGreatDoor.Pm
