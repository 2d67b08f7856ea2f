/-
  FOURIER: a plan is made ready: walk. (Printed by wip/pm.) | FOURIER: Apart: walk. (Printed by wip/pm.) | FOURIER: bits.Len, New, mirrored, Together: walks. (Printed by wip/pm.) | FOURIER: whole, Product: walks. (Printed by wip/pm.) | FOURIER: plain: what nought does to a float. No program in sight. | FOURIER: plain: floats as fractions; what rounding does to them. No program in sight. | FOURIER: plain: sums, differences, products, quotients by powers of two, changed signs, of floats, as fractions. No program in sight. | FOURIER: plain: pairs of fractions as complex numbers: how great they are; powers; sums. No program in sight. | FOURIER: plain: the roots and their powers as floats: how far they are off; products and sums of pairs of floats. No program in sight. | FOURIER: plain: taken apart by floats, and without rounding: how far these are apart. No program in sight.
-/
import Derived.Test.YtfibadnkhbjciaaJLawFlat2
import Derived.Test.YtfibadnkhbjciaaJLawFlat3
import Derived.Test.YtfibadnkhbjciaaJLawFlat1
namespace Go.Proofs.Ytfibadnkhbjciaa.Pm
open Go

set_option maxRecDepth 100000 in
set_option maxHeartbeats 4000000 in
theorem fill_pc (L : Nat) (hL : L ≤ 12) : PC Try.prog 23 [(.opt 0 0)] [some (63, [(nv L), (.av (.int .u32 0)), (.av (.int .i32 1)), (.av (.int .u32 0)), (.av (.slice none 0 0))])] (.tup []) [some (63, [(nv L), (.av (.int .u32 0)), (.av (.int .i32 1)), (.av (.int .u32 0)), (.ssl (rws (waves L)) 0 L)])] := by
  refine pc_intro Try.func23 rfl (by kernel_rfl) (Nat.le_of_ble_eq_true rfl) (by kernel_rfl) (l0 := [ps 0 (.opt 0 0), pb 0 63 [(nv L), (.av (.int .u32 0)), (.av (.int .i32 1)), (.av (.int .u32 0)), (.av (.slice none 0 0))]]) rfl (fun c0 Bor hc0 => ?_)
  refine T_seq ?_
  refine T_r mixed [] [ps 0 (.opt 0 0), ps 9 (nv L), ps 10 (iv 0), pb 0 63 [(nv L), (.av (.int .u32 0)), (.av (.int .i32 1)), (.av (.int .u32 0)), (.av (.slice none 0 0))]] (obs_nil) ?_
  refine T_block ?_
  refine T_wk (Wk.nilc (B := 63) (cells := [(nv L), (.av (.int .u32 0)), (.av (.int .i32 1)), (.av (.int .u32 0)), (.av (.slice none 0 0))]) 0 4 30 (by kernel_rfl) rfl) ?_
  refine T_wk (Wk.less (l' := [ps 0 (.opt 0 0), ps 9 (nv L), ps 10 (iv 0), pb 0 63 [(nv L), (.av (.int .u32 0)), (.av (.int .i32 1)), (.av (.int .u32 0)), (.osl 41 0 0)], pb 41 30 []]) 42 (by kernel_rfl) (by kernel_rfl)) ?_
  refine T_wk (Wk.eq (show _ = [ps 0 (.opt 0 0), ps 9 (nv L), ps 10 (iv 0), pb 0 63 [(nv L), (.av (.int .u32 0)), (.av (.int .i32 1)), (.av (.int .u32 0)), (.osl 41 0 0)], pb 41 30 (rws (waves 0))] from by rfl)) ?_
  refine T_loop (α := {x : Nat // x ≤ L}) (fun x => [ps 0 (.opt 0 0), ps 9 (nv L), ps 10 (nv x.1), pb 0 63 [(nv L), (.av (.int .u32 0)), (.av (.int .i32 1)), (.av (.int .u32 0)), (.osl 1 0 x.1)], pb 1 30 (rws (waves x.1))]) (fun x => L - x.1) 2 ⟨0, Nat.zero_le _⟩ (Wk.ren3 [ps 0 (.opt 0 0), ps 9 (nv L), ps 10 (nv 0), pb 0 63 [(nv L), (.av (.int .u32 0)), (.av (.int .i32 1)), (.av (.int .u32 0)), (.osl 1 0 0)], pb 1 30 (rws (waves 0))] 1 hc0 [0, 41] [(kb 1, (rws (waves 0)))] (obs_cons (rws_shd _) (obs_nil)) (by kernel_rfl) rfl rfl (by kernel_rfl) (by kernel_rfl)) ?_
  rintro ⟨i, hi⟩
  refine T_seq ?_
  refine T_r mixed [] [ps 0 (.opt 0 0), ps 9 (nv L), ps 10 (nv i), ps 11 (bv (decide (((i : Nat) : Int) < ((L : Nat) : Int)))), pb 0 63 [(nv L), (.av (.int .u32 0)), (.av (.int .i32 1)), (.av (.int .u32 0)), (.osl 1 0 i)], pb 1 30 (rws (waves i))] (obs_nil) ?_
  refine T_seq ?_
  by_cases h1 : ((i : Nat) : Int) < ((L : Nat) : Int)
  · refine T_th (dty h1) ?_
    refine T_skip <| T_seq <| T_block <| T_seq ?_
    refine T_r mixed [] [ps 0 (.opt 0 0), ps 2 (nv i), ps 9 (nv L), ps 10 (nv i), pb 0 63 [(nv L), (.av (.int .u32 0)), (.av (.int .i32 1)), (.av (.int .u32 0)), (.osl 1 0 i)], pb 1 30 (rws (waves i))] (obs_nil) ?_
    refine T_seq ?_
    refine T_r mixed [(2, .cells (cxs (fillL i 0)))] [ps 0 (.opt 0 0), ps 2 (nv i), ps 3 (.osl 42 0 ((((1 * 2 ^ (((i : Nat) : Int) : Int).toNat) : Int) : Int).toNat)), ps 9 (nv L), ps 10 (nv i), pb 0 63 [(nv L), (.av (.int .u32 0)), (.av (.int .i32 1)), (.av (.int .u32 0)), (.osl 1 0 i)], pb 1 30 (rws (waves i)), pb 42 31 (cxs (fillL i 0))] (obs_cons (by simp only [IntKind.bits]; omega : (0 : Int) ≤ ((i : Nat) : Int) ∧ ((i : Nat) : Int) ≤ ((IntKind.bits .i64 : Nat) : Int)) (obs_cons (p2_in (l := i) (by omega) : InK .i64 (1 * 2 ^ (((i : Nat) : Int) : Int).toNat)) (obs_cons (p2_make (l := i) (by omega) : (0 : Int) ≤ ((1 * 2 ^ (((i : Nat) : Int) : Int).toNat) : Int) ∧ ((1 * 2 ^ (((i : Nat) : Int) : Int).toNat) : Int) ≤ ((1 * 2 ^ (((i : Nat) : Int) : Int).toNat) : Int) ∧ ((1 * 2 ^ (((i : Nat) : Int) : Int).toNat) : Int) ≤ 140737488355328 ∧ ((16 : Nat) : Int) * ((1 * 2 ^ (((i : Nat) : Int) : Int).toNat) : Int) ≤ 140737488355328) (obs_cons (zeros_p2 _ : zeros [(.av (.complex .f64 0 0))] (((1 * 2 ^ (((i : Nat) : Int) : Int).toNat) : Int) : Int).toNat = (cxs (fillL i 0))) obs_nil)))) ?_
    have h2i := p2_le (l := i) (by omega)
    refine T_wk (Wk.eq (show _ = [ps 0 (.opt 0 0), ps 2 (nv i), ps 3 (.osl 42 0 (2 ^ i)), ps 9 (nv L), ps 10 (nv i), pb 0 63 [(nv L), (.av (.int .u32 0)), (.av (.int .i32 1)), (.av (.int .u32 0)), (.osl 1 0 i)], pb 1 30 (rws (waves i)), pb 42 31 (cxs (fillL i 0))] from by simp only [p2n])) ?_
    refine T_seq ?_
    refine T_r mixed [] [ps 0 (.opt 0 0), ps 2 (nv i), ps 3 (.osl 42 0 (2 ^ i)), ps 4 (.av (.complex .f64 4607182418800017408 0)), ps 9 (nv L), ps 10 (nv i), pb 0 63 [(nv L), (.av (.int .u32 0)), (.av (.int .i32 1)), (.av (.int .u32 0)), (.osl 1 0 i)], pb 1 30 (rws (waves i)), pb 42 31 (cxs (fillL i 0))] (obs_nil) ?_
    refine T_seq <| T_seq ?_
    refine T_r mixed [] [ps 0 (.opt 0 0), ps 2 (nv i), ps 3 (.osl 42 0 (2 ^ i)), ps 4 (.av (.complex .f64 4607182418800017408 0)), ps 9 (nv L), ps 10 (nv i), ps 17 (nv (2 ^ i)), ps 18 (iv 0), pb 0 63 [(nv L), (.av (.int .u32 0)), (.av (.int .i32 1)), (.av (.int .u32 0)), (.osl 1 0 i)], pb 1 30 (rws (waves i)), pb 42 31 (cxs (fillL i 0))] (obs_nil) ?_
    refine T_block ?_
    refine T_loop (α := {x : Nat // x ≤ 2 ^ i}) (fun x => [ps 0 (.opt 0 0), ps 2 (nv i), ps 3 (.osl 2 0 (2 ^ i)), ps 4 (.av (.complex .f64 ((powR i x.1).1) ((powR i x.1).2))), ps 9 (nv L), ps 10 (nv i), ps 17 (nv (2 ^ i)), ps 18 (nv x.1), pb 0 63 [(nv L), (.av (.int .u32 0)), (.av (.int .i32 1)), (.av (.int .u32 0)), (.osl 1 0 i)], pb 1 30 (rws (waves i)), pb 2 31 (cxs (fillL i x.1))]) (fun x => 2 ^ i - x.1) 3 ⟨0, Nat.zero_le _⟩ (Wk.ren3 [ps 0 (.opt 0 0), ps 2 (nv i), ps 3 (.osl 2 0 (2 ^ i)), ps 4 (.av (.complex .f64 ((powR i 0).1) ((powR i 0).2))), ps 9 (nv L), ps 10 (nv i), ps 17 (nv (2 ^ i)), ps 18 (nv 0), pb 0 63 [(nv L), (.av (.int .u32 0)), (.av (.int .i32 1)), (.av (.int .u32 0)), (.osl 1 0 i)], pb 1 30 (rws (waves i)), pb 2 31 (cxs (fillL i 0))] 1 hc0 [0, 1, 42] [(kb 1, (rws (waves i))), (kb 2, (cxs (fillL i 0)))] (obs_cons (rws_shd _) (obs_cons (cxs_shd _) (obs_nil))) (by kernel_rfl) rfl rfl (by kernel_rfl) (by kernel_rfl)) ?_
    rintro ⟨k, hk⟩
    refine T_seq ?_
    refine T_r mixed [] [ps 0 (.opt 0 0), ps 2 (nv i), ps 3 (.osl 2 0 (2 ^ i)), ps 4 (.av (.complex .f64 ((powR i k).1) ((powR i k).2))), ps 9 (nv L), ps 10 (nv i), ps 17 (nv (2 ^ i)), ps 18 (nv k), ps 19 (bv (decide (((k : Nat) : Int) < (((2 ^ i) : Nat) : Int)))), pb 0 63 [(nv L), (.av (.int .u32 0)), (.av (.int .i32 1)), (.av (.int .u32 0)), (.osl 1 0 i)], pb 1 30 (rws (waves i)), pb 2 31 (cxs (fillL i k))] (obs_nil) ?_
    refine T_seq ?_
    by_cases h2 : ((k : Nat) : Int) < (((2 ^ i) : Nat) : Int)
    · refine T_th (dty h2) ?_
      refine T_skip <| T_seq <| T_block <| T_seq ?_
      refine T_r mixed [] [ps 0 (.opt 0 0), ps 2 (nv i), ps 3 (.osl 2 0 (2 ^ i)), ps 4 (.av (.complex .f64 ((powR i k).1) ((powR i k).2))), ps 5 (nv k), ps 9 (nv L), ps 10 (nv i), ps 17 (nv (2 ^ i)), ps 18 (nv k), pb 0 63 [(nv L), (.av (.int .u32 0)), (.av (.int .i32 1)), (.av (.int .u32 0)), (.osl 1 0 i)], pb 1 30 (rws (waves i)), pb 2 31 (cxs (fillL i k))] (obs_nil) ?_
      refine T_seq ?_
      refine T_r mixed [(3, .nat k), (4, .cells (cxs (fillL i (k + 1))))] [ps 0 (.opt 0 0), ps 2 (nv i), ps 3 (.osl 2 0 (2 ^ i)), ps 4 (.av (.complex .f64 ((powR i k).1) ((powR i k).2))), ps 9 (nv L), ps 10 (nv i), ps 17 (nv (2 ^ i)), ps 18 (nv k), pb 0 63 [(nv L), (.av (.int .u32 0)), (.av (.int .i32 1)), (.av (.int .u32 0)), (.osl 1 0 i)], pb 1 30 (rws (waves i)), pb 2 31 (cxs (fillL i (k + 1)))] (obs_cons (by omega : (0 : Int) ≤ ((k : Nat) : Int) ∧ ((k : Nat) : Int) < (((2 ^ i) : Nat) : Int)) (obs_cons (by omega : 0 + (((k : Nat) : Int) : Int).toNat * 1 = k) (obs_cons (fill_store (by omega) : k + 1 ≤ ((cxs (fillL i k))).length ∧ splice (cxs (fillL i k)) k [(.av (.complex .f64 ((powR i k).1) ((powR i k).2)))] = (cxs (fillL i (k + 1)))) obs_nil))) ?_
      refine T_r mixed [(3, .call [] [(nv (i + 1))] [] (.av (.complex .f64 ((rtOf (i + 1)).1) ((rtOf (i + 1)).2))) []), (4, .nat2 ((powR i (k + 1)).1) ((powR i (k + 1)).2))] [ps 0 (.opt 0 0), ps 2 (nv i), ps 3 (.osl 2 0 (2 ^ i)), ps 4 (.av (.complex .f64 ((powR i (k + 1)).1) ((powR i (k + 1)).2))), ps 9 (nv L), ps 10 (nv i), ps 17 (nv (2 ^ i)), ps 18 (nv k), pb 0 63 [(nv L), (.av (.int .u32 0)), (.av (.int .i32 1)), (.av (.int .u32 0)), (.osl 1 0 i)], pb 1 30 (rws (waves i)), pb 2 31 (cxs (fillL i (k + 1)))] (obs_cons (by simp only [InK]; omega : InK .i64 (((i : Nat) : Int) + 1)) (obs_cons (root_pc (i + 1) (by omega) (by omega)) (obs_cons (rfl : [(iv (((i : Nat) : Int) + 1))] = renL (sigi [] 91) [(nv (i + 1))]) (obs_cons ((pow_step (by omega) (by omega)).1 : cMul ((powR i k).1) ((powR i k).2) ((rtOf (i + 1)).1) ((rtOf (i + 1)).2) = some ((powR i (k + 1)).1, (powR i (k + 1)).2)) obs_nil)))) ?_
      refine T_blk ?_
      refine T_r mixed [] [ps 0 (.opt 0 0), ps 2 (nv i), ps 3 (.osl 2 0 (2 ^ i)), ps 4 (.av (.complex .f64 ((powR i (k + 1)).1) ((powR i (k + 1)).2))), ps 9 (nv L), ps 10 (nv i), ps 17 (nv (2 ^ i)), ps 18 (iv (((k : Nat) : Int) + 1)), pb 0 63 [(nv L), (.av (.int .u32 0)), (.av (.int .i32 1)), (.av (.int .u32 0)), (.osl 1 0 i)], pb 1 30 (rws (waves i)), pb 2 31 (cxs (fillL i (k + 1)))] (obs_cons (by simp only [InK]; omega : InK .i64 (((k : Nat) : Int) + 1)) obs_nil) ?_
      exact T_back ⟨k + 1, by omega⟩ (Wk.ren3 [ps 0 (.opt 0 0), ps 2 (nv i), ps 3 (.osl 2 0 (2 ^ i)), ps 4 (.av (.complex .f64 ((powR i (k + 1)).1) ((powR i (k + 1)).2))), ps 9 (nv L), ps 10 (nv i), ps 17 (nv (2 ^ i)), ps 18 (nv (k + 1)), pb 0 63 [(nv L), (.av (.int .u32 0)), (.av (.int .i32 1)), (.av (.int .u32 0)), (.osl 1 0 i)], pb 1 30 (rws (waves i)), pb 2 31 (cxs (fillL i (k + 1)))] 1 hc0 [0, 1, 2] [(kb 1, (rws (waves i))), (kb 2, (cxs (fillL i (k + 1))))] (obs_cons (rws_shd _) (obs_cons (cxs_shd _) (obs_nil))) (by kernel_rfl) rfl rfl (by kernel_rfl) (by kernel_rfl)) (show 2 ^ i - (k + 1) < 2 ^ i - k from by omega)
    refine T_el (dtn h2) ?_
    refine T_break rfl rfl ?_
    obtain rfl : k = 2 ^ i := by omega
    refine T_wk (Wk.frz2 (l' := [ps 0 (.opt 0 0), ps 2 (nv i), ps 3 (.ssl (cxs (fillL i (2 ^ i))) 0 (2 ^ i)), ps 4 (.av (.complex .f64 ((powR i (2 ^ i)).1) ((powR i (2 ^ i)).2))), ps 9 (nv L), ps 10 (nv i), ps 17 (nv (2 ^ i)), ps 18 (nv (2 ^ i)), ps 19 (bv (decide ((((2 ^ i) : Nat) : Int) < (((2 ^ i) : Nat) : Int)))), pb 0 63 [(nv L), (.av (.int .u32 0)), (.av (.int .i32 1)), (.av (.int .u32 0)), (.osl 1 0 i)], pb 1 30 (rws (waves i)), (kb 2, none)]) 2 (T := 31) (cs := (cxs (fillL i (2 ^ i)))) [(kb 1, (rws (waves i)))] (obs_cons (rws_shd _) (obs_nil)) (by kernel_rfl) (by kernel_rfl) (cxs_shd _) (by kernel_rfl)) ?_
    refine T_wk (Wk.less (l' := [ps 0 (.opt 0 0), ps 2 (nv i), ps 3 (.ssl (cxs (fillL i (2 ^ i))) 0 (2 ^ i)), ps 4 (.av (.complex .f64 ((powR i (2 ^ i)).1) ((powR i (2 ^ i)).2))), ps 9 (nv L), ps 10 (nv i), ps 17 (nv (2 ^ i)), ps 18 (nv (2 ^ i)), ps 19 (bv (decide ((((2 ^ i) : Nat) : Int) < (((2 ^ i) : Nat) : Int)))), pb 0 63 [(nv L), (.av (.int .u32 0)), (.av (.int .i32 1)), (.av (.int .u32 0)), (.osl 1 0 i)], pb 1 30 (rws (waves i))]) 11 (by kernel_rfl) (by kernel_rfl)) ?_
    refine T_r mixed [(7, .app none (some (rws (waves (i + 1)))))] [ps 0 (.opt 0 0), ps 9 (nv L), ps 10 (nv i), pb 0 63 [(nv L), (.av (.int .u32 0)), (.av (.int .i32 1)), (.av (.int .u32 0)), (.osl 67 0 (i + 1))], pb 67 30 (rws (waves (i + 1)))] (obs_cons (waves_rl _ : ((rws (waves i))).length = i * 1) (obs_cons (by omega : (i + 1) * 24 ≤ 140737488355328 ∧ i + 1 ≤ 9223372036854775807) (obs_cons (waves_app _ : (rws (waves i)) ++ [(.ssl (cxs (fillL i (2 ^ i))) 0 (2 ^ i))] = (rws (waves (i + 1)))) obs_nil))) ?_
    refine T_blk ?_
    refine T_r mixed [] [ps 0 (.opt 0 0), ps 9 (nv L), ps 10 (iv (((i : Nat) : Int) + 1)), pb 0 63 [(nv L), (.av (.int .u32 0)), (.av (.int .i32 1)), (.av (.int .u32 0)), (.osl 67 0 (i + 1))], pb 67 30 (rws (waves (i + 1)))] (obs_cons (by simp only [InK]; omega : InK .i64 (((i : Nat) : Int) + 1)) obs_nil) ?_
    exact T_back ⟨i + 1, by omega⟩ (Wk.ren3 [ps 0 (.opt 0 0), ps 9 (nv L), ps 10 (nv (i + 1)), pb 0 63 [(nv L), (.av (.int .u32 0)), (.av (.int .i32 1)), (.av (.int .u32 0)), (.osl 1 0 (i + 1))], pb 1 30 (rws (waves (i + 1)))] 1 hc0 [0, 67] [(kb 1, (rws (waves (i + 1))))] (obs_cons (rws_shd _) (obs_nil)) (by kernel_rfl) rfl rfl (by kernel_rfl) (by kernel_rfl)) (show L - (i + 1) < L - i from by omega)
  refine T_el (dtn h1) ?_
  refine T_break rfl rfl ?_
  obtain rfl : L = i := by omega
  exact fun cx_ a_ hI_ => ret_ok (H' := [some (63, [(iv L), (.av (.int .u32 0)), (.av (.int .i32 1)), (.av (.int .u32 0)), (.ssl (rws (waves L)) 0 L)])]) (.inl rfl) (Wk.trans (Wk.frz (l' := [ps 0 (.opt 0 0), ps 9 (nv L), ps 10 (nv L), ps 11 (bv (decide (((L : Nat) : Int) < ((L : Nat) : Int)))), pb 0 63 [(nv L), (.av (.int .u32 0)), (.av (.int .i32 1)), (.av (.int .u32 0)), (.ssl (rws (waves L)) 0 L)], (kb 1, none)]) 1 (T := 30) (cs := (rws (waves L))) (by kernel_rfl) (rws_shd _) (by kernel_rfl)) (Wk.trans (Wk.less (l' := [ps 0 (.opt 0 0), ps 9 (nv L), ps 10 (nv L), ps 11 (bv (decide (((L : Nat) : Int) < ((L : Nat) : Int)))), pb 0 63 [(nv L), (.av (.int .u32 0)), (.av (.int .i32 1)), (.av (.int .u32 0)), (.ssl (rws (waves L)) 0 L)]]) 10 (by kernel_rfl) (by kernel_rfl)) (Wk.ren2 [pb 0 63 [(nv L), (.av (.int .u32 0)), (.av (.int .i32 1)), (.av (.int .u32 0)), (.ssl (rws (waves L)) 0 L)]] 1 hc0 [0] rfl rfl (by kernel_rfl) (by kernel_rfl)))) rfl (obs_cons rfl (obs_nil)) (fun cx_ a_ hI_ => ret_res (l' := [pb 0 63 [(nv L), (.av (.int .u32 0)), (.av (.int .i32 1)), (.av (.int .u32 0)), (.ssl (rws (waves L)) 0 L)]]) (by kernel_rfl) cx_ a_ hI_) hI_
theorem do_pc (L : Nat) (hL : L ≤ 12) : PC Try.prog 22 [.opt 0 1, PV.fn (.func 23) [(.opt 0 0)] []] [some (63, [(nv L), (.av (.int .u32 0)), (.av (.int .i32 0)), (.av (.int .u32 0)), (.av (.slice none 0 0))])] (.tup []) [some (63, [(nv L), (.av (.int .u32 1)), (.av (.int .i32 0)), (.av (.int .u32 0)), (.ssl (rws (waves L)) 0 L)])] := do_first_pc_w _ _ _ (fill_pc L hL)
theorem do2_pc (L : Nat) : PC Try.prog 22 [.opt 0 1, PV.fn (.func 23) [(.opt 0 0)] []] [some (63, [(nv L), (.av (.int .u32 1)), (.av (.int .i32 0)), (.av (.int .u32 0)), (.ssl (rws (waves L)) 0 L)])] (.tup []) [some (63, [(nv L), (.av (.int .u32 1)), (.av (.int .i32 0)), (.av (.int .u32 0)), (.ssl (rws (waves L)) 0 L)])] := do_done_pc_w _ _ _
end Go.Proofs.Ytfibadnkhbjciaa.Pm
namespace Go.Proofs.Ytfibadnkhbjciaa.Pm
open Go

set_option maxRecDepth 100000 in
set_option maxHeartbeats 4000000 in
theorem revb_pc (x : Int) : PC Try.prog 29 [(.av (.int .u32 x))] [] (.av (.int .u32 (rvE (rvD x)))) [] := by
  refine pc_intro Try.func29 rfl (by kernel_rfl) (Nat.le_of_ble_eq_true rfl) (by kernel_rfl) (l0 := [ps 0 (.av (.int .u32 x))]) rfl (fun c0 Bor hc0 => ?_)
  refine T_seq ?_
  refine T_r mixed [] [ps 0 (.av (.int .u32 x))] (obs_nil) ?_
  refine T_seq ?_
  refine T_r mixed [] [ps 0 (.av (.int .u32 (IntKind.wrap .u32 (BitVec.ofInt (IntKind.bits .u32) (IntKind.wrap .u32 (BitVec.ofInt (IntKind.bits .u32) ((x).fdiv (2 ^ (8 : Int).toNat)) &&& BitVec.ofInt (IntKind.bits .u32) 16711935).toNat) ||| BitVec.ofInt (IntKind.bits .u32) ((IntKind.wrap .u32 (BitVec.ofInt (IntKind.bits .u32) x &&& BitVec.ofInt (IntKind.bits .u32) 16711935).toNat) * 2 ^ (8 : Int).toNat)).toNat)))] (obs_cons (by simp only [IntKind.bits]; omega : (0 : Int) ≤ 8 ∧ 8 ≤ ((IntKind.bits .u32 : Nat) : Int)) (obs_cons (by simp only [IntKind.bits]; omega : (0 : Int) ≤ 8 ∧ 8 ≤ ((IntKind.bits .u32 : Nat) : Int)) (obs_cons (an32_shl (m := 16711935) (s := 8) (by decide) (by decide) : InK .u32 ((IntKind.wrap .u32 (BitVec.ofInt (IntKind.bits .u32) x &&& BitVec.ofInt (IntKind.bits .u32) 16711935).toNat) * 2 ^ (8 : Int).toNat)) obs_nil))) ?_
  refine T_wk (Wk.eq (show _ = [ps 0 (.av (.int .u32 (rvD x)))] from by rfl)) ?_
  refine T_seq ?_
  refine T_r mixed [(3, .wrap)] [ps 2 (.av (.int .u32 (IntKind.wrap .u32 (BitVec.ofInt (IntKind.bits .u32) (((rvD x)).fdiv (2 ^ (16 : Int).toNat)) ||| BitVec.ofInt (IntKind.bits .u32) (IntKind.wrap .u32 ((rvD x) * 2 ^ (16 : Int).toNat))).toNat)))] (obs_cons (by simp only [IntKind.bits]; omega : (0 : Int) ≤ 16 ∧ 16 ≤ ((IntKind.bits .u32 : Nat) : Int)) (obs_cons (by simp only [IntKind.bits]; omega : (0 : Int) ≤ 16 ∧ 16 ≤ ((IntKind.bits .u32 : Nat) : Int)) obs_nil)) ?_
  refine T_wk (Wk.eq (show _ = [ps 2 (.av (.int .u32 (rvE (rvD x))))] from by rfl)) ?_
  exact T_ret fun cx_ a_ hI_ => rt hc0 [ps 2 (.av (.int .u32 (rvE (rvD x))))] [] hI_
set_option maxRecDepth 100000 in
set_option maxHeartbeats 4000000 in
theorem rev_pc (x : Int) : PC Try.prog 24 [(.av (.int .u32 x))] [] (.av (.int .u32 (rev32 x))) [] := by
  refine pc_intro Try.func24 rfl (by kernel_rfl) (Nat.le_of_ble_eq_true rfl) (by kernel_rfl) (l0 := [ps 0 (.av (.int .u32 x))]) rfl (fun c0 Bor hc0 => ?_)
  refine T_seq ?_
  refine T_r mixed [] [ps 0 (.av (.int .u32 x))] (obs_nil) ?_
  refine T_seq ?_
  refine T_r mixed [] [ps 0 (.av (.int .u32 (IntKind.wrap .u32 (BitVec.ofInt (IntKind.bits .u32) (IntKind.wrap .u32 (BitVec.ofInt (IntKind.bits .u32) ((x).fdiv (2 ^ (1 : Int).toNat)) &&& BitVec.ofInt (IntKind.bits .u32) 1431655765).toNat) ||| BitVec.ofInt (IntKind.bits .u32) ((IntKind.wrap .u32 (BitVec.ofInt (IntKind.bits .u32) x &&& BitVec.ofInt (IntKind.bits .u32) 1431655765).toNat) * 2 ^ (1 : Int).toNat)).toNat)))] (obs_cons (by simp only [IntKind.bits]; omega : (0 : Int) ≤ 1 ∧ 1 ≤ ((IntKind.bits .u32 : Nat) : Int)) (obs_cons (by simp only [IntKind.bits]; omega : (0 : Int) ≤ 1 ∧ 1 ≤ ((IntKind.bits .u32 : Nat) : Int)) (obs_cons (an32_shl (m := 1431655765) (s := 1) (by decide) (by decide) : InK .u32 ((IntKind.wrap .u32 (BitVec.ofInt (IntKind.bits .u32) x &&& BitVec.ofInt (IntKind.bits .u32) 1431655765).toNat) * 2 ^ (1 : Int).toNat)) obs_nil))) ?_
  refine T_wk (Wk.eq (show _ = [ps 0 (.av (.int .u32 (rvA x)))] from by rfl)) ?_
  refine T_seq ?_
  refine T_r mixed [] [ps 0 (.av (.int .u32 (IntKind.wrap .u32 (BitVec.ofInt (IntKind.bits .u32) (IntKind.wrap .u32 (BitVec.ofInt (IntKind.bits .u32) (((rvA x)).fdiv (2 ^ (2 : Int).toNat)) &&& BitVec.ofInt (IntKind.bits .u32) 858993459).toNat) ||| BitVec.ofInt (IntKind.bits .u32) ((IntKind.wrap .u32 (BitVec.ofInt (IntKind.bits .u32) (rvA x) &&& BitVec.ofInt (IntKind.bits .u32) 858993459).toNat) * 2 ^ (2 : Int).toNat)).toNat)))] (obs_cons (by simp only [IntKind.bits]; omega : (0 : Int) ≤ 2 ∧ 2 ≤ ((IntKind.bits .u32 : Nat) : Int)) (obs_cons (by simp only [IntKind.bits]; omega : (0 : Int) ≤ 2 ∧ 2 ≤ ((IntKind.bits .u32 : Nat) : Int)) (obs_cons (an32_shl (m := 858993459) (s := 2) (by decide) (by decide) : InK .u32 ((IntKind.wrap .u32 (BitVec.ofInt (IntKind.bits .u32) (rvA x) &&& BitVec.ofInt (IntKind.bits .u32) 858993459).toNat) * 2 ^ (2 : Int).toNat)) obs_nil))) ?_
  refine T_wk (Wk.eq (show _ = [ps 0 (.av (.int .u32 (rvB (rvA x))))] from by rfl)) ?_
  refine T_seq ?_
  refine T_r mixed [] [ps 0 (.av (.int .u32 (IntKind.wrap .u32 (BitVec.ofInt (IntKind.bits .u32) (IntKind.wrap .u32 (BitVec.ofInt (IntKind.bits .u32) (((rvB (rvA x))).fdiv (2 ^ (4 : Int).toNat)) &&& BitVec.ofInt (IntKind.bits .u32) 252645135).toNat) ||| BitVec.ofInt (IntKind.bits .u32) ((IntKind.wrap .u32 (BitVec.ofInt (IntKind.bits .u32) (rvB (rvA x)) &&& BitVec.ofInt (IntKind.bits .u32) 252645135).toNat) * 2 ^ (4 : Int).toNat)).toNat)))] (obs_cons (by simp only [IntKind.bits]; omega : (0 : Int) ≤ 4 ∧ 4 ≤ ((IntKind.bits .u32 : Nat) : Int)) (obs_cons (by simp only [IntKind.bits]; omega : (0 : Int) ≤ 4 ∧ 4 ≤ ((IntKind.bits .u32 : Nat) : Int)) (obs_cons (an32_shl (m := 252645135) (s := 4) (by decide) (by decide) : InK .u32 ((IntKind.wrap .u32 (BitVec.ofInt (IntKind.bits .u32) (rvB (rvA x)) &&& BitVec.ofInt (IntKind.bits .u32) 252645135).toNat) * 2 ^ (4 : Int).toNat)) obs_nil))) ?_
  refine T_wk (Wk.eq (show _ = [ps 0 (.av (.int .u32 (rvC (rvB (rvA x)))))] from by rfl)) ?_
  refine T_seq ?_
  refine T_r mixed [(1, .call [] [(.av (.int .u32 (rvC (rvB (rvA x)))))] [] (.av (.int .u32 (rvE (rvD (rvC (rvB (rvA x))))))) [])] [ps 2 (.av (.int .u32 (rvE (rvD (rvC (rvB (rvA x)))))))] (obs_cons (revb_pc _ : PC Try.prog 29 [(.av (.int .u32 (rvC (rvB (rvA x)))))] [] (.av (.int .u32 (rvE (rvD (rvC (rvB (rvA x))))))) []) (obs_cons (rfl : Ren0 208 [(.av (.int .u32 (rvC (rvB (rvA x)))))]) obs_nil)) ?_
  refine T_wk (Wk.eq (show _ = [ps 2 (.av (.int .u32 (rev32 x)))] from by rfl)) ?_
  exact T_ret fun cx_ a_ hI_ => rt hc0 [ps 2 (.av (.int .u32 (rev32 x)))] [] hI_
set_option maxRecDepth 100000 in
set_option maxHeartbeats 4000000 in
theorem apart_pc (L : Nat) (hL : L ≤ 12) (v : List FC) (hv : v.length = 2 ^ L) {r : List FC} (hr : apartO L v = some r) : PC Try.prog 15 [(.opt 0 0), (.ssl (cxs v) 0 v.length)] [some (63, [(nv L), (.av (.int .u32 0)), (.av (.int .i32 0)), (.av (.int .u32 0)), (.av (.slice none 0 0))])] (.tup [(.osl 1 0 (2 ^ L)), (iv 0)]) [some (63, [(nv L), (.av (.int .u32 1)), (.av (.int .i32 0)), (.av (.int .u32 0)), (.ssl (rws (waves L)) 0 L)]), some (31, (cxs r))] := by
  refine pc_intro Try.func15 rfl (by kernel_rfl) (Nat.le_of_ble_eq_true rfl) (by kernel_rfl) (l0 := [ps 0 (.opt 0 0), ps 1 (.ssl (cxs v) 0 v.length), pb 0 63 [(nv L), (.av (.int .u32 0)), (.av (.int .i32 0)), (.av (.int .u32 0)), (.av (.slice none 0 0))]]) rfl (fun c0 Bor hc0 => ?_)
  refine T_seq ?_
  refine T_r mixed [] [ps 0 (.opt 0 0), ps 1 (.ssl (cxs v) 0 v.length), pb 0 63 [(nv L), (.av (.int .u32 0)), (.av (.int .i32 0)), (.av (.int .u32 0)), (.av (.slice none 0 0))]] (obs_nil) ?_
  refine T_seq <| T_seq ?_
  refine T_r mixed [] [ps 0 (.opt 0 0), ps 1 (.ssl (cxs v) 0 v.length), ps 22 (bv (!(decide (((v.length : Nat) : Int) = (1 * 2 ^ (((L : Nat) : Int) : Int).toNat))))), pb 0 63 [(nv L), (.av (.int .u32 0)), (.av (.int .i32 0)), (.av (.int .u32 0)), (.av (.slice none 0 0))]] (obs_cons (by simp only [IntKind.bits]; omega : (0 : Int) ≤ ((L : Nat) : Int) ∧ ((L : Nat) : Int) ≤ ((IntKind.bits .i64 : Nat) : Int)) (obs_cons (p2_in (l := L) hL : InK .i64 (1 * 2 ^ (((L : Nat) : Int) : Int).toNat)) obs_nil)) ?_
  have h1 : ((v.length : Nat) : Int) = (1 * 2 ^ (((L : Nat) : Int) : Int).toNat) := by rw [hv]; exact (p2i L).symm
  refine T_el (bt h1) ?_
  refine T_skip <| T_seq ?_
  refine T_r mixed [(5, .call [0] [(.opt 0 1), (PV.fn (.func 23) [(.opt 0 0)] [])] [some (63, [(nv L), (.av (.int .u32 0)), (.av (.int .i32 0)), (.av (.int .u32 0)), (.av (.slice none 0 0))])] (.tup []) [some (63, [(nv L), (.av (.int .u32 1)), (.av (.int .i32 0)), (.av (.int .u32 0)), (.ssl (rws (waves L)) 0 L)])])] [ps 0 (.opt 0 0), ps 1 (.ssl (cxs v) 0 v.length), pb 0 63 [(nv L), (.av (.int .u32 1)), (.av (.int .i32 0)), (.av (.int .u32 0)), (.ssl (rws (waves L)) 0 L)]] (obs_cons (do_pc L hL) (obs_cons (rfl : [(.opt 0 1), (PV.fn (.func 23) [(.opt 0 0)] [])] = renL (sigi [0] 121) [(.opt 0 1), (PV.fn (.func 23) [(.opt 0 0)] [])]) (obs_cons (rfl : [(nv L), (.av (.int .u32 0)), (.av (.int .i32 0)), (.av (.int .u32 0)), (.av (.slice none 0 0))] = renL (sigi [0] 121) [(nv L), (.av (.int .u32 0)), (.av (.int .i32 0)), (.av (.int .u32 0)), (.av (.slice none 0 0))]) obs_nil))) ?_
  refine T_seq ?_
  have h2L := p2_le hL
  refine T_r mixed [(2, .cells (cxs (List.replicate v.length (0, 0))))] [ps 0 (.opt 0 0), ps 1 (.ssl (cxs v) 0 v.length), ps 6 (.osl 145 0 v.length), pb 0 63 [(nv L), (.av (.int .u32 1)), (.av (.int .i32 0)), (.av (.int .u32 0)), (.ssl (rws (waves L)) 0 L)], pb 145 31 (cxs (List.replicate v.length (0, 0)))] (obs_cons (by omega : (0 : Int) ≤ ((v.length : Nat) : Int) ∧ ((v.length : Nat) : Int) ≤ ((v.length : Nat) : Int) ∧ ((v.length : Nat) : Int) ≤ 140737488355328 ∧ ((16 : Nat) : Int) * ((v.length : Nat) : Int) ≤ 140737488355328) (obs_cons (zeros_cxs _ : zeros [(.av (.complex .f64 0 0))] (((v.length : Nat) : Int) : Int).toNat = (cxs (List.replicate v.length (0, 0)))) obs_nil)) ?_
  refine T_seq <| T_seq ?_
  refine T_r mixed [] [ps 0 (.opt 0 0), ps 1 (.ssl (cxs v) 0 v.length), ps 6 (.osl 145 0 v.length), ps 32 (.ssl (cxs v) 0 v.length), ps 33 (nv v.length), ps 34 (iv 0), pb 0 63 [(nv L), (.av (.int .u32 1)), (.av (.int .i32 0)), (.av (.int .u32 0)), (.ssl (rws (waves L)) 0 L)], pb 145 31 (cxs (List.replicate v.length (0, 0)))] (obs_nil) ?_
  refine T_block ?_
  refine T_wk (Wk.eq (show _ = [ps 0 (.opt 0 0), ps 1 (.ssl (cxs v) 0 v.length), ps 6 (.osl 145 0 (2 ^ L)), ps 32 (.ssl (cxs v) 0 v.length), ps 33 (nv (2 ^ L)), ps 34 (iv 0), pb 0 63 [(nv L), (.av (.int .u32 1)), (.av (.int .i32 0)), (.av (.int .u32 0)), (.ssl (rws (waves L)) 0 L)], pb 145 31 (cxs (ldL L v 0))] from by rw [← ld_zero L v]; simp only [hv])) ?_
  refine T_loop (α := {x : Nat // x ≤ 2 ^ L}) (fun x => [ps 0 (.opt 0 0), ps 1 (.ssl (cxs v) 0 v.length), ps 6 (.osl 1 0 (2 ^ L)), ps 32 (.ssl (cxs v) 0 v.length), ps 33 (nv (2 ^ L)), ps 34 (nv x.1), pb 0 63 [(nv L), (.av (.int .u32 1)), (.av (.int .i32 0)), (.av (.int .u32 0)), (.ssl (rws (waves L)) 0 L)], pb 1 31 (cxs (ldL L v x.1))]) (fun x => 2 ^ L - x.1) 2 ⟨0, Nat.zero_le _⟩ (Wk.ren3 [ps 0 (.opt 0 0), ps 1 (.ssl (cxs v) 0 v.length), ps 6 (.osl 1 0 (2 ^ L)), ps 32 (.ssl (cxs v) 0 v.length), ps 33 (nv (2 ^ L)), ps 34 (nv 0), pb 0 63 [(nv L), (.av (.int .u32 1)), (.av (.int .i32 0)), (.av (.int .u32 0)), (.ssl (rws (waves L)) 0 L)], pb 1 31 (cxs (ldL L v 0))] 1 hc0 [0, 145] [(kb 1, (cxs (ldL L v 0)))] (obs_cons (cxs_shd _) (obs_nil)) (by kernel_rfl) rfl rfl (by kernel_rfl) (by kernel_rfl)) ?_
  rintro ⟨i, hi⟩
  refine T_seq ?_
  refine T_r mixed [] [ps 0 (.opt 0 0), ps 1 (.ssl (cxs v) 0 v.length), ps 6 (.osl 1 0 (2 ^ L)), ps 32 (.ssl (cxs v) 0 v.length), ps 33 (nv (2 ^ L)), ps 34 (nv i), ps 35 (bv (decide (((i : Nat) : Int) < (((2 ^ L) : Nat) : Int)))), pb 0 63 [(nv L), (.av (.int .u32 1)), (.av (.int .i32 0)), (.av (.int .u32 0)), (.ssl (rws (waves L)) 0 L)], pb 1 31 (cxs (ldL L v i))] (obs_nil) ?_
  refine T_seq ?_
  by_cases h2 : ((i : Nat) : Int) < (((2 ^ L) : Nat) : Int)
  · refine T_th (dty h2) ?_
    refine T_skip <| T_seq <| T_block <| T_seq ?_
    have hi1 : i < 2 ^ L := by omega
    refine T_r mixed [(1, .nat i), (2, .val (.av (.complex .f64 ((v.getD i (0, 0)).1) ((v.getD i (0, 0)).2))))] [ps 0 (.opt 0 0), ps 1 (.ssl (cxs v) 0 v.length), ps 6 (.osl 1 0 (2 ^ L)), ps 7 (nv i), ps 8 (.av (.complex .f64 ((v.getD i (0, 0)).1) ((v.getD i (0, 0)).2))), ps 32 (.ssl (cxs v) 0 v.length), ps 33 (nv (2 ^ L)), ps 34 (nv i), pb 0 63 [(nv L), (.av (.int .u32 1)), (.av (.int .i32 0)), (.av (.int .u32 0)), (.ssl (rws (waves L)) 0 L)], pb 1 31 (cxs (ldL L v i))] (obs_cons (by omega : (0 : Int) ≤ ((i : Nat) : Int) ∧ ((i : Nat) : Int) < ((v.length : Nat) : Int)) (obs_cons (by omega : 0 + (((i : Nat) : Int) : Int).toNat * 1 = i) (obs_cons (flat_at1 cxC (fun _ => rfl) (0, 0) v i (by omega) : i + 1 ≤ ((cxs v)).length ∧ (((cxs v)).drop i).take 1 = [(.av (.complex .f64 ((v.getD i (0, 0)).1) ((v.getD i (0, 0)).2)))]) obs_nil))) ?_
    refine T_rd mixed [(3, .call [] [(.av (.int .u32 ((i : Nat) : Int)))] [] (.av (.int .u32 (rev32 ((i : Nat) : Int)))) []), (16, .nat (brev L i)), (17, .cells (cxs (ldL L v (i + 1))))] [[], [], [1], [1, 2], [], [4], [4, 5], [4, 5, 6], [4, 5, 6, 7], [1, 2, 3, 4, 5, 6, 7, 8], [], [10], [10, 11], [10, 11, 12], [1, 2, 3, 4, 5, 6, 7, 8, 9, 10, 11, 12, 13], [], [0, 1, 2, 3, 4, 5, 6, 7, 8, 9, 10, 11, 12, 13, 14, 15], [0, 1, 2, 3, 4, 5, 6, 7, 8, 9, 10, 11, 12, 13, 14, 15, 16]] [([78], [12]), ([80], [14]), ([82], [80]), ([84], [82]), ([86], [0]), ([88], [86]), ([90], [88]), ([92], [1, 90]), ([94], [92]), ([96], [84, 94]), ([98], [2]), ([100], [98]), ([102], [100]), ([104], [102]), ([106], [96, 104]), ([108], [16]), ([110], [78, 106]), ([3], [3, 108, 110])] [ps 0 (.opt 0 0), ps 1 (.ssl (cxs v) 0 v.length), ps 6 (.osl 1 0 (2 ^ L)), ps 32 (.ssl (cxs v) 0 v.length), ps 33 (nv (2 ^ L)), ps 34 (nv i), pb 0 63 [(nv L), (.av (.int .u32 1)), (.av (.int .i32 0)), (.av (.int .u32 0)), (.ssl (rws (waves L)) 0 L)], pb 1 31 (cxs (ldL L v (i + 1)))] (obs_cons (by simp only [InK]; omega : InK .u32 ((i : Nat) : Int)) (obs_cons (rev_pc _ : PC Try.prog 24 [(.av (.int .u32 ((i : Nat) : Int)))] [] (.av (.int .u32 (rev32 ((i : Nat) : Int)))) []) (obs_cons (rfl : Ren0 74 [(.av (.int .u32 ((i : Nat) : Int)))]) (obs_cons (by simp only [InK]; omega : InK .i64 (32 - ((L : Nat) : Int))) (obs_cons (by simp only [IntKind.bits]; omega : (0 : Int) ≤ (32 - ((L : Nat) : Int)) ∧ (32 - ((L : Nat) : Int)) ≤ ((IntKind.bits .u32 : Nat) : Int)) (obs_cons (by simp only [InK]; omega : InK .i64 (((v.length : Nat) : Int) - 1)) (obs_cons (by simp only [InK]; omega : InK .u32 (((v.length : Nat) : Int) - 1)) (obs_cons (by have hr := (rev_at hL hi1).1; unfold revI an32 at hr; rw [hv, hr]; have hq := (rev_at hL hi1).2.1; omega : (0 : Int) ≤ (IntKind.wrap .u32 (BitVec.ofInt (IntKind.bits .u32) (((rev32 ((i : Nat) : Int))).fdiv (2 ^ ((32 - ((L : Nat) : Int)) : Int).toNat)) &&& BitVec.ofInt (IntKind.bits .u32) (((v.length : Nat) : Int) - 1)).toNat) ∧ (IntKind.wrap .u32 (BitVec.ofInt (IntKind.bits .u32) (((rev32 ((i : Nat) : Int))).fdiv (2 ^ ((32 - ((L : Nat) : Int)) : Int).toNat)) &&& BitVec.ofInt (IntKind.bits .u32) (((v.length : Nat) : Int) - 1)).toNat) < (((2 ^ L) : Nat) : Int)) (obs_cons (by have hr := (rev_at hL hi1).1; unfold revI an32 at hr; rw [hv, hr]; omega : 0 + ((IntKind.wrap .u32 (BitVec.ofInt (IntKind.bits .u32) (((rev32 ((i : Nat) : Int))).fdiv (2 ^ ((32 - ((L : Nat) : Int)) : Int).toNat)) &&& BitVec.ofInt (IntKind.bits .u32) (((v.length : Nat) : Int) - 1)).toNat) : Int).toNat * 1 = (brev L i)) (obs_cons (ld_store v hL hi1 : (brev L i) + 1 ≤ ((cxs (ldL L v i))).length ∧ splice (cxs (ldL L v i)) (brev L i) [(.av (.complex .f64 ((v.getD i (0, 0)).1) ((v.getD i (0, 0)).2)))] = (cxs (ldL L v (i + 1)))) obs_nil)))))))))) ?_
    refine T_blk ?_
    refine T_r mixed [] [ps 0 (.opt 0 0), ps 1 (.ssl (cxs v) 0 v.length), ps 6 (.osl 1 0 (2 ^ L)), ps 32 (.ssl (cxs v) 0 v.length), ps 33 (nv (2 ^ L)), ps 34 (iv (((i : Nat) : Int) + 1)), pb 0 63 [(nv L), (.av (.int .u32 1)), (.av (.int .i32 0)), (.av (.int .u32 0)), (.ssl (rws (waves L)) 0 L)], pb 1 31 (cxs (ldL L v (i + 1)))] (obs_cons (by simp only [InK]; omega : InK .i64 (((i : Nat) : Int) + 1)) obs_nil) ?_
    exact T_back ⟨i + 1, by omega⟩ (Wk.ren3 [ps 0 (.opt 0 0), ps 1 (.ssl (cxs v) 0 v.length), ps 6 (.osl 1 0 (2 ^ L)), ps 32 (.ssl (cxs v) 0 v.length), ps 33 (nv (2 ^ L)), ps 34 (nv (i + 1)), pb 0 63 [(nv L), (.av (.int .u32 1)), (.av (.int .i32 0)), (.av (.int .u32 0)), (.ssl (rws (waves L)) 0 L)], pb 1 31 (cxs (ldL L v (i + 1)))] 1 hc0 [0, 1] [(kb 1, (cxs (ldL L v (i + 1))))] (obs_cons (cxs_shd _) (obs_nil)) (by kernel_rfl) rfl rfl (by kernel_rfl) (by kernel_rfl)) (show 2 ^ L - (i + 1) < 2 ^ L - i from by omega)
  refine T_el (dtn h2) ?_
  refine T_break rfl rfl ?_
  refine T_seq <| T_seq ?_
  refine T_r mixed [] [ps 0 (.opt 0 0), ps 6 (.osl 1 0 (2 ^ L)), ps 60 (nv L), ps 61 (iv 0), pb 0 63 [(nv L), (.av (.int .u32 1)), (.av (.int .i32 0)), (.av (.int .u32 0)), (.ssl (rws (waves L)) 0 L)], pb 1 31 (cxs (ldL L v i))] (obs_nil) ?_
  refine T_block ?_
  obtain rfl : i = 2 ^ L := by omega
  refine T_wk (Wk.eq (show _ = [ps 0 (.opt 0 0), ps 6 (.osl 1 0 (2 ^ L)), ps 60 (nv L), ps 61 (iv 0), pb 0 63 [(nv L), (.av (.int .u32 1)), (.av (.int .i32 0)), (.av (.int .u32 0)), (.ssl (rws (waves L)) 0 L)], pb 1 31 (cxs (loadL L v))] from by rw [ld_full v hL])) ?_
  refine T_loop (α := {x : Nat × List FC // x.1 ≤ L ∧ x.2.length = 2 ^ L ∧ lRun L (L - x.1) x.1 x.2 = some r}) (fun x => [ps 0 (.opt 0 0), ps 6 (.osl 1 0 (2 ^ L)), ps 60 (nv L), ps 61 (nv x.1.1), pb 0 63 [(nv L), (.av (.int .u32 1)), (.av (.int .i32 0)), (.av (.int .u32 0)), (.ssl (rws (waves L)) 0 L)], pb 1 31 (cxs x.1.2)]) (fun x => L - x.1.1) 2 ⟨(0, loadL L v), ⟨Nat.zero_le _, loadL_len L v, hr⟩⟩ (Wk.ren3 [ps 0 (.opt 0 0), ps 6 (.osl 1 0 (2 ^ L)), ps 60 (nv L), ps 61 (nv 0), pb 0 63 [(nv L), (.av (.int .u32 1)), (.av (.int .i32 0)), (.av (.int .u32 0)), (.ssl (rws (waves L)) 0 L)], pb 1 31 (cxs (loadL L v))] 1 hc0 [0, 1] [(kb 1, (cxs (loadL L v)))] (obs_cons (cxs_shd _) (obs_nil)) (by kernel_rfl) rfl rfl (by kernel_rfl) (by kernel_rfl)) ?_
  rintro ⟨⟨l, o⟩, ⟨hl, ho, hr0⟩⟩
  dsimp only at hl ho hr0
  refine T_seq ?_
  refine T_r mixed [] [ps 0 (.opt 0 0), ps 6 (.osl 1 0 (2 ^ L)), ps 60 (nv L), ps 61 (nv l), ps 62 (bv (decide (((l : Nat) : Int) < ((L : Nat) : Int)))), pb 0 63 [(nv L), (.av (.int .u32 1)), (.av (.int .i32 0)), (.av (.int .u32 0)), (.ssl (rws (waves L)) 0 L)], pb 1 31 (cxs o)] (obs_nil) ?_
  refine T_seq ?_
  by_cases h3 : ((l : Nat) : Int) < ((L : Nat) : Int)
  · refine T_th (dty h3) ?_
    refine T_skip <| T_seq <| T_block <| T_seq ?_
    have hl1 : l < L := by omega
    have h2l := p2_le (l := l) (by omega)
    have hsp := p2_split hl1
    have h2p : 0 < 2 ^ l := Nat.pow_pos (by decide)
    refine T_r mixed [] [ps 0 (.opt 0 0), ps 6 (.osl 1 0 (2 ^ L)), ps 9 (nv l), ps 60 (nv L), ps 61 (nv l), pb 0 63 [(nv L), (.av (.int .u32 1)), (.av (.int .i32 0)), (.av (.int .u32 0)), (.ssl (rws (waves L)) 0 L)], pb 1 31 (cxs o)] (obs_nil) ?_
    refine T_seq ?_
    refine T_r mixed [] [ps 0 (.opt 0 0), ps 6 (.osl 1 0 (2 ^ L)), ps 9 (nv l), ps 10 (iv (1 * 2 ^ (((l : Nat) : Int) : Int).toNat)), ps 60 (nv L), ps 61 (nv l), pb 0 63 [(nv L), (.av (.int .u32 1)), (.av (.int .i32 0)), (.av (.int .u32 0)), (.ssl (rws (waves L)) 0 L)], pb 1 31 (cxs o)] (obs_cons (by simp only [IntKind.bits]; omega : (0 : Int) ≤ ((l : Nat) : Int) ∧ ((l : Nat) : Int) ≤ ((IntKind.bits .i64 : Nat) : Int)) (obs_cons (p2_in (l := l) (by omega) : InK .i64 (1 * 2 ^ (((l : Nat) : Int) : Int).toNat)) obs_nil)) ?_
    refine T_wk (Wk.eq (show _ = [ps 0 (.opt 0 0), ps 6 (.osl 1 0 (2 ^ L)), ps 9 (nv l), ps 10 (nv (2 ^ l)), ps 60 (nv L), ps 61 (nv l), pb 0 63 [(nv L), (.av (.int .u32 1)), (.av (.int .i32 0)), (.av (.int .u32 0)), (.ssl (rws (waves L)) 0 L)], pb 1 31 (cxs o)] from by simp only [p2i])) ?_
    refine T_seq ?_
    refine T_r mixed [] [ps 0 (.opt 0 0), ps 6 (.osl 1 0 (2 ^ L)), ps 9 (nv l), ps 10 (nv (2 ^ l)), ps 11 (iv 0), ps 60 (nv L), ps 61 (nv l), pb 0 63 [(nv L), (.av (.int .u32 1)), (.av (.int .i32 0)), (.av (.int .u32 0)), (.ssl (rws (waves L)) 0 L)], pb 1 31 (cxs o)] (obs_nil) ?_
    refine T_block ?_
    refine T_loop (α := {x : Nat × Nat × List FC // x.2.1 = x.1 * (2 * 2 ^ l) ∧ x.2.2.length = 2 ^ L ∧ (aRun l (2 ^ (L - 1 - l) - x.1) x.2.1 x.2.2).bind (lRun L (L - (l + 1)) (l + 1)) = some r}) (fun x => [ps 0 (.opt 0 0), ps 6 (.osl 1 0 (2 ^ L)), ps 9 (nv l), ps 10 (nv (2 ^ l)), ps 11 (nv x.1.2.1), ps 60 (nv L), ps 61 (nv l), pb 0 63 [(nv L), (.av (.int .u32 1)), (.av (.int .i32 0)), (.av (.int .u32 0)), (.ssl (rws (waves L)) 0 L)], pb 1 31 (cxs x.1.2.2)]) (fun x => 2 ^ L - x.1.2.1) 2 ⟨(0, 0, o), ⟨(Nat.zero_mul _).symm, ho, lRun_step hl1 hr0⟩⟩ (Wk.ren3 [ps 0 (.opt 0 0), ps 6 (.osl 1 0 (2 ^ L)), ps 9 (nv l), ps 10 (nv (2 ^ l)), ps 11 (nv 0), ps 60 (nv L), ps 61 (nv l), pb 0 63 [(nv L), (.av (.int .u32 1)), (.av (.int .i32 0)), (.av (.int .u32 0)), (.ssl (rws (waves L)) 0 L)], pb 1 31 (cxs o)] 1 hc0 [0, 1] [(kb 1, (cxs o))] (obs_cons (cxs_shd _) (obs_nil)) (by kernel_rfl) rfl rfl (by kernel_rfl) (by kernel_rfl)) ?_
    rintro ⟨⟨m, c, o1⟩, ⟨hc, ho1, hr1⟩⟩
    dsimp only at hc ho1 hr1
    refine T_seq <| T_seq ?_
    refine T_r mixed [] [ps 0 (.opt 0 0), ps 6 (.osl 1 0 (2 ^ L)), ps 9 (nv l), ps 10 (nv (2 ^ l)), ps 11 (nv c), ps 60 (nv L), ps 61 (nv l), ps 69 (bv (decide (((c : Nat) : Int) < (((2 ^ L) : Nat) : Int)))), pb 0 63 [(nv L), (.av (.int .u32 1)), (.av (.int .i32 0)), (.av (.int .u32 0)), (.ssl (rws (waves L)) 0 L)], pb 1 31 (cxs o1)] (obs_nil) ?_
    by_cases h4 : ((c : Nat) : Int) < (((2 ^ L) : Nat) : Int)
    · refine T_th (dty h4) ?_
      refine T_skip <| T_seq <| T_block <| T_seq ?_
      obtain ⟨hm, hcb⟩ := (blk_more hl1 hc).1 (by omega)
      refine T_r mixed [] [ps 0 (.opt 0 0), ps 6 (.osl 1 0 (2 ^ L)), ps 9 (nv l), ps 10 (nv (2 ^ l)), ps 11 (nv c), ps 60 (nv L), ps 61 (nv l), ps 74 (nv (2 ^ l)), ps 75 (iv 0), pb 0 63 [(nv L), (.av (.int .u32 1)), (.av (.int .i32 0)), (.av (.int .u32 0)), (.ssl (rws (waves L)) 0 L)], pb 1 31 (cxs o1)] (obs_nil) ?_
      refine T_block ?_
      refine T_loop (α := {x : Nat × List FC // x.1 ≤ 2 ^ l ∧ x.2.length = 2 ^ L ∧ (kRun l c (2 ^ l - x.1) x.1 x.2).bind (fun q => (aRun l (2 ^ (L - 1 - l) - (m + 1)) (c + 2 * 2 ^ l) q).bind (lRun L (L - (l + 1)) (l + 1))) = some r}) (fun x => [ps 0 (.opt 0 0), ps 6 (.osl 1 0 (2 ^ L)), ps 9 (nv l), ps 10 (nv (2 ^ l)), ps 11 (nv c), ps 60 (nv L), ps 61 (nv l), ps 74 (nv (2 ^ l)), ps 75 (nv x.1.1), pb 0 63 [(nv L), (.av (.int .u32 1)), (.av (.int .i32 0)), (.av (.int .u32 0)), (.ssl (rws (waves L)) 0 L)], pb 1 31 (cxs x.1.2)]) (fun x => 2 ^ l - x.1.1) 2 ⟨(0, o1), ⟨Nat.zero_le _, ho1, aRun_step hm hr1⟩⟩ (Wk.ren3 [ps 0 (.opt 0 0), ps 6 (.osl 1 0 (2 ^ L)), ps 9 (nv l), ps 10 (nv (2 ^ l)), ps 11 (nv c), ps 60 (nv L), ps 61 (nv l), ps 74 (nv (2 ^ l)), ps 75 (nv 0), pb 0 63 [(nv L), (.av (.int .u32 1)), (.av (.int .i32 0)), (.av (.int .u32 0)), (.ssl (rws (waves L)) 0 L)], pb 1 31 (cxs o1)] 1 hc0 [0, 1] [(kb 1, (cxs o1))] (obs_cons (cxs_shd _) (obs_nil)) (by kernel_rfl) rfl rfl (by kernel_rfl) (by kernel_rfl)) ?_
      rintro ⟨⟨k, o2⟩, ⟨hk, ho2, hr2⟩⟩
      dsimp only at hk ho2 hr2
      refine T_seq ?_
      refine T_r mixed [] [ps 0 (.opt 0 0), ps 6 (.osl 1 0 (2 ^ L)), ps 9 (nv l), ps 10 (nv (2 ^ l)), ps 11 (nv c), ps 60 (nv L), ps 61 (nv l), ps 74 (nv (2 ^ l)), ps 75 (nv k), ps 76 (bv (decide (((k : Nat) : Int) < (((2 ^ l) : Nat) : Int)))), pb 0 63 [(nv L), (.av (.int .u32 1)), (.av (.int .i32 0)), (.av (.int .u32 0)), (.ssl (rws (waves L)) 0 L)], pb 1 31 (cxs o2)] (obs_nil) ?_
      refine T_seq ?_
      by_cases h5 : ((k : Nat) : Int) < (((2 ^ l) : Nat) : Int)
      · refine T_th (dty h5) ?_
        refine T_skip <| T_seq <| T_block <| T_seq ?_
        have hk1 : k < 2 ^ l := by omega
        have hwl := waves_len L
        have hwa := waves_at hl1
        have hpl := powL_len l (2 ^ l)
        have hwb : ((waves L).getD l []).length = 2 ^ l := by rw [hwa, hpl]
        have hpa := powL_at (l := l) hk1
        obtain ⟨t, a, b, hT, hA, hB, hr3⟩ := kRun_step hk1 hr2
        refine T_r mixed [] [ps 0 (.opt 0 0), ps 6 (.osl 1 0 (2 ^ L)), ps 9 (nv l), ps 10 (nv (2 ^ l)), ps 11 (nv c), ps 12 (nv k), ps 60 (nv L), ps 61 (nv l), ps 74 (nv (2 ^ l)), ps 75 (nv k), pb 0 63 [(nv L), (.av (.int .u32 1)), (.av (.int .i32 0)), (.av (.int .u32 0)), (.ssl (rws (waves L)) 0 L)], pb 1 31 (cxs o2)] (obs_nil) ?_
        refine T_seq ?_
        refine T_rd mixed [(4, .nat (c + k)), (5, .val (.av (.complex .f64 ((o2.getD (c + k) (0, 0)).1) ((o2.getD (c + k) (0, 0)).2)))), (11, .nat l), (12, .val (.ssl (cxs ((waves L).getD l [])) 0 (((waves L).getD l []).length))), (14, .nat k), (15, .val (.av (.complex .f64 ((((waves L).getD l []).getD k (0, 0)).1) ((((waves L).getD l []).getD k (0, 0)).2)))), (22, .nat (((((c : Nat) : Int) + ((k : Nat) : Int)) + (((2 ^ l) : Nat) : Int)).toNat)), (23, .val (.av (.complex .f64 ((o2.getD (((((c : Nat) : Int) + ((k : Nat) : Int)) + (((2 ^ l) : Nat) : Int)).toNat) (0, 0)).1) ((o2.getD (((((c : Nat) : Int) + ((k : Nat) : Int)) + (((2 ^ l) : Nat) : Int)).toNat) (0, 0)).2)))), (24, .nat2 t.1 t.2)] [[], [], [], [1, 2], [0, 1, 2, 3], [0, 1, 2, 3, 4], [], [6], [6, 7], [6, 7, 8], [], [6, 7, 8, 9, 10], [6, 7, 8, 9, 10, 11], [], [6, 7, 8, 9, 10, 11, 12, 13], [6, 7, 8, 9, 10, 11, 12, 13, 14], [], [], [], [17, 18], [], [17, 18, 19, 20], [16, 17, 18, 19, 20, 21], [16, 17, 18, 19, 20, 21, 22], [6, 7, 8, 9, 10, 11, 12, 13, 14, 15, 16, 17, 18, 19, 20, 21, 22, 23], [0, 1, 2, 3, 4, 5], [0, 1, 2, 3, 4, 5, 6, 7, 8, 9, 10, 11, 12, 13, 14, 15, 16, 17, 18, 19, 20, 21, 22, 23, 24, 25]] [([156], [12]), ([158], [22]), ([160], [24]), ([162], [158, 160]), ([164], [156, 162]), ([166], [3, 164]), ([168], [0]), ([170], [168]), ([172], [170]), ([174], [1, 172]), ([176], [18]), ([178], [174, 176]), ([180], [178]), ([182], [24]), ([184], [180, 182]), ([186], [184]), ([188], [12]), ([190], [22]), ([192], [24]), ([194], [190, 192]), ([196], [20]), ([198], [194, 196]), ([200], [188, 198]), ([202], [3, 200]), ([204], [186, 202]), ([26], [166]), ([28], [204])] [ps 0 (.opt 0 0), ps 6 (.osl 1 0 (2 ^ L)), ps 9 (nv l), ps 10 (nv (2 ^ l)), ps 11 (nv c), ps 12 (nv k), ps 13 (.av (.complex .f64 ((o2.getD (c + k) (0, 0)).1) ((o2.getD (c + k) (0, 0)).2))), ps 14 (.av (.complex .f64 t.1 t.2)), ps 60 (nv L), ps 61 (nv l), ps 74 (nv (2 ^ l)), ps 75 (nv k), pb 0 63 [(nv L), (.av (.int .u32 1)), (.av (.int .i32 0)), (.av (.int .u32 0)), (.ssl (rws (waves L)) 0 L)], pb 1 31 (cxs o2)] (obs_cons (by simp only [InK]; omega : InK .i64 (((c : Nat) : Int) + ((k : Nat) : Int))) (obs_cons (by omega : (0 : Int) ≤ (((c : Nat) : Int) + ((k : Nat) : Int)) ∧ (((c : Nat) : Int) + ((k : Nat) : Int)) < (((2 ^ L) : Nat) : Int)) (obs_cons (by omega : 0 + ((((c : Nat) : Int) + ((k : Nat) : Int)) : Int).toNat * 1 = (c + k)) (obs_cons (flat_at1 cxC (fun _ => rfl) (0, 0) o2 (c + k) (by omega) : (c + k) + 1 ≤ ((cxs o2)).length ∧ (((cxs o2)).drop (c + k)).take 1 = [(.av (.complex .f64 ((o2.getD (c + k) (0, 0)).1) ((o2.getD (c + k) (0, 0)).2)))]) (obs_cons (by omega : (0 : Int) ≤ ((l : Nat) : Int) ∧ ((l : Nat) : Int) < ((L : Nat) : Int)) (obs_cons (by omega : 0 + (((l : Nat) : Int) : Int).toNat * 1 = l) (obs_cons (flat_at1 rwC (fun _ => rfl) [] (waves L) l (by omega) : l + 1 ≤ ((rws (waves L))).length ∧ (((rws (waves L))).drop l).take 1 = [(.ssl (cxs ((waves L).getD l [])) 0 (((waves L).getD l []).length))]) (obs_cons (by omega : (0 : Int) ≤ ((k : Nat) : Int) ∧ ((k : Nat) : Int) < ((((waves L).getD l []).length : Nat) : Int)) (obs_cons (by omega : 0 + (((k : Nat) : Int) : Int).toNat * 1 = k) (obs_cons (flat_at1 cxC (fun _ => rfl) (0, 0) ((waves L).getD l []) k (by omega) : k + 1 ≤ ((cxs ((waves L).getD l []))).length ∧ (((cxs ((waves L).getD l []))).drop k).take 1 = [(.av (.complex .f64 ((((waves L).getD l []).getD k (0, 0)).1) ((((waves L).getD l []).getD k (0, 0)).2)))]) (obs_cons (by simp only [InK]; omega : InK .i64 (((c : Nat) : Int) + ((k : Nat) : Int))) (obs_cons (by simp only [InK]; omega : InK .i64 ((((c : Nat) : Int) + ((k : Nat) : Int)) + (((2 ^ l) : Nat) : Int))) (obs_cons (by omega : (0 : Int) ≤ ((((c : Nat) : Int) + ((k : Nat) : Int)) + (((2 ^ l) : Nat) : Int)) ∧ ((((c : Nat) : Int) + ((k : Nat) : Int)) + (((2 ^ l) : Nat) : Int)) < (((2 ^ L) : Nat) : Int)) (obs_cons (by omega : 0 + (((((c : Nat) : Int) + ((k : Nat) : Int)) + (((2 ^ l) : Nat) : Int)) : Int).toNat * 1 = (((((c : Nat) : Int) + ((k : Nat) : Int)) + (((2 ^ l) : Nat) : Int)).toNat)) (obs_cons (flat_at1 cxC (fun _ => rfl) (0, 0) o2 (((((c : Nat) : Int) + ((k : Nat) : Int)) + (((2 ^ l) : Nat) : Int)).toNat) (by omega) : (((((c : Nat) : Int) + ((k : Nat) : Int)) + (((2 ^ l) : Nat) : Int)).toNat) + 1 ≤ ((cxs o2)).length ∧ (((cxs o2)).drop (((((c : Nat) : Int) + ((k : Nat) : Int)) + (((2 ^ l) : Nat) : Int)).toNat)).take 1 = [(.av (.complex .f64 ((o2.getD (((((c : Nat) : Int) + ((k : Nat) : Int)) + (((2 ^ l) : Nat) : Int)).toNat) (0, 0)).1) ((o2.getD (((((c : Nat) : Int) + ((k : Nat) : Int)) + (((2 ^ l) : Nat) : Int)).toNat) (0, 0)).2)))]) (obs_cons (by rw [hwa, hpa]; exact hT : cMul ((((waves L).getD l []).getD k (0, 0)).1) ((((waves L).getD l []).getD k (0, 0)).2) ((o2.getD (((((c : Nat) : Int) + ((k : Nat) : Int)) + (((2 ^ l) : Nat) : Int)).toNat) (0, 0)).1) ((o2.getD (((((c : Nat) : Int) + ((k : Nat) : Int)) + (((2 ^ l) : Nat) : Int)).toNat) (0, 0)).2) = some (t.1, t.2)) obs_nil)))))))))))))))) ?_
        refine T_r mixed [(12, .nat2 a.1 a.2), (15, .nat2 b.1 b.2), (16, .nat (c + k)), (17, .cells (cxs (o2.set (c + k) a))), (18, .nat (((((c : Nat) : Int) + ((k : Nat) : Int)) + (((2 ^ l) : Nat) : Int)).toNat)), (19, .cells (cxs ((o2.set (c + k) a).set (c + k + 2 ^ l) b)))] [ps 0 (.opt 0 0), ps 6 (.osl 1 0 (2 ^ L)), ps 9 (nv l), ps 10 (nv (2 ^ l)), ps 11 (nv c), ps 60 (nv L), ps 61 (nv l), ps 74 (nv (2 ^ l)), ps 75 (nv k), pb 0 63 [(nv L), (.av (.int .u32 1)), (.av (.int .i32 0)), (.av (.int .u32 0)), (.ssl (rws (waves L)) 0 L)], pb 1 31 (cxs ((o2.set (c + k) a).set (c + k + 2 ^ l) b))] (obs_cons (by simp only [InK]; omega : InK .i64 (((c : Nat) : Int) + ((k : Nat) : Int))) (obs_cons (by simp only [InK]; omega : InK .i64 (((c : Nat) : Int) + ((k : Nat) : Int))) (obs_cons (by simp only [InK]; omega : InK .i64 ((((c : Nat) : Int) + ((k : Nat) : Int)) + (((2 ^ l) : Nat) : Int))) (obs_cons (hA : cAdd ((o2.getD (c + k) (0, 0)).1) ((o2.getD (c + k) (0, 0)).2) t.1 t.2 = some (a.1, a.2)) (obs_cons (hB : cSub ((o2.getD (c + k) (0, 0)).1) ((o2.getD (c + k) (0, 0)).2) t.1 t.2 = some (b.1, b.2)) (obs_cons (by omega : (0 : Int) ≤ (((c : Nat) : Int) + ((k : Nat) : Int)) ∧ (((c : Nat) : Int) + ((k : Nat) : Int)) < (((2 ^ L) : Nat) : Int)) (obs_cons (by omega : 0 + ((((c : Nat) : Int) + ((k : Nat) : Int)) : Int).toNat * 1 = (c + k)) (obs_cons (set_at1 a ho2 (by omega) : (c + k) + 1 ≤ ((cxs o2)).length ∧ splice (cxs o2) (c + k) [(.av (.complex .f64 a.1 a.2))] = (cxs (o2.set (c + k) a))) (obs_cons (by omega : (0 : Int) ≤ ((((c : Nat) : Int) + ((k : Nat) : Int)) + (((2 ^ l) : Nat) : Int)) ∧ ((((c : Nat) : Int) + ((k : Nat) : Int)) + (((2 ^ l) : Nat) : Int)) < (((2 ^ L) : Nat) : Int)) (obs_cons (by omega : 0 + (((((c : Nat) : Int) + ((k : Nat) : Int)) + (((2 ^ l) : Nat) : Int)) : Int).toNat * 1 = (((((c : Nat) : Int) + ((k : Nat) : Int)) + (((2 ^ l) : Nat) : Int)).toNat)) (obs_cons (set_at1 (n := 2 ^ L) b (by rw [List.length_set]; exact ho2) (by omega) : (((((c : Nat) : Int) + ((k : Nat) : Int)) + (((2 ^ l) : Nat) : Int)).toNat) + 1 ≤ ((cxs (o2.set (c + k) a))).length ∧ splice (cxs (o2.set (c + k) a)) (((((c : Nat) : Int) + ((k : Nat) : Int)) + (((2 ^ l) : Nat) : Int)).toNat) [(.av (.complex .f64 b.1 b.2))] = (cxs ((o2.set (c + k) a).set (c + k + 2 ^ l) b))) obs_nil))))))))))) ?_
        refine T_blk ?_
        refine T_r mixed [] [ps 0 (.opt 0 0), ps 6 (.osl 1 0 (2 ^ L)), ps 9 (nv l), ps 10 (nv (2 ^ l)), ps 11 (nv c), ps 60 (nv L), ps 61 (nv l), ps 74 (nv (2 ^ l)), ps 75 (iv (((k : Nat) : Int) + 1)), pb 0 63 [(nv L), (.av (.int .u32 1)), (.av (.int .i32 0)), (.av (.int .u32 0)), (.ssl (rws (waves L)) 0 L)], pb 1 31 (cxs ((o2.set (c + k) a).set (c + k + 2 ^ l) b))] (obs_cons (by simp only [InK]; omega : InK .i64 (((k : Nat) : Int) + 1)) obs_nil) ?_
        exact T_back ⟨(k + 1, ((o2.set (c + k) a).set (c + k + 2 ^ l) b)), ⟨by omega, set_len _ _ ho2, hr3⟩⟩ (Wk.ren3 [ps 0 (.opt 0 0), ps 6 (.osl 1 0 (2 ^ L)), ps 9 (nv l), ps 10 (nv (2 ^ l)), ps 11 (nv c), ps 60 (nv L), ps 61 (nv l), ps 74 (nv (2 ^ l)), ps 75 (nv (k + 1)), pb 0 63 [(nv L), (.av (.int .u32 1)), (.av (.int .i32 0)), (.av (.int .u32 0)), (.ssl (rws (waves L)) 0 L)], pb 1 31 (cxs ((o2.set (c + k) a).set (c + k + 2 ^ l) b))] 1 hc0 [0, 1] [(kb 1, (cxs ((o2.set (c + k) a).set (c + k + 2 ^ l) b)))] (obs_cons (cxs_shd _) (obs_nil)) (by kernel_rfl) rfl rfl (by kernel_rfl) (by kernel_rfl)) (show 2 ^ l - (k + 1) < 2 ^ l - k from by show 2 ^ l - (k + 1) < 2 ^ l - k; omega)
      refine T_el (dtn h5) ?_
      refine T_break rfl rfl ?_
      refine T_blk ?_
      refine T_r mixed [] [ps 0 (.opt 0 0), ps 6 (.osl 1 0 (2 ^ L)), ps 9 (nv l), ps 10 (nv (2 ^ l)), ps 11 (iv (((c : Nat) : Int) + (2 * (((2 ^ l) : Nat) : Int)))), ps 60 (nv L), ps 61 (nv l), pb 0 63 [(nv L), (.av (.int .u32 1)), (.av (.int .i32 0)), (.av (.int .u32 0)), (.ssl (rws (waves L)) 0 L)], pb 1 31 (cxs o2)] (obs_cons (by simp only [InK]; omega : InK .i64 (2 * (((2 ^ l) : Nat) : Int))) (obs_cons (by simp only [InK]; omega : InK .i64 (((c : Nat) : Int) + (2 * (((2 ^ l) : Nat) : Int)))) obs_nil)) ?_
      exact T_back ⟨(m + 1, c + 2 * 2 ^ l, o2), ⟨c_next hc, ho2, kRun_end (by omega) hr2⟩⟩ (Wk.ren3 [ps 0 (.opt 0 0), ps 6 (.osl 1 0 (2 ^ L)), ps 9 (nv l), ps 10 (nv (2 ^ l)), ps 11 (nv (c + 2 * 2 ^ l)), ps 60 (nv L), ps 61 (nv l), pb 0 63 [(nv L), (.av (.int .u32 1)), (.av (.int .i32 0)), (.av (.int .u32 0)), (.ssl (rws (waves L)) 0 L)], pb 1 31 (cxs o2)] 1 hc0 [0, 1] [(kb 1, (cxs o2))] (obs_cons (cxs_shd _) (obs_nil)) (by kernel_rfl) rfl rfl (by kernel_rfl) (by kernel_rfl)) (show 2 ^ L - (c + 2 * 2 ^ l) < 2 ^ L - c from by show 2 ^ L - (c + 2 * 2 ^ l) < 2 ^ L - c; omega)
    refine T_el (dtn h4) ?_
    refine T_break rfl rfl ?_
    refine T_blk ?_
    refine T_r mixed [] [ps 0 (.opt 0 0), ps 6 (.osl 1 0 (2 ^ L)), ps 60 (nv L), ps 61 (iv (((l : Nat) : Int) + 1)), pb 0 63 [(nv L), (.av (.int .u32 1)), (.av (.int .i32 0)), (.av (.int .u32 0)), (.ssl (rws (waves L)) 0 L)], pb 1 31 (cxs o1)] (obs_cons (by simp only [InK]; omega : InK .i64 (((l : Nat) : Int) + 1)) obs_nil) ?_
    exact T_back ⟨(l + 1, o1), ⟨by omega, ho1, aRun_end ((blk_more hl1 hc).2 (by omega)) hr1⟩⟩ (Wk.ren3 [ps 0 (.opt 0 0), ps 6 (.osl 1 0 (2 ^ L)), ps 60 (nv L), ps 61 (nv (l + 1)), pb 0 63 [(nv L), (.av (.int .u32 1)), (.av (.int .i32 0)), (.av (.int .u32 0)), (.ssl (rws (waves L)) 0 L)], pb 1 31 (cxs o1)] 1 hc0 [0, 1] [(kb 1, (cxs o1))] (obs_cons (cxs_shd _) (obs_nil)) (by kernel_rfl) rfl rfl (by kernel_rfl) (by kernel_rfl)) (show L - (l + 1) < L - l from by show L - (l + 1) < L - l; omega)
  refine T_el (dtn h3) ?_
  refine T_break rfl rfl ?_
  refine T_seq ?_
  refine T_r mixed [] [ps 4 (.osl 1 0 (2 ^ L)), ps 5 (iv 0), pb 0 63 [(nv L), (.av (.int .u32 1)), (.av (.int .i32 0)), (.av (.int .u32 0)), (.ssl (rws (waves L)) 0 L)], pb 1 31 (cxs o)] (obs_nil) ?_
  obtain rfl := lRun_end (by omega) hr0
  exact T_ret fun cx_ a_ hI_ => ret_ok (H' := [some (63, [(nv L), (.av (.int .u32 1)), (.av (.int .i32 0)), (.av (.int .u32 0)), (.ssl (rws (waves L)) 0 L)]), some (31, (cxs o))]) (.inr rfl) (Wk.ren3 [ps 4 (.osl 1 0 (2 ^ L)), ps 5 (iv 0), pb 0 63 [(nv L), (.av (.int .u32 1)), (.av (.int .i32 0)), (.av (.int .u32 0)), (.ssl (rws (waves L)) 0 L)], pb 1 31 (cxs o)] 1 hc0 [0, 1] [(kb 1, (cxs o))] (obs_cons (cxs_shd _) (obs_nil)) (by kernel_rfl) rfl rfl (by kernel_rfl) (by kernel_rfl)) rfl (obs_cons rfl (obs_cons rfl (obs_nil))) (fun cx_ a_ hI_ => ret_res (l' := [ps 4 (.osl 1 0 (2 ^ L)), ps 5 (iv 0), pb 0 63 [(nv L), (.av (.int .u32 1)), (.av (.int .i32 0)), (.av (.int .u32 0)), (.ssl (rws (waves L)) 0 L)], pb 1 31 (cxs o)]) (by kernel_rfl) cx_ a_ hI_) hI_
set_option maxRecDepth 100000 in
set_option maxHeartbeats 4000000 in
theorem apart2_pc (L : Nat) (hL : L ≤ 12) (v : List FC) (hv : v.length = 2 ^ L) {r : List FC} (hr : apartO L v = some r) : PC Try.prog 15 [(.opt 0 0), (.ssl (cxs v) 0 v.length)] [some (63, [(nv L), (.av (.int .u32 1)), (.av (.int .i32 0)), (.av (.int .u32 0)), (.ssl (rws (waves L)) 0 L)])] (.tup [(.osl 1 0 (2 ^ L)), (iv 0)]) [some (63, [(nv L), (.av (.int .u32 1)), (.av (.int .i32 0)), (.av (.int .u32 0)), (.ssl (rws (waves L)) 0 L)]), some (31, (cxs r))] := by
  refine pc_intro Try.func15 rfl (by kernel_rfl) (Nat.le_of_ble_eq_true rfl) (by kernel_rfl) (l0 := [ps 0 (.opt 0 0), ps 1 (.ssl (cxs v) 0 v.length), pb 0 63 [(nv L), (.av (.int .u32 1)), (.av (.int .i32 0)), (.av (.int .u32 0)), (.ssl (rws (waves L)) 0 L)]]) rfl (fun c0 Bor hc0 => ?_)
  refine T_seq ?_
  refine T_r mixed [] [ps 0 (.opt 0 0), ps 1 (.ssl (cxs v) 0 v.length), pb 0 63 [(nv L), (.av (.int .u32 1)), (.av (.int .i32 0)), (.av (.int .u32 0)), (.ssl (rws (waves L)) 0 L)]] (obs_nil) ?_
  refine T_seq <| T_seq ?_
  refine T_r mixed [] [ps 0 (.opt 0 0), ps 1 (.ssl (cxs v) 0 v.length), ps 22 (bv (!(decide (((v.length : Nat) : Int) = (1 * 2 ^ (((L : Nat) : Int) : Int).toNat))))), pb 0 63 [(nv L), (.av (.int .u32 1)), (.av (.int .i32 0)), (.av (.int .u32 0)), (.ssl (rws (waves L)) 0 L)]] (obs_cons (by simp only [IntKind.bits]; omega : (0 : Int) ≤ ((L : Nat) : Int) ∧ ((L : Nat) : Int) ≤ ((IntKind.bits .i64 : Nat) : Int)) (obs_cons (p2_in (l := L) hL : InK .i64 (1 * 2 ^ (((L : Nat) : Int) : Int).toNat)) obs_nil)) ?_
  have h1 : ((v.length : Nat) : Int) = (1 * 2 ^ (((L : Nat) : Int) : Int).toNat) := by rw [hv]; exact (p2i L).symm
  refine T_el (bt h1) ?_
  refine T_skip <| T_seq ?_
  refine T_r mixed [(5, .call [0] [(.opt 0 1), (PV.fn (.func 23) [(.opt 0 0)] [])] [some (63, [(nv L), (.av (.int .u32 1)), (.av (.int .i32 0)), (.av (.int .u32 0)), (.ssl (rws (waves L)) 0 L)])] (.tup []) [some (63, [(nv L), (.av (.int .u32 1)), (.av (.int .i32 0)), (.av (.int .u32 0)), (.ssl (rws (waves L)) 0 L)])])] [ps 0 (.opt 0 0), ps 1 (.ssl (cxs v) 0 v.length), pb 0 63 [(nv L), (.av (.int .u32 1)), (.av (.int .i32 0)), (.av (.int .u32 0)), (.ssl (rws (waves L)) 0 L)]] (obs_cons (do2_pc L) (obs_cons (rfl : [(.opt 0 1), (PV.fn (.func 23) [(.opt 0 0)] [])] = renL (sigi [0] 121) [(.opt 0 1), (PV.fn (.func 23) [(.opt 0 0)] [])]) (obs_cons (rfl : [(nv L), (.av (.int .u32 1)), (.av (.int .i32 0)), (.av (.int .u32 0)), (.ssl (rws (waves L)) 0 L)] = renL (sigi [0] 121) [(nv L), (.av (.int .u32 1)), (.av (.int .i32 0)), (.av (.int .u32 0)), (.ssl (rws (waves L)) 0 L)]) obs_nil))) ?_
  refine T_seq ?_
  have h2L := p2_le hL
  refine T_r mixed [(2, .cells (cxs (List.replicate v.length (0, 0))))] [ps 0 (.opt 0 0), ps 1 (.ssl (cxs v) 0 v.length), ps 6 (.osl 145 0 v.length), pb 0 63 [(nv L), (.av (.int .u32 1)), (.av (.int .i32 0)), (.av (.int .u32 0)), (.ssl (rws (waves L)) 0 L)], pb 145 31 (cxs (List.replicate v.length (0, 0)))] (obs_cons (by omega : (0 : Int) ≤ ((v.length : Nat) : Int) ∧ ((v.length : Nat) : Int) ≤ ((v.length : Nat) : Int) ∧ ((v.length : Nat) : Int) ≤ 140737488355328 ∧ ((16 : Nat) : Int) * ((v.length : Nat) : Int) ≤ 140737488355328) (obs_cons (zeros_cxs _ : zeros [(.av (.complex .f64 0 0))] (((v.length : Nat) : Int) : Int).toNat = (cxs (List.replicate v.length (0, 0)))) obs_nil)) ?_
  refine T_seq <| T_seq ?_
  refine T_r mixed [] [ps 0 (.opt 0 0), ps 1 (.ssl (cxs v) 0 v.length), ps 6 (.osl 145 0 v.length), ps 32 (.ssl (cxs v) 0 v.length), ps 33 (nv v.length), ps 34 (iv 0), pb 0 63 [(nv L), (.av (.int .u32 1)), (.av (.int .i32 0)), (.av (.int .u32 0)), (.ssl (rws (waves L)) 0 L)], pb 145 31 (cxs (List.replicate v.length (0, 0)))] (obs_nil) ?_
  refine T_block ?_
  refine T_wk (Wk.eq (show _ = [ps 0 (.opt 0 0), ps 1 (.ssl (cxs v) 0 v.length), ps 6 (.osl 145 0 (2 ^ L)), ps 32 (.ssl (cxs v) 0 v.length), ps 33 (nv (2 ^ L)), ps 34 (iv 0), pb 0 63 [(nv L), (.av (.int .u32 1)), (.av (.int .i32 0)), (.av (.int .u32 0)), (.ssl (rws (waves L)) 0 L)], pb 145 31 (cxs (ldL L v 0))] from by rw [← ld_zero L v]; simp only [hv])) ?_
  refine T_loop (α := {x : Nat // x ≤ 2 ^ L}) (fun x => [ps 0 (.opt 0 0), ps 1 (.ssl (cxs v) 0 v.length), ps 6 (.osl 1 0 (2 ^ L)), ps 32 (.ssl (cxs v) 0 v.length), ps 33 (nv (2 ^ L)), ps 34 (nv x.1), pb 0 63 [(nv L), (.av (.int .u32 1)), (.av (.int .i32 0)), (.av (.int .u32 0)), (.ssl (rws (waves L)) 0 L)], pb 1 31 (cxs (ldL L v x.1))]) (fun x => 2 ^ L - x.1) 2 ⟨0, Nat.zero_le _⟩ (Wk.ren3 [ps 0 (.opt 0 0), ps 1 (.ssl (cxs v) 0 v.length), ps 6 (.osl 1 0 (2 ^ L)), ps 32 (.ssl (cxs v) 0 v.length), ps 33 (nv (2 ^ L)), ps 34 (nv 0), pb 0 63 [(nv L), (.av (.int .u32 1)), (.av (.int .i32 0)), (.av (.int .u32 0)), (.ssl (rws (waves L)) 0 L)], pb 1 31 (cxs (ldL L v 0))] 1 hc0 [0, 145] [(kb 1, (cxs (ldL L v 0)))] (obs_cons (cxs_shd _) (obs_nil)) (by kernel_rfl) rfl rfl (by kernel_rfl) (by kernel_rfl)) ?_
  rintro ⟨i, hi⟩
  refine T_seq ?_
  refine T_r mixed [] [ps 0 (.opt 0 0), ps 1 (.ssl (cxs v) 0 v.length), ps 6 (.osl 1 0 (2 ^ L)), ps 32 (.ssl (cxs v) 0 v.length), ps 33 (nv (2 ^ L)), ps 34 (nv i), ps 35 (bv (decide (((i : Nat) : Int) < (((2 ^ L) : Nat) : Int)))), pb 0 63 [(nv L), (.av (.int .u32 1)), (.av (.int .i32 0)), (.av (.int .u32 0)), (.ssl (rws (waves L)) 0 L)], pb 1 31 (cxs (ldL L v i))] (obs_nil) ?_
  refine T_seq ?_
  by_cases h2 : ((i : Nat) : Int) < (((2 ^ L) : Nat) : Int)
  · refine T_th (dty h2) ?_
    refine T_skip <| T_seq <| T_block <| T_seq ?_
    have hi1 : i < 2 ^ L := by omega
    refine T_r mixed [(1, .nat i), (2, .val (.av (.complex .f64 ((v.getD i (0, 0)).1) ((v.getD i (0, 0)).2))))] [ps 0 (.opt 0 0), ps 1 (.ssl (cxs v) 0 v.length), ps 6 (.osl 1 0 (2 ^ L)), ps 7 (nv i), ps 8 (.av (.complex .f64 ((v.getD i (0, 0)).1) ((v.getD i (0, 0)).2))), ps 32 (.ssl (cxs v) 0 v.length), ps 33 (nv (2 ^ L)), ps 34 (nv i), pb 0 63 [(nv L), (.av (.int .u32 1)), (.av (.int .i32 0)), (.av (.int .u32 0)), (.ssl (rws (waves L)) 0 L)], pb 1 31 (cxs (ldL L v i))] (obs_cons (by omega : (0 : Int) ≤ ((i : Nat) : Int) ∧ ((i : Nat) : Int) < ((v.length : Nat) : Int)) (obs_cons (by omega : 0 + (((i : Nat) : Int) : Int).toNat * 1 = i) (obs_cons (flat_at1 cxC (fun _ => rfl) (0, 0) v i (by omega) : i + 1 ≤ ((cxs v)).length ∧ (((cxs v)).drop i).take 1 = [(.av (.complex .f64 ((v.getD i (0, 0)).1) ((v.getD i (0, 0)).2)))]) obs_nil))) ?_
    refine T_rd mixed [(3, .call [] [(.av (.int .u32 ((i : Nat) : Int)))] [] (.av (.int .u32 (rev32 ((i : Nat) : Int)))) []), (16, .nat (brev L i)), (17, .cells (cxs (ldL L v (i + 1))))] [[], [], [1], [1, 2], [], [4], [4, 5], [4, 5, 6], [4, 5, 6, 7], [1, 2, 3, 4, 5, 6, 7, 8], [], [10], [10, 11], [10, 11, 12], [1, 2, 3, 4, 5, 6, 7, 8, 9, 10, 11, 12, 13], [], [0, 1, 2, 3, 4, 5, 6, 7, 8, 9, 10, 11, 12, 13, 14, 15], [0, 1, 2, 3, 4, 5, 6, 7, 8, 9, 10, 11, 12, 13, 14, 15, 16]] [([78], [12]), ([80], [14]), ([82], [80]), ([84], [82]), ([86], [0]), ([88], [86]), ([90], [88]), ([92], [1, 90]), ([94], [92]), ([96], [84, 94]), ([98], [2]), ([100], [98]), ([102], [100]), ([104], [102]), ([106], [96, 104]), ([108], [16]), ([110], [78, 106]), ([3], [3, 108, 110])] [ps 0 (.opt 0 0), ps 1 (.ssl (cxs v) 0 v.length), ps 6 (.osl 1 0 (2 ^ L)), ps 32 (.ssl (cxs v) 0 v.length), ps 33 (nv (2 ^ L)), ps 34 (nv i), pb 0 63 [(nv L), (.av (.int .u32 1)), (.av (.int .i32 0)), (.av (.int .u32 0)), (.ssl (rws (waves L)) 0 L)], pb 1 31 (cxs (ldL L v (i + 1)))] (obs_cons (by simp only [InK]; omega : InK .u32 ((i : Nat) : Int)) (obs_cons (rev_pc _ : PC Try.prog 24 [(.av (.int .u32 ((i : Nat) : Int)))] [] (.av (.int .u32 (rev32 ((i : Nat) : Int)))) []) (obs_cons (rfl : Ren0 74 [(.av (.int .u32 ((i : Nat) : Int)))]) (obs_cons (by simp only [InK]; omega : InK .i64 (32 - ((L : Nat) : Int))) (obs_cons (by simp only [IntKind.bits]; omega : (0 : Int) ≤ (32 - ((L : Nat) : Int)) ∧ (32 - ((L : Nat) : Int)) ≤ ((IntKind.bits .u32 : Nat) : Int)) (obs_cons (by simp only [InK]; omega : InK .i64 (((v.length : Nat) : Int) - 1)) (obs_cons (by simp only [InK]; omega : InK .u32 (((v.length : Nat) : Int) - 1)) (obs_cons (by have hr := (rev_at hL hi1).1; unfold revI an32 at hr; rw [hv, hr]; have hq := (rev_at hL hi1).2.1; omega : (0 : Int) ≤ (IntKind.wrap .u32 (BitVec.ofInt (IntKind.bits .u32) (((rev32 ((i : Nat) : Int))).fdiv (2 ^ ((32 - ((L : Nat) : Int)) : Int).toNat)) &&& BitVec.ofInt (IntKind.bits .u32) (((v.length : Nat) : Int) - 1)).toNat) ∧ (IntKind.wrap .u32 (BitVec.ofInt (IntKind.bits .u32) (((rev32 ((i : Nat) : Int))).fdiv (2 ^ ((32 - ((L : Nat) : Int)) : Int).toNat)) &&& BitVec.ofInt (IntKind.bits .u32) (((v.length : Nat) : Int) - 1)).toNat) < (((2 ^ L) : Nat) : Int)) (obs_cons (by have hr := (rev_at hL hi1).1; unfold revI an32 at hr; rw [hv, hr]; omega : 0 + ((IntKind.wrap .u32 (BitVec.ofInt (IntKind.bits .u32) (((rev32 ((i : Nat) : Int))).fdiv (2 ^ ((32 - ((L : Nat) : Int)) : Int).toNat)) &&& BitVec.ofInt (IntKind.bits .u32) (((v.length : Nat) : Int) - 1)).toNat) : Int).toNat * 1 = (brev L i)) (obs_cons (ld_store v hL hi1 : (brev L i) + 1 ≤ ((cxs (ldL L v i))).length ∧ splice (cxs (ldL L v i)) (brev L i) [(.av (.complex .f64 ((v.getD i (0, 0)).1) ((v.getD i (0, 0)).2)))] = (cxs (ldL L v (i + 1)))) obs_nil)))))))))) ?_
    refine T_blk ?_
    refine T_r mixed [] [ps 0 (.opt 0 0), ps 1 (.ssl (cxs v) 0 v.length), ps 6 (.osl 1 0 (2 ^ L)), ps 32 (.ssl (cxs v) 0 v.length), ps 33 (nv (2 ^ L)), ps 34 (iv (((i : Nat) : Int) + 1)), pb 0 63 [(nv L), (.av (.int .u32 1)), (.av (.int .i32 0)), (.av (.int .u32 0)), (.ssl (rws (waves L)) 0 L)], pb 1 31 (cxs (ldL L v (i + 1)))] (obs_cons (by simp only [InK]; omega : InK .i64 (((i : Nat) : Int) + 1)) obs_nil) ?_
    exact T_back ⟨i + 1, by omega⟩ (Wk.ren3 [ps 0 (.opt 0 0), ps 1 (.ssl (cxs v) 0 v.length), ps 6 (.osl 1 0 (2 ^ L)), ps 32 (.ssl (cxs v) 0 v.length), ps 33 (nv (2 ^ L)), ps 34 (nv (i + 1)), pb 0 63 [(nv L), (.av (.int .u32 1)), (.av (.int .i32 0)), (.av (.int .u32 0)), (.ssl (rws (waves L)) 0 L)], pb 1 31 (cxs (ldL L v (i + 1)))] 1 hc0 [0, 1] [(kb 1, (cxs (ldL L v (i + 1))))] (obs_cons (cxs_shd _) (obs_nil)) (by kernel_rfl) rfl rfl (by kernel_rfl) (by kernel_rfl)) (show 2 ^ L - (i + 1) < 2 ^ L - i from by omega)
  refine T_el (dtn h2) ?_
  refine T_break rfl rfl ?_
  refine T_seq <| T_seq ?_
  refine T_r mixed [] [ps 0 (.opt 0 0), ps 6 (.osl 1 0 (2 ^ L)), ps 60 (nv L), ps 61 (iv 0), pb 0 63 [(nv L), (.av (.int .u32 1)), (.av (.int .i32 0)), (.av (.int .u32 0)), (.ssl (rws (waves L)) 0 L)], pb 1 31 (cxs (ldL L v i))] (obs_nil) ?_
  refine T_block ?_
  obtain rfl : i = 2 ^ L := by omega
  refine T_wk (Wk.eq (show _ = [ps 0 (.opt 0 0), ps 6 (.osl 1 0 (2 ^ L)), ps 60 (nv L), ps 61 (iv 0), pb 0 63 [(nv L), (.av (.int .u32 1)), (.av (.int .i32 0)), (.av (.int .u32 0)), (.ssl (rws (waves L)) 0 L)], pb 1 31 (cxs (loadL L v))] from by rw [ld_full v hL])) ?_
  refine T_loop (α := {x : Nat × List FC // x.1 ≤ L ∧ x.2.length = 2 ^ L ∧ lRun L (L - x.1) x.1 x.2 = some r}) (fun x => [ps 0 (.opt 0 0), ps 6 (.osl 1 0 (2 ^ L)), ps 60 (nv L), ps 61 (nv x.1.1), pb 0 63 [(nv L), (.av (.int .u32 1)), (.av (.int .i32 0)), (.av (.int .u32 0)), (.ssl (rws (waves L)) 0 L)], pb 1 31 (cxs x.1.2)]) (fun x => L - x.1.1) 2 ⟨(0, loadL L v), ⟨Nat.zero_le _, loadL_len L v, hr⟩⟩ (Wk.ren3 [ps 0 (.opt 0 0), ps 6 (.osl 1 0 (2 ^ L)), ps 60 (nv L), ps 61 (nv 0), pb 0 63 [(nv L), (.av (.int .u32 1)), (.av (.int .i32 0)), (.av (.int .u32 0)), (.ssl (rws (waves L)) 0 L)], pb 1 31 (cxs (loadL L v))] 1 hc0 [0, 1] [(kb 1, (cxs (loadL L v)))] (obs_cons (cxs_shd _) (obs_nil)) (by kernel_rfl) rfl rfl (by kernel_rfl) (by kernel_rfl)) ?_
  rintro ⟨⟨l, o⟩, ⟨hl, ho, hr0⟩⟩
  dsimp only at hl ho hr0
  refine T_seq ?_
  refine T_r mixed [] [ps 0 (.opt 0 0), ps 6 (.osl 1 0 (2 ^ L)), ps 60 (nv L), ps 61 (nv l), ps 62 (bv (decide (((l : Nat) : Int) < ((L : Nat) : Int)))), pb 0 63 [(nv L), (.av (.int .u32 1)), (.av (.int .i32 0)), (.av (.int .u32 0)), (.ssl (rws (waves L)) 0 L)], pb 1 31 (cxs o)] (obs_nil) ?_
  refine T_seq ?_
  by_cases h3 : ((l : Nat) : Int) < ((L : Nat) : Int)
  · refine T_th (dty h3) ?_
    refine T_skip <| T_seq <| T_block <| T_seq ?_
    have hl1 : l < L := by omega
    have h2l := p2_le (l := l) (by omega)
    have hsp := p2_split hl1
    have h2p : 0 < 2 ^ l := Nat.pow_pos (by decide)
    refine T_r mixed [] [ps 0 (.opt 0 0), ps 6 (.osl 1 0 (2 ^ L)), ps 9 (nv l), ps 60 (nv L), ps 61 (nv l), pb 0 63 [(nv L), (.av (.int .u32 1)), (.av (.int .i32 0)), (.av (.int .u32 0)), (.ssl (rws (waves L)) 0 L)], pb 1 31 (cxs o)] (obs_nil) ?_
    refine T_seq ?_
    refine T_r mixed [] [ps 0 (.opt 0 0), ps 6 (.osl 1 0 (2 ^ L)), ps 9 (nv l), ps 10 (iv (1 * 2 ^ (((l : Nat) : Int) : Int).toNat)), ps 60 (nv L), ps 61 (nv l), pb 0 63 [(nv L), (.av (.int .u32 1)), (.av (.int .i32 0)), (.av (.int .u32 0)), (.ssl (rws (waves L)) 0 L)], pb 1 31 (cxs o)] (obs_cons (by simp only [IntKind.bits]; omega : (0 : Int) ≤ ((l : Nat) : Int) ∧ ((l : Nat) : Int) ≤ ((IntKind.bits .i64 : Nat) : Int)) (obs_cons (p2_in (l := l) (by omega) : InK .i64 (1 * 2 ^ (((l : Nat) : Int) : Int).toNat)) obs_nil)) ?_
    refine T_wk (Wk.eq (show _ = [ps 0 (.opt 0 0), ps 6 (.osl 1 0 (2 ^ L)), ps 9 (nv l), ps 10 (nv (2 ^ l)), ps 60 (nv L), ps 61 (nv l), pb 0 63 [(nv L), (.av (.int .u32 1)), (.av (.int .i32 0)), (.av (.int .u32 0)), (.ssl (rws (waves L)) 0 L)], pb 1 31 (cxs o)] from by simp only [p2i])) ?_
    refine T_seq ?_
    refine T_r mixed [] [ps 0 (.opt 0 0), ps 6 (.osl 1 0 (2 ^ L)), ps 9 (nv l), ps 10 (nv (2 ^ l)), ps 11 (iv 0), ps 60 (nv L), ps 61 (nv l), pb 0 63 [(nv L), (.av (.int .u32 1)), (.av (.int .i32 0)), (.av (.int .u32 0)), (.ssl (rws (waves L)) 0 L)], pb 1 31 (cxs o)] (obs_nil) ?_
    refine T_block ?_
    refine T_loop (α := {x : Nat × Nat × List FC // x.2.1 = x.1 * (2 * 2 ^ l) ∧ x.2.2.length = 2 ^ L ∧ (aRun l (2 ^ (L - 1 - l) - x.1) x.2.1 x.2.2).bind (lRun L (L - (l + 1)) (l + 1)) = some r}) (fun x => [ps 0 (.opt 0 0), ps 6 (.osl 1 0 (2 ^ L)), ps 9 (nv l), ps 10 (nv (2 ^ l)), ps 11 (nv x.1.2.1), ps 60 (nv L), ps 61 (nv l), pb 0 63 [(nv L), (.av (.int .u32 1)), (.av (.int .i32 0)), (.av (.int .u32 0)), (.ssl (rws (waves L)) 0 L)], pb 1 31 (cxs x.1.2.2)]) (fun x => 2 ^ L - x.1.2.1) 2 ⟨(0, 0, o), ⟨(Nat.zero_mul _).symm, ho, lRun_step hl1 hr0⟩⟩ (Wk.ren3 [ps 0 (.opt 0 0), ps 6 (.osl 1 0 (2 ^ L)), ps 9 (nv l), ps 10 (nv (2 ^ l)), ps 11 (nv 0), ps 60 (nv L), ps 61 (nv l), pb 0 63 [(nv L), (.av (.int .u32 1)), (.av (.int .i32 0)), (.av (.int .u32 0)), (.ssl (rws (waves L)) 0 L)], pb 1 31 (cxs o)] 1 hc0 [0, 1] [(kb 1, (cxs o))] (obs_cons (cxs_shd _) (obs_nil)) (by kernel_rfl) rfl rfl (by kernel_rfl) (by kernel_rfl)) ?_
    rintro ⟨⟨m, c, o1⟩, ⟨hc, ho1, hr1⟩⟩
    dsimp only at hc ho1 hr1
    refine T_seq <| T_seq ?_
    refine T_r mixed [] [ps 0 (.opt 0 0), ps 6 (.osl 1 0 (2 ^ L)), ps 9 (nv l), ps 10 (nv (2 ^ l)), ps 11 (nv c), ps 60 (nv L), ps 61 (nv l), ps 69 (bv (decide (((c : Nat) : Int) < (((2 ^ L) : Nat) : Int)))), pb 0 63 [(nv L), (.av (.int .u32 1)), (.av (.int .i32 0)), (.av (.int .u32 0)), (.ssl (rws (waves L)) 0 L)], pb 1 31 (cxs o1)] (obs_nil) ?_
    by_cases h4 : ((c : Nat) : Int) < (((2 ^ L) : Nat) : Int)
    · refine T_th (dty h4) ?_
      refine T_skip <| T_seq <| T_block <| T_seq ?_
      obtain ⟨hm, hcb⟩ := (blk_more hl1 hc).1 (by omega)
      refine T_r mixed [] [ps 0 (.opt 0 0), ps 6 (.osl 1 0 (2 ^ L)), ps 9 (nv l), ps 10 (nv (2 ^ l)), ps 11 (nv c), ps 60 (nv L), ps 61 (nv l), ps 74 (nv (2 ^ l)), ps 75 (iv 0), pb 0 63 [(nv L), (.av (.int .u32 1)), (.av (.int .i32 0)), (.av (.int .u32 0)), (.ssl (rws (waves L)) 0 L)], pb 1 31 (cxs o1)] (obs_nil) ?_
      refine T_block ?_
      refine T_loop (α := {x : Nat × List FC // x.1 ≤ 2 ^ l ∧ x.2.length = 2 ^ L ∧ (kRun l c (2 ^ l - x.1) x.1 x.2).bind (fun q => (aRun l (2 ^ (L - 1 - l) - (m + 1)) (c + 2 * 2 ^ l) q).bind (lRun L (L - (l + 1)) (l + 1))) = some r}) (fun x => [ps 0 (.opt 0 0), ps 6 (.osl 1 0 (2 ^ L)), ps 9 (nv l), ps 10 (nv (2 ^ l)), ps 11 (nv c), ps 60 (nv L), ps 61 (nv l), ps 74 (nv (2 ^ l)), ps 75 (nv x.1.1), pb 0 63 [(nv L), (.av (.int .u32 1)), (.av (.int .i32 0)), (.av (.int .u32 0)), (.ssl (rws (waves L)) 0 L)], pb 1 31 (cxs x.1.2)]) (fun x => 2 ^ l - x.1.1) 2 ⟨(0, o1), ⟨Nat.zero_le _, ho1, aRun_step hm hr1⟩⟩ (Wk.ren3 [ps 0 (.opt 0 0), ps 6 (.osl 1 0 (2 ^ L)), ps 9 (nv l), ps 10 (nv (2 ^ l)), ps 11 (nv c), ps 60 (nv L), ps 61 (nv l), ps 74 (nv (2 ^ l)), ps 75 (nv 0), pb 0 63 [(nv L), (.av (.int .u32 1)), (.av (.int .i32 0)), (.av (.int .u32 0)), (.ssl (rws (waves L)) 0 L)], pb 1 31 (cxs o1)] 1 hc0 [0, 1] [(kb 1, (cxs o1))] (obs_cons (cxs_shd _) (obs_nil)) (by kernel_rfl) rfl rfl (by kernel_rfl) (by kernel_rfl)) ?_
      rintro ⟨⟨k, o2⟩, ⟨hk, ho2, hr2⟩⟩
      dsimp only at hk ho2 hr2
      refine T_seq ?_
      refine T_r mixed [] [ps 0 (.opt 0 0), ps 6 (.osl 1 0 (2 ^ L)), ps 9 (nv l), ps 10 (nv (2 ^ l)), ps 11 (nv c), ps 60 (nv L), ps 61 (nv l), ps 74 (nv (2 ^ l)), ps 75 (nv k), ps 76 (bv (decide (((k : Nat) : Int) < (((2 ^ l) : Nat) : Int)))), pb 0 63 [(nv L), (.av (.int .u32 1)), (.av (.int .i32 0)), (.av (.int .u32 0)), (.ssl (rws (waves L)) 0 L)], pb 1 31 (cxs o2)] (obs_nil) ?_
      refine T_seq ?_
      by_cases h5 : ((k : Nat) : Int) < (((2 ^ l) : Nat) : Int)
      · refine T_th (dty h5) ?_
        refine T_skip <| T_seq <| T_block <| T_seq ?_
        have hk1 : k < 2 ^ l := by omega
        have hwl := waves_len L
        have hwa := waves_at hl1
        have hpl := powL_len l (2 ^ l)
        have hwb : ((waves L).getD l []).length = 2 ^ l := by rw [hwa, hpl]
        have hpa := powL_at (l := l) hk1
        obtain ⟨t, a, b, hT, hA, hB, hr3⟩ := kRun_step hk1 hr2
        refine T_r mixed [] [ps 0 (.opt 0 0), ps 6 (.osl 1 0 (2 ^ L)), ps 9 (nv l), ps 10 (nv (2 ^ l)), ps 11 (nv c), ps 12 (nv k), ps 60 (nv L), ps 61 (nv l), ps 74 (nv (2 ^ l)), ps 75 (nv k), pb 0 63 [(nv L), (.av (.int .u32 1)), (.av (.int .i32 0)), (.av (.int .u32 0)), (.ssl (rws (waves L)) 0 L)], pb 1 31 (cxs o2)] (obs_nil) ?_
        refine T_seq ?_
        refine T_rd mixed [(4, .nat (c + k)), (5, .val (.av (.complex .f64 ((o2.getD (c + k) (0, 0)).1) ((o2.getD (c + k) (0, 0)).2)))), (11, .nat l), (12, .val (.ssl (cxs ((waves L).getD l [])) 0 (((waves L).getD l []).length))), (14, .nat k), (15, .val (.av (.complex .f64 ((((waves L).getD l []).getD k (0, 0)).1) ((((waves L).getD l []).getD k (0, 0)).2)))), (22, .nat (((((c : Nat) : Int) + ((k : Nat) : Int)) + (((2 ^ l) : Nat) : Int)).toNat)), (23, .val (.av (.complex .f64 ((o2.getD (((((c : Nat) : Int) + ((k : Nat) : Int)) + (((2 ^ l) : Nat) : Int)).toNat) (0, 0)).1) ((o2.getD (((((c : Nat) : Int) + ((k : Nat) : Int)) + (((2 ^ l) : Nat) : Int)).toNat) (0, 0)).2)))), (24, .nat2 t.1 t.2)] [[], [], [], [1, 2], [0, 1, 2, 3], [0, 1, 2, 3, 4], [], [6], [6, 7], [6, 7, 8], [], [6, 7, 8, 9, 10], [6, 7, 8, 9, 10, 11], [], [6, 7, 8, 9, 10, 11, 12, 13], [6, 7, 8, 9, 10, 11, 12, 13, 14], [], [], [], [17, 18], [], [17, 18, 19, 20], [16, 17, 18, 19, 20, 21], [16, 17, 18, 19, 20, 21, 22], [6, 7, 8, 9, 10, 11, 12, 13, 14, 15, 16, 17, 18, 19, 20, 21, 22, 23], [0, 1, 2, 3, 4, 5], [0, 1, 2, 3, 4, 5, 6, 7, 8, 9, 10, 11, 12, 13, 14, 15, 16, 17, 18, 19, 20, 21, 22, 23, 24, 25]] [([156], [12]), ([158], [22]), ([160], [24]), ([162], [158, 160]), ([164], [156, 162]), ([166], [3, 164]), ([168], [0]), ([170], [168]), ([172], [170]), ([174], [1, 172]), ([176], [18]), ([178], [174, 176]), ([180], [178]), ([182], [24]), ([184], [180, 182]), ([186], [184]), ([188], [12]), ([190], [22]), ([192], [24]), ([194], [190, 192]), ([196], [20]), ([198], [194, 196]), ([200], [188, 198]), ([202], [3, 200]), ([204], [186, 202]), ([26], [166]), ([28], [204])] [ps 0 (.opt 0 0), ps 6 (.osl 1 0 (2 ^ L)), ps 9 (nv l), ps 10 (nv (2 ^ l)), ps 11 (nv c), ps 12 (nv k), ps 13 (.av (.complex .f64 ((o2.getD (c + k) (0, 0)).1) ((o2.getD (c + k) (0, 0)).2))), ps 14 (.av (.complex .f64 t.1 t.2)), ps 60 (nv L), ps 61 (nv l), ps 74 (nv (2 ^ l)), ps 75 (nv k), pb 0 63 [(nv L), (.av (.int .u32 1)), (.av (.int .i32 0)), (.av (.int .u32 0)), (.ssl (rws (waves L)) 0 L)], pb 1 31 (cxs o2)] (obs_cons (by simp only [InK]; omega : InK .i64 (((c : Nat) : Int) + ((k : Nat) : Int))) (obs_cons (by omega : (0 : Int) ≤ (((c : Nat) : Int) + ((k : Nat) : Int)) ∧ (((c : Nat) : Int) + ((k : Nat) : Int)) < (((2 ^ L) : Nat) : Int)) (obs_cons (by omega : 0 + ((((c : Nat) : Int) + ((k : Nat) : Int)) : Int).toNat * 1 = (c + k)) (obs_cons (flat_at1 cxC (fun _ => rfl) (0, 0) o2 (c + k) (by omega) : (c + k) + 1 ≤ ((cxs o2)).length ∧ (((cxs o2)).drop (c + k)).take 1 = [(.av (.complex .f64 ((o2.getD (c + k) (0, 0)).1) ((o2.getD (c + k) (0, 0)).2)))]) (obs_cons (by omega : (0 : Int) ≤ ((l : Nat) : Int) ∧ ((l : Nat) : Int) < ((L : Nat) : Int)) (obs_cons (by omega : 0 + (((l : Nat) : Int) : Int).toNat * 1 = l) (obs_cons (flat_at1 rwC (fun _ => rfl) [] (waves L) l (by omega) : l + 1 ≤ ((rws (waves L))).length ∧ (((rws (waves L))).drop l).take 1 = [(.ssl (cxs ((waves L).getD l [])) 0 (((waves L).getD l []).length))]) (obs_cons (by omega : (0 : Int) ≤ ((k : Nat) : Int) ∧ ((k : Nat) : Int) < ((((waves L).getD l []).length : Nat) : Int)) (obs_cons (by omega : 0 + (((k : Nat) : Int) : Int).toNat * 1 = k) (obs_cons (flat_at1 cxC (fun _ => rfl) (0, 0) ((waves L).getD l []) k (by omega) : k + 1 ≤ ((cxs ((waves L).getD l []))).length ∧ (((cxs ((waves L).getD l []))).drop k).take 1 = [(.av (.complex .f64 ((((waves L).getD l []).getD k (0, 0)).1) ((((waves L).getD l []).getD k (0, 0)).2)))]) (obs_cons (by simp only [InK]; omega : InK .i64 (((c : Nat) : Int) + ((k : Nat) : Int))) (obs_cons (by simp only [InK]; omega : InK .i64 ((((c : Nat) : Int) + ((k : Nat) : Int)) + (((2 ^ l) : Nat) : Int))) (obs_cons (by omega : (0 : Int) ≤ ((((c : Nat) : Int) + ((k : Nat) : Int)) + (((2 ^ l) : Nat) : Int)) ∧ ((((c : Nat) : Int) + ((k : Nat) : Int)) + (((2 ^ l) : Nat) : Int)) < (((2 ^ L) : Nat) : Int)) (obs_cons (by omega : 0 + (((((c : Nat) : Int) + ((k : Nat) : Int)) + (((2 ^ l) : Nat) : Int)) : Int).toNat * 1 = (((((c : Nat) : Int) + ((k : Nat) : Int)) + (((2 ^ l) : Nat) : Int)).toNat)) (obs_cons (flat_at1 cxC (fun _ => rfl) (0, 0) o2 (((((c : Nat) : Int) + ((k : Nat) : Int)) + (((2 ^ l) : Nat) : Int)).toNat) (by omega) : (((((c : Nat) : Int) + ((k : Nat) : Int)) + (((2 ^ l) : Nat) : Int)).toNat) + 1 ≤ ((cxs o2)).length ∧ (((cxs o2)).drop (((((c : Nat) : Int) + ((k : Nat) : Int)) + (((2 ^ l) : Nat) : Int)).toNat)).take 1 = [(.av (.complex .f64 ((o2.getD (((((c : Nat) : Int) + ((k : Nat) : Int)) + (((2 ^ l) : Nat) : Int)).toNat) (0, 0)).1) ((o2.getD (((((c : Nat) : Int) + ((k : Nat) : Int)) + (((2 ^ l) : Nat) : Int)).toNat) (0, 0)).2)))]) (obs_cons (by rw [hwa, hpa]; exact hT : cMul ((((waves L).getD l []).getD k (0, 0)).1) ((((waves L).getD l []).getD k (0, 0)).2) ((o2.getD (((((c : Nat) : Int) + ((k : Nat) : Int)) + (((2 ^ l) : Nat) : Int)).toNat) (0, 0)).1) ((o2.getD (((((c : Nat) : Int) + ((k : Nat) : Int)) + (((2 ^ l) : Nat) : Int)).toNat) (0, 0)).2) = some (t.1, t.2)) obs_nil)))))))))))))))) ?_
        refine T_r mixed [(12, .nat2 a.1 a.2), (15, .nat2 b.1 b.2), (16, .nat (c + k)), (17, .cells (cxs (o2.set (c + k) a))), (18, .nat (((((c : Nat) : Int) + ((k : Nat) : Int)) + (((2 ^ l) : Nat) : Int)).toNat)), (19, .cells (cxs ((o2.set (c + k) a).set (c + k + 2 ^ l) b)))] [ps 0 (.opt 0 0), ps 6 (.osl 1 0 (2 ^ L)), ps 9 (nv l), ps 10 (nv (2 ^ l)), ps 11 (nv c), ps 60 (nv L), ps 61 (nv l), ps 74 (nv (2 ^ l)), ps 75 (nv k), pb 0 63 [(nv L), (.av (.int .u32 1)), (.av (.int .i32 0)), (.av (.int .u32 0)), (.ssl (rws (waves L)) 0 L)], pb 1 31 (cxs ((o2.set (c + k) a).set (c + k + 2 ^ l) b))] (obs_cons (by simp only [InK]; omega : InK .i64 (((c : Nat) : Int) + ((k : Nat) : Int))) (obs_cons (by simp only [InK]; omega : InK .i64 (((c : Nat) : Int) + ((k : Nat) : Int))) (obs_cons (by simp only [InK]; omega : InK .i64 ((((c : Nat) : Int) + ((k : Nat) : Int)) + (((2 ^ l) : Nat) : Int))) (obs_cons (hA : cAdd ((o2.getD (c + k) (0, 0)).1) ((o2.getD (c + k) (0, 0)).2) t.1 t.2 = some (a.1, a.2)) (obs_cons (hB : cSub ((o2.getD (c + k) (0, 0)).1) ((o2.getD (c + k) (0, 0)).2) t.1 t.2 = some (b.1, b.2)) (obs_cons (by omega : (0 : Int) ≤ (((c : Nat) : Int) + ((k : Nat) : Int)) ∧ (((c : Nat) : Int) + ((k : Nat) : Int)) < (((2 ^ L) : Nat) : Int)) (obs_cons (by omega : 0 + ((((c : Nat) : Int) + ((k : Nat) : Int)) : Int).toNat * 1 = (c + k)) (obs_cons (set_at1 a ho2 (by omega) : (c + k) + 1 ≤ ((cxs o2)).length ∧ splice (cxs o2) (c + k) [(.av (.complex .f64 a.1 a.2))] = (cxs (o2.set (c + k) a))) (obs_cons (by omega : (0 : Int) ≤ ((((c : Nat) : Int) + ((k : Nat) : Int)) + (((2 ^ l) : Nat) : Int)) ∧ ((((c : Nat) : Int) + ((k : Nat) : Int)) + (((2 ^ l) : Nat) : Int)) < (((2 ^ L) : Nat) : Int)) (obs_cons (by omega : 0 + (((((c : Nat) : Int) + ((k : Nat) : Int)) + (((2 ^ l) : Nat) : Int)) : Int).toNat * 1 = (((((c : Nat) : Int) + ((k : Nat) : Int)) + (((2 ^ l) : Nat) : Int)).toNat)) (obs_cons (set_at1 (n := 2 ^ L) b (by rw [List.length_set]; exact ho2) (by omega) : (((((c : Nat) : Int) + ((k : Nat) : Int)) + (((2 ^ l) : Nat) : Int)).toNat) + 1 ≤ ((cxs (o2.set (c + k) a))).length ∧ splice (cxs (o2.set (c + k) a)) (((((c : Nat) : Int) + ((k : Nat) : Int)) + (((2 ^ l) : Nat) : Int)).toNat) [(.av (.complex .f64 b.1 b.2))] = (cxs ((o2.set (c + k) a).set (c + k + 2 ^ l) b))) obs_nil))))))))))) ?_
        refine T_blk ?_
        refine T_r mixed [] [ps 0 (.opt 0 0), ps 6 (.osl 1 0 (2 ^ L)), ps 9 (nv l), ps 10 (nv (2 ^ l)), ps 11 (nv c), ps 60 (nv L), ps 61 (nv l), ps 74 (nv (2 ^ l)), ps 75 (iv (((k : Nat) : Int) + 1)), pb 0 63 [(nv L), (.av (.int .u32 1)), (.av (.int .i32 0)), (.av (.int .u32 0)), (.ssl (rws (waves L)) 0 L)], pb 1 31 (cxs ((o2.set (c + k) a).set (c + k + 2 ^ l) b))] (obs_cons (by simp only [InK]; omega : InK .i64 (((k : Nat) : Int) + 1)) obs_nil) ?_
        exact T_back ⟨(k + 1, ((o2.set (c + k) a).set (c + k + 2 ^ l) b)), ⟨by omega, set_len _ _ ho2, hr3⟩⟩ (Wk.ren3 [ps 0 (.opt 0 0), ps 6 (.osl 1 0 (2 ^ L)), ps 9 (nv l), ps 10 (nv (2 ^ l)), ps 11 (nv c), ps 60 (nv L), ps 61 (nv l), ps 74 (nv (2 ^ l)), ps 75 (nv (k + 1)), pb 0 63 [(nv L), (.av (.int .u32 1)), (.av (.int .i32 0)), (.av (.int .u32 0)), (.ssl (rws (waves L)) 0 L)], pb 1 31 (cxs ((o2.set (c + k) a).set (c + k + 2 ^ l) b))] 1 hc0 [0, 1] [(kb 1, (cxs ((o2.set (c + k) a).set (c + k + 2 ^ l) b)))] (obs_cons (cxs_shd _) (obs_nil)) (by kernel_rfl) rfl rfl (by kernel_rfl) (by kernel_rfl)) (show 2 ^ l - (k + 1) < 2 ^ l - k from by show 2 ^ l - (k + 1) < 2 ^ l - k; omega)
      refine T_el (dtn h5) ?_
      refine T_break rfl rfl ?_
      refine T_blk ?_
      refine T_r mixed [] [ps 0 (.opt 0 0), ps 6 (.osl 1 0 (2 ^ L)), ps 9 (nv l), ps 10 (nv (2 ^ l)), ps 11 (iv (((c : Nat) : Int) + (2 * (((2 ^ l) : Nat) : Int)))), ps 60 (nv L), ps 61 (nv l), pb 0 63 [(nv L), (.av (.int .u32 1)), (.av (.int .i32 0)), (.av (.int .u32 0)), (.ssl (rws (waves L)) 0 L)], pb 1 31 (cxs o2)] (obs_cons (by simp only [InK]; omega : InK .i64 (2 * (((2 ^ l) : Nat) : Int))) (obs_cons (by simp only [InK]; omega : InK .i64 (((c : Nat) : Int) + (2 * (((2 ^ l) : Nat) : Int)))) obs_nil)) ?_
      exact T_back ⟨(m + 1, c + 2 * 2 ^ l, o2), ⟨c_next hc, ho2, kRun_end (by omega) hr2⟩⟩ (Wk.ren3 [ps 0 (.opt 0 0), ps 6 (.osl 1 0 (2 ^ L)), ps 9 (nv l), ps 10 (nv (2 ^ l)), ps 11 (nv (c + 2 * 2 ^ l)), ps 60 (nv L), ps 61 (nv l), pb 0 63 [(nv L), (.av (.int .u32 1)), (.av (.int .i32 0)), (.av (.int .u32 0)), (.ssl (rws (waves L)) 0 L)], pb 1 31 (cxs o2)] 1 hc0 [0, 1] [(kb 1, (cxs o2))] (obs_cons (cxs_shd _) (obs_nil)) (by kernel_rfl) rfl rfl (by kernel_rfl) (by kernel_rfl)) (show 2 ^ L - (c + 2 * 2 ^ l) < 2 ^ L - c from by show 2 ^ L - (c + 2 * 2 ^ l) < 2 ^ L - c; omega)
    refine T_el (dtn h4) ?_
    refine T_break rfl rfl ?_
    refine T_blk ?_
    refine T_r mixed [] [ps 0 (.opt 0 0), ps 6 (.osl 1 0 (2 ^ L)), ps 60 (nv L), ps 61 (iv (((l : Nat) : Int) + 1)), pb 0 63 [(nv L), (.av (.int .u32 1)), (.av (.int .i32 0)), (.av (.int .u32 0)), (.ssl (rws (waves L)) 0 L)], pb 1 31 (cxs o1)] (obs_cons (by simp only [InK]; omega : InK .i64 (((l : Nat) : Int) + 1)) obs_nil) ?_
    exact T_back ⟨(l + 1, o1), ⟨by omega, ho1, aRun_end ((blk_more hl1 hc).2 (by omega)) hr1⟩⟩ (Wk.ren3 [ps 0 (.opt 0 0), ps 6 (.osl 1 0 (2 ^ L)), ps 60 (nv L), ps 61 (nv (l + 1)), pb 0 63 [(nv L), (.av (.int .u32 1)), (.av (.int .i32 0)), (.av (.int .u32 0)), (.ssl (rws (waves L)) 0 L)], pb 1 31 (cxs o1)] 1 hc0 [0, 1] [(kb 1, (cxs o1))] (obs_cons (cxs_shd _) (obs_nil)) (by kernel_rfl) rfl rfl (by kernel_rfl) (by kernel_rfl)) (show L - (l + 1) < L - l from by show L - (l + 1) < L - l; omega)
  refine T_el (dtn h3) ?_
  refine T_break rfl rfl ?_
  refine T_seq ?_
  refine T_r mixed [] [ps 4 (.osl 1 0 (2 ^ L)), ps 5 (iv 0), pb 0 63 [(nv L), (.av (.int .u32 1)), (.av (.int .i32 0)), (.av (.int .u32 0)), (.ssl (rws (waves L)) 0 L)], pb 1 31 (cxs o)] (obs_nil) ?_
  obtain rfl := lRun_end (by omega) hr0
  exact T_ret fun cx_ a_ hI_ => ret_ok (H' := [some (63, [(nv L), (.av (.int .u32 1)), (.av (.int .i32 0)), (.av (.int .u32 0)), (.ssl (rws (waves L)) 0 L)]), some (31, (cxs o))]) (.inr rfl) (Wk.ren3 [ps 4 (.osl 1 0 (2 ^ L)), ps 5 (iv 0), pb 0 63 [(nv L), (.av (.int .u32 1)), (.av (.int .i32 0)), (.av (.int .u32 0)), (.ssl (rws (waves L)) 0 L)], pb 1 31 (cxs o)] 1 hc0 [0, 1] [(kb 1, (cxs o))] (obs_cons (cxs_shd _) (obs_nil)) (by kernel_rfl) rfl rfl (by kernel_rfl) (by kernel_rfl)) rfl (obs_cons rfl (obs_cons rfl (obs_nil))) (fun cx_ a_ hI_ => ret_res (l' := [ps 4 (.osl 1 0 (2 ^ L)), ps 5 (iv 0), pb 0 63 [(nv L), (.av (.int .u32 1)), (.av (.int .i32 0)), (.av (.int .u32 0)), (.ssl (rws (waves L)) 0 L)], pb 1 31 (cxs o)]) (by kernel_rfl) cx_ a_ hI_) hI_
end Go.Proofs.Ytfibadnkhbjciaa.Pm
namespace Go.Proofs.Ytfibadnkhbjciaa.Pm
open Go

set_option maxRecDepth 100000 in
set_option maxHeartbeats 4000000 in
theorem len64_lo (x : Nat) (hx : x < 256) : PC Try.prog 21 [(.av (.int .u64 ((x : Nat) : Int)))] [] (nv (lenN x)) [] := by
  have hb := UInt8.toNat_lt (tab8.getD (x) 0)
  refine pc_intro Try.func21 rfl (by kernel_rfl) (Nat.le_of_ble_eq_true rfl) (by kernel_rfl) (l0 := [ps 0 (.av (.int .u64 ((x : Nat) : Int)))]) rfl (fun c0 Bor hc0 => ?_)
  refine T_seq ?_
  refine T_r mixed [] [ps 0 (.av (.int .u64 ((x : Nat) : Int))), ps 2 (iv 0)] (obs_nil) ?_
  refine T_seq <| T_seq ?_
  refine T_r mixed [] [ps 0 (.av (.int .u64 ((x : Nat) : Int))), ps 2 (iv 0), ps 4 (bv (decide (4294967296 ≤ ((x : Nat) : Int))))] (obs_nil) ?_
  have h1 : ¬ (4294967296 ≤ ((x : Nat) : Int)) := by omega
  refine T_el (dtn h1) ?_
  refine T_skip <| T_seq <| T_seq ?_
  refine T_r mixed [] [ps 0 (.av (.int .u64 ((x : Nat) : Int))), ps 2 (iv 0), ps 8 (bv (decide (65536 ≤ ((x : Nat) : Int))))] (obs_nil) ?_
  have h2 : ¬ (65536 ≤ ((x : Nat) : Int)) := by omega
  refine T_el (dtn h2) ?_
  refine T_skip <| T_seq <| T_seq ?_
  refine T_r mixed [] [ps 0 (.av (.int .u64 ((x : Nat) : Int))), ps 2 (iv 0), ps 14 (bv (decide (256 ≤ ((x : Nat) : Int))))] (obs_nil) ?_
  have h3 : ¬ (256 ≤ ((x : Nat) : Int)) := by omega
  refine T_el (dtn h3) ?_
  refine T_skip <| T_seq ?_
  refine T_r mixed [] [ps 2 (iv (0 + (((tab8.getD x 0).toNat : Nat) : Int)))] (obs_cons (by simp only [InK]; omega : InK .u8 ((x : Nat) : Int)) (obs_cons (by rw [show (tab8 : List UInt8).length = 256 from rfl]; omega : (0 : Int) ≤ ((x : Nat) : Int) ∧ ((x : Nat) : Int) < ((tab8.length : Nat) : Int)) (obs_cons (by simp only [InK]; omega : InK .i64 (((tab8.getD x 0).toNat : Nat) : Int)) (obs_cons (by simp only [InK]; omega : InK .i64 (0 + (((tab8.getD x 0).toNat : Nat) : Int))) obs_nil)))) ?_
  have hL : lenN x = ((tab8.getD x 0).toNat : Nat) := by unfold lenN; rw [if_pos (by omega)]
  rw [hL]
  refine T_wk (Wk.eq (show _ = [ps 2 (nv ((tab8.getD x 0).toNat : Nat))] from by rw [Int.zero_add])) ?_
  exact T_ret fun cx_ a_ hI_ => rt hc0 [ps 2 (nv ((tab8.getD x 0).toNat : Nat))] [] hI_
set_option maxRecDepth 100000 in
set_option maxHeartbeats 4000000 in
theorem len64_hi (x : Nat) (hx : x < 65536) (hx2 : 256 ≤ x) : PC Try.prog 21 [(.av (.int .u64 ((x : Nat) : Int)))] [] (nv (lenN x)) [] := by
  have hb := UInt8.toNat_lt (tab8.getD (x / 256) 0)
  refine pc_intro Try.func21 rfl (by kernel_rfl) (Nat.le_of_ble_eq_true rfl) (by kernel_rfl) (l0 := [ps 0 (.av (.int .u64 ((x : Nat) : Int)))]) rfl (fun c0 Bor hc0 => ?_)
  refine T_seq ?_
  refine T_r mixed [] [ps 0 (.av (.int .u64 ((x : Nat) : Int))), ps 2 (iv 0)] (obs_nil) ?_
  refine T_seq <| T_seq ?_
  refine T_r mixed [] [ps 0 (.av (.int .u64 ((x : Nat) : Int))), ps 2 (iv 0), ps 4 (bv (decide (4294967296 ≤ ((x : Nat) : Int))))] (obs_nil) ?_
  have h1 : ¬ (4294967296 ≤ ((x : Nat) : Int)) := by omega
  refine T_el (dtn h1) ?_
  refine T_skip <| T_seq <| T_seq ?_
  refine T_r mixed [] [ps 0 (.av (.int .u64 ((x : Nat) : Int))), ps 2 (iv 0), ps 8 (bv (decide (65536 ≤ ((x : Nat) : Int))))] (obs_nil) ?_
  have h2 : ¬ (65536 ≤ ((x : Nat) : Int)) := by omega
  refine T_el (dtn h2) ?_
  refine T_skip <| T_seq <| T_seq ?_
  refine T_r mixed [] [ps 0 (.av (.int .u64 ((x : Nat) : Int))), ps 2 (iv 0), ps 14 (bv (decide (256 ≤ ((x : Nat) : Int))))] (obs_nil) ?_
  have h3 : 256 ≤ ((x : Nat) : Int) := by omega
  refine T_th (dty h3) ?_
  refine T_seq ?_
  refine T_r mixed [] [ps 0 (.av (.int .u64 ((((x : Nat) : Int)).fdiv (2 ^ (8 : Int).toNat)))), ps 2 (iv 0)] (obs_cons (by simp only [IntKind.bits]; omega : (0 : Int) ≤ 8 ∧ 8 ≤ ((IntKind.bits .u64 : Nat) : Int)) obs_nil) ?_
  refine T_wk (Wk.eq (show _ = [ps 0 (.av (.int .u64 ((x / 256 : Nat) : Int))), ps 2 (iv 0)] from by simp only [fdiv8])) ?_
  refine T_r mixed [] [ps 0 (.av (.int .u64 ((x / 256 : Nat) : Int))), ps 2 (iv 8)] (obs_cons (by simp [InK] : InK .i64 8) obs_nil) ?_
  refine T_seq ?_
  refine T_r mixed [] [ps 2 (iv (8 + (((tab8.getD (x / 256) 0).toNat : Nat) : Int)))] (obs_cons (by simp only [InK]; omega : InK .u8 ((x / 256 : Nat) : Int)) (obs_cons (by rw [show (tab8 : List UInt8).length = 256 from rfl]; omega : (0 : Int) ≤ ((x / 256 : Nat) : Int) ∧ ((x / 256 : Nat) : Int) < ((tab8.length : Nat) : Int)) (obs_cons (by simp only [InK]; omega : InK .i64 (((tab8.getD (x / 256) 0).toNat : Nat) : Int)) (obs_cons (by simp only [InK]; omega : InK .i64 (8 + (((tab8.getD (x / 256) 0).toNat : Nat) : Int))) obs_nil)))) ?_
  have hL : lenN x = 8 + ((tab8.getD (x / 256) 0).toNat : Nat) := by unfold lenN; rw [if_neg (by omega)]
  rw [hL]
  refine T_wk (Wk.eq (show _ = [ps 2 (nv (8 + ((tab8.getD (x / 256) 0).toNat : Nat)))] from by rfl)) ?_
  exact T_ret fun cx_ a_ hI_ => rt hc0 [ps 2 (nv (8 + ((tab8.getD (x / 256) 0).toNat : Nat)))] [] hI_
theorem len64_pc (x : Nat) (hx : x < 65536) : PC Try.prog 21 [.av (.int .u64 ((x : Nat) : Int))] [] (nv (lenN x)) [] := by
  by_cases h : x < 256
  · exact len64_lo x h
  · exact len64_hi x hx (by omega)
set_option maxRecDepth 100000 in
set_option maxHeartbeats 4000000 in
theorem len_pc (x : Nat) (hx : x < 65536) : PC Try.prog 13 [(.av (.int .u64 ((x : Nat) : Int)))] [] (nv (lenN x)) [] := by
  refine pc_intro Try.func13 rfl (by kernel_rfl) (Nat.le_of_ble_eq_true rfl) (by kernel_rfl) (l0 := [ps 0 (.av (.int .u64 ((x : Nat) : Int)))]) rfl (fun c0 Bor hc0 => ?_)
  refine T_seq ?_
  refine T_k mixed [] [.r] [] (obs_nil) ?_
  refine T_seq ?_
  refine T_elsec ?_
  refine T_skip <| T_seq ?_
  refine T_r mixed [(1, .call [] [(.av (.int .u64 ((x : Nat) : Int)))] [] (nv (lenN x)) [])] [ps 2 (nv (lenN x))] (obs_cons (len64_pc x hx) (obs_cons (rfl : Ren0 16 [(.av (.int .u64 ((x : Nat) : Int)))]) obs_nil)) ?_
  exact T_ret fun cx_ a_ hI_ => rt hc0 [ps 2 (nv (lenN x))] [] hI_
theorem len2_pc {L : Nat} (hL : L ≤ 12) : PC Try.prog 13 [.av (.int .u64 ((2 ^ L : Nat) : Int))] [] (nv (L + 1)) [] := by
  have h := len_pc (2 ^ L) (by have := p2_le hL; omega)
  rw [len_p2 hL] at h
  exact h
set_option maxRecDepth 100000 in
set_option maxHeartbeats 4000000 in
theorem new_pc (L : Nat) (hL : L ≤ 12) : PC Try.prog 14 [(nv (2 ^ L))] [] (.tup [(.opt 0 0), (iv 0)]) [some (63, [(nv L), (.av (.int .u32 0)), (.av (.int .i32 0)), (.av (.int .u32 0)), (.av (.slice none 0 0))])] := by
  have h2L := p2_le hL
  have h2p : 0 < 2 ^ L := Nat.pow_pos (by decide)
  refine pc_intro Try.func14 rfl (by kernel_rfl) (Nat.le_of_ble_eq_true rfl) (by kernel_rfl) (l0 := [ps 0 (nv (2 ^ L))]) rfl (fun c0 Bor hc0 => ?_)
  refine T_seq ?_
  refine T_r mixed [] [ps 0 (nv (2 ^ L))] (obs_nil) ?_
  refine T_seq <| T_seq ?_
  have h1 : ¬ ((((2 ^ L) : Nat) : Int) < 1) := by omega
  have h2 : ¬ (4096 < (((2 ^ L) : Nat) : Int)) := by omega
  refine T_r mixed [(3, .gd false (.no)), (4, .gd false (.no)), (5, .yes false), (7, .gd false (.no)), (8, .gd false (.no)), (9, .gd false (.no)), (10, .gd false (.no)), (11, .gd false (.no)), (12, .yes false)] [ps 0 (nv (2 ^ L)), ps 16 (bv (!(decide ((IntKind.wrap .i64 (BitVec.ofInt (IntKind.bits .i64) (((2 ^ L) : Nat) : Int) &&& BitVec.ofInt (IntKind.bits .i64) ((((2 ^ L) : Nat) : Int) - 1)).toNat) = 0))))] (obs_cons (dtn h1) (obs_cons (dtn h1) (obs_cons (dtn h1) (obs_cons (dtn h2) (obs_cons (dtn h2) (obs_cons (dtn h2) (obs_cons (by simp only [InK]; omega : InK .i64 ((((2 ^ L) : Nat) : Int) - 1)) (obs_cons (dtn h2) (obs_cons (dtn h2) (obs_cons (dtn h2) obs_nil)))))))))) ?_
  have h3 : (IntKind.wrap .i64 (BitVec.ofInt (IntKind.bits .i64) (((2 ^ L) : Nat) : Int) &&& BitVec.ofInt (IntKind.bits .i64) ((((2 ^ L) : Nat) : Int) - 1)).toNat) = 0 := ((and_at h2p h2L).2 ⟨L, hL, rfl⟩)
  refine T_el (bt h3) ?_
  refine T_skip <| T_seq ?_
  refine T_r mixed [(2, .call [] [(.av (.int .u64 ((2 ^ L : Nat) : Int)))] [] (nv (L + 1)) [])] [ps 2 (.opt 160 0), ps 3 (iv 0), pb 160 63 [(iv (((L + 1 : Nat) : Int) - 1)), (.av (.int .u32 0)), (.av (.int .i32 0)), (.av (.int .u32 0)), (.av (.slice none 0 0))]] (obs_cons (by simp only [InK]; omega : InK .u64 (((2 ^ L) : Nat) : Int)) (obs_cons (len2_pc hL) (obs_cons (rfl : [(.av (.int .u64 (((2 ^ L) : Nat) : Int)))] = renL (sigi [] 136) [(.av (.int .u64 ((2 ^ L : Nat) : Int)))]) (obs_cons (by simp only [InK]; omega : InK .i64 (((L + 1 : Nat) : Int) - 1)) obs_nil)))) ?_
  refine T_wk (Wk.eq (show _ = [ps 2 (.opt 160 0), ps 3 (iv 0), pb 160 63 [(nv L), (.av (.int .u32 0)), (.av (.int .i32 0)), (.av (.int .u32 0)), (.av (.slice none 0 0))]] from by simp only [suc_sub])) ?_
  exact T_ret fun cx_ a_ hI_ => rt hc0 [ps 2 (.opt 0 0), ps 3 (iv 0), pb 0 63 [(nv L), (.av (.int .u32 0)), (.av (.int .i32 0)), (.av (.int .u32 0)), (.av (.slice none 0 0))]] [160] hI_ (hbk := by exact obs_cons rfl (obs_nil))
set_option maxRecDepth 100000 in
set_option maxHeartbeats 4000000 in
theorem mir_pc (v : List FC) (hv : v.length ≤ 4096) : PC Try.prog 25 [(.ssl (cxs v) 0 v.length)] [] (.osl 0 0 v.length) [some (31, (cxs (mirL v)))] := by
  refine pc_intro Try.func25 rfl (by kernel_rfl) (Nat.le_of_ble_eq_true rfl) (by kernel_rfl) (l0 := [ps 0 (.ssl (cxs v) 0 v.length)]) rfl (fun c0 Bor hc0 => ?_)
  refine T_seq ?_
  refine T_r mixed [] [ps 0 (.ssl (cxs v) 0 v.length)] (obs_nil) ?_
  refine T_seq ?_
  refine T_r mixed [(2, .cells (cxs (List.replicate v.length (0, 0))))] [ps 0 (.ssl (cxs v) 0 v.length), ps 3 (.osl 24 0 v.length), pb 24 31 (cxs (List.replicate v.length (0, 0)))] (obs_cons (by omega : (0 : Int) ≤ ((v.length : Nat) : Int) ∧ ((v.length : Nat) : Int) ≤ ((v.length : Nat) : Int) ∧ ((v.length : Nat) : Int) ≤ 140737488355328 ∧ ((16 : Nat) : Int) * ((v.length : Nat) : Int) ≤ 140737488355328) (obs_cons (zeros_cxs _ : zeros [(.av (.complex .f64 0 0))] (((v.length : Nat) : Int) : Int).toNat = (cxs (List.replicate v.length (0, 0)))) obs_nil)) ?_
  refine T_seq <| T_seq ?_
  refine T_r mixed [] [ps 3 (.osl 24 0 v.length), ps 9 (.ssl (cxs v) 0 v.length), ps 10 (nv v.length), ps 11 (iv 0), pb 24 31 (cxs (List.replicate v.length (0, 0)))] (obs_nil) ?_
  refine T_block ?_
  refine T_wk (Wk.eq (show _ = [ps 3 (.osl 24 0 v.length), ps 9 (.ssl (cxs v) 0 v.length), ps 10 (nv v.length), ps 11 (iv 0), pb 24 31 (cxs (mirD v 0))] from by rw [← mirD_zero v])) ?_
  refine T_loop (α := {x : Nat // x ≤ v.length}) (fun x => [ps 3 (.osl 0 0 v.length), ps 9 (.ssl (cxs v) 0 v.length), ps 10 (nv v.length), ps 11 (nv x.1), pb 0 31 (cxs (mirD v x.1))]) (fun x => v.length - x.1) 1 ⟨0, Nat.zero_le _⟩ (Wk.ren3 [ps 3 (.osl 0 0 v.length), ps 9 (.ssl (cxs v) 0 v.length), ps 10 (nv v.length), ps 11 (nv 0), pb 0 31 (cxs (mirD v 0))] 0 hc0 [24] [(kb 0, (cxs (mirD v 0)))] (obs_cons (cxs_shd _) (obs_nil)) (by kernel_rfl) rfl rfl (by kernel_rfl) (by kernel_rfl)) ?_
  rintro ⟨i, hi⟩
  refine T_seq ?_
  refine T_r mixed [] [ps 3 (.osl 0 0 v.length), ps 9 (.ssl (cxs v) 0 v.length), ps 10 (nv v.length), ps 11 (nv i), ps 12 (bv (decide (((i : Nat) : Int) < ((v.length : Nat) : Int)))), pb 0 31 (cxs (mirD v i))] (obs_nil) ?_
  refine T_seq ?_
  by_cases h1 : ((i : Nat) : Int) < ((v.length : Nat) : Int)
  · refine T_th (dty h1) ?_
    refine T_skip <| T_seq <| T_block <| T_seq ?_
    refine T_r mixed [(1, .nat i), (2, .val (.av (.complex .f64 ((v.getD i (0, 0)).1) ((v.getD i (0, 0)).2))))] [ps 3 (.osl 0 0 v.length), ps 4 (nv i), ps 5 (.av (.complex .f64 ((v.getD i (0, 0)).1) ((v.getD i (0, 0)).2))), ps 9 (.ssl (cxs v) 0 v.length), ps 10 (nv v.length), ps 11 (nv i), pb 0 31 (cxs (mirD v i))] (obs_cons (by omega : (0 : Int) ≤ ((i : Nat) : Int) ∧ ((i : Nat) : Int) < ((v.length : Nat) : Int)) (obs_cons (by omega : 0 + (((i : Nat) : Int) : Int).toNat * 1 = i) (obs_cons (flat_at1 cxC (fun _ => rfl) (0, 0) v i (by omega) : i + 1 ≤ ((cxs v)).length ∧ (((cxs v)).drop i).take 1 = [(.av (.complex .f64 ((v.getD i (0, 0)).1) ((v.getD i (0, 0)).2)))]) obs_nil))) ?_
    refine T_r mixed [(8, .nat i), (9, .cells (cxs (mirD v (i + 1))))] [ps 3 (.osl 0 0 v.length), ps 9 (.ssl (cxs v) 0 v.length), ps 10 (nv v.length), ps 11 (nv i), pb 0 31 (cxs (mirD v (i + 1)))] (obs_cons (by omega : (0 : Int) ≤ ((i : Nat) : Int) ∧ ((i : Nat) : Int) < ((v.length : Nat) : Int)) (obs_cons (by omega : 0 + (((i : Nat) : Int) : Int).toNat * 1 = i) (obs_cons (mirD_store (by omega) : i + 1 ≤ ((cxs (mirD v i))).length ∧ splice (cxs (mirD v i)) i [(.av (.complex .f64 ((v.getD i (0, 0)).1) (Op.negFloat .f64 ((v.getD i (0, 0)).2))))] = (cxs (mirD v (i + 1)))) obs_nil))) ?_
    refine T_blk ?_
    refine T_r mixed [] [ps 3 (.osl 0 0 v.length), ps 9 (.ssl (cxs v) 0 v.length), ps 10 (nv v.length), ps 11 (iv (((i : Nat) : Int) + 1)), pb 0 31 (cxs (mirD v (i + 1)))] (obs_cons (by simp only [InK]; omega : InK .i64 (((i : Nat) : Int) + 1)) obs_nil) ?_
    exact T_back ⟨i + 1, by omega⟩ (Wk.ren3 [ps 3 (.osl 0 0 v.length), ps 9 (.ssl (cxs v) 0 v.length), ps 10 (nv v.length), ps 11 (nv (i + 1)), pb 0 31 (cxs (mirD v (i + 1)))] 0 hc0 [0] [(kb 0, (cxs (mirD v (i + 1))))] (obs_cons (cxs_shd _) (obs_nil)) (by kernel_rfl) rfl rfl (by kernel_rfl) (by kernel_rfl)) (show v.length - (i + 1) < v.length - i from by omega)
  refine T_el (dtn h1) ?_
  refine T_break rfl rfl ?_
  refine T_seq ?_
  refine T_r mixed [] [ps 2 (.osl 0 0 v.length), pb 0 31 (cxs (mirD v i))] (obs_nil) ?_
  obtain rfl : i = v.length := by omega
  refine T_wk (Wk.eq (show _ = [ps 2 (.osl 0 0 v.length), pb 0 31 (cxs (mirL v))] from by rw [mirD_full v])) ?_
  exact T_ret fun cx_ a_ hI_ => ret_ok (H' := [some (31, (cxs (mirL v)))]) (.inr rfl) (Wk.ren3 [ps 2 (.osl 0 0 v.length), pb 0 31 (cxs (mirL v))] 0 hc0 [0] [(kb 0, (cxs (mirL v)))] (obs_cons (cxs_shd _) (obs_nil)) (by kernel_rfl) rfl rfl (by kernel_rfl) (by kernel_rfl)) rfl (obs_cons rfl (obs_nil)) (fun cx_ a_ hI_ => ret_res (l' := [ps 2 (.osl 0 0 v.length), pb 0 31 (cxs (mirL v))]) (by kernel_rfl) cx_ a_ hI_) hI_
set_option maxRecDepth 100000 in
set_option maxHeartbeats 4000000 in
theorem tog_pc (L : Nat) (hL : L ≤ 12) (v : List FC) (hv : v.length = 2 ^ L) {r : List FC} (hr : togO L v = some r) : PC Try.prog 16 [(.opt 0 0), (.ssl (cxs v) 0 v.length)] [some (63, [(nv L), (.av (.int .u32 1)), (.av (.int .i32 0)), (.av (.int .u32 0)), (.ssl (rws (waves L)) 0 L)])] (.tup [(.osl 1 0 (2 ^ L)), (iv 0)]) [some (63, [(nv L), (.av (.int .u32 1)), (.av (.int .i32 0)), (.av (.int .u32 0)), (.ssl (rws (waves L)) 0 L)]), some (31, (cxs r))] := by
  have h2L := p2_le hL
  have hv4 : v.length ≤ 4096 := by omega
  have hmv : (mirL v).length = 2 ^ L := by rw [mirL_len, hv]
  obtain ⟨f, hf, hr0⟩ := bind_some hr
  have hfl := apartO_len hf
  refine pc_intro Try.func16 rfl (by kernel_rfl) (Nat.le_of_ble_eq_true rfl) (by kernel_rfl) (l0 := [ps 0 (.opt 0 0), ps 1 (.ssl (cxs v) 0 v.length), pb 0 63 [(nv L), (.av (.int .u32 1)), (.av (.int .i32 0)), (.av (.int .u32 0)), (.ssl (rws (waves L)) 0 L)]]) rfl (fun c0 Bor hc0 => ?_)
  refine T_seq ?_
  refine T_r mixed [] [ps 0 (.opt 0 0), ps 1 (.ssl (cxs v) 0 v.length), pb 0 63 [(nv L), (.av (.int .u32 1)), (.av (.int .i32 0)), (.av (.int .u32 0)), (.ssl (rws (waves L)) 0 L)]] (obs_nil) ?_
  refine T_seq ?_
  refine T_r mixed [(2, .call [] [(.ssl (cxs v) 0 v.length)] [] (.osl 0 0 v.length) [some (31, (cxs (mirL v)))]), (3, .lay [33] (.call [0] [(.opt 0 0), (.ssl (cxs (mirL v)) 0 ((mirL v).length))] [some (63, [(nv L), (.av (.int .u32 1)), (.av (.int .i32 0)), (.av (.int .u32 0)), (.ssl (rws (waves L)) 0 L)])] (.tup [(.osl 1 0 (2 ^ L)), (iv 0)]) [some (63, [(nv L), (.av (.int .u32 1)), (.av (.int .i32 0)), (.av (.int .u32 0)), (.ssl (rws (waves L)) 0 L)]), some (31, (cxs f))]))] [ps 6 (.osl 41 0 (2 ^ L)), ps 7 (iv 0), pb 0 63 [(nv L), (.av (.int .u32 1)), (.av (.int .i32 0)), (.av (.int .u32 0)), (.ssl (rws (waves L)) 0 L)], pb 41 31 (renL (sigo [0] 41) (cxs f))] (obs_cons (mir_pc v hv4) (obs_cons (rfl : Ren0 33 [(.ssl (cxs v) 0 v.length)]) (obs_cons (by rw [renL_shd (cxs_shd _)]; exact cxs_shd _ : shds (renL (sigo [] 33) (cxs (mirL v)))) (obs_cons (apart2_pc L hL (mirL v) hmv hf) (obs_cons (by rw [renL_shd (cxs_shd _), mirL_len]; rfl : [(.opt 0 0), (.ssl (renL (sigo [] 33) (cxs (mirL v))) 0 v.length)] = renL (sigi [0] 41) [(.opt 0 0), (.ssl (cxs (mirL v)) 0 ((mirL v).length))]) (obs_cons (rfl : [(nv L), (.av (.int .u32 1)), (.av (.int .i32 0)), (.av (.int .u32 0)), (.ssl (rws (waves L)) 0 L)] = renL (sigi [0] 41) [(nv L), (.av (.int .u32 1)), (.av (.int .i32 0)), (.av (.int .u32 0)), (.ssl (rws (waves L)) 0 L)]) obs_nil)))))) ?_
  refine T_wk (Wk.eq (show _ = [ps 6 (.osl 41 0 (2 ^ L)), ps 7 (iv 0), pb 0 63 [(nv L), (.av (.int .u32 1)), (.av (.int .i32 0)), (.av (.int .u32 0)), (.ssl (rws (waves L)) 0 L)], pb 41 31 (cxs f)] from by simp only [renL_shd (cxs_shd _)])) ?_
  refine T_seq <| T_seq ?_
  refine T_r mixed [] [ps 6 (.osl 41 0 (2 ^ L)), ps 7 (iv 0), ps 19 (bv false), pb 0 63 [(nv L), (.av (.int .u32 1)), (.av (.int .i32 0)), (.av (.int .u32 0)), (.ssl (rws (waves L)) 0 L)], pb 41 31 (cxs f)] (obs_nil) ?_
  refine T_else (b := false) rfl rfl ?_
  refine T_skip <| T_seq ?_
  refine T_r mixed [] [ps 6 (.osl 41 0 (2 ^ L)), ps 8 (flv (FloatKind.f64.nearest (((2 ^ L) : Nat) : Int))), pb 0 63 [(nv L), (.av (.int .u32 1)), (.av (.int .i32 0)), (.av (.int .u32 0)), (.ssl (rws (waves L)) 0 L)], pb 41 31 (cxs f)] (obs_nil) ?_
  refine T_seq <| T_seq ?_
  refine T_r mixed [] [ps 6 (.osl 41 0 (2 ^ L)), ps 8 (flv (FloatKind.f64.nearest (((2 ^ L) : Nat) : Int))), ps 24 (.osl 41 0 (2 ^ L)), ps 25 (nv (2 ^ L)), ps 26 (iv 0), pb 0 63 [(nv L), (.av (.int .u32 1)), (.av (.int .i32 0)), (.av (.int .u32 0)), (.ssl (rws (waves L)) 0 L)], pb 41 31 (cxs f)] (obs_nil) ?_
  refine T_block ?_
  refine T_wk (Wk.eq (show _ = [ps 6 (.osl 41 0 (2 ^ L)), ps 8 (flv (nfL L)), ps 24 (.osl 41 0 (2 ^ L)), ps 25 (nv (2 ^ L)), ps 26 (iv 0), pb 0 63 [(nv L), (.av (.int .u32 1)), (.av (.int .i32 0)), (.av (.int .u32 0)), (.ssl (rws (waves L)) 0 L)], pb 41 31 (cxs f)] from by rfl)) ?_
  refine T_loop (α := {x : Nat × List FC // x.1 ≤ 2 ^ L ∧ x.2.length = 2 ^ L ∧ chO (divC (nfL L)) (2 ^ L - x.1) x.1 x.2 = some r}) (fun x => [ps 6 (.osl 1 0 (2 ^ L)), ps 8 (flv (nfL L)), ps 24 (.osl 1 0 (2 ^ L)), ps 25 (nv (2 ^ L)), ps 26 (nv x.1.1), pb 0 63 [(nv L), (.av (.int .u32 1)), (.av (.int .i32 0)), (.av (.int .u32 0)), (.ssl (rws (waves L)) 0 L)], pb 1 31 (cxs x.1.2)]) (fun x => 2 ^ L - x.1.1) 2 ⟨(0, f), ⟨Nat.zero_le _, hfl, hr0⟩⟩ (Wk.ren3 [ps 6 (.osl 1 0 (2 ^ L)), ps 8 (flv (nfL L)), ps 24 (.osl 1 0 (2 ^ L)), ps 25 (nv (2 ^ L)), ps 26 (nv 0), pb 0 63 [(nv L), (.av (.int .u32 1)), (.av (.int .i32 0)), (.av (.int .u32 0)), (.ssl (rws (waves L)) 0 L)], pb 1 31 (cxs f)] 1 hc0 [0, 41] [(kb 1, (cxs f))] (obs_cons (cxs_shd _) (obs_nil)) (by kernel_rfl) rfl rfl (by kernel_rfl) (by kernel_rfl)) ?_
  rintro ⟨⟨i, o⟩, ⟨hi, ho, hg⟩⟩
  dsimp only at hi ho hg
  refine T_seq ?_
  refine T_r mixed [] [ps 6 (.osl 1 0 (2 ^ L)), ps 8 (flv (nfL L)), ps 24 (.osl 1 0 (2 ^ L)), ps 25 (nv (2 ^ L)), ps 26 (nv i), ps 27 (bv (decide (((i : Nat) : Int) < (((2 ^ L) : Nat) : Int)))), pb 0 63 [(nv L), (.av (.int .u32 1)), (.av (.int .i32 0)), (.av (.int .u32 0)), (.ssl (rws (waves L)) 0 L)], pb 1 31 (cxs o)] (obs_nil) ?_
  refine T_seq ?_
  by_cases h1 : ((i : Nat) : Int) < (((2 ^ L) : Nat) : Int)
  · refine T_th (dty h1) ?_
    refine T_skip <| T_seq <| T_block <| T_seq ?_
    obtain ⟨p, hq, hp⟩ := chO_step (by omega) hg
    obtain ⟨hq1, hq2⟩ := divC_ok hq
    refine T_r mixed [(1, .nat i), (2, .val (.av (.complex .f64 ((o.getD i (0, 0)).1) ((o.getD i (0, 0)).2))))] [ps 6 (.osl 1 0 (2 ^ L)), ps 8 (flv (nfL L)), ps 9 (nv i), ps 10 (.av (.complex .f64 ((o.getD i (0, 0)).1) ((o.getD i (0, 0)).2))), ps 24 (.osl 1 0 (2 ^ L)), ps 25 (nv (2 ^ L)), ps 26 (nv i), pb 0 63 [(nv L), (.av (.int .u32 1)), (.av (.int .i32 0)), (.av (.int .u32 0)), (.ssl (rws (waves L)) 0 L)], pb 1 31 (cxs o)] (obs_cons (by omega : (0 : Int) ≤ ((i : Nat) : Int) ∧ ((i : Nat) : Int) < (((2 ^ L) : Nat) : Int)) (obs_cons (by omega : 0 + (((i : Nat) : Int) : Int).toNat * 1 = i) (obs_cons (flat_at1 cxC (fun _ => rfl) (0, 0) o i (by omega) : i + 1 ≤ ((cxs o)).length ∧ (((cxs o)).drop i).take 1 = [(.av (.complex .f64 ((o.getD i (0, 0)).1) ((o.getD i (0, 0)).2)))]) obs_nil))) ?_
    refine T_r mixed [(5, .nat p.1), (10, .nat p.2), (12, .nat i), (13, .cells (cxs (o.set i p)))] [ps 6 (.osl 1 0 (2 ^ L)), ps 8 (flv (nfL L)), ps 24 (.osl 1 0 (2 ^ L)), ps 25 (nv (2 ^ L)), ps 26 (nv i), pb 0 63 [(nv L), (.av (.int .u32 1)), (.av (.int .i32 0)), (.av (.int .u32 0)), (.ssl (rws (waves L)) 0 L)], pb 1 31 (cxs (o.set i p))] (obs_cons (hq1 : FloatKind.f64.format.div ((o.getD i (0, 0)).1) (nfL L) = some p.1) (obs_cons (hq2 : FloatKind.f64.format.div (Op.negFloat .f64 ((o.getD i (0, 0)).2)) (nfL L) = some p.2) (obs_cons (by omega : (0 : Int) ≤ ((i : Nat) : Int) ∧ ((i : Nat) : Int) < (((2 ^ L) : Nat) : Int)) (obs_cons (by omega : 0 + (((i : Nat) : Int) : Int).toNat * 1 = i) (obs_cons (set_at1 p ho (by omega) : i + 1 ≤ ((cxs o)).length ∧ splice (cxs o) i [(.av (.complex .f64 p.1 p.2))] = (cxs (o.set i p))) obs_nil))))) ?_
    refine T_blk ?_
    refine T_r mixed [] [ps 6 (.osl 1 0 (2 ^ L)), ps 8 (flv (nfL L)), ps 24 (.osl 1 0 (2 ^ L)), ps 25 (nv (2 ^ L)), ps 26 (iv (((i : Nat) : Int) + 1)), pb 0 63 [(nv L), (.av (.int .u32 1)), (.av (.int .i32 0)), (.av (.int .u32 0)), (.ssl (rws (waves L)) 0 L)], pb 1 31 (cxs (o.set i p))] (obs_cons (by simp only [InK]; omega : InK .i64 (((i : Nat) : Int) + 1)) obs_nil) ?_
    exact T_back ⟨(i + 1, o.set i p), ⟨by omega, by rw [List.length_set]; exact ho, hp⟩⟩ (Wk.ren3 [ps 6 (.osl 1 0 (2 ^ L)), ps 8 (flv (nfL L)), ps 24 (.osl 1 0 (2 ^ L)), ps 25 (nv (2 ^ L)), ps 26 (nv (i + 1)), pb 0 63 [(nv L), (.av (.int .u32 1)), (.av (.int .i32 0)), (.av (.int .u32 0)), (.ssl (rws (waves L)) 0 L)], pb 1 31 (cxs (o.set i p))] 1 hc0 [0, 1] [(kb 1, (cxs (o.set i p)))] (obs_cons (cxs_shd _) (obs_nil)) (by kernel_rfl) rfl rfl (by kernel_rfl) (by kernel_rfl)) (show 2 ^ L - (i + 1) < 2 ^ L - i from by show 2 ^ L - (i + 1) < 2 ^ L - i; omega)
  refine T_el (dtn h1) ?_
  refine T_break rfl rfl ?_
  refine T_seq ?_
  refine T_r mixed [] [ps 4 (.osl 1 0 (2 ^ L)), ps 5 (iv 0), pb 0 63 [(nv L), (.av (.int .u32 1)), (.av (.int .i32 0)), (.av (.int .u32 0)), (.ssl (rws (waves L)) 0 L)], pb 1 31 (cxs o)] (obs_nil) ?_
  obtain rfl := chO_end (by omega) hg
  exact T_ret fun cx_ a_ hI_ => ret_ok (H' := [some (63, [(nv L), (.av (.int .u32 1)), (.av (.int .i32 0)), (.av (.int .u32 0)), (.ssl (rws (waves L)) 0 L)]), some (31, (cxs o))]) (.inr rfl) (Wk.ren3 [ps 4 (.osl 1 0 (2 ^ L)), ps 5 (iv 0), pb 0 63 [(nv L), (.av (.int .u32 1)), (.av (.int .i32 0)), (.av (.int .u32 0)), (.ssl (rws (waves L)) 0 L)], pb 1 31 (cxs o)] 1 hc0 [0, 1] [(kb 1, (cxs o))] (obs_cons (cxs_shd _) (obs_nil)) (by kernel_rfl) rfl rfl (by kernel_rfl) (by kernel_rfl)) rfl (obs_cons rfl (obs_cons rfl (obs_nil))) (fun cx_ a_ hI_ => ret_res (l' := [ps 4 (.osl 1 0 (2 ^ L)), ps 5 (iv 0), pb 0 63 [(nv L), (.av (.int .u32 1)), (.av (.int .i32 0)), (.av (.int .u32 0)), (.ssl (rws (waves L)) 0 L)], pb 1 31 (cxs o)]) (by kernel_rfl) cx_ a_ hI_) hI_
end Go.Proofs.Ytfibadnkhbjciaa.Pm
namespace Go.Proofs.Ytfibadnkhbjciaa.Pm
open Go Go.Proofs.Ytfibadnkhbjciaa.Fl

set_option maxRecDepth 100000 in
set_option maxHeartbeats 4000000 in
theorem whole_pc (l : List Int) (hl : l.length ≤ 9223372036854775807) : PC Try.prog 12 [(.ssl (ints l) 0 l.length)] [] (iv (wholeE l)) [] := by
  refine pc_intro Try.func12 rfl (by kernel_rfl) (Nat.le_of_ble_eq_true rfl) (by kernel_rfl) (l0 := [ps 0 (.ssl (ints l) 0 l.length)]) rfl (fun c0 Bor hc0 => ?_)
  refine T_seq ?_
  refine T_r mixed [] [ps 0 (.ssl (ints l) 0 l.length)] (obs_nil) ?_
  refine T_seq <| T_seq ?_
  by_cases h1 : ((l.length : Nat) : Int) = 0
  · refine T_r mixed [(4, .gd true .no), (5, .gd true .no), (6, .gd true .no), (7, .yes true)] [ps 0 (.ssl (ints l) 0 l.length), ps 12 (bv true)] (obs_cons (dty h1) (obs_cons (dty h1) (obs_cons (dty h1) (obs_cons (dty h1) obs_nil)))) ?_
    refine T_then (b := true) rfl rfl ?_
    refine T_seq ?_
    refine T_r mixed [] [ps 2 (iv 5)] (obs_nil) ?_
    rw [wholeE_many (by omega)]
    exact T_ret fun cx_ a_ hI_ => rt hc0 [ps 2 (iv 5)] [] hI_
  refine T_r mixed [(4, .gd false (.no)), (5, .gd false (.no)), (6, .gd false (.no)), (7, .yes false)] [ps 0 (.ssl (ints l) 0 l.length), ps 12 (bv (decide (512 < ((l.length : Nat) : Int))))] (obs_cons (dtn h1) (obs_cons (dtn h1) (obs_cons (dtn h1) (obs_cons (dtn h1) obs_nil)))) ?_
  by_cases h2 : 512 < ((l.length : Nat) : Int)
  · refine T_th (dty h2) ?_
    refine T_seq ?_
    refine T_r mixed [] [ps 2 (iv 5)] (obs_nil) ?_
    rw [wholeE_many (by omega)]
    exact T_ret fun cx_ a_ hI_ => rt hc0 [ps 2 (iv 5)] [] hI_
  refine T_el (dtn h2) ?_
  refine T_skip <| T_seq <| T_seq ?_
  refine T_r mixed [] [ps 13 (.ssl (ints l) 0 l.length), ps 14 (nv l.length), ps 15 (iv 0)] (obs_nil) ?_
  refine T_block ?_
  refine T_loop (α := {x : Nat // x ≤ l.length ∧ (∀ j, j < x → ¬ (l.getD j 0 < -512) ∧ ¬ (512 < l.getD j 0))}) (fun x => [ps 13 (.ssl (ints l) 0 l.length), ps 14 (nv l.length), ps 15 (nv x.1)]) (fun x => l.length - x.1) 0 ⟨0, ⟨Nat.zero_le _, fun j hj => absurd hj (Nat.not_lt_zero j)⟩⟩ (Wk.ren2 [ps 13 (.ssl (ints l) 0 l.length), ps 14 (nv l.length), ps 15 (nv 0)] 0 hc0 [] rfl rfl (by kernel_rfl) (by kernel_rfl)) ?_
  rintro ⟨i, ⟨hi, hg⟩⟩
  refine T_seq ?_
  refine T_r mixed [] [ps 13 (.ssl (ints l) 0 l.length), ps 14 (nv l.length), ps 15 (nv i), ps 16 (bv (decide (((i : Nat) : Int) < ((l.length : Nat) : Int))))] (obs_nil) ?_
  refine T_seq ?_
  by_cases h3 : ((i : Nat) : Int) < ((l.length : Nat) : Int)
  · refine T_th (dty h3) ?_
    refine T_skip <| T_seq <| T_block <| T_seq ?_
    refine T_r mixed [(0, .nat i), (1, .val (iv (l.getD i 0)))] [ps 4 (iv (l.getD i 0)), ps 13 (.ssl (ints l) 0 l.length), ps 14 (nv l.length), ps 15 (nv i)] (obs_cons (by omega : (0 : Int) ≤ ((i : Nat) : Int) ∧ ((i : Nat) : Int) < ((l.length : Nat) : Int)) (obs_cons (by omega : 0 + (((i : Nat) : Int) : Int).toNat * 1 = i) (obs_cons (ints_at (by omega) : i + 1 ≤ ((ints l)).length ∧ (((ints l)).drop i).take 1 = [(iv (l.getD i 0))]) obs_nil))) ?_
    refine T_seq ?_
    by_cases h4 : (l.getD i 0) < (-512)
    · refine T_r mixed [(3, .gd true .no), (4, .gd true .no), (5, .yes true)] [ps 13 (.ssl (ints l) 0 l.length), ps 14 (nv l.length), ps 15 (nv i), ps 24 (bv true)] (obs_cons (dty h4) (obs_cons (dty h4) (obs_cons (dty h4) obs_nil))) ?_
      refine T_then (b := true) rfl rfl ?_
      refine T_seq ?_
      refine T_r mixed [] [ps 2 (iv 3)] (obs_nil) ?_
      rw [wholeE_bad (l := l) (i := i) (by omega) (by omega) (by omega)]
      exact T_ret fun cx_ a_ hI_ => loop_ret (rt hc0 [ps 2 (iv 3)] [] hI_)
    refine T_r mixed [(3, .gd false (.no)), (4, .gd false (.no)), (5, .yes false)] [ps 13 (.ssl (ints l) 0 l.length), ps 14 (nv l.length), ps 15 (nv i), ps 24 (bv (decide (512 < (l.getD i 0))))] (obs_cons (dtn h4) (obs_cons (dtn h4) (obs_cons (dtn h4) obs_nil))) ?_
    by_cases h5 : 512 < (l.getD i 0)
    · refine T_th (dty h5) ?_
      refine T_seq ?_
      refine T_r mixed [] [ps 2 (iv 3)] (obs_nil) ?_
      rw [wholeE_bad (l := l) (i := i) (by omega) (by omega) (by omega)]
      exact T_ret fun cx_ a_ hI_ => loop_ret (rt hc0 [ps 2 (iv 3)] [] hI_)
    refine T_el (dtn h5) ?_
    refine T_skip <| T_blk ?_
    refine T_r mixed [] [ps 13 (.ssl (ints l) 0 l.length), ps 14 (nv l.length), ps 15 (iv (((i : Nat) : Int) + 1))] (obs_cons (by simp only [InK]; omega : InK .i64 (((i : Nat) : Int) + 1)) obs_nil) ?_
    exact T_back ⟨i + 1, ⟨by omega, fun j hj => by by_cases e : j = i; (· subst e; exact ⟨by omega, by omega⟩); (· exact hg j (by omega))⟩⟩ (Wk.ren2 [ps 13 (.ssl (ints l) 0 l.length), ps 14 (nv l.length), ps 15 (nv (i + 1))] 0 hc0 [] rfl rfl (by kernel_rfl) (by kernel_rfl)) (show l.length - (i + 1) < l.length - i from by omega)
  refine T_el (dtn h3) ?_
  refine T_break rfl rfl ?_
  refine T_seq ?_
  refine T_r mixed [] [ps 2 (iv 0)] (obs_nil) ?_
  rw [wholeE_ok (l := l) (by omega) (fun j hj => hg j (by omega))]
  exact T_ret fun cx_ a_ hI_ => rt hc0 [ps 2 (iv 0)] [] hI_
set_option maxRecDepth 100000 in
set_option maxHeartbeats 4000000 in
theorem prod_pc (a b c : List Int) (ha0 : wholeE a = 0) (hb0 : wholeE b = 0) (hcl : c.length = a.length + b.length - 1) {f : List FC} (hw : waveO a b = some f) (hout : ∀ i, i < c.length → RdOk (f.getD i (0, 0)).2 (c.getD i 0)) : PC Try.prog 6 [(.ssl (ints a) 0 a.length), (.ssl (ints b) 0 b.length)] [] (.tup [(.osl 0 0 c.length), (iv 0)]) [some (3, (ints c))] := by
  obtain ⟨hal, hal2, haB⟩ := wholeE_zero ha0
  obtain ⟨hbl, hbl2, hbB⟩ := wholeE_zero hb0
  obtain ⟨L, hLg⟩ : ∃ L, lgN a b = L := ⟨_, rfl⟩
  obtain ⟨hLf, hL⟩ := len_fit (x := a.length + b.length - 1 - 1) (by omega)
  rw [show lenN (a.length + b.length - 1 - 1) = L from hLg] at hLf hL
  have h2L := p2_le (l := L) (by omega)
  unfold waveO at hw
  rw [hLg] at hw
  obtain ⟨f1, hf1, hw⟩ := bind_some hw
  obtain ⟨f2, hf2, hf3⟩ := bind_some hw
  have hfl : f.length = 2 ^ L := togO_len hf3
  refine pc_intro Try.func6 rfl (by kernel_rfl) (Nat.le_of_ble_eq_true rfl) (by kernel_rfl) (l0 := [ps 0 (.ssl (ints a) 0 a.length), ps 1 (.ssl (ints b) 0 b.length)]) rfl (fun c0 Bor hc0 => ?_)
  refine T_seq ?_
  refine T_r mixed [] [ps 0 (.ssl (ints a) 0 a.length), ps 1 (.ssl (ints b) 0 b.length)] (obs_nil) ?_
  refine T_seq <| T_seq ?_
  refine T_r mixed [] [ps 0 (.ssl (ints a) 0 a.length), ps 1 (.ssl (ints b) 0 b.length), ps 24 (.osl 32 0 2), ps 25 (iv 2), ps 26 (iv 0), pb 32 22 [(.ssl (ints a) 0 a.length), (.ssl (ints b) 0 b.length)]] (obs_nil) ?_
  refine T_block ?_
  refine T_loop (α := {x : Nat // x ≤ 2}) (fun x => [ps 0 (.ssl (ints a) 0 a.length), ps 1 (.ssl (ints b) 0 b.length), ps 24 (.osl 0 0 2), ps 25 (iv 2), ps 26 (nv x.1), pb 0 22 [(.ssl (ints a) 0 a.length), (.ssl (ints b) 0 b.length)]]) (fun x => 2 - x.1) 1 ⟨0, Nat.zero_le _⟩ (Wk.ren2 [ps 0 (.ssl (ints a) 0 a.length), ps 1 (.ssl (ints b) 0 b.length), ps 24 (.osl 0 0 2), ps 25 (iv 2), ps 26 (nv 0), pb 0 22 [(.ssl (ints a) 0 a.length), (.ssl (ints b) 0 b.length)]] 0 hc0 [32] rfl rfl (by kernel_rfl) (by kernel_rfl)) ?_
  rintro ⟨q, hq⟩
  refine T_seq ?_
  refine T_r mixed [] [ps 0 (.ssl (ints a) 0 a.length), ps 1 (.ssl (ints b) 0 b.length), ps 24 (.osl 0 0 2), ps 25 (iv 2), ps 26 (nv q), ps 27 (bv (decide (((q : Nat) : Int) < 2))), pb 0 22 [(.ssl (ints a) 0 a.length), (.ssl (ints b) 0 b.length)]] (obs_nil) ?_
  refine T_seq ?_
  by_cases h1 : ((q : Nat) : Int) < 2
  · refine T_th (dty h1) ?_
    refine T_skip <| T_seq <| T_block <| T_seq ?_
    by_cases h2 : q = 0
    · refine T_r mixed [(0, .nat 0)] [ps 0 (.ssl (ints a) 0 a.length), ps 1 (.ssl (ints b) 0 b.length), ps 7 (.ssl (ints a) 0 a.length), ps 24 (.osl 0 0 2), ps 25 (iv 2), ps 26 (nv q), pb 0 22 [(.ssl (ints a) 0 a.length), (.ssl (ints b) 0 b.length)]] (obs_cons (by omega : (0 : Int) ≤ ((q : Nat) : Int) ∧ ((q : Nat) : Int) < ((2 : Nat) : Int)) (obs_cons (by omega : 0 + (((q : Nat) : Int) : Int).toNat * 1 = 0) obs_nil)) ?_
      refine T_seq ?_
      refine T_r mixed [(1, .call [] [(.ssl (ints a) 0 a.length)] [] (iv 0) [])] [ps 0 (.ssl (ints a) 0 a.length), ps 1 (.ssl (ints b) 0 b.length), ps 8 (iv 0), ps 24 (.osl 0 0 2), ps 25 (iv 2), ps 26 (nv q), pb 0 22 [(.ssl (ints a) 0 a.length), (.ssl (ints b) 0 b.length)]] (obs_cons (by have h0 := whole_pc a (by omega); rw [ha0] at h0; exact h0 : PC Try.prog 12 [(.ssl (ints a) 0 a.length)] [] (iv 0) []) (obs_cons (rfl : Ren0 41 [(.ssl (ints a) 0 a.length)]) obs_nil)) ?_
      refine T_seq ?_
      refine T_r mixed [] [ps 0 (.ssl (ints a) 0 a.length), ps 1 (.ssl (ints b) 0 b.length), ps 8 (iv 0), ps 24 (.osl 0 0 2), ps 25 (iv 2), ps 26 (nv q), ps 33 (bv false), pb 0 22 [(.ssl (ints a) 0 a.length), (.ssl (ints b) 0 b.length)]] (obs_nil) ?_
      refine T_else (b := false) rfl rfl ?_
      refine T_skip <| T_blk ?_
      refine T_r mixed [] [ps 0 (.ssl (ints a) 0 a.length), ps 1 (.ssl (ints b) 0 b.length), ps 24 (.osl 0 0 2), ps 25 (iv 2), ps 26 (iv (((q : Nat) : Int) + 1)), pb 0 22 [(.ssl (ints a) 0 a.length), (.ssl (ints b) 0 b.length)]] (obs_cons (by simp only [InK]; omega : InK .i64 (((q : Nat) : Int) + 1)) obs_nil) ?_
      exact T_back ⟨q + 1, by omega⟩ (Wk.ren2 [ps 0 (.ssl (ints a) 0 a.length), ps 1 (.ssl (ints b) 0 b.length), ps 24 (.osl 0 0 2), ps 25 (iv 2), ps 26 (nv (q + 1)), pb 0 22 [(.ssl (ints a) 0 a.length), (.ssl (ints b) 0 b.length)]] 0 hc0 [0] rfl rfl (by kernel_rfl) (by kernel_rfl)) (show 2 - (q + 1) < 2 - q from by omega)
    by_cases h3 : q = 1
    · refine T_r mixed [(0, .nat 1)] [ps 0 (.ssl (ints a) 0 a.length), ps 1 (.ssl (ints b) 0 b.length), ps 7 (.ssl (ints b) 0 b.length), ps 24 (.osl 0 0 2), ps 25 (iv 2), ps 26 (nv q), pb 0 22 [(.ssl (ints a) 0 a.length), (.ssl (ints b) 0 b.length)]] (obs_cons (by omega : (0 : Int) ≤ ((q : Nat) : Int) ∧ ((q : Nat) : Int) < ((2 : Nat) : Int)) (obs_cons (by omega : 0 + (((q : Nat) : Int) : Int).toNat * 1 = 1) obs_nil)) ?_
      refine T_seq ?_
      refine T_r mixed [(1, .call [] [(.ssl (ints b) 0 b.length)] [] (iv 0) [])] [ps 0 (.ssl (ints a) 0 a.length), ps 1 (.ssl (ints b) 0 b.length), ps 8 (iv 0), ps 24 (.osl 0 0 2), ps 25 (iv 2), ps 26 (nv q), pb 0 22 [(.ssl (ints a) 0 a.length), (.ssl (ints b) 0 b.length)]] (obs_cons (by have h0 := whole_pc b (by omega); rw [hb0] at h0; exact h0 : PC Try.prog 12 [(.ssl (ints b) 0 b.length)] [] (iv 0) []) (obs_cons (rfl : Ren0 41 [(.ssl (ints b) 0 b.length)]) obs_nil)) ?_
      refine T_seq ?_
      refine T_r mixed [] [ps 0 (.ssl (ints a) 0 a.length), ps 1 (.ssl (ints b) 0 b.length), ps 8 (iv 0), ps 24 (.osl 0 0 2), ps 25 (iv 2), ps 26 (nv q), ps 33 (bv false), pb 0 22 [(.ssl (ints a) 0 a.length), (.ssl (ints b) 0 b.length)]] (obs_nil) ?_
      refine T_else (b := false) rfl rfl ?_
      refine T_skip <| T_blk ?_
      refine T_r mixed [] [ps 0 (.ssl (ints a) 0 a.length), ps 1 (.ssl (ints b) 0 b.length), ps 24 (.osl 0 0 2), ps 25 (iv 2), ps 26 (iv (((q : Nat) : Int) + 1)), pb 0 22 [(.ssl (ints a) 0 a.length), (.ssl (ints b) 0 b.length)]] (obs_cons (by simp only [InK]; omega : InK .i64 (((q : Nat) : Int) + 1)) obs_nil) ?_
      exact T_back ⟨q + 1, by omega⟩ (Wk.ren2 [ps 0 (.ssl (ints a) 0 a.length), ps 1 (.ssl (ints b) 0 b.length), ps 24 (.osl 0 0 2), ps 25 (iv 2), ps 26 (nv (q + 1)), pb 0 22 [(.ssl (ints a) 0 a.length), (.ssl (ints b) 0 b.length)]] 0 hc0 [0] rfl rfl (by kernel_rfl) (by kernel_rfl)) (show 2 - (q + 1) < 2 - q from by omega)
    · exfalso; omega
  refine T_el (dtn h1) ?_
  refine T_break rfl rfl ?_
  refine T_seq ?_
  refine T_r mixed [] [ps 0 (.ssl (ints a) 0 a.length), ps 1 (.ssl (ints b) 0 b.length), ps 9 (iv ((((a.length : Nat) : Int) + ((b.length : Nat) : Int)) - 1))] (obs_cons (by simp only [InK]; omega : InK .i64 (((a.length : Nat) : Int) + ((b.length : Nat) : Int))) (obs_cons (by simp only [InK]; omega : InK .i64 ((((a.length : Nat) : Int) + ((b.length : Nat) : Int)) - 1)) obs_nil)) ?_
  refine T_wk (Wk.eq (show _ = [ps 0 (.ssl (ints a) 0 a.length), ps 1 (.ssl (ints b) 0 b.length), ps 9 (nv c.length)] from by rw [show ((a.length : Nat) : Int) + ((b.length : Nat) : Int) - 1 = ((c.length : Nat) : Int) from by omega])) ?_
  refine T_seq ?_
  refine T_wk (Wk.eq (show _ = [ps 0 (.ssl (ints a) 0 a.length), ps 1 (.ssl (ints b) 0 b.length), ps 9 (nv (a.length + b.length - 1))] from by rw [hcl])) ?_
  refine T_r mixed [(3, .call [] [(.av (.int .u64 ((a.length + b.length - 1 - 1 : Nat) : Int)))] [] (nv L) [])] [ps 0 (.ssl (ints a) 0 a.length), ps 1 (.ssl (ints b) 0 b.length), ps 9 (nv (a.length + b.length - 1)), ps 10 (iv (1 * 2 ^ (((L : Nat) : Int) : Int).toNat))] (obs_cons (by simp only [InK]; omega : InK .i64 ((((a.length + b.length - 1) : Nat) : Int) - 1)) (obs_cons (by simp only [InK]; omega : InK .u64 ((((a.length + b.length - 1) : Nat) : Int) - 1)) (obs_cons (by have h := len_pc (a.length + b.length - 1 - 1) (by omega); rw [show lenN (a.length + b.length - 1 - 1) = L from hLg] at h; exact h : PC Try.prog 13 [(.av (.int .u64 ((a.length + b.length - 1 - 1 : Nat) : Int)))] [] (nv L) []) (obs_cons (by rw [nat_sub1 (n := a.length + b.length - 1) (by omega)]; rfl : [(.av (.int .u64 ((((a.length + b.length - 1) : Nat) : Int) - 1)))] = renL (sigi [] 89) [(.av (.int .u64 ((a.length + b.length - 1 - 1 : Nat) : Int)))]) (obs_cons (by simp only [IntKind.bits]; omega : (0 : Int) ≤ ((L : Nat) : Int) ∧ ((L : Nat) : Int) ≤ ((IntKind.bits .i64 : Nat) : Int)) (obs_cons (p2_in (l := L) (by omega) : InK .i64 (1 * 2 ^ (((L : Nat) : Int) : Int).toNat)) obs_nil)))))) ?_
  refine T_wk (Wk.eq (show _ = [ps 0 (.ssl (ints a) 0 a.length), ps 1 (.ssl (ints b) 0 b.length), ps 9 (nv (a.length + b.length - 1)), ps 10 (nv (2 ^ L))] from by simp only [p2i])) ?_
  refine T_seq ?_
  refine T_r mixed [(1, .call [] [(nv (2 ^ L))] [] (.tup [(.opt 0 0), (iv 0)]) [some (63, [(nv L), (.av (.int .u32 0)), (.av (.int .i32 0)), (.av (.int .u32 0)), (.av (.slice none 0 0))])])] [ps 0 (.ssl (ints a) 0 a.length), ps 1 (.ssl (ints b) 0 b.length), ps 9 (nv (a.length + b.length - 1)), ps 10 (nv (2 ^ L)), ps 11 (.opt 121 0), pb 121 63 [(nv L), (.av (.int .u32 0)), (.av (.int .i32 0)), (.av (.int .u32 0)), (.av (.slice none 0 0))]] (obs_cons (new_pc L (by omega)) (obs_cons (rfl : Ren0 121 [(nv (2 ^ L))]) obs_nil)) ?_
  refine T_seq ?_
  refine T_r mixed [(1, .cells (cxs (bothD a b (2 ^ L) 0)))] [ps 0 (.ssl (ints a) 0 a.length), ps 1 (.ssl (ints b) 0 b.length), ps 9 (nv (a.length + b.length - 1)), ps 11 (.opt 121 0), ps 13 (.osl 177 0 (2 ^ L)), pb 121 63 [(nv L), (.av (.int .u32 0)), (.av (.int .i32 0)), (.av (.int .u32 0)), (.av (.slice none 0 0))], pb 177 31 (cxs (bothD a b (2 ^ L) 0))] (obs_cons (by omega : (0 : Int) ≤ ((((2 ^ L) : Nat) : Int) : Int) ∧ ((((2 ^ L) : Nat) : Int) : Int) ≤ ((((2 ^ L) : Nat) : Int) : Int) ∧ ((((2 ^ L) : Nat) : Int) : Int) ≤ 140737488355328 ∧ ((16 : Nat) : Int) * ((((2 ^ L) : Nat) : Int) : Int) ≤ 140737488355328) (obs_cons (by rw [Int.toNat_natCast, zeros_cxs, bothD_zero a b] : zeros [(.av (.complex .f64 0 0))] (((((2 ^ L) : Nat) : Int) : Int) : Int).toNat = (cxs (bothD a b (2 ^ L) 0))) obs_nil)) ?_
  refine T_seq <| T_seq ?_
  refine T_r mixed [] [ps 0 (.ssl (ints a) 0 a.length), ps 1 (.ssl (ints b) 0 b.length), ps 9 (nv (a.length + b.length - 1)), ps 11 (.opt 121 0), ps 13 (.osl 177 0 (2 ^ L)), ps 55 (nv (2 ^ L)), ps 56 (iv 0), pb 121 63 [(nv L), (.av (.int .u32 0)), (.av (.int .i32 0)), (.av (.int .u32 0)), (.av (.slice none 0 0))], pb 177 31 (cxs (bothD a b (2 ^ L) 0))] (obs_nil) ?_
  refine T_block ?_
  refine T_loop (α := {x : Nat // x ≤ 2 ^ L}) (fun x => [ps 0 (.ssl (ints a) 0 a.length), ps 1 (.ssl (ints b) 0 b.length), ps 9 (nv (a.length + b.length - 1)), ps 11 (.opt 0 0), ps 13 (.osl 1 0 (2 ^ L)), ps 55 (nv (2 ^ L)), ps 56 (nv x.1), pb 0 63 [(nv L), (.av (.int .u32 0)), (.av (.int .i32 0)), (.av (.int .u32 0)), (.av (.slice none 0 0))], pb 1 31 (cxs (bothD a b (2 ^ L) x.1))]) (fun x => 2 ^ L - x.1) 2 ⟨0, Nat.zero_le _⟩ (Wk.ren3 [ps 0 (.ssl (ints a) 0 a.length), ps 1 (.ssl (ints b) 0 b.length), ps 9 (nv (a.length + b.length - 1)), ps 11 (.opt 0 0), ps 13 (.osl 1 0 (2 ^ L)), ps 55 (nv (2 ^ L)), ps 56 (nv 0), pb 0 63 [(nv L), (.av (.int .u32 0)), (.av (.int .i32 0)), (.av (.int .u32 0)), (.av (.slice none 0 0))], pb 1 31 (cxs (bothD a b (2 ^ L) 0))] 0 hc0 [121, 177] [(kb 1, (cxs (bothD a b (2 ^ L) 0)))] (obs_cons (cxs_shd _) (obs_nil)) (by kernel_rfl) rfl rfl (by kernel_rfl) (by kernel_rfl)) ?_
  rintro ⟨i, hi⟩
  refine T_seq ?_
  refine T_r mixed [] [ps 0 (.ssl (ints a) 0 a.length), ps 1 (.ssl (ints b) 0 b.length), ps 9 (nv (a.length + b.length - 1)), ps 11 (.opt 0 0), ps 13 (.osl 1 0 (2 ^ L)), ps 55 (nv (2 ^ L)), ps 56 (nv i), ps 57 (bv (decide (((i : Nat) : Int) < (((2 ^ L) : Nat) : Int)))), pb 0 63 [(nv L), (.av (.int .u32 0)), (.av (.int .i32 0)), (.av (.int .u32 0)), (.av (.slice none 0 0))], pb 1 31 (cxs (bothD a b (2 ^ L) i))] (obs_nil) ?_
  refine T_seq ?_
  by_cases h4 : ((i : Nat) : Int) < (((2 ^ L) : Nat) : Int)
  · refine T_th (dty h4) ?_
    refine T_skip <| T_seq <| T_block <| T_seq ?_
    refine T_r mixed [] [ps 0 (.ssl (ints a) 0 a.length), ps 1 (.ssl (ints b) 0 b.length), ps 9 (nv (a.length + b.length - 1)), ps 11 (.opt 0 0), ps 13 (.osl 1 0 (2 ^ L)), ps 14 (nv i), ps 55 (nv (2 ^ L)), ps 56 (nv i), pb 0 63 [(nv L), (.av (.int .u32 0)), (.av (.int .i32 0)), (.av (.int .u32 0)), (.av (.slice none 0 0))], pb 1 31 (cxs (bothD a b (2 ^ L) i))] (obs_nil) ?_
    refine T_seq ?_
    refine T_r mixed [] [ps 0 (.ssl (ints a) 0 a.length), ps 1 (.ssl (ints b) 0 b.length), ps 9 (nv (a.length + b.length - 1)), ps 11 (.opt 0 0), ps 13 (.osl 1 0 (2 ^ L)), ps 14 (nv i), ps 15 (flv 0), ps 16 (flv 0), ps 55 (nv (2 ^ L)), ps 56 (nv i), pb 0 63 [(nv L), (.av (.int .u32 0)), (.av (.int .i32 0)), (.av (.int .u32 0)), (.av (.slice none 0 0))], pb 1 31 (cxs (bothD a b (2 ^ L) i))] (obs_nil) ?_
    refine T_seq <| T_seq ?_
    refine T_r mixed [] [ps 0 (.ssl (ints a) 0 a.length), ps 1 (.ssl (ints b) 0 b.length), ps 9 (nv (a.length + b.length - 1)), ps 11 (.opt 0 0), ps 13 (.osl 1 0 (2 ^ L)), ps 14 (nv i), ps 15 (flv 0), ps 16 (flv 0), ps 55 (nv (2 ^ L)), ps 56 (nv i), ps 62 (bv (decide (((i : Nat) : Int) < ((a.length : Nat) : Int)))), pb 0 63 [(nv L), (.av (.int .u32 0)), (.av (.int .i32 0)), (.av (.int .u32 0)), (.av (.slice none 0 0))], pb 1 31 (cxs (bothD a b (2 ^ L) i))] (obs_nil) ?_
    by_cases h5 : ((i : Nat) : Int) < ((a.length : Nat) : Int)
    · refine T_th (dty h5) ?_
      refine T_r mixed [(2, .nat i), (3, .val (iv (a.getD i 0)))] [ps 0 (.ssl (ints a) 0 a.length), ps 1 (.ssl (ints b) 0 b.length), ps 9 (nv (a.length + b.length - 1)), ps 11 (.opt 0 0), ps 13 (.osl 1 0 (2 ^ L)), ps 14 (nv i), ps 15 (flv (FloatKind.f64.nearest (a.getD i 0))), ps 16 (flv 0), ps 55 (nv (2 ^ L)), ps 56 (nv i), pb 0 63 [(nv L), (.av (.int .u32 0)), (.av (.int .i32 0)), (.av (.int .u32 0)), (.av (.slice none 0 0))], pb 1 31 (cxs (bothD a b (2 ^ L) i))] (obs_cons (by omega : (0 : Int) ≤ ((i : Nat) : Int) ∧ ((i : Nat) : Int) < ((a.length : Nat) : Int)) (obs_cons (by omega : 0 + (((i : Nat) : Int) : Int).toNat * 1 = i) (obs_cons (ints_at (by omega) : i + 1 ≤ ((ints a)).length ∧ (((ints a)).drop i).take 1 = [(iv (a.getD i 0))]) obs_nil))) ?_
      refine T_seq <| T_seq ?_
      refine T_r mixed [] [ps 0 (.ssl (ints a) 0 a.length), ps 1 (.ssl (ints b) 0 b.length), ps 9 (nv (a.length + b.length - 1)), ps 11 (.opt 0 0), ps 13 (.osl 1 0 (2 ^ L)), ps 14 (nv i), ps 15 (flv (FloatKind.f64.nearest (a.getD i 0))), ps 16 (flv 0), ps 55 (nv (2 ^ L)), ps 56 (nv i), ps 71 (bv (decide (((i : Nat) : Int) < ((b.length : Nat) : Int)))), pb 0 63 [(nv L), (.av (.int .u32 0)), (.av (.int .i32 0)), (.av (.int .u32 0)), (.av (.slice none 0 0))], pb 1 31 (cxs (bothD a b (2 ^ L) i))] (obs_nil) ?_
      by_cases h6 : ((i : Nat) : Int) < ((b.length : Nat) : Int)
      · refine T_th (dty h6) ?_
        refine T_r mixed [(2, .nat i), (3, .val (iv (b.getD i 0)))] [ps 0 (.ssl (ints a) 0 a.length), ps 1 (.ssl (ints b) 0 b.length), ps 9 (nv (a.length + b.length - 1)), ps 11 (.opt 0 0), ps 13 (.osl 1 0 (2 ^ L)), ps 14 (nv i), ps 15 (flv (FloatKind.f64.nearest (a.getD i 0))), ps 16 (flv (FloatKind.f64.nearest (b.getD i 0))), ps 55 (nv (2 ^ L)), ps 56 (nv i), pb 0 63 [(nv L), (.av (.int .u32 0)), (.av (.int .i32 0)), (.av (.int .u32 0)), (.av (.slice none 0 0))], pb 1 31 (cxs (bothD a b (2 ^ L) i))] (obs_cons (by omega : (0 : Int) ≤ ((i : Nat) : Int) ∧ ((i : Nat) : Int) < ((b.length : Nat) : Int)) (obs_cons (by omega : 0 + (((i : Nat) : Int) : Int).toNat * 1 = i) (obs_cons (ints_at (by omega) : i + 1 ≤ ((ints b)).length ∧ (((ints b)).drop i).take 1 = [(iv (b.getD i 0))]) obs_nil))) ?_
        refine T_r mixed [(5, .nat i), (6, .cells (cxs (bothD a b (2 ^ L) (i + 1))))] [ps 0 (.ssl (ints a) 0 a.length), ps 1 (.ssl (ints b) 0 b.length), ps 9 (nv (a.length + b.length - 1)), ps 11 (.opt 0 0), ps 13 (.osl 1 0 (2 ^ L)), ps 55 (nv (2 ^ L)), ps 56 (nv i), pb 0 63 [(nv L), (.av (.int .u32 0)), (.av (.int .i32 0)), (.av (.int .u32 0)), (.av (.slice none 0 0))], pb 1 31 (cxs (bothD a b (2 ^ L) (i + 1)))] (obs_cons (by omega : (0 : Int) ≤ ((i : Nat) : Int) ∧ ((i : Nat) : Int) < (((2 ^ L) : Nat) : Int)) (obs_cons (by omega : 0 + (((i : Nat) : Int) : Int).toNat * 1 = i) (obs_cons (bothD_store (by omega) (by unfold fl0; rw [if_pos (by omega)]) (by unfold fl0; rw [if_pos (by omega)]) : i + 1 ≤ ((cxs (bothD a b (2 ^ L) i))).length ∧ splice (cxs (bothD a b (2 ^ L) i)) i [(.av (.complex .f64 (FloatKind.f64.nearest (a.getD i 0)) (FloatKind.f64.nearest (b.getD i 0))))] = (cxs (bothD a b (2 ^ L) (i + 1)))) obs_nil))) ?_
        refine T_blk ?_
        refine T_r mixed [] [ps 0 (.ssl (ints a) 0 a.length), ps 1 (.ssl (ints b) 0 b.length), ps 9 (nv (a.length + b.length - 1)), ps 11 (.opt 0 0), ps 13 (.osl 1 0 (2 ^ L)), ps 55 (nv (2 ^ L)), ps 56 (iv (((i : Nat) : Int) + 1)), pb 0 63 [(nv L), (.av (.int .u32 0)), (.av (.int .i32 0)), (.av (.int .u32 0)), (.av (.slice none 0 0))], pb 1 31 (cxs (bothD a b (2 ^ L) (i + 1)))] (obs_cons (by simp only [InK]; omega : InK .i64 (((i : Nat) : Int) + 1)) obs_nil) ?_
        exact T_back ⟨i + 1, by omega⟩ (Wk.ren3 [ps 0 (.ssl (ints a) 0 a.length), ps 1 (.ssl (ints b) 0 b.length), ps 9 (nv (a.length + b.length - 1)), ps 11 (.opt 0 0), ps 13 (.osl 1 0 (2 ^ L)), ps 55 (nv (2 ^ L)), ps 56 (nv (i + 1)), pb 0 63 [(nv L), (.av (.int .u32 0)), (.av (.int .i32 0)), (.av (.int .u32 0)), (.av (.slice none 0 0))], pb 1 31 (cxs (bothD a b (2 ^ L) (i + 1)))] 0 hc0 [0, 1] [(kb 1, (cxs (bothD a b (2 ^ L) (i + 1))))] (obs_cons (cxs_shd _) (obs_nil)) (by kernel_rfl) rfl rfl (by kernel_rfl) (by kernel_rfl)) (show 2 ^ L - (i + 1) < 2 ^ L - i from by omega)
      refine T_el (dtn h6) ?_
      refine T_skip ?_
      refine T_r mixed [(5, .nat i), (6, .cells (cxs (bothD a b (2 ^ L) (i + 1))))] [ps 0 (.ssl (ints a) 0 a.length), ps 1 (.ssl (ints b) 0 b.length), ps 9 (nv (a.length + b.length - 1)), ps 11 (.opt 0 0), ps 13 (.osl 1 0 (2 ^ L)), ps 55 (nv (2 ^ L)), ps 56 (nv i), pb 0 63 [(nv L), (.av (.int .u32 0)), (.av (.int .i32 0)), (.av (.int .u32 0)), (.av (.slice none 0 0))], pb 1 31 (cxs (bothD a b (2 ^ L) (i + 1)))] (obs_cons (by omega : (0 : Int) ≤ ((i : Nat) : Int) ∧ ((i : Nat) : Int) < (((2 ^ L) : Nat) : Int)) (obs_cons (by omega : 0 + (((i : Nat) : Int) : Int).toNat * 1 = i) (obs_cons (bothD_store (by omega) (by unfold fl0; rw [if_pos (by omega)]) (by unfold fl0; rw [if_neg (by omega)]) : i + 1 ≤ ((cxs (bothD a b (2 ^ L) i))).length ∧ splice (cxs (bothD a b (2 ^ L) i)) i [(.av (.complex .f64 (FloatKind.f64.nearest (a.getD i 0)) 0))] = (cxs (bothD a b (2 ^ L) (i + 1)))) obs_nil))) ?_
      refine T_blk ?_
      refine T_r mixed [] [ps 0 (.ssl (ints a) 0 a.length), ps 1 (.ssl (ints b) 0 b.length), ps 9 (nv (a.length + b.length - 1)), ps 11 (.opt 0 0), ps 13 (.osl 1 0 (2 ^ L)), ps 55 (nv (2 ^ L)), ps 56 (iv (((i : Nat) : Int) + 1)), pb 0 63 [(nv L), (.av (.int .u32 0)), (.av (.int .i32 0)), (.av (.int .u32 0)), (.av (.slice none 0 0))], pb 1 31 (cxs (bothD a b (2 ^ L) (i + 1)))] (obs_cons (by simp only [InK]; omega : InK .i64 (((i : Nat) : Int) + 1)) obs_nil) ?_
      exact T_back ⟨i + 1, by omega⟩ (Wk.ren3 [ps 0 (.ssl (ints a) 0 a.length), ps 1 (.ssl (ints b) 0 b.length), ps 9 (nv (a.length + b.length - 1)), ps 11 (.opt 0 0), ps 13 (.osl 1 0 (2 ^ L)), ps 55 (nv (2 ^ L)), ps 56 (nv (i + 1)), pb 0 63 [(nv L), (.av (.int .u32 0)), (.av (.int .i32 0)), (.av (.int .u32 0)), (.av (.slice none 0 0))], pb 1 31 (cxs (bothD a b (2 ^ L) (i + 1)))] 0 hc0 [0, 1] [(kb 1, (cxs (bothD a b (2 ^ L) (i + 1))))] (obs_cons (cxs_shd _) (obs_nil)) (by kernel_rfl) rfl rfl (by kernel_rfl) (by kernel_rfl)) (show 2 ^ L - (i + 1) < 2 ^ L - i from by omega)
    refine T_el (dtn h5) ?_
    refine T_skip <| T_seq <| T_seq ?_
    refine T_r mixed [] [ps 0 (.ssl (ints a) 0 a.length), ps 1 (.ssl (ints b) 0 b.length), ps 9 (nv (a.length + b.length - 1)), ps 11 (.opt 0 0), ps 13 (.osl 1 0 (2 ^ L)), ps 14 (nv i), ps 15 (flv 0), ps 16 (flv 0), ps 55 (nv (2 ^ L)), ps 56 (nv i), ps 71 (bv (decide (((i : Nat) : Int) < ((b.length : Nat) : Int)))), pb 0 63 [(nv L), (.av (.int .u32 0)), (.av (.int .i32 0)), (.av (.int .u32 0)), (.av (.slice none 0 0))], pb 1 31 (cxs (bothD a b (2 ^ L) i))] (obs_nil) ?_
    by_cases h7 : ((i : Nat) : Int) < ((b.length : Nat) : Int)
    · refine T_th (dty h7) ?_
      refine T_r mixed [(2, .nat i), (3, .val (iv (b.getD i 0)))] [ps 0 (.ssl (ints a) 0 a.length), ps 1 (.ssl (ints b) 0 b.length), ps 9 (nv (a.length + b.length - 1)), ps 11 (.opt 0 0), ps 13 (.osl 1 0 (2 ^ L)), ps 14 (nv i), ps 15 (flv 0), ps 16 (flv (FloatKind.f64.nearest (b.getD i 0))), ps 55 (nv (2 ^ L)), ps 56 (nv i), pb 0 63 [(nv L), (.av (.int .u32 0)), (.av (.int .i32 0)), (.av (.int .u32 0)), (.av (.slice none 0 0))], pb 1 31 (cxs (bothD a b (2 ^ L) i))] (obs_cons (by omega : (0 : Int) ≤ ((i : Nat) : Int) ∧ ((i : Nat) : Int) < ((b.length : Nat) : Int)) (obs_cons (by omega : 0 + (((i : Nat) : Int) : Int).toNat * 1 = i) (obs_cons (ints_at (by omega) : i + 1 ≤ ((ints b)).length ∧ (((ints b)).drop i).take 1 = [(iv (b.getD i 0))]) obs_nil))) ?_
      refine T_r mixed [(5, .nat i), (6, .cells (cxs (bothD a b (2 ^ L) (i + 1))))] [ps 0 (.ssl (ints a) 0 a.length), ps 1 (.ssl (ints b) 0 b.length), ps 9 (nv (a.length + b.length - 1)), ps 11 (.opt 0 0), ps 13 (.osl 1 0 (2 ^ L)), ps 55 (nv (2 ^ L)), ps 56 (nv i), pb 0 63 [(nv L), (.av (.int .u32 0)), (.av (.int .i32 0)), (.av (.int .u32 0)), (.av (.slice none 0 0))], pb 1 31 (cxs (bothD a b (2 ^ L) (i + 1)))] (obs_cons (by omega : (0 : Int) ≤ ((i : Nat) : Int) ∧ ((i : Nat) : Int) < (((2 ^ L) : Nat) : Int)) (obs_cons (by omega : 0 + (((i : Nat) : Int) : Int).toNat * 1 = i) (obs_cons (bothD_store (by omega) (by unfold fl0; rw [if_neg (by omega)]) (by unfold fl0; rw [if_pos (by omega)]) : i + 1 ≤ ((cxs (bothD a b (2 ^ L) i))).length ∧ splice (cxs (bothD a b (2 ^ L) i)) i [(.av (.complex .f64 0 (FloatKind.f64.nearest (b.getD i 0))))] = (cxs (bothD a b (2 ^ L) (i + 1)))) obs_nil))) ?_
      refine T_blk ?_
      refine T_r mixed [] [ps 0 (.ssl (ints a) 0 a.length), ps 1 (.ssl (ints b) 0 b.length), ps 9 (nv (a.length + b.length - 1)), ps 11 (.opt 0 0), ps 13 (.osl 1 0 (2 ^ L)), ps 55 (nv (2 ^ L)), ps 56 (iv (((i : Nat) : Int) + 1)), pb 0 63 [(nv L), (.av (.int .u32 0)), (.av (.int .i32 0)), (.av (.int .u32 0)), (.av (.slice none 0 0))], pb 1 31 (cxs (bothD a b (2 ^ L) (i + 1)))] (obs_cons (by simp only [InK]; omega : InK .i64 (((i : Nat) : Int) + 1)) obs_nil) ?_
      exact T_back ⟨i + 1, by omega⟩ (Wk.ren3 [ps 0 (.ssl (ints a) 0 a.length), ps 1 (.ssl (ints b) 0 b.length), ps 9 (nv (a.length + b.length - 1)), ps 11 (.opt 0 0), ps 13 (.osl 1 0 (2 ^ L)), ps 55 (nv (2 ^ L)), ps 56 (nv (i + 1)), pb 0 63 [(nv L), (.av (.int .u32 0)), (.av (.int .i32 0)), (.av (.int .u32 0)), (.av (.slice none 0 0))], pb 1 31 (cxs (bothD a b (2 ^ L) (i + 1)))] 0 hc0 [0, 1] [(kb 1, (cxs (bothD a b (2 ^ L) (i + 1))))] (obs_cons (cxs_shd _) (obs_nil)) (by kernel_rfl) rfl rfl (by kernel_rfl) (by kernel_rfl)) (show 2 ^ L - (i + 1) < 2 ^ L - i from by omega)
    refine T_el (dtn h7) ?_
    refine T_skip ?_
    refine T_r mixed [(5, .nat i), (6, .cells (cxs (bothD a b (2 ^ L) (i + 1))))] [ps 0 (.ssl (ints a) 0 a.length), ps 1 (.ssl (ints b) 0 b.length), ps 9 (nv (a.length + b.length - 1)), ps 11 (.opt 0 0), ps 13 (.osl 1 0 (2 ^ L)), ps 55 (nv (2 ^ L)), ps 56 (nv i), pb 0 63 [(nv L), (.av (.int .u32 0)), (.av (.int .i32 0)), (.av (.int .u32 0)), (.av (.slice none 0 0))], pb 1 31 (cxs (bothD a b (2 ^ L) (i + 1)))] (obs_cons (by omega : (0 : Int) ≤ ((i : Nat) : Int) ∧ ((i : Nat) : Int) < (((2 ^ L) : Nat) : Int)) (obs_cons (by omega : 0 + (((i : Nat) : Int) : Int).toNat * 1 = i) (obs_cons (bothD_store (by omega) (by unfold fl0; rw [if_neg (by omega)]) (by unfold fl0; rw [if_neg (by omega)]) : i + 1 ≤ ((cxs (bothD a b (2 ^ L) i))).length ∧ splice (cxs (bothD a b (2 ^ L) i)) i [(.av (.complex .f64 0 0))] = (cxs (bothD a b (2 ^ L) (i + 1)))) obs_nil))) ?_
    refine T_blk ?_
    refine T_r mixed [] [ps 0 (.ssl (ints a) 0 a.length), ps 1 (.ssl (ints b) 0 b.length), ps 9 (nv (a.length + b.length - 1)), ps 11 (.opt 0 0), ps 13 (.osl 1 0 (2 ^ L)), ps 55 (nv (2 ^ L)), ps 56 (iv (((i : Nat) : Int) + 1)), pb 0 63 [(nv L), (.av (.int .u32 0)), (.av (.int .i32 0)), (.av (.int .u32 0)), (.av (.slice none 0 0))], pb 1 31 (cxs (bothD a b (2 ^ L) (i + 1)))] (obs_cons (by simp only [InK]; omega : InK .i64 (((i : Nat) : Int) + 1)) obs_nil) ?_
    exact T_back ⟨i + 1, by omega⟩ (Wk.ren3 [ps 0 (.ssl (ints a) 0 a.length), ps 1 (.ssl (ints b) 0 b.length), ps 9 (nv (a.length + b.length - 1)), ps 11 (.opt 0 0), ps 13 (.osl 1 0 (2 ^ L)), ps 55 (nv (2 ^ L)), ps 56 (nv (i + 1)), pb 0 63 [(nv L), (.av (.int .u32 0)), (.av (.int .i32 0)), (.av (.int .u32 0)), (.av (.slice none 0 0))], pb 1 31 (cxs (bothD a b (2 ^ L) (i + 1)))] 0 hc0 [0, 1] [(kb 1, (cxs (bothD a b (2 ^ L) (i + 1))))] (obs_cons (cxs_shd _) (obs_nil)) (by kernel_rfl) rfl rfl (by kernel_rfl) (by kernel_rfl)) (show 2 ^ L - (i + 1) < 2 ^ L - i from by omega)
  refine T_el (dtn h4) ?_
  refine T_break rfl rfl ?_
  refine T_seq ?_
  obtain rfl : i = 2 ^ L := by omega
  refine T_wk (Wk.frz (l' := [ps 0 (.ssl (ints a) 0 a.length), ps 1 (.ssl (ints b) 0 b.length), ps 9 (nv (a.length + b.length - 1)), ps 11 (.opt 0 0), ps 13 (.ssl (cxs (bothD a b (2 ^ L) (2 ^ L))) 0 (2 ^ L)), ps 55 (nv (2 ^ L)), ps 56 (nv (2 ^ L)), ps 57 (bv (decide ((((2 ^ L) : Nat) : Int) < (((2 ^ L) : Nat) : Int)))), pb 0 63 [(nv L), (.av (.int .u32 0)), (.av (.int .i32 0)), (.av (.int .u32 0)), (.av (.slice none 0 0))], (kb 1, none)]) 1 (T := 31) (cs := (cxs (bothD a b (2 ^ L) (2 ^ L)))) (by kernel_rfl) (cxs_shd _) (by kernel_rfl)) ?_
  refine T_wk (Wk.less (l' := [ps 0 (.ssl (ints a) 0 a.length), ps 1 (.ssl (ints b) 0 b.length), ps 9 (nv (a.length + b.length - 1)), ps 11 (.opt 0 0), ps 13 (.ssl (cxs (bothD a b (2 ^ L) (2 ^ L))) 0 (2 ^ L)), ps 55 (nv (2 ^ L)), ps 56 (nv (2 ^ L)), ps 57 (bv (decide ((((2 ^ L) : Nat) : Int) < (((2 ^ L) : Nat) : Int)))), pb 0 63 [(nv L), (.av (.int .u32 0)), (.av (.int .i32 0)), (.av (.int .u32 0)), (.av (.slice none 0 0))]]) 10 (by kernel_rfl) (by kernel_rfl)) ?_
  refine T_r mixed [(2, .call [0] [(.opt 0 0), (.ssl (cxs (bothD a b (2 ^ L) (2 ^ L))) 0 ((bothD a b (2 ^ L) (2 ^ L)).length))] [some (63, [(nv L), (.av (.int .u32 0)), (.av (.int .i32 0)), (.av (.int .u32 0)), (.av (.slice none 0 0))])] (.tup [(.osl 1 0 (2 ^ L)), (iv 0)]) [some (63, [(nv L), (.av (.int .u32 1)), (.av (.int .i32 0)), (.av (.int .u32 0)), (.ssl (rws (waves L)) 0 L)]), some (31, (cxs f1))])] [ps 9 (nv (a.length + b.length - 1)), ps 11 (.opt 0 0), ps 17 (.osl 26 0 (2 ^ L)), pb 0 63 [(nv L), (.av (.int .u32 1)), (.av (.int .i32 0)), (.av (.int .u32 0)), (.ssl (rws (waves L)) 0 L)], pb 26 31 (renL (sigo [0] 26) (cxs f1))] (obs_cons (apart_pc L (by omega) _ (bothD_len _ _ _ _) hf1 : PC Try.prog 15 [(.opt 0 0), (.ssl (cxs (bothD a b (2 ^ L) (2 ^ L))) 0 ((bothD a b (2 ^ L) (2 ^ L)).length))] [some (63, [(nv L), (.av (.int .u32 0)), (.av (.int .i32 0)), (.av (.int .u32 0)), (.av (.slice none 0 0))])] (.tup [(.osl 1 0 (2 ^ L)), (iv 0)]) [some (63, [(nv L), (.av (.int .u32 1)), (.av (.int .i32 0)), (.av (.int .u32 0)), (.ssl (rws (waves L)) 0 L)]), some (31, (cxs f1))]) (obs_cons (by rw [bothD_len]; rfl : [(.opt 0 0), (.ssl (cxs (bothD a b (2 ^ L) (2 ^ L))) 0 (2 ^ L))] = renL (sigi [0] 26) [(.opt 0 0), (.ssl (cxs (bothD a b (2 ^ L) (2 ^ L))) 0 ((bothD a b (2 ^ L) (2 ^ L)).length))]) (obs_cons (rfl : [(nv L), (.av (.int .u32 0)), (.av (.int .i32 0)), (.av (.int .u32 0)), (.av (.slice none 0 0))] = renL (sigi [0] 26) [(nv L), (.av (.int .u32 0)), (.av (.int .i32 0)), (.av (.int .u32 0)), (.av (.slice none 0 0))]) obs_nil))) ?_
  refine T_wk (Wk.eq (show _ = [ps 9 (nv (a.length + b.length - 1)), ps 11 (.opt 0 0), ps 17 (.osl 26 0 (2 ^ L)), pb 0 63 [(nv L), (.av (.int .u32 1)), (.av (.int .i32 0)), (.av (.int .u32 0)), (.ssl (rws (waves L)) 0 L)], pb 26 31 (cxs f1)] from by simp only [renL_shd (cxs_shd _)])) ?_
  refine T_seq <| T_seq ?_
  refine T_r mixed [] [ps 9 (nv (a.length + b.length - 1)), ps 11 (.opt 0 0), ps 17 (.osl 26 0 (2 ^ L)), ps 91 (nv (2 ^ L)), ps 92 (iv 0), pb 0 63 [(nv L), (.av (.int .u32 1)), (.av (.int .i32 0)), (.av (.int .u32 0)), (.ssl (rws (waves L)) 0 L)], pb 26 31 (cxs f1)] (obs_nil) ?_
  refine T_block ?_
  refine T_loop (α := {x : Nat × List FC // x.1 ≤ 2 ^ L ∧ x.2.length = 2 ^ L ∧ chO sqC (2 ^ L - x.1) x.1 x.2 = some f2}) (fun x => [ps 9 (nv (a.length + b.length - 1)), ps 11 (.opt 0 0), ps 17 (.osl 1 0 (2 ^ L)), ps 91 (nv (2 ^ L)), ps 92 (nv x.1.1), pb 0 63 [(nv L), (.av (.int .u32 1)), (.av (.int .i32 0)), (.av (.int .u32 0)), (.ssl (rws (waves L)) 0 L)], pb 1 31 (cxs x.1.2)]) (fun x => 2 ^ L - x.1.1) 2 ⟨(0, f1), ⟨Nat.zero_le _, apartO_len hf1, hf2⟩⟩ (Wk.ren3 [ps 9 (nv (a.length + b.length - 1)), ps 11 (.opt 0 0), ps 17 (.osl 1 0 (2 ^ L)), ps 91 (nv (2 ^ L)), ps 92 (nv 0), pb 0 63 [(nv L), (.av (.int .u32 1)), (.av (.int .i32 0)), (.av (.int .u32 0)), (.ssl (rws (waves L)) 0 L)], pb 1 31 (cxs f1)] 0 hc0 [0, 26] [(kb 1, (cxs f1))] (obs_cons (cxs_shd _) (obs_nil)) (by kernel_rfl) rfl rfl (by kernel_rfl) (by kernel_rfl)) ?_
  rintro ⟨⟨i, o⟩, ⟨hi, ho, hg⟩⟩
  dsimp only at hi ho hg
  refine T_seq ?_
  refine T_r mixed [] [ps 9 (nv (a.length + b.length - 1)), ps 11 (.opt 0 0), ps 17 (.osl 1 0 (2 ^ L)), ps 91 (nv (2 ^ L)), ps 92 (nv i), ps 93 (bv (decide (((i : Nat) : Int) < (((2 ^ L) : Nat) : Int)))), pb 0 63 [(nv L), (.av (.int .u32 1)), (.av (.int .i32 0)), (.av (.int .u32 0)), (.ssl (rws (waves L)) 0 L)], pb 1 31 (cxs o)] (obs_nil) ?_
  refine T_seq ?_
  by_cases h8 : ((i : Nat) : Int) < (((2 ^ L) : Nat) : Int)
  · refine T_th (dty h8) ?_
    refine T_skip <| T_seq <| T_block <| T_seq ?_
    refine T_r mixed [] [ps 9 (nv (a.length + b.length - 1)), ps 11 (.opt 0 0), ps 17 (.osl 1 0 (2 ^ L)), ps 19 (nv i), ps 91 (nv (2 ^ L)), ps 92 (nv i), pb 0 63 [(nv L), (.av (.int .u32 1)), (.av (.int .i32 0)), (.av (.int .u32 0)), (.ssl (rws (waves L)) 0 L)], pb 1 31 (cxs o)] (obs_nil) ?_
    obtain ⟨p, hq, hp⟩ := chO_step (by omega) hg
    refine T_rd mixed [(2, .nat i), (3, .val (.av (.complex .f64 ((o.getD i (0, 0)).1) ((o.getD i (0, 0)).2)))), (6, .nat i), (7, .val (.av (.complex .f64 ((o.getD i (0, 0)).1) ((o.getD i (0, 0)).2)))), (8, .nat2 p.1 p.2), (9, .nat i), (10, .cells (cxs (o.set i p)))] [[], [], [0, 1], [0, 1, 2], [], [], [4, 5], [4, 5, 6], [0, 1, 2, 3, 4, 5, 6, 7], [0, 1, 2, 3, 4, 5, 6, 7, 8], [0, 1, 2, 3, 4, 5, 6, 7, 8, 9]] [([190], [34]), ([192], [38]), ([194], [190, 192]), ([196], [3, 194]), ([198], [34]), ([200], [38]), ([202], [198, 200]), ([204], [3, 202]), ([206], [196, 204]), ([208], [190, 192]), ([3], [3, 206, 208])] [ps 9 (nv (a.length + b.length - 1)), ps 11 (.opt 0 0), ps 17 (.osl 1 0 (2 ^ L)), ps 91 (nv (2 ^ L)), ps 92 (nv i), pb 0 63 [(nv L), (.av (.int .u32 1)), (.av (.int .i32 0)), (.av (.int .u32 0)), (.ssl (rws (waves L)) 0 L)], pb 1 31 (cxs (o.set i p))] (obs_cons (by omega : (0 : Int) ≤ ((i : Nat) : Int) ∧ ((i : Nat) : Int) < (((2 ^ L) : Nat) : Int)) (obs_cons (by omega : 0 + (((i : Nat) : Int) : Int).toNat * 1 = i) (obs_cons (flat_at1 cxC (fun _ => rfl) (0, 0) o i (by omega) : i + 1 ≤ ((cxs o)).length ∧ (((cxs o)).drop i).take 1 = [(.av (.complex .f64 ((o.getD i (0, 0)).1) ((o.getD i (0, 0)).2)))]) (obs_cons (by omega : (0 : Int) ≤ ((i : Nat) : Int) ∧ ((i : Nat) : Int) < (((2 ^ L) : Nat) : Int)) (obs_cons (by omega : 0 + (((i : Nat) : Int) : Int).toNat * 1 = i) (obs_cons (flat_at1 cxC (fun _ => rfl) (0, 0) o i (by omega) : i + 1 ≤ ((cxs o)).length ∧ (((cxs o)).drop i).take 1 = [(.av (.complex .f64 ((o.getD i (0, 0)).1) ((o.getD i (0, 0)).2)))]) (obs_cons (hq : cMul ((o.getD i (0, 0)).1) ((o.getD i (0, 0)).2) ((o.getD i (0, 0)).1) ((o.getD i (0, 0)).2) = some (p.1, p.2)) (obs_cons (by omega : (0 : Int) ≤ ((i : Nat) : Int) ∧ ((i : Nat) : Int) < (((2 ^ L) : Nat) : Int)) (obs_cons (by omega : 0 + (((i : Nat) : Int) : Int).toNat * 1 = i) (obs_cons (set_at1 p ho (by omega) : i + 1 ≤ ((cxs o)).length ∧ splice (cxs o) i [(.av (.complex .f64 p.1 p.2))] = (cxs (o.set i p))) obs_nil)))))))))) ?_
    refine T_blk ?_
    refine T_r mixed [] [ps 9 (nv (a.length + b.length - 1)), ps 11 (.opt 0 0), ps 17 (.osl 1 0 (2 ^ L)), ps 91 (nv (2 ^ L)), ps 92 (iv (((i : Nat) : Int) + 1)), pb 0 63 [(nv L), (.av (.int .u32 1)), (.av (.int .i32 0)), (.av (.int .u32 0)), (.ssl (rws (waves L)) 0 L)], pb 1 31 (cxs (o.set i p))] (obs_cons (by simp only [InK]; omega : InK .i64 (((i : Nat) : Int) + 1)) obs_nil) ?_
    exact T_back ⟨(i + 1, o.set i p), ⟨by omega, by rw [List.length_set]; exact ho, hp⟩⟩ (Wk.ren3 [ps 9 (nv (a.length + b.length - 1)), ps 11 (.opt 0 0), ps 17 (.osl 1 0 (2 ^ L)), ps 91 (nv (2 ^ L)), ps 92 (nv (i + 1)), pb 0 63 [(nv L), (.av (.int .u32 1)), (.av (.int .i32 0)), (.av (.int .u32 0)), (.ssl (rws (waves L)) 0 L)], pb 1 31 (cxs (o.set i p))] 0 hc0 [0, 1] [(kb 1, (cxs (o.set i p)))] (obs_cons (cxs_shd _) (obs_nil)) (by kernel_rfl) rfl rfl (by kernel_rfl) (by kernel_rfl)) (show 2 ^ L - (i + 1) < 2 ^ L - i from by show 2 ^ L - (i + 1) < 2 ^ L - i; omega)
  refine T_el (dtn h8) ?_
  refine T_break rfl rfl ?_
  refine T_seq ?_
  obtain rfl := chO_end (by omega) hg
  refine T_wk (Wk.frz (l' := [ps 9 (nv (a.length + b.length - 1)), ps 11 (.opt 0 0), ps 17 (.ssl (cxs o) 0 (2 ^ L)), ps 91 (nv (2 ^ L)), ps 92 (nv i), ps 93 (bv (decide (((i : Nat) : Int) < (((2 ^ L) : Nat) : Int)))), pb 0 63 [(nv L), (.av (.int .u32 1)), (.av (.int .i32 0)), (.av (.int .u32 0)), (.ssl (rws (waves L)) 0 L)], (kb 1, none)]) 1 (T := 31) (cs := (cxs o)) (by kernel_rfl) (cxs_shd _) (by kernel_rfl)) ?_
  refine T_wk (Wk.less (l' := [ps 9 (nv (a.length + b.length - 1)), ps 11 (.opt 0 0), ps 17 (.ssl (cxs o) 0 (2 ^ L)), ps 91 (nv (2 ^ L)), ps 92 (nv i), ps 93 (bv (decide (((i : Nat) : Int) < (((2 ^ L) : Nat) : Int)))), pb 0 63 [(nv L), (.av (.int .u32 1)), (.av (.int .i32 0)), (.av (.int .u32 0)), (.ssl (rws (waves L)) 0 L)]]) 10 (by kernel_rfl) (by kernel_rfl)) ?_
  refine T_r mixed [(2, .call [0] [(.opt 0 0), (.ssl (cxs o) 0 o.length)] [some (63, [(nv L), (.av (.int .u32 1)), (.av (.int .i32 0)), (.av (.int .u32 0)), (.ssl (rws (waves L)) 0 L)])] (.tup [(.osl 1 0 (2 ^ L)), (iv 0)]) [some (63, [(nv L), (.av (.int .u32 1)), (.av (.int .i32 0)), (.av (.int .u32 0)), (.ssl (rws (waves L)) 0 L)]), some (31, (cxs f))])] [ps 9 (nv (a.length + b.length - 1)), ps 17 (.osl 26 0 (2 ^ L)), pb 26 31 (renL (sigo [0] 26) (cxs f))] (obs_cons (tog_pc L (by omega) o ho hf3) (obs_cons (by rw [ho]; rfl : [(.opt 0 0), (.ssl (cxs o) 0 (2 ^ L))] = renL (sigi [0] 26) [(.opt 0 0), (.ssl (cxs o) 0 o.length)]) (obs_cons (rfl : [(nv L), (.av (.int .u32 1)), (.av (.int .i32 0)), (.av (.int .u32 0)), (.ssl (rws (waves L)) 0 L)] = renL (sigi [0] 26) [(nv L), (.av (.int .u32 1)), (.av (.int .i32 0)), (.av (.int .u32 0)), (.ssl (rws (waves L)) 0 L)]) obs_nil))) ?_
  refine T_wk (Wk.eq (show _ = [ps 9 (nv (a.length + b.length - 1)), ps 17 (.osl 26 0 (2 ^ L)), pb 26 31 (cxs f)] from by simp only [renL_shd (cxs_shd _)])) ?_
  refine T_seq ?_
  refine T_wk (Wk.eq (show _ = [ps 9 (nv c.length), ps 17 (.osl 26 0 (2 ^ L)), pb 26 31 (cxs f)] from by rw [hcl])) ?_
  refine T_r mixed [(1, .cells (ints (outD c 0)))] [ps 17 (.osl 26 0 (2 ^ L)), ps 20 (.osl 74 0 c.length), pb 26 31 (cxs f), pb 74 3 (ints (outD c 0))] (obs_cons (by omega : (0 : Int) ≤ ((c.length : Nat) : Int) ∧ ((c.length : Nat) : Int) ≤ ((c.length : Nat) : Int) ∧ ((c.length : Nat) : Int) ≤ 140737488355328 ∧ ((8 : Nat) : Int) * ((c.length : Nat) : Int) ≤ 140737488355328) (obs_cons (by rw [Int.toNat_natCast, zeros_ints, outD_zero c] : zeros [(iv 0)] (((c.length : Nat) : Int) : Int).toNat = (ints (outD c 0))) obs_nil)) ?_
  refine T_seq <| T_seq ?_
  refine T_r mixed [] [ps 17 (.osl 26 0 (2 ^ L)), ps 20 (.osl 74 0 c.length), ps 115 (nv c.length), ps 116 (iv 0), pb 26 31 (cxs f), pb 74 3 (ints (outD c 0))] (obs_nil) ?_
  refine T_block ?_
  refine T_loop (α := {x : Nat // x ≤ c.length}) (fun x => [ps 17 (.osl 0 0 (2 ^ L)), ps 20 (.osl 1 0 c.length), ps 115 (nv c.length), ps 116 (nv x.1), pb 0 31 (cxs f), pb 1 3 (ints (outD c x.1))]) (fun x => c.length - x.1) 2 ⟨0, Nat.zero_le _⟩ (Wk.ren3 [ps 17 (.osl 0 0 (2 ^ L)), ps 20 (.osl 1 0 c.length), ps 115 (nv c.length), ps 116 (nv 0), pb 0 31 (cxs f), pb 1 3 (ints (outD c 0))] 0 hc0 [26, 74] [(kb 0, (cxs f)), (kb 1, (ints (outD c 0)))] (obs_cons (cxs_shd _) (obs_cons (ints_shd _) (obs_nil))) (by kernel_rfl) rfl rfl (by kernel_rfl) (by kernel_rfl)) ?_
  rintro ⟨i, hi⟩
  refine T_seq ?_
  refine T_r mixed [] [ps 17 (.osl 0 0 (2 ^ L)), ps 20 (.osl 1 0 c.length), ps 115 (nv c.length), ps 116 (nv i), ps 117 (bv (decide (((i : Nat) : Int) < ((c.length : Nat) : Int)))), pb 0 31 (cxs f), pb 1 3 (ints (outD c i))] (obs_nil) ?_
  refine T_seq ?_
  by_cases h9 : ((i : Nat) : Int) < ((c.length : Nat) : Int)
  · refine T_th (dty h9) ?_
    refine T_skip <| T_seq <| T_block <| T_seq ?_
    refine T_r mixed [] [ps 17 (.osl 0 0 (2 ^ L)), ps 20 (.osl 1 0 c.length), ps 21 (nv i), ps 115 (nv c.length), ps 116 (nv i), pb 0 31 (cxs f), pb 1 3 (ints (outD c i))] (obs_nil) ?_
    obtain ⟨t, ht1, ht2, ht3⟩ := hout i (by omega)
    refine T_r mixed [(4, .nat i), (5, .val (.av (.complex .f64 ((f.getD i (0, 0)).1) ((f.getD i (0, 0)).2)))), (7, .nat t), (8, .val (.av (.float .f64 (rte t)))), (9, .val (.av (.int .i64 (c.getD i 0)))), (10, .nat i), (11, .cells (ints (outD c (i + 1))))] [ps 17 (.osl 0 0 (2 ^ L)), ps 20 (.osl 1 0 c.length), ps 115 (nv c.length), ps 116 (nv i), pb 0 31 (cxs f), pb 1 3 (ints (outD c (i + 1)))] (obs_cons (by omega : (0 : Int) ≤ ((i : Nat) : Int) ∧ ((i : Nat) : Int) < (((2 ^ L) : Nat) : Int)) (obs_cons (by omega : 0 + (((i : Nat) : Int) : Int).toNat * 1 = i) (obs_cons (flat_at1 cxC (fun _ => rfl) (0, 0) f i (by omega) : i + 1 ≤ ((cxs f)).length ∧ (((cxs f)).drop i).take 1 = [(.av (.complex .f64 ((f.getD i (0, 0)).1) ((f.getD i (0, 0)).2)))]) (obs_cons (ht1 : FloatKind.f64.format.div ((f.getD i (0, 0)).2) 4611686018427387904 = some t) (obs_cons (ext_rte ht2 : ExtTo Try.prog 17 [(flv t)] (.float .f64 (rte t))) (obs_cons (ht3 : CutTo .f64 (rte t) .i64 (c.getD i 0)) (obs_cons (by omega : (0 : Int) ≤ ((i : Nat) : Int) ∧ ((i : Nat) : Int) < ((c.length : Nat) : Int)) (obs_cons (by omega : 0 + (((i : Nat) : Int) : Int).toNat * 1 = i) (obs_cons (outD_store (by omega) : i + 1 ≤ ((ints (outD c i))).length ∧ splice (ints (outD c i)) i [(iv (c.getD i 0))] = (ints (outD c (i + 1)))) obs_nil))))))))) ?_
    refine T_blk ?_
    refine T_r mixed [] [ps 17 (.osl 0 0 (2 ^ L)), ps 20 (.osl 1 0 c.length), ps 115 (nv c.length), ps 116 (iv (((i : Nat) : Int) + 1)), pb 0 31 (cxs f), pb 1 3 (ints (outD c (i + 1)))] (obs_cons (by simp only [InK]; omega : InK .i64 (((i : Nat) : Int) + 1)) obs_nil) ?_
    exact T_back ⟨i + 1, by omega⟩ (Wk.ren3 [ps 17 (.osl 0 0 (2 ^ L)), ps 20 (.osl 1 0 c.length), ps 115 (nv c.length), ps 116 (nv (i + 1)), pb 0 31 (cxs f), pb 1 3 (ints (outD c (i + 1)))] 0 hc0 [0, 1] [(kb 0, (cxs f)), (kb 1, (ints (outD c (i + 1))))] (obs_cons (cxs_shd _) (obs_cons (ints_shd _) (obs_nil))) (by kernel_rfl) rfl rfl (by kernel_rfl) (by kernel_rfl)) (show c.length - (i + 1) < c.length - i from by omega)
  refine T_el (dtn h9) ?_
  refine T_break rfl rfl ?_
  refine T_seq ?_
  refine T_r mixed [] [ps 4 (.osl 1 0 c.length), ps 5 (iv 0), pb 1 3 (ints (outD c i))] (obs_nil) ?_
  obtain rfl : i = c.length := by omega
  refine T_wk (Wk.eq (show _ = [ps 4 (.osl 1 0 c.length), ps 5 (iv 0), pb 1 3 (ints c)] from by rw [outD_full c])) ?_
  exact T_ret fun cx_ a_ hI_ => ret_ok (H' := [some (3, (ints c))]) (.inr rfl) (Wk.ren3 [ps 4 (.osl 0 0 c.length), ps 5 (iv 0), pb 0 3 (ints c)] 0 hc0 [1] [(kb 0, (ints c))] (obs_cons (ints_shd _) (obs_nil)) (by kernel_rfl) rfl rfl (by kernel_rfl) (by kernel_rfl)) rfl (obs_cons rfl (obs_nil)) (fun cx_ a_ hI_ => ret_res (l' := [ps 4 (.osl 0 0 c.length), ps 5 (iv 0), pb 0 3 (ints c)]) (by kernel_rfl) cx_ a_ hI_) hI_
set_option maxRecDepth 100000 in
set_option maxHeartbeats 4000000 in
theorem prod_no_pc (a b : List Int) (hal : a.length ≤ 9223372036854775807) (hbl : b.length ≤ 9223372036854775807) (h : prodE a b ≠ 0) : PC Try.prog 6 [(.ssl (ints a) 0 a.length), (.ssl (ints b) 0 b.length)] [] (.tup [(.ssl [] 0 0), (iv (prodE a b))]) [] := by
  refine pc_intro Try.func6 rfl (by kernel_rfl) (Nat.le_of_ble_eq_true rfl) (by kernel_rfl) (l0 := [ps 0 (.ssl (ints a) 0 a.length), ps 1 (.ssl (ints b) 0 b.length)]) rfl (fun c0 Bor hc0 => ?_)
  refine T_seq ?_
  refine T_r mixed [] [ps 0 (.ssl (ints a) 0 a.length), ps 1 (.ssl (ints b) 0 b.length)] (obs_nil) ?_
  refine T_seq <| T_seq ?_
  refine T_r mixed [] [ps 0 (.ssl (ints a) 0 a.length), ps 1 (.ssl (ints b) 0 b.length), ps 24 (.osl 32 0 2), ps 25 (iv 2), ps 26 (iv 0), pb 32 22 [(.ssl (ints a) 0 a.length), (.ssl (ints b) 0 b.length)]] (obs_nil) ?_
  refine T_block ?_
  refine T_loop (α := {x : Nat // x ≤ 2 ∧ (x = 0 ∨ wholeE a = 0) ∧ (x ≤ 1 ∨ wholeE b = 0)}) (fun x => [ps 0 (.ssl (ints a) 0 a.length), ps 1 (.ssl (ints b) 0 b.length), ps 24 (.osl 0 0 2), ps 25 (iv 2), ps 26 (nv x.1), pb 0 22 [(.ssl (ints a) 0 a.length), (.ssl (ints b) 0 b.length)]]) (fun x => 2 - x.1) 1 ⟨0, ⟨Nat.zero_le _, .inl rfl, .inl (by decide)⟩⟩ (Wk.ren2 [ps 0 (.ssl (ints a) 0 a.length), ps 1 (.ssl (ints b) 0 b.length), ps 24 (.osl 0 0 2), ps 25 (iv 2), ps 26 (nv 0), pb 0 22 [(.ssl (ints a) 0 a.length), (.ssl (ints b) 0 b.length)]] 0 hc0 [32] rfl rfl (by kernel_rfl) (by kernel_rfl)) ?_
  rintro ⟨q, ⟨hq, hqa, hqb⟩⟩
  refine T_seq ?_
  refine T_r mixed [] [ps 0 (.ssl (ints a) 0 a.length), ps 1 (.ssl (ints b) 0 b.length), ps 24 (.osl 0 0 2), ps 25 (iv 2), ps 26 (nv q), ps 27 (bv (decide (((q : Nat) : Int) < 2))), pb 0 22 [(.ssl (ints a) 0 a.length), (.ssl (ints b) 0 b.length)]] (obs_nil) ?_
  refine T_seq ?_
  by_cases h1 : ((q : Nat) : Int) < 2
  · refine T_th (dty h1) ?_
    refine T_skip <| T_seq <| T_block <| T_seq ?_
    by_cases h2 : q = 0
    · refine T_r mixed [(0, .nat 0)] [ps 0 (.ssl (ints a) 0 a.length), ps 1 (.ssl (ints b) 0 b.length), ps 7 (.ssl (ints a) 0 a.length), ps 24 (.osl 0 0 2), ps 25 (iv 2), ps 26 (nv q), pb 0 22 [(.ssl (ints a) 0 a.length), (.ssl (ints b) 0 b.length)]] (obs_cons (by omega : (0 : Int) ≤ ((q : Nat) : Int) ∧ ((q : Nat) : Int) < ((2 : Nat) : Int)) (obs_cons (by omega : 0 + (((q : Nat) : Int) : Int).toNat * 1 = 0) obs_nil)) ?_
      refine T_seq ?_
      refine T_r mixed [(1, .call [] [(.ssl (ints a) 0 a.length)] [] (iv (wholeE a)) [])] [ps 0 (.ssl (ints a) 0 a.length), ps 1 (.ssl (ints b) 0 b.length), ps 8 (iv (wholeE a)), ps 24 (.osl 0 0 2), ps 25 (iv 2), ps 26 (nv q), pb 0 22 [(.ssl (ints a) 0 a.length), (.ssl (ints b) 0 b.length)]] (obs_cons (whole_pc a hal) (obs_cons (rfl : Ren0 41 [(.ssl (ints a) 0 a.length)]) obs_nil)) ?_
      refine T_seq ?_
      refine T_r mixed [] [ps 0 (.ssl (ints a) 0 a.length), ps 1 (.ssl (ints b) 0 b.length), ps 8 (iv (wholeE a)), ps 24 (.osl 0 0 2), ps 25 (iv 2), ps 26 (nv q), ps 33 (bv (!(decide ((wholeE a) = 0)))), pb 0 22 [(.ssl (ints a) 0 a.length), (.ssl (ints b) 0 b.length)]] (obs_nil) ?_
      by_cases h3 : (wholeE a) = 0
      · refine T_el (bt h3) ?_
        refine T_skip <| T_blk ?_
        refine T_r mixed [] [ps 0 (.ssl (ints a) 0 a.length), ps 1 (.ssl (ints b) 0 b.length), ps 24 (.osl 0 0 2), ps 25 (iv 2), ps 26 (iv (((q : Nat) : Int) + 1)), pb 0 22 [(.ssl (ints a) 0 a.length), (.ssl (ints b) 0 b.length)]] (obs_cons (by simp only [InK]; omega : InK .i64 (((q : Nat) : Int) + 1)) obs_nil) ?_
        exact T_back ⟨q + 1, ⟨by omega, by omega, by omega⟩⟩ (Wk.ren2 [ps 0 (.ssl (ints a) 0 a.length), ps 1 (.ssl (ints b) 0 b.length), ps 24 (.osl 0 0 2), ps 25 (iv 2), ps 26 (nv (q + 1)), pb 0 22 [(.ssl (ints a) 0 a.length), (.ssl (ints b) 0 b.length)]] 0 hc0 [0] rfl rfl (by kernel_rfl) (by kernel_rfl)) (show 2 - (q + 1) < 2 - q from by omega)
      refine T_th (bf h3) ?_
      refine T_seq ?_
      refine T_r mixed [] [ps 4 (.av (.slice none 0 0)), ps 5 (iv (wholeE a))] (obs_nil) ?_
      rw [show prodE a b = wholeE a from by unfold prodE; rw [if_pos (by omega)]]
      exact T_ret fun cx_ a_ hI_ => loop_ret (rt hc0 [ps 4 (.av (.slice none 0 0)), ps 5 (iv (wholeE a))] [] hI_)
    by_cases h4 : q = 1
    · refine T_r mixed [(0, .nat 1)] [ps 0 (.ssl (ints a) 0 a.length), ps 1 (.ssl (ints b) 0 b.length), ps 7 (.ssl (ints b) 0 b.length), ps 24 (.osl 0 0 2), ps 25 (iv 2), ps 26 (nv q), pb 0 22 [(.ssl (ints a) 0 a.length), (.ssl (ints b) 0 b.length)]] (obs_cons (by omega : (0 : Int) ≤ ((q : Nat) : Int) ∧ ((q : Nat) : Int) < ((2 : Nat) : Int)) (obs_cons (by omega : 0 + (((q : Nat) : Int) : Int).toNat * 1 = 1) obs_nil)) ?_
      refine T_seq ?_
      refine T_r mixed [(1, .call [] [(.ssl (ints b) 0 b.length)] [] (iv (wholeE b)) [])] [ps 0 (.ssl (ints a) 0 a.length), ps 1 (.ssl (ints b) 0 b.length), ps 8 (iv (wholeE b)), ps 24 (.osl 0 0 2), ps 25 (iv 2), ps 26 (nv q), pb 0 22 [(.ssl (ints a) 0 a.length), (.ssl (ints b) 0 b.length)]] (obs_cons (whole_pc b hbl) (obs_cons (rfl : Ren0 41 [(.ssl (ints b) 0 b.length)]) obs_nil)) ?_
      refine T_seq ?_
      refine T_r mixed [] [ps 0 (.ssl (ints a) 0 a.length), ps 1 (.ssl (ints b) 0 b.length), ps 8 (iv (wholeE b)), ps 24 (.osl 0 0 2), ps 25 (iv 2), ps 26 (nv q), ps 33 (bv (!(decide ((wholeE b) = 0)))), pb 0 22 [(.ssl (ints a) 0 a.length), (.ssl (ints b) 0 b.length)]] (obs_nil) ?_
      by_cases h5 : (wholeE b) = 0
      · refine T_el (bt h5) ?_
        refine T_skip <| T_blk ?_
        refine T_r mixed [] [ps 0 (.ssl (ints a) 0 a.length), ps 1 (.ssl (ints b) 0 b.length), ps 24 (.osl 0 0 2), ps 25 (iv 2), ps 26 (iv (((q : Nat) : Int) + 1)), pb 0 22 [(.ssl (ints a) 0 a.length), (.ssl (ints b) 0 b.length)]] (obs_cons (by simp only [InK]; omega : InK .i64 (((q : Nat) : Int) + 1)) obs_nil) ?_
        exact T_back ⟨q + 1, ⟨by omega, by omega, by omega⟩⟩ (Wk.ren2 [ps 0 (.ssl (ints a) 0 a.length), ps 1 (.ssl (ints b) 0 b.length), ps 24 (.osl 0 0 2), ps 25 (iv 2), ps 26 (nv (q + 1)), pb 0 22 [(.ssl (ints a) 0 a.length), (.ssl (ints b) 0 b.length)]] 0 hc0 [0] rfl rfl (by kernel_rfl) (by kernel_rfl)) (show 2 - (q + 1) < 2 - q from by omega)
      refine T_th (bf h5) ?_
      refine T_seq ?_
      refine T_r mixed [] [ps 4 (.av (.slice none 0 0)), ps 5 (iv (wholeE b))] (obs_nil) ?_
      rw [show prodE a b = wholeE b from by unfold prodE; rw [if_neg (by omega)]]
      exact T_ret fun cx_ a_ hI_ => loop_ret (rt hc0 [ps 4 (.av (.slice none 0 0)), ps 5 (iv (wholeE b))] [] hI_)
    · exfalso; omega
  refine T_el (dtn h1) ?_
  refine T_break rfl rfl ?_
  refine T_seq ?_
  exfalso; unfold prodE at h; split at h <;> omega
end Go.Proofs.Ytfibadnkhbjciaa.Pm
namespace Go.Proofs.Ytfibadnkhbjciaa.Pm
open Go Ieee Fl

/-- Nought, of either sign. -/
def z0 (x : Nat) : Prop := x = 0 ∨ x = 9223372036854775808
theorem read_z {z : Nat} (hz : z0 z) : ∃ s, F.read z = .number s 0 (-1074) := by
  rcases hz with rfl | rfl
  · exact ⟨false, by decide +kernel⟩
  · exact ⟨true, by decide +kernel⟩
theorem z0_wd (s : Bool) : z0 (Fl.wd s 0) := by
  cases s
  · exact .inl rfl
  · exact .inr rfl
theorem low_fin {w : Nat} (h : lowB w = true) : mag w < 9218868437227405312 := by
  unfold lowB at h
  rw [Bool.and_eq_true, Nat.blt_eq, Nat.blt_eq] at h
  unfold mag
  omega
theorem mul_z {w z : Nat} (hw : mag w < 9218868437227405312) (hz : z0 z) : ∃ y, F.mul w z = some y ∧ z0 y := by
  obtain ⟨t, ht⟩ := read_z hz
  refine ⟨Fl.wd (sgn w ^^ t) 0, ?_, z0_wd _⟩
  unfold Format.mul
  rw [read_fin hw, ht]
  show some (F.nearest (sgn w ^^ t) (md (mag w) * 0) _) = _
  rw [Nat.mul_zero]
  unfold Format.nearest
  rw [if_pos rfl, wd_eq]
theorem add_zz {x y : Nat} (hx : z0 x) (hy : z0 y) : ∃ r, F.add x y = some r ∧ z0 r := by
  rcases hx with rfl | rfl <;> rcases hy with rfl | rfl
  · exact ⟨0, by decide +kernel, .inl rfl⟩
  · exact ⟨0, by decide +kernel, .inl rfl⟩
  · exact ⟨0, by decide +kernel, .inl rfl⟩
  · exact ⟨9223372036854775808, by decide +kernel, .inr rfl⟩
theorem sub_zz {x y : Nat} (hx : z0 x) (hy : z0 y) : ∃ r, F.sub x y = some r ∧ z0 r := by
  rcases hx with rfl | rfl <;> rcases hy with rfl | rfl
  · exact ⟨0, by decide +kernel, .inl rfl⟩
  · exact ⟨0, by decide +kernel, .inl rfl⟩
  · exact ⟨9223372036854775808, by decide +kernel, .inr rfl⟩
  · exact ⟨0, by decide +kernel, .inl rfl⟩
/-- A root's power times nought. -/
theorem cMul_z {a b c d : Nat} (ha : mag a < 9218868437227405312) (hb : mag b < 9218868437227405312) (hc : z0 c) (hd : z0 d) : ∃ e f, cMul a b c d = some (e, f) ∧ z0 e ∧ z0 f := by
  obtain ⟨p, hp, zp⟩ := mul_z ha hc
  obtain ⟨q, hq, zq⟩ := mul_z hb hd
  obtain ⟨r, hr, zr⟩ := mul_z ha hd
  obtain ⟨s, hs, zs⟩ := mul_z hb hc
  obtain ⟨e, he, ze⟩ := sub_zz zp zq
  obtain ⟨f, hf, zf⟩ := add_zz zr zs
  refine ⟨e, f, ?_, ze, zf⟩
  unfold cMul
  have h1 : FloatKind.f64.format.mul a c = some p := hp
  have h2 : FloatKind.f64.format.mul b d = some q := hq
  have h3 : FloatKind.f64.format.mul a d = some r := hr
  have h4 : FloatKind.f64.format.mul b c = some s := hs
  have h5 : FloatKind.f64.format.sub p q = some e := he
  have h6 : FloatKind.f64.format.add r s = some f := hf
  simp only [h1, h2, h3, h4, h5, h6, Option.bind_some]
theorem md_log {a : Nat} (h : ¬ a < 4503599627370496) : (md a).log2 = 52 := by
  unfold md mnt
  rw [if_neg h]
  exact log2_of (show 2 ^ 52 ≤ _ by omega) (show _ < 2 ^ 53 by omega)
/-- A finite number, rounded, is itself. -/
theorem near_self {a : Nat} (h1 : 1 ≤ a) (h : a < 9218868437227405312) : F.nearest false (md a) (plc a) = a := by
  have hm : 1 ≤ md a := by unfold md mnt; split <;> omega
  have hn0 : md a ≠ 0 := by omega
  unfold Format.nearest
  rw [if_neg hn0, D_least, D_inf, D_binade, show ((F.fractionBits : Nat) : Int) = 52 from rfl]
  have hL : max (plc a + (((md a).log2 : Nat) : Int) - 52) (-1074) = plc a := by
    by_cases c : a < 4503599627370496
    · have e : plc a = -1074 := by unfold plc; rw [Nat.div_eq_of_lt c]; rfl
      have hlg : (md a).log2 < 52 := by
        unfold md
        rw [if_pos c]
        exact (Nat.log2_lt (by omega)).2 c
      rw [e]
      omega
    · rw [md_log c]
      have := plc_lo a
      omega
  rw [hL]
  show F.word false (min ((plc a - -1074).toNat * 4503599627370496 + Toward.even.cut false (md a <<< (plc a - plc a).toNat) (plc a - plc a).toNat) 9218868437227405312) = a
  rw [Int.sub_self, show (0 : Int).toNat = 0 from rfl, Nat.shiftLeft_zero, cut_none hm, word_pos]
  unfold md mnt plc
  by_cases c : a < 4503599627370496
  · rw [if_pos c, Nat.div_eq_of_lt c]
    omega
  · rw [if_neg c]
    omega
theorem x_wd {x : Nat} (hx : x < 18446744073709551616) : x = Fl.wd (sgn x) (mag x) := by
  unfold Fl.wd sgn mag
  by_cases c : x < 9223372036854775808
  · rw [Nat.div_eq_of_lt c]
    show x = x % _
    omega
  · rw [show x / 9223372036854775808 = 1 from by omega]
    show x = 9223372036854775808 + x % _
    omega
/-- A finite number that isn't nought, and nought. -/
theorem sum_xz {x : Nat} {t : Bool} (hx : mag x < 9218868437227405312) (hb : x < 18446744073709551616) (h1 : 1 ≤ mag x) : (Datum.sum (.number (sgn x) (md (mag x)) (plc (mag x))) (.number t 0 (-1074))).map F.write = some x := by
  have hk : 0 ≤ plc (mag x) + 1074 := by have := plc_lo (mag x); omega
  have hbase : min (plc (mag x)) (-1074) = -1074 := by have := plc_lo (mag x); omega
  have hm : 1 ≤ md (mag x) := by unfold md mnt; split <;> omega
  have hl : (md (mag x)).log2 ≤ 52 := by
    have := md_bd (mag x)
    have := (Nat.log2_lt (n := md (mag x)) (k := 53) (by omega)).2 this
    omega
  have hp := Nat.pow_pos (n := (plc (mag x) + 1074).toNat) (show 0 < 2 by decide)
  have hpos : 1 ≤ md (mag x) * 2 ^ (plc (mag x) + 1074).toNat := Nat.mul_pos (by omega) hp
  have hns := near_shift (n := md (mag x)) (k := (plc (mag x) + 1074).toNat) (p := -1074) hm hl (by omega)
  rw [show (-1074 : Int) + (((plc (mag x) + 1074).toNat : Nat) : Int) = plc (mag x) from by omega, near_self h1 hx] at hns
  unfold Datum.sum
  dsimp only
  rw [hbase, show plc (mag x) - -1074 = plc (mag x) + 1074 from by omega]
  have ht : signed t 0 ((-1074 : Int) - -1074).toNat = 0 := by cases t <;> rfl
  rw [ht, Int.add_zero]
  cases hs : sgn x
  · have e : signed false (md (mag x)) (plc (mag x) + 1074).toNat = ((md (mag x) * 2 ^ (plc (mag x) + 1074).toNat : Nat) : Int) := by
      show (((md (mag x)) <<< _ : Nat) : Int) = _
      rw [Nat.shiftLeft_eq]
    rw [e, if_neg (by omega), decide_eq_false (by omega), Int.natAbs_natCast]
    show some (F.nearest false _ _) = some x
    rw [hns]
    have := x_wd hb
    rw [hs] at this
    exact congrArg some this.symm
  · have e : signed true (md (mag x)) (plc (mag x) + 1074).toNat = -((md (mag x) * 2 ^ (plc (mag x) + 1074).toNat : Nat) : Int) := by
      show -(((md (mag x)) <<< _ : Nat) : Int) = _
      rw [Nat.shiftLeft_eq]
    rw [e, if_neg (by omega), decide_eq_true (by omega), Int.natAbs_neg, Int.natAbs_natCast]
    show some (F.nearest true _ _) = some x
    rw [near_sign, hns]
    have := x_wd hb
    rw [hs] at this
    exact congrArg some this.symm
theorem z0_of {x : Nat} (hb : x < 18446744073709551616) (h : mag x = 0) : z0 x := by
  unfold mag at h
  unfold z0
  omega
/-- A number and nought: the number (or nought). -/
theorem add_xz {x z : Nat} (hx : mag x < 9218868437227405312) (hb : x < 18446744073709551616) (hz : z0 z) : ∃ r, F.add x z = some r ∧ (r = x ∨ (z0 x ∧ z0 r)) := by
  by_cases c : mag x = 0
  · obtain ⟨r, h1, h2⟩ := add_zz (z0_of hb c) hz
    exact ⟨r, h1, .inr ⟨z0_of hb c, h2⟩⟩
  · obtain ⟨t, ht⟩ := read_z hz
    refine ⟨x, ?_, .inl rfl⟩
    unfold Format.add
    rw [read_fin hx, ht]
    exact sum_xz hx hb (by omega)
theorem sub_xz {x z : Nat} (hx : mag x < 9218868437227405312) (hb : x < 18446744073709551616) (hz : z0 z) : ∃ r, F.sub x z = some r ∧ (r = x ∨ (z0 x ∧ z0 r)) := by
  by_cases c : mag x = 0
  · obtain ⟨r, h1, h2⟩ := sub_zz (z0_of hb c) hz
    exact ⟨r, h1, .inr ⟨z0_of hb c, h2⟩⟩
  · obtain ⟨t, ht⟩ := read_z hz
    refine ⟨x, ?_, .inl rfl⟩
    unfold Format.sub
    rw [read_fin hx, ht]
    exact sum_xz (t := !t) hx hb (by omega)
theorem ord_self {x : Nat} (hx : mag x < 9218868437227405312) : F.order x x = some .eq := by
  unfold Format.order
  rw [read_fin hx]
  unfold Datum.order
  dsimp only
  rw [Int.min_self, Int.sub_self]
  exact congrArg some (Int.compare_eq_eq.2 rfl)
theorem ord_z {x y : Nat} (hx : z0 x) (hy : z0 y) : F.order x y = some .eq := by
  rcases hx with rfl | rfl <;> rcases hy with rfl | rfl <;> decide +kernel
/-- As a number is: it, or nought where it is nought. -/
def likeX (x r : Nat) : Prop := r = x ∨ (z0 x ∧ z0 r)
theorem ord_like {x r : Nat} (hx : mag x < 9218868437227405312) (h : likeX x r) : F.order r x = some .eq := by
  rcases h with rfl | ⟨h1, h2⟩
  · exact ord_self hx
  · exact ord_z h2 h1
theorem like_add {x r z : Nat} (hx : mag x < 9218868437227405312) (hb : x < 18446744073709551616) (h : likeX x r) (hz : z0 z) : ∃ q, F.add r z = some q ∧ likeX x q := by
  rcases h with rfl | ⟨h1, h2⟩
  · obtain ⟨q, h3, h4⟩ := add_xz hx hb hz
    exact ⟨q, h3, h4⟩
  · obtain ⟨q, h3, h4⟩ := add_zz h2 hz
    exact ⟨q, h3, .inr ⟨h1, h4⟩⟩
theorem like_sub {x r z : Nat} (hx : mag x < 9218868437227405312) (hb : x < 18446744073709551616) (h : likeX x r) (hz : z0 z) : ∃ q, F.sub r z = some q ∧ likeX x q := by
  rcases h with rfl | ⟨h1, h2⟩
  · obtain ⟨q, h3, h4⟩ := sub_xz hx hb hz
    exact ⟨q, h3, h4⟩
  · obtain ⟨q, h3, h4⟩ := sub_zz h2 hz
    exact ⟨q, h3, .inr ⟨h1, h4⟩⟩
end Go.Proofs.Ytfibadnkhbjciaa.Pm
namespace Go.Proofs.Ytfibadnkhbjciaa.Pm
open Go Ieee Fl

/-! ### powers of two -/
def p2 (z : Int) : Rat := (2 : Rat) ^ z
theorem two_ne : (2 : Rat) ≠ 0 := by decide
theorem p2_pos (z : Int) : 0 < p2 z := Rat.zpow_pos (by decide)
theorem p2_add (a b : Int) : p2 (a + b) = p2 a * p2 b := Rat.zpow_add two_ne a b
theorem p2_nat (n : Nat) : p2 (n : Int) = ((2 ^ n : Nat) : Rat) := by
  rw [Rat.natCast_pow]
  exact Rat.zpow_natCast 2 n
theorem p2_one : p2 1 = 2 := by decide +kernel
theorem p2_52 : p2 (-52) = 2 * p2 (-53) := by decide +kernel
attribute [local irreducible] p2
theorem nat_pos {n : Nat} (h : 1 ≤ n) : (1 : Rat) ≤ (n : Rat) := Rat.natCast_le_natCast.2 h
theorem nat_nn (n : Nat) : (0 : Rat) ≤ (n : Rat) := Rat.natCast_le_natCast.2 (Nat.zero_le n)
theorem p2_mono {a b : Int} (h : a ≤ b) : p2 a ≤ p2 b := by
  obtain ⟨n, rfl⟩ : ∃ n : Nat, b = a + (n : Int) := ⟨(b - a).toNat, by omega⟩
  rw [p2_add, p2_nat]
  have h1 := Rat.mul_le_mul_of_nonneg_left (nat_pos (Nat.pow_pos (n := n) (show 0 < 2 by decide))) (Rat.le_of_lt (p2_pos a))
  grind
theorem p2_le_of {a b : Int} (h : p2 a ≤ p2 b) : a ≤ b := by
  refine Int.not_lt.1 fun c => ?_
  have h1 := p2_mono (show b + 1 ≤ a by omega)
  rw [p2_add] at h1
  have h2 := p2_pos b
  rw [p2_one] at h1
  grind
theorem mul_le {a b c d : Rat} (h1 : a ≤ b) (h2 : c ≤ d) (h3 : 0 ≤ b) (h4 : 0 ≤ c) : a * c ≤ b * d := by
  have h5 := Rat.mul_le_mul_of_nonneg_right h1 h4
  have h6 := Rat.mul_le_mul_of_nonneg_left h2 h3
  grind

/-! ### what a word is worth -/
def sgv (s : Bool) (m : Nat) (p : Int) : Rat := if s then -((m : Rat) * p2 p) else (m : Rat) * p2 p
def val (x : Nat) : Rat := sgv (sgn x) (md (mag x)) (plc (mag x))
def Num (x : Nat) : Prop := mag x < 9218868437227405312 ∧ x < 18446744073709551616
/-- y is x, but for e. -/
def Nr (x y e : Rat) : Prop := x ≤ y + e ∧ y ≤ x + e
theorem read_num {x : Nat} (h : Num x) : F.read x = .number (sgn x) (md (mag x)) (plc (mag x)) := read_fin h.1
theorem cut_near (n d : Nat) : 2 * n ≤ 2 * Toward.even.cut false n d * 2 ^ d + 2 ^ d ∧ 2 * Toward.even.cut false n d * 2 ^ d ≤ 2 * n + 2 ^ d := by
  rw [cut_even]
  have h1 := Nat.div_add_mod n (2 ^ d)
  have h2 := Nat.mod_lt n (Nat.pow_pos (n := d) (show 0 < 2 by decide))
  generalize n / 2 ^ d = q at h1 ⊢
  generalize n % 2 ^ d = r at h1 h2 ⊢
  generalize 2 ^ d = g at h1 h2 ⊢
  subst h1
  have e1 : ∀ t : Nat, 2 * (q + t) * g = 2 * (g * q) + 2 * t * g := fun t => by
    rw [Nat.mul_add, Nat.add_mul, Nat.mul_assoc, Nat.mul_comm q g]
  rw [e1]
  by_cases c1 : g < 2 * r
  · rw [decide_eq_true c1, Bool.true_or, Bool.toNat_true]
    omega
  · rw [decide_eq_false c1, Bool.false_or]
    by_cases c2 : g = 2 * r
    · cases (g == 2 * r && q % 2 == 1)
      · rw [Bool.toNat_false]; omega
      · rw [Bool.toNat_true]; omega
    · rw [show (g == 2 * r) = false from by rw [beq_eq_false_iff_ne]; exact c2, Bool.false_and, Bool.toNat_false]
      omega
/-- A rung, and what it is worth. -/
theorem rung_val {L : Int} {K : Nat} (hL : -1074 ≤ L) (hK : K ≤ 9007199254740992) (hlow : -1074 < L → 4503599627370496 ≤ K) : ((md ((L + 1074).toNat * 4503599627370496 + K) : Nat) : Rat) * p2 (plc ((L + 1074).toNat * 4503599627370496 + K)) = (K : Rat) * p2 L := by
  obtain ⟨e, rfl⟩ : ∃ e : Nat, L = (e : Int) - 1074 := ⟨(L + 1074).toNat, by omega⟩
  rw [show ((e : Int) - 1074 + 1074).toNat = e from by omega]
  by_cases c1 : K < 4503599627370496
  · have he : e = 0 := by
      rcases Nat.eq_zero_or_pos e with h | h
      · exact h
      · exact absurd (hlow (by omega)) (by omega)
    subst he
    have e1 : md (0 * 4503599627370496 + K) = K := by unfold md mnt; split <;> omega
    have e2 : plc (0 * 4503599627370496 + K) = ((0 : Nat) : Int) - 1074 := by unfold plc; omega
    rw [e1, e2]
  · by_cases c2 : K < 9007199254740992
    · have e1 : md (e * 4503599627370496 + K) = K := by unfold md mnt; split <;> omega
      have e2 : plc (e * 4503599627370496 + K) = (e : Int) - 1074 := by unfold plc; omega
      rw [e1, e2]
    · obtain rfl : K = 9007199254740992 := by omega
      have e1 : md (e * 4503599627370496 + 9007199254740992) = 4503599627370496 := by unfold md mnt; split <;> omega
      have e2 : plc (e * 4503599627370496 + 9007199254740992) = (e : Int) - 1074 + 1 := by unfold plc; omega
      rw [e1, e2, p2_add, p2_one]
      have h1 : ((9007199254740992 : Nat) : Rat) = ((4503599627370496 : Nat) : Rat) * 2 := by decide +kernel
      rw [h1]
      grind
def uu : Rat := p2 (-53)
theorem uu_eq : uu = 1 / 9007199254740992 := by decide +kernel
theorem kept {n : Nat} {p L : Int} {K : Nat} (hn : 1 ≤ n) (hb1 : 2 ^ n.log2 ≤ n) (hb2 : n < 2 ^ (n.log2 + 1)) (hL2 : p + (n.log2 : Int) - 52 ≤ L) (hL4 : L = p + (n.log2 : Int) - 52 ∨ L = -1074) (hk : Toward.even.cut false (n <<< (p - L).toNat) (L - p).toNat = K) :
    K ≤ 9007199254740992 ∧ (-1074 < L → 4503599627370496 ≤ K) ∧ (2 * (n : Rat) * p2 p ≤ 2 * (K : Rat) * p2 L + p2 L ∧ 2 * (K : Rat) * p2 L ≤ 2 * (n : Rat) * p2 p + p2 L) := by
  by_cases c : L ≤ p
  · obtain ⟨s, hs⟩ : ∃ s : Nat, p = L + (s : Int) := ⟨(p - L).toNat, by omega⟩
    rw [show (L - p).toNat = 0 from by omega, show (p - L).toNat = s from by omega, Nat.shiftLeft_eq, cut_none (Nat.mul_pos hn (Nat.pow_pos (by decide)))] at hk
    have hlt : n * 2 ^ s < 2 ^ (n.log2 + 1) * 2 ^ s := Nat.mul_lt_mul_of_pos_right hb2 (Nat.pow_pos (by decide))
    rw [← Nat.pow_add] at hlt
    have hle : 2 ^ (n.log2 + 1 + s) ≤ 2 ^ 53 := Nat.pow_le_pow_right (by decide) (by omega)
    have e53 : (2 : Nat) ^ 53 = 9007199254740992 := by decide
    refine ⟨by omega, fun hL5 => ?_, ?_⟩
    · have hge : 2 ^ n.log2 * 2 ^ s ≤ n * 2 ^ s := Nat.mul_le_mul_right _ hb1
      rw [← Nat.pow_add, show n.log2 + s = 52 from by omega] at hge
      have e52 : (2 : Nat) ^ 52 = 4503599627370496 := by decide
      omega
    · have e1 : (K : Rat) * p2 L = (n : Rat) * p2 p := by
        rw [← hk, hs, p2_add, p2_nat, Rat.natCast_mul]
        grind
      have := p2_pos L
      grind
  · obtain ⟨d, hd⟩ : ∃ d : Nat, L = p + (d : Int) := ⟨(L - p).toNat, by omega⟩
    rw [show (L - p).toNat = d from by omega, show (p - L).toNat = 0 from by omega, Nat.shiftLeft_zero] at hk
    have hce := cut_even false n d
    rw [hk] at hce
    have hbool : ∀ b : Bool, b.toNat ≤ 1 := fun b => by cases b <;> decide
    refine ⟨?_, fun hL5 => ?_, ?_⟩
    · have h3 : n / 2 ^ d < 2 ^ 53 := by
        rw [Nat.div_lt_iff_lt_mul (Nat.pow_pos (by decide)), ← Nat.pow_add]
        exact Nat.lt_of_lt_of_le hb2 (Nat.pow_le_pow_right (by decide) (by omega))
      have e53 : (2 : Nat) ^ 53 = 9007199254740992 := by decide
      have := hbool (decide (2 ^ d < 2 * (n % 2 ^ d)) || (2 ^ d == 2 * (n % 2 ^ d) && n / 2 ^ d % 2 == 1))
      omega
    · have h3 : 2 ^ 52 ≤ n / 2 ^ d := by
        rw [Nat.le_div_iff_mul_le (Nat.pow_pos (by decide)), ← Nat.pow_add]
        exact Nat.le_trans (Nat.pow_le_pow_right (by decide) (by omega)) hb1
      have e52 : (2 : Nat) ^ 52 = 4503599627370496 := by decide
      omega
    · obtain ⟨h3, h4⟩ := cut_near n d
      rw [hk] at h3 h4
      have h5 := Rat.natCast_le_natCast.2 h3
      have h6 := Rat.natCast_le_natCast.2 h4
      simp only [Rat.natCast_add, Rat.natCast_mul] at h5 h6
      have h7 := Rat.mul_le_mul_of_nonneg_right h5 (Rat.le_of_lt (p2_pos p))
      have h8 := Rat.mul_le_mul_of_nonneg_right h6 (Rat.le_of_lt (p2_pos p))
      rw [hd, p2_add, p2_nat]
      have h9 : ((2 : Nat) : Rat) = 2 := rfl
      rw [h9] at h7 h8
      constructor <;> grind
theorem rung_lt {L : Int} {K : Nat} (h : L ≤ 848) (hK : K ≤ 9007199254740992) : (L + 1074).toNat * 4503599627370496 + K < 9218868437227405312 := by omega
theorem near_err {n : Nat} {p : Int} {R : Rat} (hn : 1 ≤ n) (hR : (n : Rat) * p2 p ≤ R) (h0 : p2 (-1022) ≤ R) (h1 : R ≤ p2 900) :
    F.nearest false n p < 9218868437227405312 ∧ Nr (((md (F.nearest false n p) : Nat) : Rat) * p2 (plc (F.nearest false n p))) ((n : Rat) * p2 p) (R * uu) := by
  have hn0 : n ≠ 0 := by omega
  obtain ⟨hb1, hb2⟩ := log_bd hn0 (rfl : n.log2 = n.log2)
  have hlog : p + (n.log2 : Int) ≤ 900 := by
    refine p2_le_of (Rat.le_trans ?_ (Rat.le_trans hR h1))
    rw [Int.add_comm, p2_add, p2_nat]
    exact Rat.mul_le_mul_of_nonneg_right (Rat.natCast_le_natCast.2 hb1) (Rat.le_of_lt (p2_pos p))
  have hN : F.nearest false n p = min ((max (p + (n.log2 : Int) - 52) (-1074) + 1074).toNat * 4503599627370496 + Toward.even.cut false (n <<< (p - max (p + (n.log2 : Int) - 52) (-1074)).toNat) (max (p + (n.log2 : Int) - 52) (-1074) - p).toNat) 9218868437227405312 := by
    unfold Format.nearest
    rw [if_neg hn0, D_least, D_inf, D_binade, show ((F.fractionBits : Nat) : Int) = 52 from rfl]
    dsimp only
    rw [word_pos, Int.sub_neg]
  generalize hL : max (p + (n.log2 : Int) - 52) (-1074) = L at hN
  have hL1 : -1074 ≤ L := by omega
  have hL2 : p + (n.log2 : Int) - 52 ≤ L := by omega
  have hL3 : L ≤ 848 := by omega
  have hL4 : L = p + (n.log2 : Int) - 52 ∨ L = -1074 := by omega
  generalize hk : Toward.even.cut false (n <<< (p - L).toNat) (L - p).toNat = K at hN
  -- the number that is kept, and how far it is off
  obtain ⟨hK1, hK2, hK3, hK4⟩ := kept hn hb1 hb2 hL2 hL4 hk
  have hmin : min ((L + 1074).toNat * 4503599627370496 + K) 9218868437227405312 = (L + 1074).toNat * 4503599627370496 + K := Nat.min_eq_left (Nat.le_of_lt (rung_lt hL3 hK1))
  rw [hmin] at hN
  rw [hN]
  refine ⟨rung_lt hL3 hK1, ?_⟩
  rw [rung_val hL1 hK1 hK2]
  -- a step is small
  have hstep : p2 L ≤ R * p2 (-52) := by
    rcases hL4 with h | h
    · rw [h, show p + (n.log2 : Int) - 52 = (p + (n.log2 : Int)) + (-52) from by omega, p2_add]
      refine Rat.mul_le_mul_of_nonneg_right (Rat.le_trans ?_ hR) (Rat.le_of_lt (p2_pos _))
      rw [Int.add_comm, p2_add, p2_nat]
      exact Rat.mul_le_mul_of_nonneg_right (Rat.natCast_le_natCast.2 hb1) (Rat.le_of_lt (p2_pos p))
    · rw [h, show (-1074 : Int) = -1022 + -52 from by decide, p2_add]
      exact Rat.mul_le_mul_of_nonneg_right h0 (Rat.le_of_lt (p2_pos _))
  have e52 : p2 (-52) = 2 * uu := p2_52
  rw [e52] at hstep
  unfold Nr
  constructor <;> grind
end Go.Proofs.Ytfibadnkhbjciaa.Pm
namespace Go.Proofs.Ytfibadnkhbjciaa.Pm
open Go Ieee Fl

theorem wd_num (s : Bool) {q : Nat} (h : q < 9218868437227405312) : Num (Fl.wd s q) ∧ val (Fl.wd s q) = sgv s (md q) (plc q) := by
  obtain ⟨h1, h2⟩ := wd_mag (s := s) (show q < 9223372036854775808 by omega)
  refine ⟨⟨by rw [h1]; exact h, ?_⟩, by unfold val; rw [h1, h2]⟩
  unfold Fl.wd
  split <;> omega
theorem sgv_abs {s : Bool} {n : Nat} {p : Int} {R : Rat} : (n : Rat) * p2 p ≤ R ↔ (-R ≤ sgv s n p ∧ sgv s n p ≤ R) := by
  have h1 : 0 ≤ (n : Rat) * p2 p := Rat.mul_nonneg (nat_nn n) (Rat.le_of_lt (p2_pos p))
  unfold sgv
  cases s
  · rw [if_neg (by decide)]
    constructor
    · intro h; constructor <;> grind
    · rintro ⟨_, h⟩; exact h
  · rw [if_pos rfl]
    constructor
    · intro h; constructor <;> grind
    · rintro ⟨h, _⟩; grind
theorem uu_pos : 0 < uu := p2_pos _
theorem p2_nn (z : Int) : 0 ≤ p2 z := Rat.le_of_lt (p2_pos z)
/-- A number, written. -/
theorem write_ok {s : Bool} {n : Nat} {p : Int} {R : Rat} (hR : (n : Rat) * p2 p ≤ R) (h0 : p2 (-1022) ≤ R) (h1 : R ≤ p2 900) :
    Num (F.write (.number s n p)) ∧ Nr (val (F.write (.number s n p))) (sgv s n p) (R * uu) := by
  have hRu : 0 ≤ R * uu := Rat.mul_nonneg (Rat.le_trans (p2_nn _) h0) (Rat.le_of_lt uu_pos)
  show Num (F.nearest s n p) ∧ Nr (val (F.nearest s n p)) (sgv s n p) (R * uu)
  rcases Nat.eq_zero_or_pos n with rfl | hn
  · have e : F.nearest s 0 p = Fl.wd s 0 := by
      unfold Format.nearest
      rw [if_pos rfl, wd_eq]
    rw [e]
    obtain ⟨h2, h3⟩ := wd_num s (q := 0) (by decide)
    refine ⟨h2, ?_⟩
    have e2 : val (Fl.wd s 0) = 0 := by rw [h3]; cases s <;> decide +kernel
    have e3 : sgv s 0 p = 0 := by
      unfold sgv
      have : ((0 : Nat) : Rat) * p2 p = 0 := Rat.zero_mul _
      rw [this]
      cases s <;> rfl
    rw [e2, e3]
    unfold Nr
    constructor <;> grind
  · obtain ⟨h2, h3, h4⟩ := near_err hn hR h0 h1
    rw [near_sign]
    obtain ⟨h5, h6⟩ := wd_num s h2
    refine ⟨h5, ?_⟩
    rw [h6]
    unfold sgv Nr
    cases s
    · exact ⟨h3, h4⟩
    · rw [if_pos rfl, if_pos rfl]
      constructor <;> grind
theorem sgv_mul (s t : Bool) (m n : Nat) (i j : Int) : sgv (s ^^ t) (m * n) (i + j) = sgv s m i * sgv t n j := by
  unfold sgv
  rw [p2_add, Rat.natCast_mul]
  cases s <;> cases t <;> simp only [Bool.false_xor, Bool.xor_false, Bool.xor_self, if_true] <;> grind
theorem mul_ok {x y : Nat} {R : Rat} (hx : Num x) (hy : Num y) (h : -R ≤ val x * val y) (h' : val x * val y ≤ R) (h0 : p2 (-1022) ≤ R) (h1 : R ≤ p2 900) : ∃ r, F.mul x y = some r ∧ Num r ∧ Nr (val r) (val x * val y) (R * uu) := by
  have e : F.mul x y = some (F.write (.number (sgn x ^^ sgn y) (md (mag x) * md (mag y)) (plc (mag x) + plc (mag y)))) := by
    unfold Format.mul
    rw [read_num hx, read_num hy]
    rfl
  have e2 : sgv (sgn x ^^ sgn y) (md (mag x) * md (mag y)) (plc (mag x) + plc (mag y)) = val x * val y := sgv_mul _ _ _ _ _ _
  obtain ⟨h2, h3⟩ := write_ok (s := sgn x ^^ sgn y) (sgv_abs.2 ⟨by rw [e2]; exact h, by rw [e2]; exact h'⟩) h0 h1
  rw [e2] at h3
  exact ⟨_, e, h2, h3⟩
theorem signed_sgv (s : Bool) (m k : Nat) (p : Int) : ((signed s m k : Int) : Rat) * p2 p = sgv s m (p + (k : Int)) := by
  unfold signed sgv
  rw [p2_add, p2_nat, Nat.shiftLeft_eq]
  cases s
  · rw [if_neg (by decide), if_neg (by decide), Rat.intCast_natCast, Rat.natCast_mul]
    grind
  · rw [if_pos rfl, if_pos rfl, Rat.intCast_neg, Rat.intCast_natCast, Rat.natCast_mul]
    grind
theorem total_sgv (b : Bool) (t : Int) (p : Int) : sgv (if t = 0 then b else decide (t < 0)) t.natAbs p = (t : Rat) * p2 p := by
  unfold sgv
  by_cases c : t = 0
  · subst c
    have e1 : (((0 : Int).natAbs : Nat) : Rat) * p2 p = 0 := Rat.zero_mul _
    have e2 : ((0 : Int) : Rat) * p2 p = 0 := Rat.zero_mul _
    rw [e1, e2]
    split <;> grind
  · rw [if_neg c]
    by_cases d : t < 0
    · rw [decide_eq_true d, if_pos rfl]
      have e : (t : Rat) = -((t.natAbs : Nat) : Rat) := by
        rw [← Rat.intCast_natCast, ← Rat.intCast_neg]
        exact congrArg _ (by omega)
      rw [e]
      grind
    · rw [decide_eq_false d, if_neg (by decide)]
      have e : (t : Rat) = ((t.natAbs : Nat) : Rat) := by
        rw [← Rat.intCast_natCast]
        exact congrArg _ (by omega)
      rw [e]
theorem sum_ok {s t : Bool} {m n : Nat} {i j : Int} {R : Rat} (h : -R ≤ sgv s m i + sgv t n j) (h' : sgv s m i + sgv t n j ≤ R) (h0 : p2 (-1022) ≤ R) (h1 : R ≤ p2 900) : ∃ r, (Datum.sum (.number s m i) (.number t n j)).map F.write = some r ∧ Num r ∧ Nr (val r) (sgv s m i + sgv t n j) (R * uu) := by
  have hb1 : min i j + (((i - min i j).toNat : Nat) : Int) = i := by omega
  have hb2 : min i j + (((j - min i j).toNat : Nat) : Int) = j := by omega
  have e2 : sgv (if signed s m (i - min i j).toNat + signed t n (j - min i j).toNat = 0 then s && t else decide (signed s m (i - min i j).toNat + signed t n (j - min i j).toNat < 0)) (signed s m (i - min i j).toNat + signed t n (j - min i j).toNat).natAbs (min i j) = sgv s m i + sgv t n j := by
    rw [total_sgv, Rat.intCast_add]
    have h2 := signed_sgv s m (i - min i j).toNat (min i j)
    have h3 := signed_sgv t n (j - min i j).toNat (min i j)
    rw [hb1] at h2
    rw [hb2] at h3
    rw [← h2, ← h3]
    grind
  obtain ⟨h4, h5⟩ := write_ok (sgv_abs.2 ⟨by rw [e2]; exact h, by rw [e2]; exact h'⟩) h0 h1
  rw [e2] at h5
  exact ⟨_, rfl, h4, h5⟩
theorem add_ok {x y : Nat} {R : Rat} (hx : Num x) (hy : Num y) (h : -R ≤ val x + val y) (h' : val x + val y ≤ R) (h0 : p2 (-1022) ≤ R) (h1 : R ≤ p2 900) : ∃ r, F.add x y = some r ∧ Num r ∧ Nr (val r) (val x + val y) (R * uu) := by
  unfold Format.add
  rw [read_num hx, read_num hy]
  exact sum_ok h h' h0 h1
theorem sgv_not (s : Bool) (m : Nat) (p : Int) : sgv (!s) m p = -sgv s m p := by
  unfold sgv
  cases s <;> simp
theorem sub_ok {x y : Nat} {R : Rat} (hx : Num x) (hy : Num y) (h : -R ≤ val x - val y) (h' : val x - val y ≤ R) (h0 : p2 (-1022) ≤ R) (h1 : R ≤ p2 900) : ∃ r, F.sub x y = some r ∧ Num r ∧ Nr (val r) (val x - val y) (R * uu) := by
  unfold Format.sub
  rw [read_num hx, read_num hy]
  have e : val x - val y = sgv (sgn x) (md (mag x)) (plc (mag x)) + sgv (!sgn y) (md (mag y)) (plc (mag y)) := by
    rw [sgv_not]
    show val x - val y = val x + -val y
    grind
  rw [e] at h h' ⊢
  exact sum_ok h h' h0 h1
theorem div_ok {x y : Nat} {e : Int} {R : Rat} (hx : Num x) (hy : F.read y = .number false 4503599627370496 e) (h : -R ≤ val x * p2 (-52 - e)) (h' : val x * p2 (-52 - e) ≤ R) (h0 : p2 (-1022) ≤ R) (h1 : R ≤ p2 900) : ∃ r, F.div x y = some r ∧ Num r ∧ Nr (val r) (val x * p2 (-52 - e)) (R * uu) := by
  have hm := md_bd (mag x)
  have hl : (md (mag x)).log2 ≤ 52 := by
    rcases Nat.eq_zero_or_pos (md (mag x)) with h2 | h2
    · rw [h2]; decide
    · have := (Nat.log2_lt (n := md (mag x)) (k := 53) (by omega)).2 hm
      omega
  obtain ⟨k, hk⟩ : ∃ k, F.fractionBits + 2 + (4503599627370496 : Nat).log2 - (md (mag x)).log2 = 52 + k := by
    have e1 : F.fractionBits = 52 := rfl
    have e2 : (4503599627370496 : Nat).log2 = 52 := by decide +kernel
    exact ⟨F.fractionBits + 2 + (4503599627370496 : Nat).log2 - (md (mag x)).log2 - 52, by omega⟩
  have ed : md (mag x) <<< (52 + k) = md (mag x) * 2 ^ k * 4503599627370496 := by
    rw [Nat.shiftLeft_eq, Nat.pow_add, pow52, Nat.mul_comm (2 ^ 52), Nat.mul_assoc]
  have eq : F.div x y = some (F.write (.number (sgn x) (2 * (md (mag x) * 2 ^ k)) (plc (mag x) - e - (52 + k : Nat) - 1))) := by
    unfold Format.div
    rw [read_num hx, hy]
    unfold Datum.quotient
    dsimp only
    rw [if_neg (show ¬ (4503599627370496 : Nat) = 0 by decide)]
    rw [hk, ed, Nat.mul_div_cancel _ (by decide), Nat.mul_mod_left, Bool.xor_false]
    rfl
  have ev : sgv (sgn x) (2 * (md (mag x) * 2 ^ k)) (plc (mag x) - e - (52 + k : Nat) - 1) = val x * p2 (-52 - e) := by
    have ep : p2 (plc (mag x)) * p2 (-52 - e) = 2 * ((2 ^ k : Nat) : Rat) * p2 (plc (mag x) - e - (52 + k : Nat) - 1) := by
      rw [← p2_add, ← p2_nat, ← p2_one, ← p2_add, ← p2_add]
      exact congrArg p2 (by omega)
    unfold val sgv
    rw [Rat.natCast_mul, Rat.natCast_mul, show ((2 : Nat) : Rat) = 2 from rfl]
    cases sgn x
    · rw [if_neg (by decide), if_neg (by decide)]; grind
    · rw [if_pos rfl, if_pos rfl]; grind
  obtain ⟨h4, h5⟩ := write_ok (sgv_abs.2 ⟨by rw [ev]; exact h, by rw [ev]; exact h'⟩) h0 h1
  rw [ev] at h5
  exact ⟨_, eq, h4, h5⟩
/-! ### the sign changed -/
theorem xor_top {q : Nat} (h : q < 9223372036854775808) : q ^^^ 2 ^ 63 = 2 ^ 63 + q := by
  have e := Nat.two_pow_add_eq_or_of_lt (i := 63) (b := q) h 1
  rw [Nat.mul_one] at e
  rw [e]
  apply Nat.eq_of_testBit_eq
  intro i
  rw [Nat.testBit_xor, Nat.testBit_or, Nat.testBit_two_pow]
  by_cases c : 63 = i
  · subst c
    rw [Nat.testBit_lt_two_pow h, decide_eq_true rfl]
    rfl
  · rw [decide_eq_false c]
    simp
theorem neg_wd (s : Bool) {q : Nat} (h : q < 9223372036854775808) : Op.negFloat .f64 (Fl.wd s q) = Fl.wd (!s) q := by
  show Fl.wd s q ^^^ 2 ^ 63 = Fl.wd (!s) q
  cases s
  · rw [wd_false, xor_top h]
    rfl
  · show (9223372036854775808 + q) ^^^ 2 ^ 63 = Fl.wd false q
    rw [wd_false, show 9223372036854775808 + q = q ^^^ 2 ^ 63 from (xor_top h).symm, Nat.xor_assoc, Nat.xor_self, Nat.xor_zero]
theorem neg_ok {x : Nat} (hx : Num x) : Num (Op.negFloat .f64 x) ∧ val (Op.negFloat .f64 x) = -val x := by
  have hm : mag x < 9218868437227405312 := hx.1
  rw [show Op.negFloat .f64 x = Fl.wd (!sgn x) (mag x) from by
    conv => lhs; rw [x_wd hx.2]
    exact neg_wd _ (by omega)]
  obtain ⟨h1, h2⟩ := wd_num (!sgn x) hm
  exact ⟨h1, by rw [h2, sgv_not]; rfl⟩
/-! ### whole numbers -/
theorem cancel_r {a b c : Rat} (hc : 0 < c) (he : a * c = b * c) : a = b := by
  have h10 : a * (c * c⁻¹) = b * (c * c⁻¹) := by rw [← Rat.mul_assoc, he, Rat.mul_assoc]
  rwa [Rat.mul_inv_cancel c (by grind), Rat.mul_one, Rat.mul_one] at h10
theorem int_val {n : Int} (h : -9007199254740992 < n) (h' : n < 9007199254740992) : Num (FloatKind.f64.nearest n) ∧ val (FloatKind.f64.nearest n) = (n : Rat) := by
  show Num (F.nearest (decide (n < 0)) n.natAbs 0) ∧ val (F.nearest (decide (n < 0)) n.natAbs 0) = (n : Rat)
  rw [near_sign]
  have key : F.nearest false n.natAbs 0 < 9218868437227405312 ∧ ((md (F.nearest false n.natAbs 0) : Nat) : Rat) * p2 (plc (F.nearest false n.natAbs 0)) = ((n.natAbs : Nat) : Rat) := by
    rcases Nat.eq_zero_or_pos n.natAbs with h2 | h2
    · rw [h2]; exact ⟨by decide +kernel, by decide +kernel⟩
    · obtain ⟨h3, h4⟩ := near_V (n := n.natAbs) (p := 0) h2 (by omega) (by decide) (by decide)
      refine ⟨h3, ?_⟩
      generalize F.nearest false n.natAbs 0 = q at h3 h4
      have h5 := plc_lo q
      unfold V at h4
      have h6 : ((md q * 2 ^ (plc q + 1074).toNat : Nat) : Rat) = ((n.natAbs * 2 ^ ((0 : Int) + 1074).toNat : Nat) : Rat) := congrArg _ h4
      rw [Rat.natCast_mul, Rat.natCast_mul, ← p2_nat, ← p2_nat, show (((plc q + 1074).toNat : Nat) : Int) = plc q + 1074 from by omega, p2_add, show ((((0 : Int) + 1074).toNat : Nat) : Int) = 1074 from rfl] at h6
      have h7 := p2_pos 1074
      have h8 : (((md q : Nat) : Rat) * p2 (plc q)) * p2 1074 = ((n.natAbs : Nat) : Rat) * p2 1074 := by
        rw [Rat.mul_assoc]
        exact h6
      exact cancel_r h7 h8
  obtain ⟨h1, h2⟩ := wd_num (decide (n < 0)) key.1
  refine ⟨h1, ?_⟩
  rw [h2]
  unfold sgv
  rw [key.2]
  by_cases c : n < 0
  · rw [decide_eq_true c, if_pos rfl, ← Rat.intCast_natCast, ← Rat.intCast_neg]
    exact congrArg _ (by omega)
  · rw [decide_eq_false c, if_neg (by decide), ← Rat.intCast_natCast]
    exact congrArg _ (by omega)
end Go.Proofs.Ytfibadnkhbjciaa.Pm
namespace Go.Proofs.Ytfibadnkhbjciaa.Pm
open Go Ieee Fl

structure Cq where
  re : Rat
  im : Rat
instance : Add Cq := ⟨fun z w => ⟨z.re + w.re, z.im + w.im⟩⟩
instance : Sub Cq := ⟨fun z w => ⟨z.re - w.re, z.im - w.im⟩⟩
instance : Mul Cq := ⟨fun z w => ⟨z.re * w.re - z.im * w.im, z.re * w.im + z.im * w.re⟩⟩
instance : Neg Cq := ⟨fun z => ⟨-z.re, -z.im⟩⟩
def cj (z : Cq) : Cq := ⟨z.re, -z.im⟩
def c0 : Cq := ⟨0, 0⟩
def c1 : Cq := ⟨1, 0⟩
theorem re_add (z w : Cq) : (z + w).re = z.re + w.re := rfl
theorem im_add (z w : Cq) : (z + w).im = z.im + w.im := rfl
theorem re_sub (z w : Cq) : (z - w).re = z.re - w.re := rfl
theorem im_sub (z w : Cq) : (z - w).im = z.im - w.im := rfl
theorem re_mul (z w : Cq) : (z * w).re = z.re * w.re - z.im * w.im := rfl
theorem im_mul (z w : Cq) : (z * w).im = z.re * w.im + z.im * w.re := rfl
theorem re_neg (z : Cq) : (-z).re = -z.re := rfl
theorem im_neg (z : Cq) : (-z).im = -z.im := rfl
theorem re_cj (z : Cq) : (cj z).re = z.re := rfl
theorem im_cj (z : Cq) : (cj z).im = -z.im := rfl
theorem re_c0 : c0.re = 0 := rfl
theorem im_c0 : c0.im = 0 := rfl
theorem re_c1 : c1.re = 1 := rfl
theorem im_c1 : c1.im = 0 := rfl
theorem ext_c {z w : Cq} (h : z.re = w.re) (h' : z.im = w.im) : z = w := by
  cases z; cases w
  cases h; cases h'
  rfl
theorem mul_comm_c (z w : Cq) : z * w = w * z := by apply ext_c <;> simp only [re_mul, im_mul] <;> grind
theorem mul_assoc_c (z w v : Cq) : z * w * v = z * (w * v) := by apply ext_c <;> simp only [re_mul, im_mul] <;> grind
theorem mul_add_c (z w v : Cq) : z * (w + v) = z * w + z * v := by apply ext_c <;> simp only [re_mul, im_mul, re_add, im_add] <;> grind
theorem add_mul_c (z w v : Cq) : (w + v) * z = w * z + v * z := by apply ext_c <;> simp only [re_mul, im_mul, re_add, im_add] <;> grind
theorem mul_one_c (z : Cq) : z * c1 = z := by apply ext_c <;> simp only [re_mul, im_mul, re_c1, im_c1] <;> grind
theorem one_mul_c (z : Cq) : c1 * z = z := by rw [mul_comm_c, mul_one_c]
theorem mul_zero_c (z : Cq) : z * c0 = c0 := by apply ext_c <;> simp only [re_mul, im_mul, re_c0, im_c0] <;> grind
theorem zero_mul_c (z : Cq) : c0 * z = c0 := by rw [mul_comm_c, mul_zero_c]
theorem zero_add_c (z : Cq) : c0 + z = z := by apply ext_c <;> simp only [re_add, im_add, re_c0, im_c0] <;> grind
theorem add_zero_c (z : Cq) : z + c0 = z := by apply ext_c <;> simp only [re_add, im_add, re_c0, im_c0] <;> grind
theorem add_assoc_c (z w v : Cq) : z + w + v = z + (w + v) := by apply ext_c <;> simp only [re_add, im_add] <;> grind
theorem add_comm_c (z w : Cq) : z + w = w + z := by apply ext_c <;> simp only [re_add, im_add] <;> grind
theorem cj_mul (z w : Cq) : cj (z * w) = cj z * cj w := by apply ext_c <;> simp only [re_mul, im_mul, re_cj, im_cj] <;> grind
theorem cj_add (z w : Cq) : cj (z + w) = cj z + cj w := by apply ext_c <;> simp only [re_add, im_add, re_cj, im_cj] <;> grind
theorem cj_cj (z : Cq) : cj (cj z) = z := by apply ext_c <;> simp only [re_cj, im_cj] <;> grind

/-! ### how great -/
def nq (z : Cq) : Rat := z.re * z.re + z.im * z.im
def Bd (z : Cq) (r : Rat) : Prop := 0 ≤ r ∧ nq z ≤ r * r
theorem sq_nn (x : Rat) : 0 ≤ x * x := by
  rcases (Rat.le_total : 0 ≤ x ∨ x ≤ 0) with h | h
  · exact Rat.mul_nonneg h h
  · have := Rat.mul_nonneg (show 0 ≤ -x by grind) (show 0 ≤ -x by grind)
    grind
theorem le_of_sq {x y : Rat} (hy : 0 ≤ y) (h : x * x ≤ y * y) : x ≤ y := by
  rcases (Rat.le_total : x ≤ y ∨ y ≤ x) with h1 | h1
  · exact h1
  · have h2 := Rat.mul_le_mul_of_nonneg_left h1 (show 0 ≤ x by grind)
    have h3 := Rat.mul_le_mul_of_nonneg_left h1 hy
    by_cases c : x = y
    · rw [c]; exact Rat.le_refl
    · have h4 : 0 < x - y := by grind
      have h5 := Rat.mul_pos h4 h4
      have h6 : (x - y) * (x - y) ≤ 0 := by grind
      grind
theorem sq_le_sq {x y : Rat} (h0 : 0 ≤ x) (h : x ≤ y) : x * x ≤ y * y := mul_le h h (Rat.le_trans h0 h) h0
theorem bd_mono {z : Cq} {r s : Rat} (h : Bd z r) (hs : r ≤ s) : Bd z s := ⟨Rat.le_trans h.1 hs, Rat.le_trans h.2 (sq_le_sq h.1 hs)⟩
theorem bd_mul {z w : Cq} {r s : Rat} (h : Bd z r) (h' : Bd w s) : Bd (z * w) (r * s) := by
  refine ⟨Rat.mul_nonneg h.1 h'.1, ?_⟩
  have e : nq (z * w) = nq z * nq w := by unfold nq; simp only [re_mul, im_mul]; grind
  rw [e]
  have h1 := mul_le h.2 h'.2 (sq_nn r) (show 0 ≤ nq w from Rat.add_nonneg (sq_nn _) (sq_nn _))
  grind
theorem bd_add {z w : Cq} {r s : Rat} (h : Bd z r) (h' : Bd w s) : Bd (z + w) (r + s) := by
  refine ⟨Rat.add_nonneg h.1 h'.1, ?_⟩
  have hx : z.re * w.re + z.im * w.im ≤ r * s := by
    refine le_of_sq (Rat.mul_nonneg h.1 h'.1) ?_
    have h1 := mul_le h.2 h'.2 (sq_nn r) (show 0 ≤ nq w from Rat.add_nonneg (sq_nn _) (sq_nn _))
    have h2 := sq_nn (z.re * w.im - z.im * w.re)
    unfold nq at h1
    grind
  have h3 := h.2
  have h4 := h'.2
  unfold nq at *
  simp only [re_add, im_add]
  grind
theorem bd_neg {z : Cq} {r : Rat} (h : Bd z r) : Bd (-z) r := by
  refine ⟨h.1, ?_⟩
  have := h.2
  unfold nq at *
  simp only [re_neg, im_neg]
  grind
theorem bd_cj {z : Cq} {r : Rat} (h : Bd z r) : Bd (cj z) r := by
  refine ⟨h.1, ?_⟩
  have := h.2
  unfold nq at *
  simp only [re_cj, im_cj]
  grind
theorem bd_re {z : Cq} {r : Rat} (h : Bd z r) : -r ≤ z.re ∧ z.re ≤ r := by
  have h1 : z.re * z.re ≤ r * r := by have := h.2; have := sq_nn z.im; unfold nq at *; grind
  have h2 := le_of_sq h.1 h1
  have h3 : -z.re ≤ r := le_of_sq h.1 (by grind)
  constructor <;> grind
theorem bd_im {z : Cq} {r : Rat} (h : Bd z r) : -r ≤ z.im ∧ z.im ≤ r := by
  have h1 : z.im * z.im ≤ r * r := by have := h.2; have := sq_nn z.re; unfold nq at *; grind
  have h2 := le_of_sq h.1 h1
  have h3 : -z.im ≤ r := le_of_sq h.1 (by grind)
  constructor <;> grind
theorem abs_sq {x a : Rat} (h : -a ≤ x) (h' : x ≤ a) : x * x ≤ a * a := by
  have ha : 0 ≤ a := by grind
  rcases (Rat.le_total : 0 ≤ x ∨ x ≤ 0) with c | c
  · exact sq_le_sq c h'
  · have := sq_le_sq (show 0 ≤ -x by grind) (show -x ≤ a by grind)
    grind
/-- Both parts are small. -/
theorem bd_of {z : Cq} {a : Rat} (h1 : -a ≤ z.re) (h2 : z.re ≤ a) (h3 : -a ≤ z.im) (h4 : z.im ≤ a) : Bd z (3 / 2 * a) := by
  have h5 := abs_sq h1 h2
  have h6 := abs_sq h3 h4
  have h7 := sq_nn a
  refine ⟨by grind, ?_⟩
  unfold nq
  grind
theorem bd_zero {r : Rat} (h : 0 ≤ r) : Bd c0 r := by
  refine ⟨h, ?_⟩
  have := sq_nn r
  unfold nq c0
  grind
theorem bd_sub {z w : Cq} {r s : Rat} (h : Bd z r) (h' : Bd w s) : Bd (z - w) (r + s) := by
  have e : z - w = z + -w := by apply ext_c <;> simp only [re_sub, im_sub, re_add, im_add, re_neg, im_neg] <;> grind
  rw [e]
  exact bd_add h (bd_neg h')
/-- From one to the other, by way of a third. -/
theorem bd_via {z w v : Cq} {r s : Rat} (h : Bd (z - w) r) (h' : Bd (w - v) s) : Bd (z - v) (r + s) := by
  have e : z - v = (z - w) + (w - v) := by apply ext_c <;> simp only [re_sub, im_sub, re_add, im_add] <;> grind
  rw [e]
  exact bd_add h h'
theorem bd_near {z w : Cq} {r s : Rat} (h : Bd (z - w) r) (h' : Bd w s) : Bd z (s + r) := by
  have e : z = w + (z - w) := by apply ext_c <;> simp only [re_sub, im_sub, re_add, im_add] <;> grind
  rw [e]
  exact bd_add h' h
theorem bd_self (z : Cq) {r : Rat} (h : 0 ≤ r) : Bd (z - z) r := by
  have e : z - z = c0 := by apply ext_c <;> simp only [re_sub, im_sub, re_c0, im_c0] <;> grind
  rw [e]
  exact bd_zero h
theorem bd_swap {z w : Cq} {r : Rat} (h : Bd (z - w) r) : Bd (w - z) r := by
  have e : w - z = -(z - w) := by apply ext_c <;> simp only [re_sub, im_sub, re_neg, im_neg] <;> grind
  rw [e]
  exact bd_neg h

/-! ### powers -/
def pw (z : Cq) : Nat → Cq
  | 0 => c1
  | n + 1 => pw z n * z
theorem pw_add (z : Cq) (m : Nat) : ∀ n, pw z (m + n) = pw z m * pw z n
  | 0 => (mul_one_c _).symm
  | n + 1 => by
    rw [← Nat.add_assoc, pw, pw_add z m n, pw, mul_assoc_c]
theorem pw_mul (z : Cq) (m : Nat) : ∀ n, pw z (m * n) = pw (pw z m) n
  | 0 => rfl
  | n + 1 => by rw [Nat.mul_succ, pw_add, pw_mul z m n, pw]
theorem pw_one : ∀ n, pw c1 n = c1
  | 0 => rfl
  | n + 1 => by rw [pw, pw_one n, mul_one_c]
theorem pw_cj (z : Cq) : ∀ n, pw (cj z) n = cj (pw z n)
  | 0 => by apply ext_c <;> simp only [pw, re_cj, im_cj, re_c1, im_c1] <;> grind
  | n + 1 => by rw [pw, pw_cj z n, pw, cj_mul]
/-- On the circle. -/
def Un (z : Cq) : Prop := nq z = 1
theorem un_mul {z w : Cq} (h : Un z) (h' : Un w) : Un (z * w) := by
  have e : nq (z * w) = nq z * nq w := by unfold nq; simp only [re_mul, im_mul]; grind
  unfold Un at *
  rw [e, h, h', Rat.mul_one]
theorem un_one : Un c1 := by unfold Un nq c1; decide +kernel
theorem un_cj {z : Cq} (h : Un z) : Un (cj z) := by
  unfold Un nq at *
  simp only [re_cj, im_cj]
  grind
theorem un_pw {z : Cq} (h : Un z) : ∀ n, Un (pw z n)
  | 0 => un_one
  | n + 1 => un_mul (un_pw h n) h
theorem un_bd {z : Cq} (h : Un z) : Bd z 1 := ⟨by decide, by rw [h]; decide +kernel⟩
theorem un_inv {z : Cq} (h : Un z) : z * cj z = c1 := by
  unfold Un nq at h
  apply ext_c <;> simp only [re_mul, im_mul, re_cj, im_cj, re_c1, im_c1] <;> grind
/-- The powers of numbers on the circle that are near. -/
theorem pw_near {z w : Cq} {e : Rat} (hz : Un z) (hw : Un w) (h : Bd (z - w) e) : ∀ n : Nat, Bd (pw z n - pw w n) ((n : Rat) * e)
  | 0 => bd_self _ (by rw [show ((0 : Nat) : Rat) = 0 from rfl, Rat.zero_mul]; decide)
  | n + 1 => by
    have h1 := bd_add (bd_mul (pw_near hz hw h n) (un_bd hz)) (bd_mul (un_bd (un_pw hw n)) h)
    have e1 : pw z (n + 1) - pw w (n + 1) = (pw z n - pw w n) * z + pw w n * (z - w) := by
      rw [pw, pw]
      apply ext_c <;> simp only [re_sub, im_sub, re_mul, im_mul, re_add, im_add] <;> grind
    rw [e1]
    refine bd_mono h1 ?_
    rw [Rat.natCast_add, show ((1 : Nat) : Rat) = 1 from rfl]
    grind

/-! ### sums -/
def sm (f : Nat → Cq) : Nat → Cq
  | 0 => c0
  | n + 1 => sm f n + f n
theorem sm_congr {f g : Nat → Cq} : ∀ {n : Nat}, (∀ i, i < n → f i = g i) → sm f n = sm g n
  | 0, _ => rfl
  | n + 1, h => by rw [sm, sm, sm_congr (n := n) fun i hi => h i (by omega), h n (Nat.lt_succ_self n)]
theorem sm_split (f : Nat → Cq) (m : Nat) : ∀ n, sm f (m + n) = sm f m + sm (fun i => f (m + i)) n
  | 0 => (add_zero_c _).symm
  | n + 1 => by rw [← Nat.add_assoc, sm, sm_split f m n, sm, add_assoc_c]
theorem sm_add (f g : Nat → Cq) : ∀ n, sm (fun i => f i + g i) n = sm f n + sm g n
  | 0 => (add_zero_c _).symm
  | n + 1 => by
    rw [sm, sm_add f g n, sm, sm]
    apply ext_c <;> simp only [re_add, im_add] <;> grind
theorem sm_mul (z : Cq) (f : Nat → Cq) : ∀ n, sm (fun i => z * f i) n = z * sm f n
  | 0 => (mul_zero_c _).symm
  | n + 1 => by rw [sm, sm_mul z f n, sm, mul_add_c]
theorem sm_cj (f : Nat → Cq) : ∀ n, sm (fun i => cj (f i)) n = cj (sm f n)
  | 0 => by apply ext_c <;> simp only [sm, re_cj, im_cj, re_c0, im_c0] <;> grind
  | n + 1 => by rw [sm, sm_cj f n, sm, cj_add]
theorem sm_zero : ∀ n, sm (fun _ => c0) n = c0
  | 0 => rfl
  | n + 1 => by rw [sm, sm_zero n, add_zero_c]
theorem sm_swap (f : Nat → Nat → Cq) (m : Nat) : ∀ n, sm (fun i => sm (fun j => f i j) m) n = sm (fun j => sm (fun i => f i j) n) m
  | 0 => (sm_zero m).symm
  | n + 1 => by
    rw [sm, sm_swap f m n, ← sm_add]
    rfl
theorem sm_bd {f : Nat → Cq} {r : Rat} : ∀ {n : Nat}, (∀ i, i < n → Bd (f i) r) → Bd (sm f n) ((n : Rat) * r)
  | 0, _ => bd_zero (by rw [show ((0 : Nat) : Rat) = 0 from rfl, Rat.zero_mul]; decide)
  | n + 1, h => by
    refine bd_mono (bd_add (sm_bd (n := n) fun i hi => h i (by omega)) (h n (Nat.lt_succ_self n))) ?_
    rw [Rat.natCast_add, show ((1 : Nat) : Rat) = 1 from rfl]
    grind
theorem sm_sub (f g : Nat → Cq) : ∀ n, sm (fun i => f i - g i) n = sm f n - sm g n
  | 0 => by apply ext_c <;> simp only [sm, re_sub, im_sub, re_c0, im_c0] <;> grind
  | n + 1 => by
    rw [sm, sm_sub f g n, sm, sm]
    apply ext_c <;> simp only [re_add, im_add, re_sub, im_sub] <;> grind
theorem sm_near {f g : Nat → Cq} {r : Rat} {n : Nat} (h : ∀ i, i < n → Bd (f i - g i) r) : Bd (sm f n - sm g n) ((n : Rat) * r) := by
  rw [← sm_sub]
  exact sm_bd h
/-- The even ones and the odd ones. -/
theorem sm_even (f : Nat → Cq) : ∀ n, sm f (2 * n) = sm (fun i => f (2 * i)) n + sm (fun i => f (2 * i + 1)) n
  | 0 => (add_zero_c _).symm
  | n + 1 => by
    rw [show 2 * (n + 1) = 2 * n + 1 + 1 from rfl, sm, sm, sm_even f n, sm, sm]
    apply ext_c <;> simp only [re_add, im_add] <;> grind
/-- Bits turned round leave the sum as it is. -/
theorem sm_brev : ∀ (L : Nat) (f : Nat → Cq), sm (fun j => f (brev L j)) (2 ^ L) = sm f (2 ^ L)
  | 0, f => rfl
  | L + 1, f => by
    have hp := Nat.pow_pos (n := L) (show 0 < 2 by decide)
    rw [Nat.pow_succ, Nat.mul_two, sm_split]
    have h1 : sm (fun j => f (brev (L + 1) j)) (2 ^ L) = sm (fun i => f (2 * brev L i)) (2 ^ L) := sm_congr fun i hi => by
      rw [brev, Nat.mod_eq_of_lt hi, Nat.div_eq_of_lt hi, Nat.add_zero]
    have h2 : sm (fun i => f (brev (L + 1) (2 ^ L + i))) (2 ^ L) = sm (fun i => f (2 * brev L i + 1)) (2 ^ L) := sm_congr fun i hi => by
      rw [brev, Nat.add_mod_left, Nat.mod_eq_of_lt hi, Nat.add_div_left _ hp, Nat.div_eq_of_lt hi]
    rw [h1, h2, ← Nat.two_mul, sm_even, sm_brev L (fun i => f (2 * i)), sm_brev L (fun i => f (2 * i + 1))]

/-! ### all powers together -/
theorem geo_succ (z : Cq) (L : Nat) : sm (pw z) (2 ^ (L + 1)) = sm (pw z) (2 ^ L) * (c1 + pw z (2 ^ L)) := by
  rw [Nat.pow_succ, Nat.mul_two, sm_split, mul_add_c, mul_one_c, mul_comm_c _ (pw z (2 ^ L)), ← sm_mul]
  exact congrArg _ (sm_congr fun i _ => pw_add z _ _)
def tw (l : Nat) : Rat := ((2 ^ l : Nat) : Rat)
theorem tw_succ (l : Nat) : tw (l + 1) = 2 * tw l := by
  unfold tw
  rw [Nat.pow_succ, Rat.natCast_mul, show ((2 : Nat) : Rat) = 2 from rfl]
  grind
theorem tw_pos (l : Nat) : 1 ≤ tw l := nat_pos (Nat.pow_pos (by decide))
theorem geo_small {z : Cq} {r : Rat} (hz : Un z) : ∀ {L s : Nat}, s < L → Bd (c1 + pw z (2 ^ s)) r → Bd (sm (pw z) (2 ^ L)) (tw L * r)
  | 0, s, h, _ => absurd h (Nat.not_lt_zero s)
  | L + 1, s, h, hr => by
    rw [geo_succ, tw_succ]
    have htw := tw_pos L
    have hr0 := hr.1
    by_cases c : s = L
    · subst c
      have h1 : Bd (sm (pw z) (2 ^ s)) (tw s * 1) := sm_bd fun i _ => un_bd (un_pw hz i)
      refine bd_mono (bd_mul h1 hr) ?_
      have := Rat.mul_nonneg (show 0 ≤ tw s by grind) hr0
      grind
    · have h1 := geo_small hz (show s < L by omega) hr
      have h2 := bd_add (un_bd un_one) (un_bd (un_pw hz (2 ^ L)))
      refine bd_mono (bd_mul h1 h2) ?_
      grind
theorem sm_c1 : ∀ n : Nat, sm (fun _ => c1) n = ⟨(n : Rat), 0⟩
  | 0 => rfl
  | n + 1 => by
    rw [sm, sm_c1 n]
    apply ext_c
    · simp only [re_add, re_c1]
      rw [Rat.natCast_add]
      rfl
    · simp only [im_add, im_c1]
      grind
end Go.Proofs.Ytfibadnkhbjciaa.Pm
namespace Go.Proofs.Ytfibadnkhbjciaa.Pm
open Go Ieee Fl

-- constants
def WA : Int := 1725420346116711657611170970458522125759536544629044366005224825106268
def WB : Int := -10587179515738767504428497537962453601501162083266529234909948542976
def WD : Int := 1725452827278570236106206960679990600466017941456148911576037286793380
def ztL : List (Int × Int) := [(1298074214633706907132624082305024, 0), (-1298074214633706907132624082305024, 0), (0, -1298074214633706907132624082305024), (917877079650896116428504075918675, -917877079650896116428504075918675), (1199264198580744843200563224800007, -496751495920645200810837888250848), (1273132082583723374915870621466443, -253241716533722681186692175553789), (1291823632490472243930577892241866, -127233522453936218243212482202206), (1296510627393244155817624562215894, -63693482816465641641660407688366), (1297683258949319844270364972079526, -31856335941025695302225088976891), (1297976472032691094557252699154536, -15929367422583359042469139344820)]
-- end of constants
/-- A root of one of order 1024, but for a hair; on the circle. -/
def W1 : Cq := ⟨(WA : Rat) / (WD : Rat), (WB : Rat) / (WD : Rat)⟩
theorem un_W1 : Un W1 := by unfold Un; decide +kernel
/-- The root of order 2, 4, 8 .. -/
def Rt (l : Nat) : Cq := pw W1 (2 ^ (10 - l))
theorem un_Rt (l : Nat) : Un (Rt l) := un_pw un_W1 _
theorem Rt_sq {l : Nat} (h : l < 10) : Rt (l + 1) * Rt (l + 1) = Rt l := by
  unfold Rt
  rw [← pw_add, ← Nat.two_mul, ← Nat.pow_succ', show (10 - (l + 1)).succ = 10 - l from by omega]
theorem Rt_two {l : Nat} (h : l < 10) (m : Nat) : pw (Rt (l + 1)) (2 * m) = pw (Rt l) m := by
  rw [pw_mul, show pw (Rt (l + 1)) 2 = Rt l from by rw [← Rt_sq h]; rw [pw, pw, pw, one_mul_c]]
def zt (l : Nat) : Cq := if l = 10 then W1 else ⟨((ztL.getD l (0, 0)).1 : Rat) / 1298074214633706907132624082305024, ((ztL.getD l (0, 0)).2 : Rat) / 1298074214633706907132624082305024⟩
def hair : Rat := 1 / 1267650600228229401496703205376
instance (z : Cq) (r : Rat) : Decidable (Bd z r) := by unfold Bd; infer_instance
theorem zt_ok : ∀ l, l < 10 → Bd (zt (l + 1) * zt (l + 1) - zt l) hair := by decide +kernel
theorem zt_bd : ∀ l, l < 11 → Bd (zt l) 2 := by decide +kernel
theorem zt_near : ∀ d, d ≤ 10 → Bd (Rt (10 - d) - zt (10 - d)) (((4 ^ d : Nat) : Rat) * hair)
  | 0, _ => by
    have e : Rt (10 - 0) = zt (10 - 0) := by
      show pw W1 1 = W1
      rw [pw, pw, one_mul_c]
    rw [e]
    exact bd_self _ (by decide +kernel)
  | d + 1, h => by
    have h1 := zt_near d (by omega)
    have h2 := zt_ok (10 - (d + 1)) (by omega)
    have h3 := zt_bd (10 - d) (by omega)
    have h4 := un_bd (un_Rt (10 - d))
    rw [show 10 - d = 10 - (d + 1) + 1 from by omega] at h1 h3 h4
    rw [← Rt_sq (show 10 - (d + 1) < 10 by omega)]
    generalize Rt (10 - (d + 1) + 1) = a at *
    generalize zt (10 - (d + 1) + 1) = b at *
    have h5 := bd_mul h1 (bd_add h4 h3)
    have e : (a - b) * (a + b) = a * a - b * b := by apply ext_c <;> simp only [re_sub, im_sub, re_mul, im_mul, re_add, im_add] <;> grind
    rw [e] at h5
    refine bd_mono (bd_via h5 h2) ?_
    have h6 : (1 : Rat) ≤ ((4 ^ d : Nat) : Rat) := nat_pos (Nat.pow_pos (by decide))
    have h7 : (0 : Rat) ≤ hair := by decide +kernel
    rw [Nat.pow_succ, Rat.natCast_mul, show ((4 : Nat) : Rat) = 4 from rfl]
    have h8 := Rat.mul_le_mul_of_nonneg_right h6 h7
    grind
/-- Half way round is minus one, but for a hair. -/
def eta : Rat := ((4 ^ 9 : Nat) : Rat) * hair
theorem half_way : Bd (c1 + pw W1 512) eta := by
  have h1 := zt_near 9 (by decide)
  have e : Rt (10 - 9) = pw W1 512 := rfl
  have e2 : zt (10 - 9) = -c1 := by
    apply ext_c
    · decide +kernel
    · decide +kernel
  rw [e, e2] at h1
  have e3 : c1 + pw W1 512 = pw W1 512 - -c1 := by apply ext_c <;> simp only [re_sub, im_sub, re_add, im_add, re_neg, im_neg] <;> grind
  rw [e3]
  exact h1
def cval (p : FC) : Cq := ⟨val p.1, val p.2⟩
theorem rt_ok : ∀ l, l < 11 → Bd (cval (rtOf l) - zt l) (7 / 10 * uu) := by decide +kernel
theorem rt_num : ∀ l, l < 11 → mag (rtOf l).1 < 9218868437227405312 ∧ (rtOf l).1 < 18446744073709551616 ∧ mag (rtOf l).2 < 9218868437227405312 ∧ (rtOf l).2 < 18446744073709551616 := by decide +kernel
theorem rt_near {l : Nat} (h : l < 11) : Bd (cval (rtOf l) - Rt l) (3 / 4 * uu) := by
  have h1 := zt_near (10 - l) (by omega)
  rw [show 10 - (10 - l) = l from by omega] at h1
  refine bd_mono (bd_via (rt_ok l h) (bd_swap h1)) ?_
  have h2 : ((4 ^ (10 - l) : Nat) : Rat) ≤ ((4 ^ 10 : Nat) : Rat) := Rat.natCast_le_natCast.2 (Nat.pow_le_pow_right (by decide) (by omega))
  have h3 := Rat.mul_le_mul_of_nonneg_right h2 (show (0 : Rat) ≤ hair by decide +kernel)
  have h4 : 7 / 10 * uu + ((4 ^ 10 : Nat) : Rat) * hair ≤ 3 / 4 * uu := by decide +kernel
  grind
/-! ### pairs of floats -/
theorem abs_mul {a c r s : Rat} (h1 : -r ≤ a) (h2 : a ≤ r) (h3 : -s ≤ c) (h4 : c ≤ s) : -(r * s) ≤ a * c ∧ a * c ≤ r * s := by
  have hr : 0 ≤ r := by grind
  have e := mul_le (abs_sq h1 h2) (abs_sq h3 h4) (sq_nn r) (sq_nn c)
  have hs : 0 ≤ r * s := Rat.mul_nonneg hr (by grind)
  have h5 : a * c ≤ r * s := le_of_sq hs (by grind)
  have h6 : -(a * c) ≤ r * s := le_of_sq hs (by grind)
  constructor <;> grind
def Ok (e : Rat) (p : FC) (z : Cq) : Prop := Num p.1 ∧ Num p.2 ∧ Bd (cval p - z) e
theorem uu_small : uu ≤ 1 / 1000000000000000 := by rw [uu_eq]; decide +kernel
theorem cmul_ok {p q : FC} {r s R : Rat} (hp : Num p.1 ∧ Num p.2) (hq : Num q.1 ∧ Num q.2) (hr : Bd (cval p) r) (hs : Bd (cval q) s) (hR : r * s ≤ R) (h0 : p2 (-1022) ≤ R) (h1 : R ≤ p2 800) :
    ∃ t, cMul p.1 p.2 q.1 q.2 = some t ∧ Ok (5 * uu * R) t (cval p * cval q) := by
  obtain ⟨a1, a2⟩ := bd_re hr
  obtain ⟨b1, b2⟩ := bd_im hr
  obtain ⟨x1, x2⟩ := bd_re hs
  obtain ⟨y1, y2⟩ := bd_im hs
  have hR0 : 0 ≤ R := Rat.le_trans (p2_nn _) h0
  have hu := uu_small
  have hu0 := uu_pos
  have hRu : 0 ≤ R * uu := Rat.mul_nonneg hR0 (Rat.le_of_lt hu0)
  have hRu2 : R * uu ≤ R * (1 / 1000000000000000) := Rat.mul_le_mul_of_nonneg_left hu hR0
  have hS0 : p2 (-1022) ≤ 1001 / 1000 * R := by grind
  have hp8 : 1001 / 1000 * p2 800 ≤ p2 900 := by decide +kernel
  have hS1 : 1001 / 1000 * R ≤ p2 900 := by grind
  have h9 : R ≤ p2 900 := by grind
  have g1 := abs_mul a1 a2 x1 x2
  have g2 := abs_mul b1 b2 y1 y2
  have g3 := abs_mul a1 a2 y1 y2
  have g4 := abs_mul b1 b2 x1 x2
  obtain ⟨k1, n1, e1⟩ := mul_ok hp.1 hq.1 (R := R) (show -R ≤ (cval p).re * (cval q).re by grind) (show (cval p).re * (cval q).re ≤ R by grind) h0 h9
  obtain ⟨k2, n2, e2⟩ := mul_ok hp.2 hq.2 (R := R) (show -R ≤ (cval p).im * (cval q).im by grind) (show (cval p).im * (cval q).im ≤ R by grind) h0 h9
  obtain ⟨k3, n3, e3⟩ := mul_ok hp.1 hq.2 (R := R) (show -R ≤ (cval p).re * (cval q).im by grind) (show (cval p).re * (cval q).im ≤ R by grind) h0 h9
  obtain ⟨k4, n4, e4⟩ := mul_ok hp.2 hq.1 (R := R) (show -R ≤ (cval p).im * (cval q).re by grind) (show (cval p).im * (cval q).re ≤ R by grind) h0 h9
  obtain ⟨m1, m2⟩ := bd_re (bd_mul hr hs)
  obtain ⟨m3, m4⟩ := bd_im (bd_mul hr hs)
  simp only [re_mul, im_mul] at m1 m2 m3 m4
  unfold Nr at e1 e2 e3 e4
  have f1 : val p.1 = (cval p).re := rfl
  have f2 : val p.2 = (cval p).im := rfl
  have f3 : val q.1 = (cval q).re := rfl
  have f4 : val q.2 = (cval q).im := rfl
  rw [f1, f3] at e1
  rw [f2, f4] at e2
  rw [f1, f4] at e3
  rw [f2, f3] at e4
  obtain ⟨k5, n5, e5⟩ := sub_ok e1.1 e2.1 (R := 1001 / 1000 * R) (by grind) (by grind) hS0 hS1
  obtain ⟨k6, n6, e6⟩ := add_ok e3.1 e4.1 (R := 1001 / 1000 * R) (by grind) (by grind) hS0 hS1
  unfold Nr at e5 e6
  refine ⟨(k5, k6), ?_, e5.1, e6.1, ?_⟩
  · unfold cMul
    have t1 : FloatKind.f64.format.mul p.1 q.1 = some k1 := n1
    have t2 : FloatKind.f64.format.mul p.2 q.2 = some k2 := n2
    have t3 : FloatKind.f64.format.mul p.1 q.2 = some k3 := n3
    have t4 : FloatKind.f64.format.mul p.2 q.1 = some k4 := n4
    have t5 : FloatKind.f64.format.sub k1 k2 = some k5 := n5
    have t6 : FloatKind.f64.format.add k3 k4 = some k6 := n6
    simp only [t1, t2, t3, t4, t5, t6, Option.bind_some]
  · refine bd_mono (bd_of (a := 3001 / 1000 * (R * uu) + 1 / 10 * (R * uu)) ?_ ?_ ?_ ?_) (by grind) <;> simp only [re_sub, im_sub, re_mul, im_mul, cval] <;> simp only [cval] at * <;> grind
theorem cadd_ok {p q : FC} {R : Rat} (hp : Num p.1 ∧ Num p.2) (hq : Num q.1 ∧ Num q.2) (hR : Bd (cval p + cval q) R) (h0 : p2 (-1022) ≤ R) (h1 : R ≤ p2 800) :
    ∃ t, cAdd p.1 p.2 q.1 q.2 = some t ∧ Ok (2 * uu * R) t (cval p + cval q) := by
  obtain ⟨a1, a2⟩ := bd_re hR
  obtain ⟨b1, b2⟩ := bd_im hR
  have h9 : R ≤ p2 900 := Rat.le_trans h1 (p2_mono (by decide))
  have hRu : 0 ≤ R * uu := Rat.mul_nonneg hR.1 (Rat.le_of_lt uu_pos)
  obtain ⟨k1, n1, e1⟩ := add_ok hp.1 hq.1 (R := R) a1 a2 h0 h9
  obtain ⟨k2, n2, e2⟩ := add_ok hp.2 hq.2 (R := R) b1 b2 h0 h9
  unfold Nr at e1 e2
  refine ⟨(k1, k2), ?_, e1.1, e2.1, ?_⟩
  · unfold cAdd
    have t1 : FloatKind.f64.format.add p.1 q.1 = some k1 := n1
    have t2 : FloatKind.f64.format.add p.2 q.2 = some k2 := n2
    simp only [t1, t2, Option.bind_some]
  · refine bd_mono (bd_of (a := R * uu) ?_ ?_ ?_ ?_) (by grind) <;> simp only [re_sub, im_sub, re_add, im_add, cval] <;> grind
theorem csub_ok {p q : FC} {R : Rat} (hp : Num p.1 ∧ Num p.2) (hq : Num q.1 ∧ Num q.2) (hR : Bd (cval p - cval q) R) (h0 : p2 (-1022) ≤ R) (h1 : R ≤ p2 800) :
    ∃ t, cSub p.1 p.2 q.1 q.2 = some t ∧ Ok (2 * uu * R) t (cval p - cval q) := by
  obtain ⟨a1, a2⟩ := bd_re hR
  obtain ⟨b1, b2⟩ := bd_im hR
  have h9 : R ≤ p2 900 := Rat.le_trans h1 (p2_mono (by decide))
  have hRu : 0 ≤ R * uu := Rat.mul_nonneg hR.1 (Rat.le_of_lt uu_pos)
  obtain ⟨k1, n1, e1⟩ := sub_ok hp.1 hq.1 (R := R) a1 a2 h0 h9
  obtain ⟨k2, n2, e2⟩ := sub_ok hp.2 hq.2 (R := R) b1 b2 h0 h9
  unfold Nr at e1 e2
  refine ⟨(k1, k2), ?_, e1.1, e2.1, ?_⟩
  · unfold cSub
    have t1 : FloatKind.f64.format.sub p.1 q.1 = some k1 := n1
    have t2 : FloatKind.f64.format.sub p.2 q.2 = some k2 := n2
    simp only [t1, t2, Option.bind_some]
  · refine bd_mono (bd_of (a := R * uu) ?_ ?_ ?_ ?_) (by grind) <;> simp only [re_sub, im_sub, cval] <;> grind
/-- The powers of a root, as floats. -/
theorem pow_err {l : Nat} (hl : l < 10) : ∀ k : Nat, k ≤ 2 ^ l → Ok (6 * (k : Rat) * uu) (powR l k) (pw (Rt (l + 1)) k)
  | 0, _ => by
    rw [pow_0]
    refine ⟨⟨by decide, by decide⟩, ⟨by decide, by decide⟩, ?_⟩
    have e : cval (4607182418800017408, 0) = pw (Rt (l + 1)) 0 := by
      show _ = c1
      apply ext_c
      · decide +kernel
      · decide +kernel
    rw [e]
    exact bd_self _ (by decide +kernel)
  | k + 1, hk => by
    obtain ⟨h1, h2, h3⟩ := pow_err hl k (by omega)
    obtain ⟨h4, _⟩ := pow_step (show l < 12 by omega) (show k < 2 ^ l by omega)
    obtain ⟨r1, r2, r3, r4⟩ := rt_num (l + 1) (by omega)
    have hr := rt_near (show l + 1 < 11 by omega)
    have hku : (k : Rat) ≤ 512 := by
      have : k ≤ 512 := Nat.le_trans (show k ≤ 2 ^ l by omega) (Nat.le_trans (Nat.pow_le_pow_right (by decide) (show l ≤ 9 by omega)) (by decide))
      exact Rat.natCast_le_natCast.2 this
    have hk0 := nat_nn k
    have hu := uu_small
    have hu0 := uu_pos
    have hkk : 6 * (k : Rat) * uu ≤ 1 / 100000000 := by
      have := mul_le hku hu (by decide) (Rat.le_of_lt hu0)
      grind
    have hkk0 : 0 ≤ 6 * (k : Rat) * uu := h3.1
    have b1 := bd_near h3 (un_bd (un_pw (un_Rt (l + 1)) k))
    have b2 := bd_near hr (un_bd (un_Rt (l + 1)))
    have hrs : (1 + 6 * (k : Rat) * uu) * (1 + 3 / 4 * uu) ≤ 1001 / 1000 := by
      have := mul_le (show 1 + 6 * (k : Rat) * uu ≤ 1 + 1 / 100000000 by grind) (show 1 + 3 / 4 * uu ≤ 1 + 1 / 100000000 by grind) (by decide +kernel) (by grind)
      have h7 : ((1 : Rat) + 1 / 100000000) * (1 + 1 / 100000000) ≤ 1001 / 1000 := by decide +kernel
      grind
    obtain ⟨t, ht, ok1, ok2, ok3⟩ := cmul_ok (p := powR l k) (q := rtOf (l + 1)) ⟨h1, h2⟩ ⟨⟨r1, r2⟩, ⟨r3, r4⟩⟩ b1 b2 hrs (by decide +kernel) (by decide +kernel)
    rw [h4] at ht
    cases ht
    refine ⟨ok1, ok2, ?_⟩
    generalize cval (powR l k) = x at *
    generalize cval (rtOf (l + 1)) = y at *
    have g1 := bd_mul h3 b2
    have g2 := bd_mul (un_bd (un_pw (un_Rt (l + 1)) k)) hr
    have e : x * y - pw (Rt (l + 1)) (k + 1) = (x - pw (Rt (l + 1)) k) * y + pw (Rt (l + 1)) k * (y - Rt (l + 1)) := by
      rw [pw]
      apply ext_c <;> simp only [re_sub, im_sub, re_mul, im_mul, re_add, im_add] <;> grind
    have g3 := bd_add g1 g2
    rw [← e] at g3
    refine bd_mono (bd_via ok3 g3) ?_
    rw [Rat.natCast_add, show ((1 : Nat) : Rat) = 1 from rfl]
    have h8 := mul_le hkk (show 3 / 4 * uu ≤ 3 / 4 * uu from Rat.le_refl) (by decide +kernel) (by grind)
    grind
end Go.Proofs.Ytfibadnkhbjciaa.Pm
namespace Go.Proofs.Ytfibadnkhbjciaa.Pm
open Go Ieee Fl

def zAt (v : List FC) (i : Nat) : Cq := cval (v.getD i (0, 0))
/-- The l-th level, without rounding. -/
def Ide (v : List FC) (l c k : Nat) : Cq := sm (fun j => zAt v (c + j) * pw (Rt l) (brev l j * k)) (2 ^ l)
theorem brev_lo {l j : Nat} (h : j < 2 ^ l) : brev (l + 1) j = 2 * brev l j := by
  rw [brev, Nat.mod_eq_of_lt h, Nat.div_eq_of_lt h, Nat.add_zero]
theorem brev_hi {l j : Nat} (h : j < 2 ^ l) : brev (l + 1) (2 ^ l + j) = 2 * brev l j + 1 := by
  rw [brev, Nat.add_mod_left, Nat.mod_eq_of_lt h, Nat.add_div_left _ (Nat.pow_pos (by decide)), Nat.div_eq_of_lt h]
theorem brev_lt : ∀ (l j : Nat), j < 2 ^ l → brev l j < 2 ^ l
  | 0, _, _ => Nat.one_pos
  | l + 1, j, h => by
    rw [Nat.pow_succ] at *
    by_cases c : j < 2 ^ l
    · rw [brev_lo c]
      have := brev_lt l j c
      omega
    · obtain ⟨i, rfl⟩ : ∃ i, j = 2 ^ l + i := ⟨j - 2 ^ l, by omega⟩
      rw [brev_hi (show i < 2 ^ l by omega)]
      have := brev_lt l i (by omega)
      omega
theorem ide_lo {l : Nat} (hl : l < 10) (v : List FC) (c k : Nat) : Ide v (l + 1) c k = Ide v l c k + pw (Rt (l + 1)) k * Ide v l (c + 2 ^ l) k := by
  unfold Ide
  rw [Nat.pow_succ, Nat.mul_two, sm_split, ← sm_mul]
  refine congr (congrArg _ (sm_congr fun j hj => ?_)) (sm_congr fun j hj => ?_)
  · rw [brev_lo hj, Nat.mul_assoc, Rt_two hl]
  · rw [brev_hi hj, Nat.add_mul, Nat.one_mul, Nat.mul_assoc, pw_add, Rt_two hl, ← Nat.add_assoc]
    rw [← mul_assoc_c, mul_comm_c]
def th : Rat := 1024 * eta
theorem th_small : th ≤ 1 / 4 * uu := by decide +kernel
theorem th_nn : 0 ≤ th := by decide +kernel
theorem un_m1 : Un (-c1) := by unfold Un; decide +kernel
theorem pw_m1_even (b : Nat) : pw (-c1) (2 * b) = c1 := by
  rw [pw_mul, show pw (-c1) 2 = c1 from by apply ext_c <;> decide +kernel, pw_one]
theorem pw_m1_odd (b : Nat) : pw (-c1) (2 * b + 1) = -c1 := by
  rw [pw, pw_m1_even, one_mul_c]
theorem Rt_half {l : Nat} (hl : l < 10) : pw (Rt (l + 1)) (2 ^ l) = pw W1 512 := by
  unfold Rt
  rw [← pw_mul, ← Nat.pow_add, show 10 - (l + 1) + l = 9 from by omega]
theorem twist {l m k : Nat} (hl : l < 10) (hm : m ≤ 1024) : Bd (pw (Rt (l + 1)) (m * (k + 2 ^ l)) - pw (Rt (l + 1)) (m * k) * pw (-c1) m) th := by
  have e : pw (Rt (l + 1)) (m * (k + 2 ^ l)) = pw (Rt (l + 1)) (m * k) * pw (pw W1 512) m := by
    rw [Nat.mul_add, pw_add, Nat.mul_comm m (2 ^ l), pw_mul _ (2 ^ l) m, Rt_half hl]
  rw [e]
  have h1 : Bd (pw W1 512 - -c1) eta := by
    have h := half_way
    have e3 : c1 + pw W1 512 = pw W1 512 - -c1 := by apply ext_c <;> simp only [re_sub, im_sub, re_add, im_add, re_neg, im_neg] <;> grind
    rw [e3] at h
    exact h
  have h2 := bd_mul (un_bd (un_pw (un_Rt (l + 1)) (m * k))) (pw_near (un_pw un_W1 512) un_m1 h1 m)
  have e2 : ∀ a b d : Cq, a * (b - d) = a * b - a * d := fun a b d => by apply ext_c <;> simp only [re_sub, im_sub, re_mul, im_mul] <;> grind
  rw [e2] at h2
  refine bd_mono h2 ?_
  have h3 : (m : Rat) ≤ 1024 := Rat.natCast_le_natCast.2 hm
  have h4 := Rat.mul_le_mul_of_nonneg_right h3 h1.1
  unfold th
  grind
theorem ide_hi {l : Nat} (hl : l < 10) {v : List FC} {M : Rat} (hM : ∀ i, Bd (zAt v i) M) (c k : Nat) :
    Bd (Ide v (l + 1) c (k + 2 ^ l) - (Ide v l c k - pw (Rt (l + 1)) k * Ide v l (c + 2 ^ l) k)) (2 * (tw l * (M * th))) := by
  have hb : ∀ j, j < 2 ^ l → 2 * brev l j + 1 ≤ 1024 := fun j hj => by
    have h1 := brev_lt l j hj
    have h2 := Nat.pow_le_pow_right (n := 2) (by decide) (show l ≤ 9 by omega)
    have h3 : (2 : Nat) ^ 9 = 512 := by decide
    omega
  unfold Ide
  rw [Nat.pow_succ, Nat.mul_two, sm_split, ← sm_mul]
  have g1 : Bd (sm (fun j => zAt v (c + j) * pw (Rt (l + 1)) (brev (l + 1) j * (k + 2 ^ l))) (2 ^ l) - sm (fun j => zAt v (c + j) * pw (Rt l) (brev l j * k)) (2 ^ l)) (tw l * (M * th)) := sm_near fun j hj => by
    have h := bd_mul (hM (c + j)) (twist (k := k) hl (show 2 * brev l j ≤ 1024 by have := hb j hj; omega))
    rw [pw_m1_even, mul_one_c, Nat.mul_assoc 2 (brev l j) k, Rt_two hl] at h
    rw [brev_lo hj]
    have e2 : ∀ a b d : Cq, a * (b - d) = a * b - a * d := fun a b d => by apply ext_c <;> simp only [re_sub, im_sub, re_mul, im_mul] <;> grind
    rw [e2] at h
    exact h
  have g2 : Bd (sm (fun j => zAt v (c + (2 ^ l + j)) * pw (Rt (l + 1)) (brev (l + 1) (2 ^ l + j) * (k + 2 ^ l))) (2 ^ l) - sm (fun j => -(pw (Rt (l + 1)) k * (zAt v (c + 2 ^ l + j) * pw (Rt l) (brev l j * k)))) (2 ^ l)) (tw l * (M * th)) := sm_near fun j hj => by
    have h := bd_mul (hM (c + (2 ^ l + j))) (twist (k := k) hl (hb j hj))
    rw [pw_m1_odd, Nat.add_mul (2 * brev l j) 1 k, Nat.one_mul, Nat.mul_assoc 2 (brev l j) k, pw_add, Rt_two hl] at h
    rw [brev_hi hj]
    have e2 : ∀ a b d f : Cq, a * (b - d * f * -c1) = a * b - -(f * (a * d)) := fun a b d f => by apply ext_c <;> simp only [re_sub, im_sub, re_mul, im_mul, re_neg, im_neg, re_c1, im_c1] <;> grind
    rw [e2] at h
    rw [← Nat.add_assoc] at h ⊢
    exact h
  have hneg : ∀ (f : Nat → Cq) (n : Nat), sm (fun j => -f j) n = -sm f n := fun f n => by
    induction n with
    | zero => apply ext_c <;> simp only [sm, re_neg, im_neg, re_c0, im_c0] <;> grind
    | succ n ih =>
      rw [sm, ih, sm]
      apply ext_c <;> simp only [re_add, im_add, re_neg, im_neg] <;> grind
  rw [hneg] at g2
  have g3 := bd_add g1 g2
  have e3 : ∀ a b d f : Cq, a - d + (b - -f) = a + b - (d - f) := fun a b d f => by apply ext_c <;> simp only [re_sub, im_sub, re_add, im_add, re_neg, im_neg] <;> grind
  rw [e3] at g3
  refine bd_mono g3 ?_
  grind
theorem ide_bd {v : List FC} {M : Rat} (hM : ∀ i, Bd (zAt v i) M) (l c k : Nat) : Bd (Ide v l c k) (tw l * M) := by
  have h : Bd (Ide v l c k) (tw l * (M * 1)) := sm_bd fun j _ => bd_mul (hM (c + j)) (un_bd (un_pw (un_Rt l) _))
  rw [Rat.mul_one] at h
  exact h
def gl (l : Nat) : Rat := (7 * tw l + 10 * (l : Rat)) / 2
def EE (M : Rat) (l : Nat) : Rat := tw l * M * uu * gl l
theorem gl_succ (l : Nat) : 2 * gl (l + 1) = 2 * gl l + 7 * tw l + 10 := by
  unfold gl
  rw [tw_succ, Rat.natCast_add, show ((1 : Nat) : Rat) = 1 from rfl]
  grind
theorem tw_le {l : Nat} (h : l ≤ 9) : tw l ≤ 512 := by
  have h1 := Nat.pow_le_pow_right (n := 2) (by decide) h
  exact Rat.natCast_le_natCast.2 h1
theorem gl_le {l : Nat} (h : l ≤ 9) : gl l ≤ 2000 := by
  have h1 := tw_le h
  have h2 : (l : Rat) ≤ 9 := Rat.natCast_le_natCast.2 h
  unfold gl
  grind
theorem gl_nn (l : Nat) : 0 ≤ gl l := by
  have h1 := tw_pos l
  have h2 := nat_nn l
  unfold gl
  grind
theorem bfly_num {l : Nat} (hl : l < 10) {M : Rat} (hM1 : 1 ≤ M) (hM2 : M ≤ p2 200) {w a b : FC} {om A B : Cq} (hw : Ok (6 * tw l * uu) w om) (hom : Un om) (ha : Ok (EE M l) a A) (hA : Bd A (tw l * M)) (hb : Ok (EE M l) b B) (hB : Bd B (tw l * M)) :
    ∃ t s d, cMul w.1 w.2 b.1 b.2 = some t ∧ cAdd a.1 a.2 t.1 t.2 = some s ∧ cSub a.1 a.2 t.1 t.2 = some d ∧
      Ok (tw l * M * uu * (2 * gl l + 7 * tw l + 19 / 2)) s (A + om * B) ∧ Ok (tw l * M * uu * (2 * gl l + 7 * tw l + 19 / 2)) d (A - om * B) := by
  obtain ⟨w1, w2, w3⟩ := hw
  obtain ⟨a1, a2, a3⟩ := ha
  obtain ⟨b1, b2, b3⟩ := hb
  have ht1 := tw_pos l
  have ht2 := tw_le (show l ≤ 9 by omega)
  have hg1 := gl_nn l
  have hg2 := gl_le (show l ≤ 9 by omega)
  have hu0 := uu_pos
  have hu := uu_small
  unfold EE at a3 b3
  have hX1 : 1 ≤ tw l * M := by
    have := mul_le ht1 hM1 (by grind) (by decide)
    grind
  have hX2 : tw l * M ≤ 512 * p2 200 := mul_le ht2 hM2 (by decide) (by grind)
  generalize hX : tw l * M = X at *
  generalize gl l = g at *
  generalize tw l = T at *
  -- small things
  have s1 : 6 * T * uu ≤ 1 / 100000000 := by
    have := mul_le ht2 hu (by decide) (Rat.le_of_lt hu0)
    grind
  have s1' : 0 ≤ 6 * T * uu := w3.1
  have s2 : uu * g ≤ 1 / 100000000 := by
    have := mul_le hu hg2 (by decide +kernel) hg1
    grind
  have s2' : 0 ≤ uu * g := Rat.mul_nonneg (Rat.le_of_lt hu0) hg1
  have s3 : X * uu * g ≤ X * (1 / 100000000) := by
    have := Rat.mul_le_mul_of_nonneg_left s2 (show 0 ≤ X by grind)
    grind
  have s3' : 0 ≤ X * uu * g := a3.1
  have s4 : X * uu ≤ X * (1 / 1000000000000000) := Rat.mul_le_mul_of_nonneg_left hu (by grind)
  have s4' : 0 ≤ X * uu := Rat.mul_nonneg (by grind) (Rat.le_of_lt hu0)
  have bw := bd_near w3 (un_bd hom)
  have bb := bd_near b3 hB
  have ba := bd_near a3 hA
  have m1 : 6 * T * uu * (X + X * uu * g) ≤ 6 * T * (X * uu) * (1001 / 1000) := by
    have h := Rat.mul_le_mul_of_nonneg_left (show X + X * uu * g ≤ X * (1001 / 1000) by grind) s1'
    grind
  have m1' : 6 * T * uu * (X + X * uu * g) ≤ X * (1 / 10000000) := by
    have h := mul_le s1 (show X + X * uu * g ≤ X * (1001 / 1000) by grind) (by decide +kernel) (by grind)
    grind
  have m2 : (1 + 6 * T * uu) * (X + X * uu * g) ≤ 1001 / 1000 * X := by grind
  have lo1 : p2 (-1022) ≤ 1 := by decide +kernel
  have hi1 : 4 * (512 * p2 200) ≤ p2 800 := by decide +kernel
  obtain ⟨t, ht, t1, t2, t3⟩ := cmul_ok (p := w) (q := b) ⟨w1, w2⟩ ⟨b1, b2⟩ bw bb m2 (by grind) (by grind)
  have et : cval w * cval b - om * B = (cval w - om) * cval b + om * (cval b - B) := by apply ext_c <;> simp only [re_sub, im_sub, re_mul, im_mul, re_add, im_add] <;> grind
  have g1 := bd_add (bd_mul w3 bb) (bd_mul (un_bd hom) b3)
  rw [← et] at g1
  have g2 := bd_via t3 g1
  have hOB : Bd (om * B) X := bd_mono (bd_mul (un_bd hom) hB) (by grind)
  have bt := bd_near g2 hOB
  have m3 : X + X * uu * g + (X + (5 * uu * (1001 / 1000 * X) + (6 * T * uu * (X + X * uu * g) + 1 * (X * uu * g)))) ≤ 1001 / 500 * X := by grind
  have q1 : Bd (cval a + cval t) (1001 / 500 * X) := bd_mono (bd_add ba bt) m3
  have q2 : Bd (cval a - cval t) (1001 / 500 * X) := bd_mono (bd_sub ba bt) m3
  obtain ⟨s, hs, n1, n2, n3⟩ := cadd_ok (p := a) (q := t) ⟨a1, a2⟩ ⟨t1, t2⟩ q1 (by grind) (by grind)
  obtain ⟨d, hd, n4, n5, n6⟩ := csub_ok (p := a) (q := t) ⟨a1, a2⟩ ⟨t1, t2⟩ q2 (by grind) (by grind)
  have es : cval a + cval t - (A + om * B) = (cval a - A) + (cval t - om * B) := by apply ext_c <;> simp only [re_sub, im_sub, re_mul, im_mul, re_add, im_add] <;> grind
  have ed : cval a - cval t - (A - om * B) = (cval a - A) - (cval t - om * B) := by apply ext_c <;> simp only [re_sub, im_sub, re_mul, im_mul] <;> grind
  have p1 := bd_add a3 g2
  have p2 := bd_sub a3 g2
  rw [← es] at p1
  rw [← ed] at p2
  have m4 : T * (X * uu) * (6 * (1001 / 1000)) ≤ T * (X * uu) * 7 := Rat.mul_le_mul_of_nonneg_left (by decide +kernel) (Rat.mul_nonneg (by grind) s4')
  have m5 : 2 * uu * (1001 / 500 * X) + (X * uu * g + (5 * uu * (1001 / 1000 * X) + (6 * T * uu * (X + X * uu * g) + 1 * (X * uu * g)))) ≤ X * uu * (2 * g + 7 * T + 19 / 2) := by grind
  exact ⟨t, s, d, ht, hs, hd, ⟨n1, n2, bd_mono (bd_via n3 p1) m5⟩, ⟨n4, n5, bd_mono (bd_via n6 p2) m5⟩⟩
end Go.Proofs.Ytfibadnkhbjciaa.Pm
