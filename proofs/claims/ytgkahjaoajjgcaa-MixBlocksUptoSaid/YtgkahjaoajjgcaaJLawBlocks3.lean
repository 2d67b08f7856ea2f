/-
  A DITHER, piece by piece: walks. (Printed by wip/pm.) | A DITHER, piece by piece: the law's walk. (Printed by wip/pm.) | What every law's row of this seat needs: the arguments read behind the call as before it, whatever their types, if the call has turned nothing that was there. | THE VALUE MACHINE (Row): a law's arguments, opened to values. | THE VALUE MACHINE (Open): whatever came in, by its type: numbers, truth values, floats, strings, slices and structs of such, as deep as they are. | What came in, at its types: lists of numbers, lists of such; how much they hold. | A DITHER HANGS ON NO BLOCKS: plain. | REGIONS THAT DRAW THEIR ORDER: a class C of worlds (Derived/Deep/Quiet.lean's own notion: an operation is quiet in C), behind which a tail stands that the order forces (Derived/StillTail.lean's notion of a tail). No program in sight. | Lists in memory, lists of lists in memory, a block of the call's own; what tracks are together: plain. | THE WALK of mix.Sum. | THE WALKS of the reference's Same and of the law's alive. | The law's closed fact, by values. | THE VALUE MACHINE (Y): regions that draw, with the keys told: what each operation reads and writes. No program in sight.
-/
import Derived.Test.YtgkahjaoajjgcaaJLawBlocks2
import Derived.Test.YtgkahjaoajjgcaaRows
import Derived.WalkKit
import Derived.ProofKit
import Derived.OpenShut
import Derived.Lib.SmallJoins
import Derived.Below
import Derived.ChangeSame
import Derived.SizedLaws
import Derived.Deep.Matrix
import Derived.StillTail
import Derived.Deep.Quiet
import Derived.Deep.OwnRows
import Derived.LoopTactic
namespace Go.Proofs.Ytgkahjaoajjgcaa.Pm
open Go

theorem new_pc (seed : Int) : PC Try.prog 16 [(.av (.int .u32 seed))] [] (.opt 0 0) [some (50, [(.av (.int .u32 seed)), (iv 0), (iv 0), (iv 0)])] := by
  refine pc_intro Try.func16 rfl (by kernel_rfl) (Nat.le_of_ble_eq_true rfl) (by kernel_rfl) (l0 := [ps 0 (.av (.int .u32 seed))]) rfl (fun c0 Bor hc0 => ?_)
  refine T_seq ?_
  refine T_region [] [ks 0] (fun _ => mixed) (l' := [ps 0 (.av (.int .u32 seed))]) (obs := []) (by kernel_rfl) (obs_nil) ?_
  refine T_seq ?_
  refine T_region [] [ks 2, kb 24] (fun _ => mixed) (l' := [ps 2 (.opt 24 0), pb 24 50 [(.av (.int .u32 seed)), (iv 0), (iv 0), (iv 0)]]) (obs := []) (by kernel_rfl) (obs_nil) ?_
  exact T_ret fun cx_ a_ hI_ => ret_ok (H' := [some (50, [(.av (.int .u32 seed)), (iv 0), (iv 0), (iv 0)])]) (.inr rfl) (Wk.ren2 [ps 2 (.opt 0 0), pb 0 50 [(.av (.int .u32 seed)), (iv 0), (iv 0), (iv 0)]] 0 hc0 [24] rfl rfl (by kernel_rfl) (by kernel_rfl)) rfl (obs_cons rfl (obs_nil)) (fun cx_ a_ hI_ => ret_res (l' := [ps 2 (.opt 0 0), pb 0 50 [(.av (.int .u32 seed)), (iv 0), (iv 0), (iv 0)]]) (by kernel_rfl) cx_ a_ hI_) hI_
set_option maxRecDepth 100000 in
theorem dither_pc (seed : Int) (T : List (List Int)) (hT : T.length ≤ 1048576) (ht : tot T ≤ 1048576) : PC Try.prog 10 [(.av (.int .u32 seed)), (.ssl (rows T) 0 T.length)] [] (.ssl (dds (dithS (seed, 0, 0, 0) T)) 0 ((dithS (seed, 0, 0, 0) T).length)) [] := by
  refine pc_intro Try.func10 rfl (by kernel_rfl) (Nat.le_of_ble_eq_true rfl) (by kernel_rfl) (l0 := [ps 0 (.av (.int .u32 seed)), ps 1 (.ssl (rows T) 0 T.length)]) rfl (fun c0 Bor hc0 => ?_)
  refine T_seq ?_
  refine T_region [] [ks 0, ks 1] (fun _ => mixed) (l' := [ps 0 (.av (.int .u32 seed)), ps 1 (.ssl (rows T) 0 T.length)]) (obs := []) (by kernel_rfl) (obs_nil) ?_
  refine T_seq ?_
  refine T_region [(1, .call [] [(.av (.int .u32 seed))] [] (.opt 0 0) [some (50, [(.av (.int .u32 seed)), (iv 0), (iv 0), (iv 0)])])] [ks 1, ks 5, kb 16] (fun _ => mixed) (l' := [ps 1 (.ssl (rows T) 0 T.length), ps 5 (.opt 16 0), pb 16 50 [(.av (.int .u32 seed)), (iv 0), (iv 0), (iv 0)]]) (obs := [PC Try.prog 16 [(.av (.int .u32 seed))] [] (.opt 0 0) [some (50, [(.av (.int .u32 seed)), (iv 0), (iv 0), (iv 0)])], [(.av (.int .u32 seed))] = renL (sigi [] 16) [(.av (.int .u32 seed))]]) (by kernel_rfl) (obs_cons (p := PC Try.prog 16 [(.av (.int .u32 seed))] [] (.opt 0 0) [some (50, [(.av (.int .u32 seed)), (iv 0), (iv 0), (iv 0)])]) (new_pc seed) (obs_cons (p := [(.av (.int .u32 seed))] = renL (sigi [] 16) [(.av (.int .u32 seed))]) rfl (obs_nil))) ?_
  refine T_seq ?_
  refine T_region [] [ks 1, ks 5, ks 6, kb 16] (fun _ => mixed) (l' := [ps 1 (.ssl (rows T) 0 T.length), ps 5 (.opt 16 0), ps 6 (.av (.slice none 0 0)), pb 16 50 [(.av (.int .u32 seed)), (iv 0), (iv 0), (iv 0)]]) (obs := []) (by kernel_rfl) (obs_nil) ?_
  refine T_seq ?_
  refine T_seq ?_
  refine T_region [] [ks 1, ks 5, ks 6, ks 14, kb 16] (fun _ => mixed) (l' := [ps 1 (.ssl (rows T) 0 T.length), ps 5 (.opt 16 0), ps 6 (.av (.slice none 0 0)), ps 14 (bv false), pb 16 50 [(.av (.int .u32 seed)), (iv 0), (iv 0), (iv 0)]]) (obs := []) (by kernel_rfl) (obs_nil) ?_
  refine T_else (b := false) rfl rfl ?_
  refine T_skip ?_
  refine T_seq ?_
  refine T_seq ?_
  refine T_region [] [ks 5, ks 6, ks 15, ks 16, ks 17, kb 16] (fun _ => mixed) (l' := [ps 5 (.opt 16 0), ps 6 (.av (.slice none 0 0)), ps 15 (.ssl (rows T) 0 T.length), ps 16 (iv ((T.length : Nat) : Int)), ps 17 (iv 0), pb 16 50 [(.av (.int .u32 seed)), (iv 0), (iv 0), (iv 0)]]) (obs := []) (by kernel_rfl) (obs_nil) ?_
  refine T_block ?_
  refine T_wk (Wk.nil (s := 6) 39 (by kernel_rfl)) ?_
  refine T_wk (Wk.less (l' := [ps 5 (.opt 16 0), ps 6 (.osl 80 0 0), ps 15 (.ssl (rows T) 0 T.length), ps 16 (iv ((T.length : Nat) : Int)), ps 17 (iv 0), pb 16 50 [(.av (.int .u32 seed)), (iv 0), (iv 0), (iv 0)], pb 80 39 []]) 81 (by kernel_rfl) (by kernel_rfl)) ?_
  refine T_wk (Wk.eq (show [ps 5 (.opt 16 0), ps 6 (.osl 80 0 0), ps 15 (.ssl (rows T) 0 T.length), ps 16 (iv ((T.length : Nat) : Int)), ps 17 (iv 0), pb 16 50 [(.av (.int .u32 seed)), (iv 0), (iv 0), (iv 0)], pb 80 39 []] = [ps 5 (.opt 16 0), ps 6 (.osl 80 0 (([] : List Dd).length)), ps 15 (.ssl (rows T) 0 T.length), ps 16 (iv ((T.length : Nat) : Int)), ps 17 (iv 0), pb 16 50 [(.av (.int .u32 (((seed, 0, 0, 0) : DS).1))), (iv (((seed, 0, 0, 0) : DS).2.2.1)), (iv (((seed, 0, 0, 0) : DS).2.2.2)), (iv (((seed, 0, 0, 0) : DS).2.1))], pb 80 39 (dds [])] from by rfl)) ?_
  refine T_loop (α := {x : Nat × DS × List Dd // x.1 ≤ T.length ∧ x.2.2 ++ dithS x.2.1 (T.drop x.1) = dithS (seed, 0, 0, 0) T ∧ okD x.2.1 ∧ x.2.1.2.2.2 ≤ ((tot (T.take x.1) : Nat) : Int) ∧ x.2.2.length = x.1}) (fun x => [ps 5 (.opt 0 0), ps 6 (.osl 1 0 x.1.2.2.length), ps 15 (.ssl (rows T) 0 T.length), ps 16 (iv ((T.length : Nat) : Int)), ps 17 (iv ((x.1.1 : Nat) : Int)), pb 0 50 [(.av (.int .u32 x.1.2.1.1)), (iv x.1.2.1.2.2.1), (iv x.1.2.1.2.2.2), (iv x.1.2.1.2.1)], pb 1 39 (dds x.1.2.2)]) (fun x => T.length - x.1.1) 2 ⟨(0, (seed, 0, 0, 0), []), ⟨Nat.zero_le _, rfl, okD0 seed, by show (0 : Int) ≤ _; omega, rfl⟩⟩ (Wk.ren3 [ps 5 (.opt 0 0), ps 6 (.osl 1 0 [].length), ps 15 (.ssl (rows T) 0 T.length), ps 16 (iv ((T.length : Nat) : Int)), ps 17 (iv ((0 : Nat) : Int)), pb 0 50 [(.av (.int .u32 ((seed, 0, 0, 0) : DS).1)), (iv ((seed, 0, 0, 0) : DS).2.2.1), (iv ((seed, 0, 0, 0) : DS).2.2.2), (iv ((seed, 0, 0, 0) : DS).2.1)], pb 1 39 (dds [])] 0 hc0 [16, 80] [(kb 1, (dds []))] (obs_cons (dds_shd _) (obs_nil)) (by kernel_rfl) rfl rfl (by kernel_rfl) (by kernel_rfl)) ?_
  rintro ⟨⟨i, s, A⟩, ⟨hi, hA, hs, hc, hAl⟩⟩
  dsimp only at hi hA hs hc hAl
  refine T_seq ?_
  refine T_region [] [ks 5, ks 6, ks 15, ks 16, ks 17, ks 18, kb 0, kb 1] (fun _ => mixed) (l' := [ps 5 (.opt 0 0), ps 6 (.osl 1 0 A.length), ps 15 (.ssl (rows T) 0 T.length), ps 16 (iv ((T.length : Nat) : Int)), ps 17 (iv ((i : Nat) : Int)), ps 18 (bv (decide (((i : Nat) : Int) < ((T.length : Nat) : Int)))), pb 0 50 [(.av (.int .u32 s.1)), (iv s.2.2.1), (iv s.2.2.2), (iv s.2.1)], pb 1 39 (dds A)]) (obs := []) (by kernel_rfl) (obs_nil) ?_
  refine T_seq ?_
  by_cases h1 : ((i : Nat) : Int) < ((T.length : Nat) : Int)
  · refine T_then (b := (decide (((i : Nat) : Int) < ((T.length : Nat) : Int)))) rfl (decide_eq_true h1) ?_
    refine T_skip ?_
    refine T_seq ?_
    refine T_block ?_
    refine T_seq ?_
    have htt := tot_take T i
    have hta := tot_at (show i < T.length by omega)
    refine T_region [(0, .nat i), (1, .val (.ssl (ints (T.getD i [])) 0 ((T.getD i []).length)))] [ks 5, ks 6, ks 8, ks 15, ks 16, ks 17, kb 0, kb 1] (fun _ => mixed) (l' := [ps 5 (.opt 0 0), ps 6 (.osl 1 0 A.length), ps 8 (.ssl (ints (T.getD i [])) 0 ((T.getD i []).length)), ps 15 (.ssl (rows T) 0 T.length), ps 16 (iv ((T.length : Nat) : Int)), ps 17 (iv ((i : Nat) : Int)), pb 0 50 [(.av (.int .u32 s.1)), (iv s.2.2.1), (iv s.2.2.2), (iv s.2.1)], pb 1 39 (dds A)]) (obs := [(0 : Int) ≤ ((i : Nat) : Int) ∧ ((i : Nat) : Int) < ((T.length : Nat) : Int), 0 + (((i : Nat) : Int) : Int).toNat * 1 = i, i + 1 ≤ ((rows T)).length ∧ (((rows T)).drop i).take 1 = [(.ssl (ints (T.getD i [])) 0 ((T.getD i []).length))]]) (by kernel_rfl) (obs_cons (p := (0 : Int) ≤ ((i : Nat) : Int) ∧ ((i : Nat) : Int) < ((T.length : Nat) : Int)) (by omega) (obs_cons (p := 0 + (((i : Nat) : Int) : Int).toNat * 1 = i) (by omega) (obs_cons (p := i + 1 ≤ ((rows T)).length ∧ (((rows T)).drop i).take 1 = [(.ssl (ints (T.getD i [])) 0 ((T.getD i []).length))]) (flat_at1 rowC (fun _ => rfl) [] T i (by omega)) (obs_nil)))) ?_
    refine T_seq ?_
    refine T_region [(2, .call [0] [(.opt 0 0), (.ssl (ints (T.getD i [])) 0 ((T.getD i []).length))] [some (50, [(.av (.int .u32 s.1)), (iv s.2.2.1), (iv s.2.2.2), (iv s.2.1)])] (.tup [(.ssl (ints (outD s (T.getD i []))) 0 ((outD s (T.getD i [])).length)), (iv (errD (T.getD i [])))]) [some (50, [(.av (.int .u32 ((nextD s (T.getD i [])).1))), (iv ((nextD s (T.getD i [])).2.2.1)), (iv ((nextD s (T.getD i [])).2.2.2)), (iv ((nextD s (T.getD i [])).2.1))])])] [ks 5, ks 6, ks 9, ks 10, ks 15, ks 16, ks 17, kb 0, kb 1] (fun _ => mixed) (l' := [ps 5 (.opt 0 0), ps 6 (.osl 1 0 A.length), ps 9 (.ssl (ints (outD s (T.getD i []))) 0 ((outD s (T.getD i [])).length)), ps 10 (iv (errD (T.getD i []))), ps 15 (.ssl (rows T) 0 T.length), ps 16 (iv ((T.length : Nat) : Int)), ps 17 (iv ((i : Nat) : Int)), pb 0 50 [(.av (.int .u32 ((nextD s (T.getD i [])).1))), (iv ((nextD s (T.getD i [])).2.2.1)), (iv ((nextD s (T.getD i [])).2.2.2)), (iv ((nextD s (T.getD i [])).2.1))], pb 1 39 (dds A)]) (obs := [PC Try.prog 17 [(.opt 0 0), (.ssl (ints (T.getD i [])) 0 ((T.getD i []).length))] [some (50, [(.av (.int .u32 s.1)), (iv s.2.2.1), (iv s.2.2.2), (iv s.2.1)])] (.tup [(.ssl (ints (outD s (T.getD i []))) 0 ((outD s (T.getD i [])).length)), (iv (errD (T.getD i [])))]) [some (50, [(.av (.int .u32 ((nextD s (T.getD i [])).1))), (iv ((nextD s (T.getD i [])).2.2.1)), (iv ((nextD s (T.getD i [])).2.2.2)), (iv ((nextD s (T.getD i [])).2.1))])], [(.opt 0 0), (.ssl (ints (T.getD i [])) 0 ((T.getD i []).length))] = renL (sigi [0] 50) [(.opt 0 0), (.ssl (ints (T.getD i [])) 0 ((T.getD i []).length))], [(.av (.int .u32 s.1)), (iv s.2.2.1), (iv s.2.2.2), (iv s.2.1)] = renL (sigi [0] 50) [(.av (.int .u32 s.1)), (iv s.2.2.1), (iv s.2.2.2), (iv s.2.1)]]) (by kernel_rfl) (obs_cons (p := PC Try.prog 17 [(.opt 0 0), (.ssl (ints (T.getD i [])) 0 ((T.getD i []).length))] [some (50, [(.av (.int .u32 s.1)), (iv s.2.2.1), (iv s.2.2.2), (iv s.2.1)])] (.tup [(.ssl (ints (outD s (T.getD i []))) 0 ((outD s (T.getD i [])).length)), (iv (errD (T.getD i [])))]) [some (50, [(.av (.int .u32 ((nextD s (T.getD i [])).1))), (iv ((nextD s (T.getD i [])).2.2.1)), (iv ((nextD s (T.getD i [])).2.2.2)), (iv ((nextD s (T.getD i [])).2.1))])]) (run_pc s (T.getD i []) hs (by omega) (by omega)) (obs_cons (p := [(.opt 0 0), (.ssl (ints (T.getD i [])) 0 ((T.getD i []).length))] = renL (sigi [0] 50) [(.opt 0 0), (.ssl (ints (T.getD i [])) 0 ((T.getD i []).length))]) rfl (obs_cons (p := [(.av (.int .u32 s.1)), (iv s.2.2.1), (iv s.2.2.2), (iv s.2.1)] = renL (sigi [0] 50) [(.av (.int .u32 s.1)), (iv s.2.2.1), (iv s.2.2.2), (iv s.2.1)]) rfl (obs_nil)))) ?_
    refine T_region [(13, .app none (some (dds (A ++ [(outD s (T.getD i []), (errD (T.getD i [])), ((nextD s (T.getD i [])).2.2.1), ((nextD s (T.getD i [])).2.2.2))]))))] [ks 5, ks 6, ks 15, ks 16, ks 17, kb 0, kb 202] (fun _ => mixed) (l' := [ps 5 (.opt 0 0), ps 6 (.osl 202 0 (A.length + 1)), ps 15 (.ssl (rows T) 0 T.length), ps 16 (iv ((T.length : Nat) : Int)), ps 17 (iv ((i : Nat) : Int)), pb 0 50 [(.av (.int .u32 ((nextD s (T.getD i [])).1))), (iv ((nextD s (T.getD i [])).2.2.1)), (iv ((nextD s (T.getD i [])).2.2.2)), (iv ((nextD s (T.getD i [])).2.1))], pb 202 39 (dds (A ++ [(outD s (T.getD i []), (errD (T.getD i [])), ((nextD s (T.getD i [])).2.2.1), ((nextD s (T.getD i [])).2.2.2))]))]) (obs := [((dds A)).length = A.length * 4, (A.length + 1) * 48 ≤ 140737488355328 ∧ A.length + 1 ≤ 9223372036854775807, (dds A) ++ [(.ssl (ints (outD s (T.getD i []))) 0 ((outD s (T.getD i [])).length)), (iv (errD (T.getD i []))), (iv ((nextD s (T.getD i [])).2.2.1)), (iv ((nextD s (T.getD i [])).2.2.2))] = (dds (A ++ [(outD s (T.getD i []), (errD (T.getD i [])), ((nextD s (T.getD i [])).2.2.1), ((nextD s (T.getD i [])).2.2.2))]))]) (by kernel_rfl) (obs_cons (p := ((dds A)).length = A.length * 4) (dds_len _) (obs_cons (p := (A.length + 1) * 48 ≤ 140737488355328 ∧ A.length + 1 ≤ 9223372036854775807) (by omega) (obs_cons (p := (dds A) ++ [(.ssl (ints (outD s (T.getD i []))) 0 ((outD s (T.getD i [])).length)), (iv (errD (T.getD i []))), (iv ((nextD s (T.getD i [])).2.2.1)), (iv ((nextD s (T.getD i [])).2.2.2))] = (dds (A ++ [(outD s (T.getD i []), (errD (T.getD i [])), ((nextD s (T.getD i [])).2.2.1), ((nextD s (T.getD i [])).2.2.2))]))) (flat_app ddC A [(outD s (T.getD i []), (errD (T.getD i [])), ((nextD s (T.getD i [])).2.2.1), ((nextD s (T.getD i [])).2.2.2))]).symm (obs_nil)))) ?_
    refine T_blk ?_
    refine T_region [] [ks 5, ks 6, ks 15, ks 16, ks 17, kb 0, kb 202] (fun _ => mixed) (l' := [ps 5 (.opt 0 0), ps 6 (.osl 202 0 (A.length + 1)), ps 15 (.ssl (rows T) 0 T.length), ps 16 (iv ((T.length : Nat) : Int)), ps 17 (iv (((i : Nat) : Int) + 1)), pb 0 50 [(.av (.int .u32 ((nextD s (T.getD i [])).1))), (iv ((nextD s (T.getD i [])).2.2.1)), (iv ((nextD s (T.getD i [])).2.2.2)), (iv ((nextD s (T.getD i [])).2.1))], pb 202 39 (dds (A ++ [(outD s (T.getD i []), (errD (T.getD i [])), ((nextD s (T.getD i [])).2.2.1), ((nextD s (T.getD i [])).2.2.2))]))]) (obs := [InK .i64 (((i : Nat) : Int) + 1)]) (by kernel_rfl) (obs_cons (p := InK .i64 (((i : Nat) : Int) + 1)) (by simp only [InK]; omega) (obs_nil)) ?_
    have hno := nextD_ok (l := (T.getD i [])) hs
    have htn := tot_next (show i < T.length by omega)
    exact T_back ⟨(i + 1, nextD s (T.getD i []), (A ++ [tellD s (T.getD i [])])), ⟨by omega, dith_next (by omega) hA, hno.1, by show (nextD s (T.getD i [])).2.2.2 ≤ ((tot (T.take (i + 1)) : Nat) : Int); omega, by show (A ++ [_]).length = i + 1; simp; omega⟩⟩ (Wk.trans (Wk.eq (show [ps 5 (.opt 0 0), ps 6 (.osl 202 0 (A.length + 1)), ps 15 (.ssl (rows T) 0 T.length), ps 16 (iv ((T.length : Nat) : Int)), ps 17 (iv (((i : Nat) : Int) + 1)), pb 0 50 [(.av (.int .u32 ((nextD s (T.getD i [])).1))), (iv ((nextD s (T.getD i [])).2.2.1)), (iv ((nextD s (T.getD i [])).2.2.2)), (iv ((nextD s (T.getD i [])).2.1))], pb 202 39 (dds (A ++ [(outD s (T.getD i []), (errD (T.getD i [])), ((nextD s (T.getD i [])).2.2.1), ((nextD s (T.getD i [])).2.2.2))]))] = [ps 5 (.opt 0 0), ps 6 (.osl 202 0 ((A ++ [tellD s (T.getD i [])]).length)), ps 15 (.ssl (rows T) 0 T.length), ps 16 (iv ((T.length : Nat) : Int)), ps 17 (iv (((i : Nat) : Int) + 1)), pb 0 50 [(.av (.int .u32 ((nextD s (T.getD i [])).1))), (iv ((nextD s (T.getD i [])).2.2.1)), (iv ((nextD s (T.getD i [])).2.2.2)), (iv ((nextD s (T.getD i [])).2.1))], pb 202 39 (dds (A ++ [tellD s (T.getD i [])]))] from by rw [snoc_len]; rfl)) (Wk.ren3 [ps 5 (.opt 0 0), ps 6 (.osl 1 0 (A ++ [tellD s (T.getD i [])]).length), ps 15 (.ssl (rows T) 0 T.length), ps 16 (iv ((T.length : Nat) : Int)), ps 17 (iv (((i + 1) : Nat) : Int)), pb 0 50 [(.av (.int .u32 (nextD s (T.getD i [])).1)), (iv (nextD s (T.getD i [])).2.2.1), (iv (nextD s (T.getD i [])).2.2.2), (iv (nextD s (T.getD i [])).2.1)], pb 1 39 (dds (A ++ [tellD s (T.getD i [])]))] 0 hc0 [0, 202] [(kb 1, (dds (A ++ [tellD s (T.getD i [])])))] (obs_cons (dds_shd _) (obs_nil)) (by kernel_rfl) rfl rfl (by kernel_rfl) (by kernel_rfl))) (show T.length - (i + 1) < T.length - i from by show T.length - (i + 1) < T.length - i; omega)
  · refine T_else (b := (decide (((i : Nat) : Int) < ((T.length : Nat) : Int)))) rfl (decide_eq_false h1) ?_
    refine T_break rfl rfl ?_
    refine T_seq ?_
    refine T_region [] [ks 4, kb 1] (fun _ => mixed) (l' := [ps 4 (.osl 1 0 A.length), pb 1 39 (dds A)]) (obs := []) (by kernel_rfl) (obs_nil) ?_
    obtain rfl : i = T.length := by omega
    rw [List.drop_length, dithS, List.append_nil] at hA
    rw [← hA]
    refine T_wk (Wk.frz (l' := [ps 4 (.ssl (dds A) 0 A.length), (kb 1, none)]) 1 (T := 39) (cs := (dds A)) (by kernel_rfl) (dds_shd _) (by kernel_rfl)) ?_
    refine T_wk (Wk.less (l' := [ps 4 (.ssl (dds A) 0 A.length)]) 26 (by kernel_rfl) (by kernel_rfl)) ?_
    exact T_ret fun cx_ a_ hI_ => ret_ok (H' := []) (.inr rfl) (Wk.ren2 [ps 4 (.ssl (dds A) 0 A.length)] 0 hc0 [] rfl rfl (by kernel_rfl) (by kernel_rfl)) rfl (obs_nil) (fun cx_ a_ hI_ => ret_res (l' := [ps 4 (.ssl (dds A) 0 A.length)]) (by kernel_rfl) cx_ a_ hI_) hI_
theorem abs_pc (n : Int) (h1 : -9223372036854775807 ≤ n) (h2 : n ≤ 9223372036854775807) : PC Try.prog 23 [(iv n)] [] (iv (absI n)) [] := by
  refine pc_intro Try.func23 rfl (by kernel_rfl) (Nat.le_of_ble_eq_true rfl) (by kernel_rfl) (l0 := [ps 0 (iv n)]) rfl (fun c0 Bor hc0 => ?_)
  refine T_seq ?_
  refine T_region [] [ks 0] (fun _ => mixed) (l' := [ps 0 (iv n)]) (obs := []) (by kernel_rfl) (obs_nil) ?_
  refine T_seq ?_
  refine T_seq ?_
  refine T_region [] [ks 0, ks 4] (fun _ => mixed) (l' := [ps 0 (iv n), ps 4 (bv (decide (n < 0)))]) (obs := []) (by kernel_rfl) (obs_nil) ?_
  by_cases h1 : n < 0
  · refine T_then (b := (decide (n < 0))) rfl (decide_eq_true h1) ?_
    refine T_seq ?_
    refine T_region [] [ks 2] (fun _ => mixed) (l' := [ps 2 (iv (0 - n))]) (obs := [InK .i64 (0 - n)]) (by kernel_rfl) (obs_cons (p := InK .i64 (0 - n)) (by simp only [InK]; omega) (obs_nil)) ?_
    rw [show absI n = 0 - n from by unfold absI; rw [if_pos h1]; omega]
    exact T_ret fun cx_ a_ hI_ => ret_ok (H' := []) (.inr rfl) (Wk.ren2 [ps 2 (iv (0 - n))] 0 hc0 [] rfl rfl (by kernel_rfl) (by kernel_rfl)) rfl (obs_nil) (fun cx_ a_ hI_ => ret_res (l' := [ps 2 (iv (0 - n))]) (by kernel_rfl) cx_ a_ hI_) hI_
  · refine T_else (b := (decide (n < 0))) rfl (decide_eq_false h1) ?_
    refine T_skip ?_
    refine T_seq ?_
    refine T_region [] [ks 2] (fun _ => mixed) (l' := [ps 2 (iv n)]) (obs := []) (by kernel_rfl) (obs_nil) ?_
    rw [show absI n = n from by unfold absI; rw [if_neg h1]]
    exact T_ret fun cx_ a_ hI_ => ret_ok (H' := []) (.inr rfl) (Wk.ren2 [ps 2 (iv n)] 0 hc0 [] rfl rfl (by kernel_rfl) (by kernel_rfl)) rfl (obs_nil) (fun cx_ a_ hI_ => ret_res (l' := [ps 2 (iv n)]) (by kernel_rfl) cx_ a_ hI_) hI_
set_option maxRecDepth 100000 in
theorem one_pc0 (s : DS) (x : Int) (hs : okD s) (hc0 : s.2.2.2 ≤ 2000000000000000000) (hx : -4503599627370496 ≤ x ∧ x ≤ 4503599627370496) : PC Try.prog 19 [(.agg [(.av (.int .u32 s.1)), (iv s.2.1), (iv s.2.2.1), (iv s.2.2.2)]), (iv x)] [] (.tup [(.agg [(.av (.int .u32 ((oneS s x).1))), (iv ((oneS s x).2.1)), (iv ((oneS s x).2.2.1)), (iv ((oneS s x).2.2.2))]), (iv (smpS s x))]) [none] := by
  refine pc_intro Try.func19 rfl (by kernel_rfl) (Nat.le_of_ble_eq_true rfl) (by kernel_rfl) (l0 := [ps 0 (.agg [(.av (.int .u32 s.1)), (iv s.2.1), (iv s.2.2.1), (iv s.2.2.2)]), ps 1 (iv x)]) rfl (fun c0 Bor hc0 => ?_)
  refine T_seq ?_
  refine T_region [] [ks 1, ks 2, ks 4, kb 0, kb 8] (fun _ => mixed) (l' := [ps 1 (iv x), ps 2 (.opt 0 0), ps 4 (.opt 8 0), pb 0 35 [(.av (.int .u32 s.1)), (iv s.2.1), (iv s.2.2.1), (iv s.2.2.2)], pb 8 35 [(.av (.int .u32 0)), (iv 0), (iv 0), (iv 0)]]) (obs := []) (by kernel_rfl) (obs_nil) ?_
  refine T_seq ?_
  refine T_region [(2, .wrap), (3, .wrap)] [ks 1, ks 2, ks 4, kb 0, kb 8] (fun _ => mixed) (l' := [ps 1 (iv x), ps 2 (.opt 0 0), ps 4 (.opt 8 0), pb 0 35 [(.av (.int .u32 (IntKind.wrap .u32 ((IntKind.wrap .u32 (s.1 * 1664525)) + 1013904223)))), (iv s.2.1), (iv s.2.2.1), (iv s.2.2.2)], pb 8 35 [(.av (.int .u32 0)), (iv 0), (iv 0), (iv 0)]]) (obs := []) (by kernel_rfl) (obs_nil) ?_
  refine T_seq ?_
  have hnb := noi_bd s.1
  have hrb := raw_bd hs hx
  have hs2 := hs
  unfold okD at hs2
  refine T_wk (Wk.eq (show [ps 1 (iv x), ps 2 (.opt 0 0), ps 4 (.opt 8 0), pb 0 35 [(.av (.int .u32 (IntKind.wrap .u32 ((IntKind.wrap .u32 (s.1 * 1664525)) + 1013904223)))), (iv s.2.1), (iv s.2.2.1), (iv s.2.2.2)], pb 8 35 [(.av (.int .u32 0)), (iv 0), (iv 0), (iv 0)]] = [ps 1 (iv x), ps 2 (.opt 0 0), ps 4 (.opt 8 0), pb 0 35 [(.av (.int .u32 (seedS s.1))), (iv s.2.1), (iv s.2.2.1), (iv s.2.2.2)], pb 8 35 [(.av (.int .u32 0)), (iv 0), (iv 0), (iv 0)]] from by rfl)) ?_
  refine T_region [] [ks 1, ks 2, ks 4, kb 0, kb 8] (fun _ => mixed) (l' := [ps 1 (iv (x + s.2.1)), ps 2 (.opt 0 0), ps 4 (.opt 8 0), pb 0 35 [(.av (.int .u32 (seedS s.1))), (iv s.2.1), (iv s.2.2.1), (iv s.2.2.2)], pb 8 35 [(.av (.int .u32 0)), (iv 0), (iv 0), (iv 0)]]) (obs := [InK .i64 (x + s.2.1)]) (by kernel_rfl) (obs_cons (p := InK .i64 (x + s.2.1)) (by simp only [InK]; omega) (obs_nil)) ?_
  refine T_seq ?_
  refine T_region [] [ks 1, ks 2, ks 4, ks 6, kb 0, kb 8] (fun _ => mixed) (l' := [ps 1 (iv (x + s.2.1)), ps 2 (.opt 0 0), ps 4 (.opt 8 0), ps 6 (iv ((x + s.2.1) + (((seedS s.1)).tdiv 65536))), pb 0 35 [(.av (.int .u32 (seedS s.1))), (iv s.2.1), (iv s.2.2.1), (iv s.2.2.2)], pb 8 35 [(.av (.int .u32 0)), (iv 0), (iv 0), (iv 0)]]) (obs := [65536 ≠ (0 : Int), InK .u32 (((seedS s.1)).tdiv 65536), InK .i64 (((seedS s.1)).tdiv 65536), InK .i64 ((x + s.2.1) + (((seedS s.1)).tdiv 65536))]) (by kernel_rfl) (obs_cons (p := 65536 ≠ (0 : Int)) (by decide) (obs_cons (p := InK .u32 (((seedS s.1)).tdiv 65536)) (by have h0 := noi_bd s.1; rw [noi_eq2]; simp only [InK]; omega) (obs_cons (p := InK .i64 (((seedS s.1)).tdiv 65536)) (by have h0 := noi_bd s.1; rw [noi_eq2]; simp only [InK]; omega) (obs_cons (p := InK .i64 ((x + s.2.1) + (((seedS s.1)).tdiv 65536))) (by have h0 := noi_bd s.1; rw [noi_eq2]; simp only [InK]; omega) (obs_nil))))) ?_
  refine T_seq ?_
  refine T_wk (Wk.eq (show [ps 1 (iv (x + s.2.1)), ps 2 (.opt 0 0), ps 4 (.opt 8 0), ps 6 (iv ((x + s.2.1) + (((seedS s.1)).tdiv 65536))), pb 0 35 [(.av (.int .u32 (seedS s.1))), (iv s.2.1), (iv s.2.2.1), (iv s.2.2.2)], pb 8 35 [(.av (.int .u32 0)), (iv 0), (iv 0), (iv 0)]] = [ps 1 (iv (x + s.2.1)), ps 2 (.opt 0 0), ps 4 (.opt 8 0), ps 6 (iv (x + s.2.1 + noiS s.1)), pb 0 35 [(.av (.int .u32 (seedS s.1))), (iv s.2.1), (iv s.2.2.1), (iv s.2.2.2)], pb 8 35 [(.av (.int .u32 0)), (iv 0), (iv 0), (iv 0)]] from by rw [noi_eq2])) ?_
  refine T_region [] [ks 1, ks 2, ks 4, ks 6, ks 7, kb 0, kb 8] (fun _ => mixed) (l' := [ps 1 (iv (x + s.2.1)), ps 2 (.opt 0 0), ps 4 (.opt 8 0), ps 6 (iv (x + s.2.1 + noiS s.1)), ps 7 (iv (((x + s.2.1 + noiS s.1)).tdiv 65536)), pb 0 35 [(.av (.int .u32 (seedS s.1))), (iv s.2.1), (iv s.2.2.1), (iv s.2.2.2)], pb 8 35 [(.av (.int .u32 0)), (iv 0), (iv 0), (iv 0)]]) (obs := [65536 ≠ (0 : Int), InK .i64 (((x + s.2.1 + noiS s.1)).tdiv 65536)]) (by kernel_rfl) (obs_cons (p := 65536 ≠ (0 : Int)) (by decide) (obs_cons (p := InK .i64 (((x + s.2.1 + noiS s.1)).tdiv 65536)) (by have h0 := tdm (x + s.2.1 + noiS s.1); simp only [InK]; omega) (obs_nil))) ?_
  refine T_seq ?_
  refine T_seq ?_
  refine T_region [] [ks 1, ks 2, ks 4, ks 7, ks 27, kb 0, kb 8] (fun _ => mixed) (l' := [ps 1 (iv (x + s.2.1)), ps 2 (.opt 0 0), ps 4 (.opt 8 0), ps 7 (iv (((x + s.2.1 + noiS s.1)).tdiv 65536)), ps 27 (bv (decide ((((x + s.2.1 + noiS s.1)).tmod 65536) < 0))), pb 0 35 [(.av (.int .u32 (seedS s.1))), (iv s.2.1), (iv s.2.2.1), (iv s.2.2.2)], pb 8 35 [(.av (.int .u32 0)), (iv 0), (iv 0), (iv 0)]]) (obs := [65536 ≠ (0 : Int)]) (by kernel_rfl) (obs_cons (p := 65536 ≠ (0 : Int)) (by decide) (obs_nil)) ?_
  by_cases h1 : (((x + s.2.1 + noiS s.1)).tmod 65536) < 0
  · refine T_then (b := (decide ((((x + s.2.1 + noiS s.1)).tmod 65536) < 0))) rfl (decide_eq_true h1) ?_
    refine T_region [] [ks 1, ks 2, ks 4, ks 7, kb 0, kb 8] (fun _ => mixed) (l' := [ps 1 (iv (x + s.2.1)), ps 2 (.opt 0 0), ps 4 (.opt 8 0), ps 7 (iv ((((x + s.2.1 + noiS s.1)).tdiv 65536) - 1)), pb 0 35 [(.av (.int .u32 (seedS s.1))), (iv s.2.1), (iv s.2.2.1), (iv s.2.2.2)], pb 8 35 [(.av (.int .u32 0)), (iv 0), (iv 0), (iv 0)]]) (obs := [InK .i64 ((((x + s.2.1 + noiS s.1)).tdiv 65536) - 1)]) (by kernel_rfl) (obs_cons (p := InK .i64 ((((x + s.2.1 + noiS s.1)).tdiv 65536) - 1)) (by have h0 := tdm (x + s.2.1 + noiS s.1); simp only [InK]; omega) (obs_nil)) ?_
    refine T_seq ?_
    refine T_wk (Wk.eq (show [ps 1 (iv (x + s.2.1)), ps 2 (.opt 0 0), ps 4 (.opt 8 0), ps 7 (iv ((((x + s.2.1 + noiS s.1)).tdiv 65536) - 1)), pb 0 35 [(.av (.int .u32 (seedS s.1))), (iv s.2.1), (iv s.2.2.1), (iv s.2.2.2)], pb 8 35 [(.av (.int .u32 0)), (iv 0), (iv 0), (iv 0)]] = [ps 1 (iv (x + s.2.1)), ps 2 (.opt 0 0), ps 4 (.opt 8 0), ps 7 (iv (rawS s x)), pb 0 35 [(.av (.int .u32 (seedS s.1))), (iv s.2.1), (iv s.2.2.1), (iv s.2.2.2)], pb 8 35 [(.av (.int .u32 0)), (iv 0), (iv 0), (iv 0)]] from by rw [raw_neg h1])) ?_
    refine T_region [] [ks 2, ks 4, ks 7, kb 0, kb 8] (fun _ => mixed) (l' := [ps 2 (.opt 0 0), ps 4 (.opt 8 0), ps 7 (iv (rawS s x)), pb 0 35 [(.av (.int .u32 (seedS s.1))), (iv ((x + s.2.1) - (65536 * (rawS s x)))), (iv s.2.2.1), (iv s.2.2.2)], pb 8 35 [(.av (.int .u32 0)), (iv 0), (iv 0), (iv 0)]]) (obs := [InK .i64 (65536 * (rawS s x)), InK .i64 ((x + s.2.1) - (65536 * (rawS s x)))]) (by kernel_rfl) (obs_cons (p := InK .i64 (65536 * (rawS s x))) (by simp only [InK]; omega) (obs_cons (p := InK .i64 ((x + s.2.1) - (65536 * (rawS s x)))) (by simp only [InK]; omega) (obs_nil))) ?_
    refine T_seq ?_
    refine T_seq ?_
    refine T_wk (Wk.eq (show [ps 2 (.opt 0 0), ps 4 (.opt 8 0), ps 7 (iv (rawS s x)), pb 0 35 [(.av (.int .u32 (seedS s.1))), (iv ((x + s.2.1) - (65536 * (rawS s x)))), (iv s.2.2.1), (iv s.2.2.2)], pb 8 35 [(.av (.int .u32 0)), (iv 0), (iv 0), (iv 0)]] = [ps 2 (.opt 0 0), ps 4 (.opt 8 0), ps 7 (iv (rawS s x)), pb 0 35 [(.av (.int .u32 (seedS s.1))), (iv (x + s.2.1 - rawS s x * 65536)), (iv s.2.2.1), (iv s.2.2.2)], pb 8 35 [(.av (.int .u32 0)), (iv 0), (iv 0), (iv 0)]] from by rw [show 65536 * (rawS s x) = rawS s x * 65536 from Int.mul_comm _ _])) ?_
    refine T_region [] [ks 2, ks 4, ks 7, ks 36, kb 0, kb 8] (fun _ => mixed) (l' := [ps 2 (.opt 0 0), ps 4 (.opt 8 0), ps 7 (iv (rawS s x)), ps 36 (bv (decide (32767 < (rawS s x)))), pb 0 35 [(.av (.int .u32 (seedS s.1))), (iv (x + s.2.1 - rawS s x * 65536)), (iv s.2.2.1), (iv s.2.2.2)], pb 8 35 [(.av (.int .u32 0)), (iv 0), (iv 0), (iv 0)]]) (obs := []) (by kernel_rfl) (obs_nil) ?_
    by_cases h2 : 32767 < (rawS s x)
    · refine T_then (b := (decide (32767 < (rawS s x)))) rfl (decide_eq_true h2) ?_
      refine T_seq ?_
      refine T_region [] [ks 2, ks 4, ks 7, kb 0, kb 8] (fun _ => mixed) (l' := [ps 2 (.opt 0 0), ps 4 (.opt 8 0), ps 7 (iv 32767), pb 0 35 [(.av (.int .u32 (seedS s.1))), (iv (x + s.2.1 - rawS s x * 65536)), (iv s.2.2.1), (iv s.2.2.2)], pb 8 35 [(.av (.int .u32 0)), (iv 0), (iv 0), (iv 0)]]) (obs := []) (by kernel_rfl) (obs_nil) ?_
      refine T_seq ?_
      refine T_region [] [ks 2, ks 4, ks 7, kb 0, kb 8] (fun _ => mixed) (l' := [ps 2 (.opt 0 0), ps 4 (.opt 8 0), ps 7 (iv 32767), pb 0 35 [(.av (.int .u32 (seedS s.1))), (iv 0), (iv s.2.2.1), (iv s.2.2.2)], pb 8 35 [(.av (.int .u32 0)), (iv 0), (iv 0), (iv 0)]]) (obs := []) (by kernel_rfl) (obs_nil) ?_
      refine T_region [] [ks 2, ks 4, ks 7, kb 0, kb 8] (fun _ => mixed) (l' := [ps 2 (.opt 0 0), ps 4 (.opt 8 0), ps 7 (iv 32767), pb 0 35 [(.av (.int .u32 (seedS s.1))), (iv 0), (iv s.2.2.1), (iv (s.2.2.2 + 1))], pb 8 35 [(.av (.int .u32 0)), (iv 0), (iv 0), (iv 0)]]) (obs := [InK .i64 (s.2.2.2 + 1)]) (by kernel_rfl) (obs_cons (p := InK .i64 (s.2.2.2 + 1)) (by simp only [InK]; omega) (obs_nil)) ?_
      refine T_seq ?_
      refine T_seq ?_
      refine T_region [(1, .call [] [(iv 32767)] [] (iv (absI 32767)) [])] [ks 2, ks 4, ks 7, ks 53, kb 0, kb 8] (fun _ => mixed) (l' := [ps 2 (.opt 0 0), ps 4 (.opt 8 0), ps 7 (iv 32767), ps 53 (bv (decide (s.2.2.1 < (absI 32767)))), pb 0 35 [(.av (.int .u32 (seedS s.1))), (iv 0), (iv s.2.2.1), (iv (s.2.2.2 + 1))], pb 8 35 [(.av (.int .u32 0)), (iv 0), (iv 0), (iv 0)]]) (obs := [PC Try.prog 23 [(iv 32767)] [] (iv (absI 32767)) [], [(iv 32767)] = renL (sigi [] 376) [(iv 32767)]]) (by kernel_rfl) (obs_cons (p := PC Try.prog 23 [(iv 32767)] [] (iv (absI 32767)) []) (abs_pc 32767 (by omega) (by omega)) (obs_cons (p := [(iv 32767)] = renL (sigi [] 376) [(iv 32767)]) rfl (obs_nil))) ?_
      by_cases h3 : s.2.2.1 < (absI 32767)
      · refine T_then (b := (decide (s.2.2.1 < (absI 32767)))) rfl (decide_eq_true h3) ?_
        refine T_region [(1, .call [] [(iv 32767)] [] (iv (absI 32767)) [])] [ks 2, ks 4, ks 7, kb 0, kb 8] (fun _ => mixed) (l' := [ps 2 (.opt 0 0), ps 4 (.opt 8 0), ps 7 (iv 32767), pb 0 35 [(.av (.int .u32 (seedS s.1))), (iv 0), (iv (absI 32767)), (iv (s.2.2.2 + 1))], pb 8 35 [(.av (.int .u32 0)), (iv 0), (iv 0), (iv 0)]]) (obs := [PC Try.prog 23 [(iv 32767)] [] (iv (absI 32767)) [], [(iv 32767)] = renL (sigi [] 416) [(iv 32767)]]) (by kernel_rfl) (obs_cons (p := PC Try.prog 23 [(iv 32767)] [] (iv (absI 32767)) []) (abs_pc 32767 (by omega) (by omega)) (obs_cons (p := [(iv 32767)] = renL (sigi [] 416) [(iv 32767)]) rfl (obs_nil))) ?_
        refine T_seq ?_
        refine T_region [] [ks 4, ks 5, kb 8] (fun _ => mixed) (l' := [ps 4 (.opt 8 0), ps 5 (iv 32767), pb 8 35 [(.av (.int .u32 (seedS s.1))), (iv 0), (iv (absI 32767)), (iv (s.2.2.2 + 1))]]) (obs := []) (by kernel_rfl) (obs_nil) ?_
        have hc : cutS (rawS s x) = 32767 := by unfold cutS; omega
        have ht : tooB (rawS s x) = true := by unfold tooB; exact decide_eq_true (by omega)
        have hlo : loudS s.2.2.1 32767 = absI 32767 := by unfold loudS; rw [if_pos h3]
        rw [show oneS s x = (seedS s.1, 0, absI 32767, s.2.2.2 + 1) from by unfold oneS; rw [hc, ht, hlo]; rfl, show smpS s x = 32767 from hc]
        exact T_ret fun cx_ a_ hI_ => ret_ok (H' := [none]) (.inr rfl) (Wk.ren2 [ps 4 (.opt 0 0), ps 5 (iv 32767), pb 0 35 [(.av (.int .u32 (seedS s.1))), (iv 0), (iv (absI 32767)), (iv (s.2.2.2 + 1))]] 0 hc0 [8] rfl rfl (by kernel_rfl) (by kernel_rfl)) rfl (obs_nil) (fun cx_ a_ hI_ => ret_res (l' := [ps 4 (.opt 0 0), ps 5 (iv 32767), pb 0 35 [(.av (.int .u32 (seedS s.1))), (iv 0), (iv (absI 32767)), (iv (s.2.2.2 + 1))]]) (by kernel_rfl) cx_ a_ hI_) hI_
      · refine T_else (b := (decide (s.2.2.1 < (absI 32767)))) rfl (decide_eq_false h3) ?_
        refine T_skip ?_
        refine T_seq ?_
        refine T_region [] [ks 4, ks 5, kb 8] (fun _ => mixed) (l' := [ps 4 (.opt 8 0), ps 5 (iv 32767), pb 8 35 [(.av (.int .u32 (seedS s.1))), (iv 0), (iv s.2.2.1), (iv (s.2.2.2 + 1))]]) (obs := []) (by kernel_rfl) (obs_nil) ?_
        have hc : cutS (rawS s x) = 32767 := by unfold cutS; omega
        have ht : tooB (rawS s x) = true := by unfold tooB; exact decide_eq_true (by omega)
        have hlo : loudS s.2.2.1 32767 = s.2.2.1 := by unfold loudS; rw [if_neg h3]
        rw [show oneS s x = (seedS s.1, 0, s.2.2.1, s.2.2.2 + 1) from by unfold oneS; rw [hc, ht, hlo]; rfl, show smpS s x = 32767 from hc]
        exact T_ret fun cx_ a_ hI_ => ret_ok (H' := [none]) (.inr rfl) (Wk.ren2 [ps 4 (.opt 0 0), ps 5 (iv 32767), pb 0 35 [(.av (.int .u32 (seedS s.1))), (iv 0), (iv s.2.2.1), (iv (s.2.2.2 + 1))]] 0 hc0 [8] rfl rfl (by kernel_rfl) (by kernel_rfl)) rfl (obs_nil) (fun cx_ a_ hI_ => ret_res (l' := [ps 4 (.opt 0 0), ps 5 (iv 32767), pb 0 35 [(.av (.int .u32 (seedS s.1))), (iv 0), (iv s.2.2.1), (iv (s.2.2.2 + 1))]]) (by kernel_rfl) cx_ a_ hI_) hI_
    · refine T_else (b := (decide (32767 < (rawS s x)))) rfl (decide_eq_false h2) ?_
      refine T_seq ?_
      refine T_region [] [ks 2, ks 4, ks 7, ks 43, kb 0, kb 8] (fun _ => mixed) (l' := [ps 2 (.opt 0 0), ps 4 (.opt 8 0), ps 7 (iv (rawS s x)), ps 43 (bv (decide ((rawS s x) < (-32768)))), pb 0 35 [(.av (.int .u32 (seedS s.1))), (iv (x + s.2.1 - rawS s x * 65536)), (iv s.2.2.1), (iv s.2.2.2)], pb 8 35 [(.av (.int .u32 0)), (iv 0), (iv 0), (iv 0)]]) (obs := []) (by kernel_rfl) (obs_nil) ?_
      by_cases h4 : (rawS s x) < (-32768)
      · refine T_then (b := (decide ((rawS s x) < (-32768)))) rfl (decide_eq_true h4) ?_
        refine T_seq ?_
        refine T_region [] [ks 2, ks 4, ks 7, kb 0, kb 8] (fun _ => mixed) (l' := [ps 2 (.opt 0 0), ps 4 (.opt 8 0), ps 7 (iv (-32768)), pb 0 35 [(.av (.int .u32 (seedS s.1))), (iv (x + s.2.1 - rawS s x * 65536)), (iv s.2.2.1), (iv s.2.2.2)], pb 8 35 [(.av (.int .u32 0)), (iv 0), (iv 0), (iv 0)]]) (obs := []) (by kernel_rfl) (obs_nil) ?_
        refine T_seq ?_
        refine T_region [] [ks 2, ks 4, ks 7, kb 0, kb 8] (fun _ => mixed) (l' := [ps 2 (.opt 0 0), ps 4 (.opt 8 0), ps 7 (iv (-32768)), pb 0 35 [(.av (.int .u32 (seedS s.1))), (iv 0), (iv s.2.2.1), (iv s.2.2.2)], pb 8 35 [(.av (.int .u32 0)), (iv 0), (iv 0), (iv 0)]]) (obs := []) (by kernel_rfl) (obs_nil) ?_
        refine T_region [] [ks 2, ks 4, ks 7, kb 0, kb 8] (fun _ => mixed) (l' := [ps 2 (.opt 0 0), ps 4 (.opt 8 0), ps 7 (iv (-32768)), pb 0 35 [(.av (.int .u32 (seedS s.1))), (iv 0), (iv s.2.2.1), (iv (s.2.2.2 + 1))], pb 8 35 [(.av (.int .u32 0)), (iv 0), (iv 0), (iv 0)]]) (obs := [InK .i64 (s.2.2.2 + 1)]) (by kernel_rfl) (obs_cons (p := InK .i64 (s.2.2.2 + 1)) (by simp only [InK]; omega) (obs_nil)) ?_
        refine T_seq ?_
        refine T_seq ?_
        refine T_region [(1, .call [] [(iv (-32768))] [] (iv (absI (-32768))) [])] [ks 2, ks 4, ks 7, ks 53, kb 0, kb 8] (fun _ => mixed) (l' := [ps 2 (.opt 0 0), ps 4 (.opt 8 0), ps 7 (iv (-32768)), ps 53 (bv (decide (s.2.2.1 < (absI (-32768))))), pb 0 35 [(.av (.int .u32 (seedS s.1))), (iv 0), (iv s.2.2.1), (iv (s.2.2.2 + 1))], pb 8 35 [(.av (.int .u32 0)), (iv 0), (iv 0), (iv 0)]]) (obs := [PC Try.prog 23 [(iv (-32768))] [] (iv (absI (-32768))) [], [(iv (-32768))] = renL (sigi [] 392) [(iv (-32768))]]) (by kernel_rfl) (obs_cons (p := PC Try.prog 23 [(iv (-32768))] [] (iv (absI (-32768))) []) (abs_pc (-32768) (by omega) (by omega)) (obs_cons (p := [(iv (-32768))] = renL (sigi [] 392) [(iv (-32768))]) rfl (obs_nil))) ?_
        by_cases h5 : s.2.2.1 < (absI (-32768))
        · refine T_then (b := (decide (s.2.2.1 < (absI (-32768))))) rfl (decide_eq_true h5) ?_
          refine T_region [(1, .call [] [(iv (-32768))] [] (iv (absI (-32768))) [])] [ks 2, ks 4, ks 7, kb 0, kb 8] (fun _ => mixed) (l' := [ps 2 (.opt 0 0), ps 4 (.opt 8 0), ps 7 (iv (-32768)), pb 0 35 [(.av (.int .u32 (seedS s.1))), (iv 0), (iv (absI (-32768))), (iv (s.2.2.2 + 1))], pb 8 35 [(.av (.int .u32 0)), (iv 0), (iv 0), (iv 0)]]) (obs := [PC Try.prog 23 [(iv (-32768))] [] (iv (absI (-32768))) [], [(iv (-32768))] = renL (sigi [] 432) [(iv (-32768))]]) (by kernel_rfl) (obs_cons (p := PC Try.prog 23 [(iv (-32768))] [] (iv (absI (-32768))) []) (abs_pc (-32768) (by omega) (by omega)) (obs_cons (p := [(iv (-32768))] = renL (sigi [] 432) [(iv (-32768))]) rfl (obs_nil))) ?_
          refine T_seq ?_
          refine T_region [] [ks 4, ks 5, kb 8] (fun _ => mixed) (l' := [ps 4 (.opt 8 0), ps 5 (iv (-32768)), pb 8 35 [(.av (.int .u32 (seedS s.1))), (iv 0), (iv (absI (-32768))), (iv (s.2.2.2 + 1))]]) (obs := []) (by kernel_rfl) (obs_nil) ?_
          have hc : cutS (rawS s x) = (-32768) := by unfold cutS; omega
          have ht : tooB (rawS s x) = true := by unfold tooB; exact decide_eq_true (by omega)
          have hlo : loudS s.2.2.1 (-32768) = absI (-32768) := by unfold loudS; rw [if_pos h5]
          rw [show oneS s x = (seedS s.1, 0, absI (-32768), s.2.2.2 + 1) from by unfold oneS; rw [hc, ht, hlo]; rfl, show smpS s x = (-32768) from hc]
          exact T_ret fun cx_ a_ hI_ => ret_ok (H' := [none]) (.inr rfl) (Wk.ren2 [ps 4 (.opt 0 0), ps 5 (iv (-32768)), pb 0 35 [(.av (.int .u32 (seedS s.1))), (iv 0), (iv (absI (-32768))), (iv (s.2.2.2 + 1))]] 0 hc0 [8] rfl rfl (by kernel_rfl) (by kernel_rfl)) rfl (obs_nil) (fun cx_ a_ hI_ => ret_res (l' := [ps 4 (.opt 0 0), ps 5 (iv (-32768)), pb 0 35 [(.av (.int .u32 (seedS s.1))), (iv 0), (iv (absI (-32768))), (iv (s.2.2.2 + 1))]]) (by kernel_rfl) cx_ a_ hI_) hI_
        · refine T_else (b := (decide (s.2.2.1 < (absI (-32768))))) rfl (decide_eq_false h5) ?_
          refine T_skip ?_
          refine T_seq ?_
          refine T_region [] [ks 4, ks 5, kb 8] (fun _ => mixed) (l' := [ps 4 (.opt 8 0), ps 5 (iv (-32768)), pb 8 35 [(.av (.int .u32 (seedS s.1))), (iv 0), (iv s.2.2.1), (iv (s.2.2.2 + 1))]]) (obs := []) (by kernel_rfl) (obs_nil) ?_
          have hc : cutS (rawS s x) = (-32768) := by unfold cutS; omega
          have ht : tooB (rawS s x) = true := by unfold tooB; exact decide_eq_true (by omega)
          have hlo : loudS s.2.2.1 (-32768) = s.2.2.1 := by unfold loudS; rw [if_neg h5]
          rw [show oneS s x = (seedS s.1, 0, s.2.2.1, s.2.2.2 + 1) from by unfold oneS; rw [hc, ht, hlo]; rfl, show smpS s x = (-32768) from hc]
          exact T_ret fun cx_ a_ hI_ => ret_ok (H' := [none]) (.inr rfl) (Wk.ren2 [ps 4 (.opt 0 0), ps 5 (iv (-32768)), pb 0 35 [(.av (.int .u32 (seedS s.1))), (iv 0), (iv s.2.2.1), (iv (s.2.2.2 + 1))]] 0 hc0 [8] rfl rfl (by kernel_rfl) (by kernel_rfl)) rfl (obs_nil) (fun cx_ a_ hI_ => ret_res (l' := [ps 4 (.opt 0 0), ps 5 (iv (-32768)), pb 0 35 [(.av (.int .u32 (seedS s.1))), (iv 0), (iv s.2.2.1), (iv (s.2.2.2 + 1))]]) (by kernel_rfl) cx_ a_ hI_) hI_
      · refine T_else (b := (decide ((rawS s x) < (-32768)))) rfl (decide_eq_false h4) ?_
        refine T_skip ?_
        refine T_seq ?_
        refine T_seq ?_
        refine T_region [(1, .call [] [(iv (rawS s x))] [] (iv (absI (rawS s x))) [])] [ks 2, ks 4, ks 7, ks 53, kb 0, kb 8] (fun _ => mixed) (l' := [ps 2 (.opt 0 0), ps 4 (.opt 8 0), ps 7 (iv (rawS s x)), ps 53 (bv (decide (s.2.2.1 < (absI (rawS s x))))), pb 0 35 [(.av (.int .u32 (seedS s.1))), (iv (x + s.2.1 - rawS s x * 65536)), (iv s.2.2.1), (iv s.2.2.2)], pb 8 35 [(.av (.int .u32 0)), (iv 0), (iv 0), (iv 0)]]) (obs := [PC Try.prog 23 [(iv (rawS s x))] [] (iv (absI (rawS s x))) [], [(iv (rawS s x))] = renL (sigi [] 328) [(iv (rawS s x))]]) (by kernel_rfl) (obs_cons (p := PC Try.prog 23 [(iv (rawS s x))] [] (iv (absI (rawS s x))) []) (abs_pc (rawS s x) (by omega) (by omega)) (obs_cons (p := [(iv (rawS s x))] = renL (sigi [] 328) [(iv (rawS s x))]) rfl (obs_nil))) ?_
        by_cases h6 : s.2.2.1 < (absI (rawS s x))
        · refine T_then (b := (decide (s.2.2.1 < (absI (rawS s x))))) rfl (decide_eq_true h6) ?_
          refine T_region [(1, .call [] [(iv (rawS s x))] [] (iv (absI (rawS s x))) [])] [ks 2, ks 4, ks 7, kb 0, kb 8] (fun _ => mixed) (l' := [ps 2 (.opt 0 0), ps 4 (.opt 8 0), ps 7 (iv (rawS s x)), pb 0 35 [(.av (.int .u32 (seedS s.1))), (iv (x + s.2.1 - rawS s x * 65536)), (iv (absI (rawS s x))), (iv s.2.2.2)], pb 8 35 [(.av (.int .u32 0)), (iv 0), (iv 0), (iv 0)]]) (obs := [PC Try.prog 23 [(iv (rawS s x))] [] (iv (absI (rawS s x))) [], [(iv (rawS s x))] = renL (sigi [] 368) [(iv (rawS s x))]]) (by kernel_rfl) (obs_cons (p := PC Try.prog 23 [(iv (rawS s x))] [] (iv (absI (rawS s x))) []) (abs_pc (rawS s x) (by omega) (by omega)) (obs_cons (p := [(iv (rawS s x))] = renL (sigi [] 368) [(iv (rawS s x))]) rfl (obs_nil))) ?_
          refine T_seq ?_
          refine T_region [] [ks 4, ks 5, kb 8] (fun _ => mixed) (l' := [ps 4 (.opt 8 0), ps 5 (iv (rawS s x)), pb 8 35 [(.av (.int .u32 (seedS s.1))), (iv (x + s.2.1 - rawS s x * 65536)), (iv (absI (rawS s x))), (iv s.2.2.2)]]) (obs := []) (by kernel_rfl) (obs_nil) ?_
          have hc : cutS (rawS s x) = (rawS s x) := by unfold cutS; omega
          have ht : tooB (rawS s x) = false := by unfold tooB; exact decide_eq_false (by omega)
          have hlo : loudS s.2.2.1 (rawS s x) = absI (rawS s x) := by unfold loudS; rw [if_pos h6]
          rw [show oneS s x = (seedS s.1, x + s.2.1 - rawS s x * 65536, absI (rawS s x), s.2.2.2) from by unfold oneS; rw [hc, ht, hlo]; rfl, show smpS s x = (rawS s x) from hc]
          exact T_ret fun cx_ a_ hI_ => ret_ok (H' := [none]) (.inr rfl) (Wk.ren2 [ps 4 (.opt 0 0), ps 5 (iv (rawS s x)), pb 0 35 [(.av (.int .u32 (seedS s.1))), (iv (x + s.2.1 - rawS s x * 65536)), (iv (absI (rawS s x))), (iv s.2.2.2)]] 0 hc0 [8] rfl rfl (by kernel_rfl) (by kernel_rfl)) rfl (obs_nil) (fun cx_ a_ hI_ => ret_res (l' := [ps 4 (.opt 0 0), ps 5 (iv (rawS s x)), pb 0 35 [(.av (.int .u32 (seedS s.1))), (iv (x + s.2.1 - rawS s x * 65536)), (iv (absI (rawS s x))), (iv s.2.2.2)]]) (by kernel_rfl) cx_ a_ hI_) hI_
        · refine T_else (b := (decide (s.2.2.1 < (absI (rawS s x))))) rfl (decide_eq_false h6) ?_
          refine T_skip ?_
          refine T_seq ?_
          refine T_region [] [ks 4, ks 5, kb 8] (fun _ => mixed) (l' := [ps 4 (.opt 8 0), ps 5 (iv (rawS s x)), pb 8 35 [(.av (.int .u32 (seedS s.1))), (iv (x + s.2.1 - rawS s x * 65536)), (iv s.2.2.1), (iv s.2.2.2)]]) (obs := []) (by kernel_rfl) (obs_nil) ?_
          have hc : cutS (rawS s x) = (rawS s x) := by unfold cutS; omega
          have ht : tooB (rawS s x) = false := by unfold tooB; exact decide_eq_false (by omega)
          have hlo : loudS s.2.2.1 (rawS s x) = s.2.2.1 := by unfold loudS; rw [if_neg h6]
          rw [show oneS s x = (seedS s.1, x + s.2.1 - rawS s x * 65536, s.2.2.1, s.2.2.2) from by unfold oneS; rw [hc, ht, hlo]; rfl, show smpS s x = (rawS s x) from hc]
          exact T_ret fun cx_ a_ hI_ => ret_ok (H' := [none]) (.inr rfl) (Wk.ren2 [ps 4 (.opt 0 0), ps 5 (iv (rawS s x)), pb 0 35 [(.av (.int .u32 (seedS s.1))), (iv (x + s.2.1 - rawS s x * 65536)), (iv s.2.2.1), (iv s.2.2.2)]] 0 hc0 [8] rfl rfl (by kernel_rfl) (by kernel_rfl)) rfl (obs_nil) (fun cx_ a_ hI_ => ret_res (l' := [ps 4 (.opt 0 0), ps 5 (iv (rawS s x)), pb 0 35 [(.av (.int .u32 (seedS s.1))), (iv (x + s.2.1 - rawS s x * 65536)), (iv s.2.2.1), (iv s.2.2.2)]]) (by kernel_rfl) cx_ a_ hI_) hI_
  · refine T_else (b := (decide ((((x + s.2.1 + noiS s.1)).tmod 65536) < 0))) rfl (decide_eq_false h1) ?_
    refine T_skip ?_
    refine T_seq ?_
    refine T_wk (Wk.eq (show [ps 1 (iv (x + s.2.1)), ps 2 (.opt 0 0), ps 4 (.opt 8 0), ps 7 (iv (((x + s.2.1 + noiS s.1)).tdiv 65536)), ps 27 (bv (decide ((((x + s.2.1 + noiS s.1)).tmod 65536) < 0))), pb 0 35 [(.av (.int .u32 (seedS s.1))), (iv s.2.1), (iv s.2.2.1), (iv s.2.2.2)], pb 8 35 [(.av (.int .u32 0)), (iv 0), (iv 0), (iv 0)]] = [ps 1 (iv (x + s.2.1)), ps 2 (.opt 0 0), ps 4 (.opt 8 0), ps 7 (iv (rawS s x)), ps 27 (bv (decide ((((x + s.2.1 + noiS s.1)).tmod 65536) < 0))), pb 0 35 [(.av (.int .u32 (seedS s.1))), (iv s.2.1), (iv s.2.2.1), (iv s.2.2.2)], pb 8 35 [(.av (.int .u32 0)), (iv 0), (iv 0), (iv 0)]] from by rw [raw_pos h1])) ?_
    refine T_region [] [ks 2, ks 4, ks 7, kb 0, kb 8] (fun _ => mixed) (l' := [ps 2 (.opt 0 0), ps 4 (.opt 8 0), ps 7 (iv (rawS s x)), pb 0 35 [(.av (.int .u32 (seedS s.1))), (iv ((x + s.2.1) - (65536 * (rawS s x)))), (iv s.2.2.1), (iv s.2.2.2)], pb 8 35 [(.av (.int .u32 0)), (iv 0), (iv 0), (iv 0)]]) (obs := [InK .i64 (65536 * (rawS s x)), InK .i64 ((x + s.2.1) - (65536 * (rawS s x)))]) (by kernel_rfl) (obs_cons (p := InK .i64 (65536 * (rawS s x))) (by simp only [InK]; omega) (obs_cons (p := InK .i64 ((x + s.2.1) - (65536 * (rawS s x)))) (by simp only [InK]; omega) (obs_nil))) ?_
    refine T_seq ?_
    refine T_seq ?_
    refine T_wk (Wk.eq (show [ps 2 (.opt 0 0), ps 4 (.opt 8 0), ps 7 (iv (rawS s x)), pb 0 35 [(.av (.int .u32 (seedS s.1))), (iv ((x + s.2.1) - (65536 * (rawS s x)))), (iv s.2.2.1), (iv s.2.2.2)], pb 8 35 [(.av (.int .u32 0)), (iv 0), (iv 0), (iv 0)]] = [ps 2 (.opt 0 0), ps 4 (.opt 8 0), ps 7 (iv (rawS s x)), pb 0 35 [(.av (.int .u32 (seedS s.1))), (iv (x + s.2.1 - rawS s x * 65536)), (iv s.2.2.1), (iv s.2.2.2)], pb 8 35 [(.av (.int .u32 0)), (iv 0), (iv 0), (iv 0)]] from by rw [show 65536 * (rawS s x) = rawS s x * 65536 from Int.mul_comm _ _])) ?_
    refine T_region [] [ks 2, ks 4, ks 7, ks 36, kb 0, kb 8] (fun _ => mixed) (l' := [ps 2 (.opt 0 0), ps 4 (.opt 8 0), ps 7 (iv (rawS s x)), ps 36 (bv (decide (32767 < (rawS s x)))), pb 0 35 [(.av (.int .u32 (seedS s.1))), (iv (x + s.2.1 - rawS s x * 65536)), (iv s.2.2.1), (iv s.2.2.2)], pb 8 35 [(.av (.int .u32 0)), (iv 0), (iv 0), (iv 0)]]) (obs := []) (by kernel_rfl) (obs_nil) ?_
    by_cases h7 : 32767 < (rawS s x)
    · refine T_then (b := (decide (32767 < (rawS s x)))) rfl (decide_eq_true h7) ?_
      refine T_seq ?_
      refine T_region [] [ks 2, ks 4, ks 7, kb 0, kb 8] (fun _ => mixed) (l' := [ps 2 (.opt 0 0), ps 4 (.opt 8 0), ps 7 (iv 32767), pb 0 35 [(.av (.int .u32 (seedS s.1))), (iv (x + s.2.1 - rawS s x * 65536)), (iv s.2.2.1), (iv s.2.2.2)], pb 8 35 [(.av (.int .u32 0)), (iv 0), (iv 0), (iv 0)]]) (obs := []) (by kernel_rfl) (obs_nil) ?_
      refine T_seq ?_
      refine T_region [] [ks 2, ks 4, ks 7, kb 0, kb 8] (fun _ => mixed) (l' := [ps 2 (.opt 0 0), ps 4 (.opt 8 0), ps 7 (iv 32767), pb 0 35 [(.av (.int .u32 (seedS s.1))), (iv 0), (iv s.2.2.1), (iv s.2.2.2)], pb 8 35 [(.av (.int .u32 0)), (iv 0), (iv 0), (iv 0)]]) (obs := []) (by kernel_rfl) (obs_nil) ?_
      refine T_region [] [ks 2, ks 4, ks 7, kb 0, kb 8] (fun _ => mixed) (l' := [ps 2 (.opt 0 0), ps 4 (.opt 8 0), ps 7 (iv 32767), pb 0 35 [(.av (.int .u32 (seedS s.1))), (iv 0), (iv s.2.2.1), (iv (s.2.2.2 + 1))], pb 8 35 [(.av (.int .u32 0)), (iv 0), (iv 0), (iv 0)]]) (obs := [InK .i64 (s.2.2.2 + 1)]) (by kernel_rfl) (obs_cons (p := InK .i64 (s.2.2.2 + 1)) (by simp only [InK]; omega) (obs_nil)) ?_
      refine T_seq ?_
      refine T_seq ?_
      refine T_region [(1, .call [] [(iv 32767)] [] (iv (absI 32767)) [])] [ks 2, ks 4, ks 7, ks 53, kb 0, kb 8] (fun _ => mixed) (l' := [ps 2 (.opt 0 0), ps 4 (.opt 8 0), ps 7 (iv 32767), ps 53 (bv (decide (s.2.2.1 < (absI 32767)))), pb 0 35 [(.av (.int .u32 (seedS s.1))), (iv 0), (iv s.2.2.1), (iv (s.2.2.2 + 1))], pb 8 35 [(.av (.int .u32 0)), (iv 0), (iv 0), (iv 0)]]) (obs := [PC Try.prog 23 [(iv 32767)] [] (iv (absI 32767)) [], [(iv 32767)] = renL (sigi [] 352) [(iv 32767)]]) (by kernel_rfl) (obs_cons (p := PC Try.prog 23 [(iv 32767)] [] (iv (absI 32767)) []) (abs_pc 32767 (by omega) (by omega)) (obs_cons (p := [(iv 32767)] = renL (sigi [] 352) [(iv 32767)]) rfl (obs_nil))) ?_
      by_cases h8 : s.2.2.1 < (absI 32767)
      · refine T_then (b := (decide (s.2.2.1 < (absI 32767)))) rfl (decide_eq_true h8) ?_
        refine T_region [(1, .call [] [(iv 32767)] [] (iv (absI 32767)) [])] [ks 2, ks 4, ks 7, kb 0, kb 8] (fun _ => mixed) (l' := [ps 2 (.opt 0 0), ps 4 (.opt 8 0), ps 7 (iv 32767), pb 0 35 [(.av (.int .u32 (seedS s.1))), (iv 0), (iv (absI 32767)), (iv (s.2.2.2 + 1))], pb 8 35 [(.av (.int .u32 0)), (iv 0), (iv 0), (iv 0)]]) (obs := [PC Try.prog 23 [(iv 32767)] [] (iv (absI 32767)) [], [(iv 32767)] = renL (sigi [] 392) [(iv 32767)]]) (by kernel_rfl) (obs_cons (p := PC Try.prog 23 [(iv 32767)] [] (iv (absI 32767)) []) (abs_pc 32767 (by omega) (by omega)) (obs_cons (p := [(iv 32767)] = renL (sigi [] 392) [(iv 32767)]) rfl (obs_nil))) ?_
        refine T_seq ?_
        refine T_region [] [ks 4, ks 5, kb 8] (fun _ => mixed) (l' := [ps 4 (.opt 8 0), ps 5 (iv 32767), pb 8 35 [(.av (.int .u32 (seedS s.1))), (iv 0), (iv (absI 32767)), (iv (s.2.2.2 + 1))]]) (obs := []) (by kernel_rfl) (obs_nil) ?_
        have hc : cutS (rawS s x) = 32767 := by unfold cutS; omega
        have ht : tooB (rawS s x) = true := by unfold tooB; exact decide_eq_true (by omega)
        have hlo : loudS s.2.2.1 32767 = absI 32767 := by unfold loudS; rw [if_pos h8]
        rw [show oneS s x = (seedS s.1, 0, absI 32767, s.2.2.2 + 1) from by unfold oneS; rw [hc, ht, hlo]; rfl, show smpS s x = 32767 from hc]
        exact T_ret fun cx_ a_ hI_ => ret_ok (H' := [none]) (.inr rfl) (Wk.ren2 [ps 4 (.opt 0 0), ps 5 (iv 32767), pb 0 35 [(.av (.int .u32 (seedS s.1))), (iv 0), (iv (absI 32767)), (iv (s.2.2.2 + 1))]] 0 hc0 [8] rfl rfl (by kernel_rfl) (by kernel_rfl)) rfl (obs_nil) (fun cx_ a_ hI_ => ret_res (l' := [ps 4 (.opt 0 0), ps 5 (iv 32767), pb 0 35 [(.av (.int .u32 (seedS s.1))), (iv 0), (iv (absI 32767)), (iv (s.2.2.2 + 1))]]) (by kernel_rfl) cx_ a_ hI_) hI_
      · refine T_else (b := (decide (s.2.2.1 < (absI 32767)))) rfl (decide_eq_false h8) ?_
        refine T_skip ?_
        refine T_seq ?_
        refine T_region [] [ks 4, ks 5, kb 8] (fun _ => mixed) (l' := [ps 4 (.opt 8 0), ps 5 (iv 32767), pb 8 35 [(.av (.int .u32 (seedS s.1))), (iv 0), (iv s.2.2.1), (iv (s.2.2.2 + 1))]]) (obs := []) (by kernel_rfl) (obs_nil) ?_
        have hc : cutS (rawS s x) = 32767 := by unfold cutS; omega
        have ht : tooB (rawS s x) = true := by unfold tooB; exact decide_eq_true (by omega)
        have hlo : loudS s.2.2.1 32767 = s.2.2.1 := by unfold loudS; rw [if_neg h8]
        rw [show oneS s x = (seedS s.1, 0, s.2.2.1, s.2.2.2 + 1) from by unfold oneS; rw [hc, ht, hlo]; rfl, show smpS s x = 32767 from hc]
        exact T_ret fun cx_ a_ hI_ => ret_ok (H' := [none]) (.inr rfl) (Wk.ren2 [ps 4 (.opt 0 0), ps 5 (iv 32767), pb 0 35 [(.av (.int .u32 (seedS s.1))), (iv 0), (iv s.2.2.1), (iv (s.2.2.2 + 1))]] 0 hc0 [8] rfl rfl (by kernel_rfl) (by kernel_rfl)) rfl (obs_nil) (fun cx_ a_ hI_ => ret_res (l' := [ps 4 (.opt 0 0), ps 5 (iv 32767), pb 0 35 [(.av (.int .u32 (seedS s.1))), (iv 0), (iv s.2.2.1), (iv (s.2.2.2 + 1))]]) (by kernel_rfl) cx_ a_ hI_) hI_
    · refine T_else (b := (decide (32767 < (rawS s x)))) rfl (decide_eq_false h7) ?_
      refine T_seq ?_
      refine T_region [] [ks 2, ks 4, ks 7, ks 43, kb 0, kb 8] (fun _ => mixed) (l' := [ps 2 (.opt 0 0), ps 4 (.opt 8 0), ps 7 (iv (rawS s x)), ps 43 (bv (decide ((rawS s x) < (-32768)))), pb 0 35 [(.av (.int .u32 (seedS s.1))), (iv (x + s.2.1 - rawS s x * 65536)), (iv s.2.2.1), (iv s.2.2.2)], pb 8 35 [(.av (.int .u32 0)), (iv 0), (iv 0), (iv 0)]]) (obs := []) (by kernel_rfl) (obs_nil) ?_
      by_cases h9 : (rawS s x) < (-32768)
      · refine T_then (b := (decide ((rawS s x) < (-32768)))) rfl (decide_eq_true h9) ?_
        refine T_seq ?_
        refine T_region [] [ks 2, ks 4, ks 7, kb 0, kb 8] (fun _ => mixed) (l' := [ps 2 (.opt 0 0), ps 4 (.opt 8 0), ps 7 (iv (-32768)), pb 0 35 [(.av (.int .u32 (seedS s.1))), (iv (x + s.2.1 - rawS s x * 65536)), (iv s.2.2.1), (iv s.2.2.2)], pb 8 35 [(.av (.int .u32 0)), (iv 0), (iv 0), (iv 0)]]) (obs := []) (by kernel_rfl) (obs_nil) ?_
        refine T_seq ?_
        refine T_region [] [ks 2, ks 4, ks 7, kb 0, kb 8] (fun _ => mixed) (l' := [ps 2 (.opt 0 0), ps 4 (.opt 8 0), ps 7 (iv (-32768)), pb 0 35 [(.av (.int .u32 (seedS s.1))), (iv 0), (iv s.2.2.1), (iv s.2.2.2)], pb 8 35 [(.av (.int .u32 0)), (iv 0), (iv 0), (iv 0)]]) (obs := []) (by kernel_rfl) (obs_nil) ?_
        refine T_region [] [ks 2, ks 4, ks 7, kb 0, kb 8] (fun _ => mixed) (l' := [ps 2 (.opt 0 0), ps 4 (.opt 8 0), ps 7 (iv (-32768)), pb 0 35 [(.av (.int .u32 (seedS s.1))), (iv 0), (iv s.2.2.1), (iv (s.2.2.2 + 1))], pb 8 35 [(.av (.int .u32 0)), (iv 0), (iv 0), (iv 0)]]) (obs := [InK .i64 (s.2.2.2 + 1)]) (by kernel_rfl) (obs_cons (p := InK .i64 (s.2.2.2 + 1)) (by simp only [InK]; omega) (obs_nil)) ?_
        refine T_seq ?_
        refine T_seq ?_
        refine T_region [(1, .call [] [(iv (-32768))] [] (iv (absI (-32768))) [])] [ks 2, ks 4, ks 7, ks 53, kb 0, kb 8] (fun _ => mixed) (l' := [ps 2 (.opt 0 0), ps 4 (.opt 8 0), ps 7 (iv (-32768)), ps 53 (bv (decide (s.2.2.1 < (absI (-32768))))), pb 0 35 [(.av (.int .u32 (seedS s.1))), (iv 0), (iv s.2.2.1), (iv (s.2.2.2 + 1))], pb 8 35 [(.av (.int .u32 0)), (iv 0), (iv 0), (iv 0)]]) (obs := [PC Try.prog 23 [(iv (-32768))] [] (iv (absI (-32768))) [], [(iv (-32768))] = renL (sigi [] 368) [(iv (-32768))]]) (by kernel_rfl) (obs_cons (p := PC Try.prog 23 [(iv (-32768))] [] (iv (absI (-32768))) []) (abs_pc (-32768) (by omega) (by omega)) (obs_cons (p := [(iv (-32768))] = renL (sigi [] 368) [(iv (-32768))]) rfl (obs_nil))) ?_
        by_cases h10 : s.2.2.1 < (absI (-32768))
        · refine T_then (b := (decide (s.2.2.1 < (absI (-32768))))) rfl (decide_eq_true h10) ?_
          refine T_region [(1, .call [] [(iv (-32768))] [] (iv (absI (-32768))) [])] [ks 2, ks 4, ks 7, kb 0, kb 8] (fun _ => mixed) (l' := [ps 2 (.opt 0 0), ps 4 (.opt 8 0), ps 7 (iv (-32768)), pb 0 35 [(.av (.int .u32 (seedS s.1))), (iv 0), (iv (absI (-32768))), (iv (s.2.2.2 + 1))], pb 8 35 [(.av (.int .u32 0)), (iv 0), (iv 0), (iv 0)]]) (obs := [PC Try.prog 23 [(iv (-32768))] [] (iv (absI (-32768))) [], [(iv (-32768))] = renL (sigi [] 408) [(iv (-32768))]]) (by kernel_rfl) (obs_cons (p := PC Try.prog 23 [(iv (-32768))] [] (iv (absI (-32768))) []) (abs_pc (-32768) (by omega) (by omega)) (obs_cons (p := [(iv (-32768))] = renL (sigi [] 408) [(iv (-32768))]) rfl (obs_nil))) ?_
          refine T_seq ?_
          refine T_region [] [ks 4, ks 5, kb 8] (fun _ => mixed) (l' := [ps 4 (.opt 8 0), ps 5 (iv (-32768)), pb 8 35 [(.av (.int .u32 (seedS s.1))), (iv 0), (iv (absI (-32768))), (iv (s.2.2.2 + 1))]]) (obs := []) (by kernel_rfl) (obs_nil) ?_
          have hc : cutS (rawS s x) = (-32768) := by unfold cutS; omega
          have ht : tooB (rawS s x) = true := by unfold tooB; exact decide_eq_true (by omega)
          have hlo : loudS s.2.2.1 (-32768) = absI (-32768) := by unfold loudS; rw [if_pos h10]
          rw [show oneS s x = (seedS s.1, 0, absI (-32768), s.2.2.2 + 1) from by unfold oneS; rw [hc, ht, hlo]; rfl, show smpS s x = (-32768) from hc]
          exact T_ret fun cx_ a_ hI_ => ret_ok (H' := [none]) (.inr rfl) (Wk.ren2 [ps 4 (.opt 0 0), ps 5 (iv (-32768)), pb 0 35 [(.av (.int .u32 (seedS s.1))), (iv 0), (iv (absI (-32768))), (iv (s.2.2.2 + 1))]] 0 hc0 [8] rfl rfl (by kernel_rfl) (by kernel_rfl)) rfl (obs_nil) (fun cx_ a_ hI_ => ret_res (l' := [ps 4 (.opt 0 0), ps 5 (iv (-32768)), pb 0 35 [(.av (.int .u32 (seedS s.1))), (iv 0), (iv (absI (-32768))), (iv (s.2.2.2 + 1))]]) (by kernel_rfl) cx_ a_ hI_) hI_
        · refine T_else (b := (decide (s.2.2.1 < (absI (-32768))))) rfl (decide_eq_false h10) ?_
          refine T_skip ?_
          refine T_seq ?_
          refine T_region [] [ks 4, ks 5, kb 8] (fun _ => mixed) (l' := [ps 4 (.opt 8 0), ps 5 (iv (-32768)), pb 8 35 [(.av (.int .u32 (seedS s.1))), (iv 0), (iv s.2.2.1), (iv (s.2.2.2 + 1))]]) (obs := []) (by kernel_rfl) (obs_nil) ?_
          have hc : cutS (rawS s x) = (-32768) := by unfold cutS; omega
          have ht : tooB (rawS s x) = true := by unfold tooB; exact decide_eq_true (by omega)
          have hlo : loudS s.2.2.1 (-32768) = s.2.2.1 := by unfold loudS; rw [if_neg h10]
          rw [show oneS s x = (seedS s.1, 0, s.2.2.1, s.2.2.2 + 1) from by unfold oneS; rw [hc, ht, hlo]; rfl, show smpS s x = (-32768) from hc]
          exact T_ret fun cx_ a_ hI_ => ret_ok (H' := [none]) (.inr rfl) (Wk.ren2 [ps 4 (.opt 0 0), ps 5 (iv (-32768)), pb 0 35 [(.av (.int .u32 (seedS s.1))), (iv 0), (iv s.2.2.1), (iv (s.2.2.2 + 1))]] 0 hc0 [8] rfl rfl (by kernel_rfl) (by kernel_rfl)) rfl (obs_nil) (fun cx_ a_ hI_ => ret_res (l' := [ps 4 (.opt 0 0), ps 5 (iv (-32768)), pb 0 35 [(.av (.int .u32 (seedS s.1))), (iv 0), (iv s.2.2.1), (iv (s.2.2.2 + 1))]]) (by kernel_rfl) cx_ a_ hI_) hI_
      · refine T_else (b := (decide ((rawS s x) < (-32768)))) rfl (decide_eq_false h9) ?_
        refine T_skip ?_
        refine T_seq ?_
        refine T_seq ?_
        refine T_region [(1, .call [] [(iv (rawS s x))] [] (iv (absI (rawS s x))) [])] [ks 2, ks 4, ks 7, ks 53, kb 0, kb 8] (fun _ => mixed) (l' := [ps 2 (.opt 0 0), ps 4 (.opt 8 0), ps 7 (iv (rawS s x)), ps 53 (bv (decide (s.2.2.1 < (absI (rawS s x))))), pb 0 35 [(.av (.int .u32 (seedS s.1))), (iv (x + s.2.1 - rawS s x * 65536)), (iv s.2.2.1), (iv s.2.2.2)], pb 8 35 [(.av (.int .u32 0)), (iv 0), (iv 0), (iv 0)]]) (obs := [PC Try.prog 23 [(iv (rawS s x))] [] (iv (absI (rawS s x))) [], [(iv (rawS s x))] = renL (sigi [] 304) [(iv (rawS s x))]]) (by kernel_rfl) (obs_cons (p := PC Try.prog 23 [(iv (rawS s x))] [] (iv (absI (rawS s x))) []) (abs_pc (rawS s x) (by omega) (by omega)) (obs_cons (p := [(iv (rawS s x))] = renL (sigi [] 304) [(iv (rawS s x))]) rfl (obs_nil))) ?_
        by_cases h11 : s.2.2.1 < (absI (rawS s x))
        · refine T_then (b := (decide (s.2.2.1 < (absI (rawS s x))))) rfl (decide_eq_true h11) ?_
          refine T_region [(1, .call [] [(iv (rawS s x))] [] (iv (absI (rawS s x))) [])] [ks 2, ks 4, ks 7, kb 0, kb 8] (fun _ => mixed) (l' := [ps 2 (.opt 0 0), ps 4 (.opt 8 0), ps 7 (iv (rawS s x)), pb 0 35 [(.av (.int .u32 (seedS s.1))), (iv (x + s.2.1 - rawS s x * 65536)), (iv (absI (rawS s x))), (iv s.2.2.2)], pb 8 35 [(.av (.int .u32 0)), (iv 0), (iv 0), (iv 0)]]) (obs := [PC Try.prog 23 [(iv (rawS s x))] [] (iv (absI (rawS s x))) [], [(iv (rawS s x))] = renL (sigi [] 344) [(iv (rawS s x))]]) (by kernel_rfl) (obs_cons (p := PC Try.prog 23 [(iv (rawS s x))] [] (iv (absI (rawS s x))) []) (abs_pc (rawS s x) (by omega) (by omega)) (obs_cons (p := [(iv (rawS s x))] = renL (sigi [] 344) [(iv (rawS s x))]) rfl (obs_nil))) ?_
          refine T_seq ?_
          refine T_region [] [ks 4, ks 5, kb 8] (fun _ => mixed) (l' := [ps 4 (.opt 8 0), ps 5 (iv (rawS s x)), pb 8 35 [(.av (.int .u32 (seedS s.1))), (iv (x + s.2.1 - rawS s x * 65536)), (iv (absI (rawS s x))), (iv s.2.2.2)]]) (obs := []) (by kernel_rfl) (obs_nil) ?_
          have hc : cutS (rawS s x) = (rawS s x) := by unfold cutS; omega
          have ht : tooB (rawS s x) = false := by unfold tooB; exact decide_eq_false (by omega)
          have hlo : loudS s.2.2.1 (rawS s x) = absI (rawS s x) := by unfold loudS; rw [if_pos h11]
          rw [show oneS s x = (seedS s.1, x + s.2.1 - rawS s x * 65536, absI (rawS s x), s.2.2.2) from by unfold oneS; rw [hc, ht, hlo]; rfl, show smpS s x = (rawS s x) from hc]
          exact T_ret fun cx_ a_ hI_ => ret_ok (H' := [none]) (.inr rfl) (Wk.ren2 [ps 4 (.opt 0 0), ps 5 (iv (rawS s x)), pb 0 35 [(.av (.int .u32 (seedS s.1))), (iv (x + s.2.1 - rawS s x * 65536)), (iv (absI (rawS s x))), (iv s.2.2.2)]] 0 hc0 [8] rfl rfl (by kernel_rfl) (by kernel_rfl)) rfl (obs_nil) (fun cx_ a_ hI_ => ret_res (l' := [ps 4 (.opt 0 0), ps 5 (iv (rawS s x)), pb 0 35 [(.av (.int .u32 (seedS s.1))), (iv (x + s.2.1 - rawS s x * 65536)), (iv (absI (rawS s x))), (iv s.2.2.2)]]) (by kernel_rfl) cx_ a_ hI_) hI_
        · refine T_else (b := (decide (s.2.2.1 < (absI (rawS s x))))) rfl (decide_eq_false h11) ?_
          refine T_skip ?_
          refine T_seq ?_
          refine T_region [] [ks 4, ks 5, kb 8] (fun _ => mixed) (l' := [ps 4 (.opt 8 0), ps 5 (iv (rawS s x)), pb 8 35 [(.av (.int .u32 (seedS s.1))), (iv (x + s.2.1 - rawS s x * 65536)), (iv s.2.2.1), (iv s.2.2.2)]]) (obs := []) (by kernel_rfl) (obs_nil) ?_
          have hc : cutS (rawS s x) = (rawS s x) := by unfold cutS; omega
          have ht : tooB (rawS s x) = false := by unfold tooB; exact decide_eq_false (by omega)
          have hlo : loudS s.2.2.1 (rawS s x) = s.2.2.1 := by unfold loudS; rw [if_neg h11]
          rw [show oneS s x = (seedS s.1, x + s.2.1 - rawS s x * 65536, s.2.2.1, s.2.2.2) from by unfold oneS; rw [hc, ht, hlo]; rfl, show smpS s x = (rawS s x) from hc]
          exact T_ret fun cx_ a_ hI_ => ret_ok (H' := [none]) (.inr rfl) (Wk.ren2 [ps 4 (.opt 0 0), ps 5 (iv (rawS s x)), pb 0 35 [(.av (.int .u32 (seedS s.1))), (iv (x + s.2.1 - rawS s x * 65536)), (iv s.2.2.1), (iv s.2.2.2)]] 0 hc0 [8] rfl rfl (by kernel_rfl) (by kernel_rfl)) rfl (obs_nil) (fun cx_ a_ hI_ => ret_res (l' := [ps 4 (.opt 0 0), ps 5 (iv (rawS s x)), pb 0 35 [(.av (.int .u32 (seedS s.1))), (iv (x + s.2.1 - rawS s x * 65536)), (iv s.2.2.1), (iv s.2.2.2)]]) (by kernel_rfl) cx_ a_ hI_) hI_
theorem one_pc (s : DS) (x : Int) (hs : okD s) (hc0 : s.2.2.2 ≤ 2000000000000000000) (hx : -4503599627370496 ≤ x ∧ x ≤ 4503599627370496) : PC Try.prog 19 [(.agg [(.av (.int .u32 s.1)), (iv s.2.1), (iv s.2.2.1), (iv s.2.2.2)]), iv x] [] (.tup [(.agg [(.av (.int .u32 ((oneS s x).1))), (iv ((oneS s x).2.1)), (iv ((oneS s x).2.2.1)), (iv ((oneS s x).2.2.2))]), iv (smpS s x)]) [] := pc_trim [none] rfl (fun i => by cases i <;> rfl) (one_pc0 s x hs hc0 hx)
set_option maxRecDepth 100000 in
theorem ref_run_pc (s0 : DS) (l : List Int) (hs0 : okD s0) (hc0 : s0.2.2.2 ≤ 1000000000000000000) (hl : l.length ≤ 17592186044000) : PC Try.prog 11 [(.agg [(.av (.int .u32 s0.1)), (iv s0.2.1), (iv s0.2.2.1), (iv s0.2.2.2)]), (.ssl (ints l) 0 l.length)] [] (.tup [(.agg [(.av (.int .u32 ((nextD s0 l).1))), (iv ((nextD s0 l).2.1)), (iv ((nextD s0 l).2.2.1)), (iv ((nextD s0 l).2.2.2))]), (.ssl (ints (outD s0 l)) 0 ((outD s0 l).length)), (iv (errD l))]) [none] := by
  refine pc_intro Try.func11 rfl (by kernel_rfl) (Nat.le_of_ble_eq_true rfl) (by kernel_rfl) (l0 := [ps 0 (.agg [(.av (.int .u32 s0.1)), (iv s0.2.1), (iv s0.2.2.1), (iv s0.2.2.2)]), ps 1 (.ssl (ints l) 0 l.length)]) rfl (fun c0 Bor hc0 => ?_)
  refine T_seq ?_
  refine T_region [] [ks 1, ks 2, ks 4, kb 0, kb 8] (fun _ => mixed) (l' := [ps 1 (.ssl (ints l) 0 l.length), ps 2 (.opt 0 0), ps 4 (.opt 8 0), pb 0 35 [(.av (.int .u32 s0.1)), (iv s0.2.1), (iv s0.2.2.1), (iv s0.2.2.2)], pb 8 35 [(.av (.int .u32 0)), (iv 0), (iv 0), (iv 0)]]) (obs := []) (by kernel_rfl) (obs_nil) ?_
  refine T_seq ?_
  refine T_seq ?_
  refine T_region [] [ks 1, ks 2, ks 4, ks 13, ks 14, ks 15, kb 0, kb 8] (fun _ => mixed) (l' := [ps 1 (.ssl (ints l) 0 l.length), ps 2 (.opt 0 0), ps 4 (.opt 8 0), ps 13 (.ssl (ints l) 0 l.length), ps 14 (iv ((l.length : Nat) : Int)), ps 15 (iv 0), pb 0 35 [(.av (.int .u32 s0.1)), (iv s0.2.1), (iv s0.2.2.1), (iv s0.2.2.2)], pb 8 35 [(.av (.int .u32 0)), (iv 0), (iv 0), (iv 0)]]) (obs := []) (by kernel_rfl) (obs_nil) ?_
  refine T_block ?_
  refine T_loop (α := {x : Nat // x ≤ l.length ∧ (∀ j, j < x → -4503599627370496 ≤ l.getD j 0 ∧ l.getD j 0 ≤ 4503599627370496)}) (fun x => [ps 1 (.ssl (ints l) 0 l.length), ps 2 (.opt 0 0), ps 4 (.opt 1 0), ps 13 (.ssl (ints l) 0 l.length), ps 14 (iv ((l.length : Nat) : Int)), ps 15 (iv ((x.1 : Nat) : Int)), pb 0 35 [(.av (.int .u32 s0.1)), (iv s0.2.1), (iv s0.2.2.1), (iv s0.2.2.2)], pb 1 35 [(.av (.int .u32 0)), (iv 0), (iv 0), (iv 0)]]) (fun x => l.length - x.1) 2 ⟨0, ⟨Nat.zero_le _, fun j hj => absurd hj (Nat.not_lt_zero _)⟩⟩ (Wk.ren2 [ps 1 (.ssl (ints l) 0 l.length), ps 2 (.opt 0 0), ps 4 (.opt 1 0), ps 13 (.ssl (ints l) 0 l.length), ps 14 (iv ((l.length : Nat) : Int)), ps 15 (iv ((0 : Nat) : Int)), pb 0 35 [(.av (.int .u32 s0.1)), (iv s0.2.1), (iv s0.2.2.1), (iv s0.2.2.2)], pb 1 35 [(.av (.int .u32 0)), (iv 0), (iv 0), (iv 0)]] 0 hc0 [0, 8] rfl rfl (by kernel_rfl) (by kernel_rfl)) ?_
  rintro ⟨i, ⟨hi, hw⟩⟩
  refine T_seq ?_
  refine T_region [] [ks 1, ks 2, ks 4, ks 13, ks 14, ks 15, ks 16, kb 0, kb 1] (fun _ => mixed) (l' := [ps 1 (.ssl (ints l) 0 l.length), ps 2 (.opt 0 0), ps 4 (.opt 1 0), ps 13 (.ssl (ints l) 0 l.length), ps 14 (iv ((l.length : Nat) : Int)), ps 15 (iv ((i : Nat) : Int)), ps 16 (bv (decide (((i : Nat) : Int) < ((l.length : Nat) : Int)))), pb 0 35 [(.av (.int .u32 s0.1)), (iv s0.2.1), (iv s0.2.2.1), (iv s0.2.2.2)], pb 1 35 [(.av (.int .u32 0)), (iv 0), (iv 0), (iv 0)]]) (obs := []) (by kernel_rfl) (obs_nil) ?_
  refine T_seq ?_
  by_cases h1 : ((i : Nat) : Int) < ((l.length : Nat) : Int)
  · refine T_then (b := (decide (((i : Nat) : Int) < ((l.length : Nat) : Int)))) rfl (decide_eq_true h1) ?_
    refine T_skip ?_
    refine T_seq ?_
    refine T_block ?_
    refine T_seq ?_
    refine T_region [(0, .nat i), (1, .val (iv (l.getD i 0)))] [ks 1, ks 2, ks 4, ks 8, ks 13, ks 14, ks 15, kb 0, kb 1] (fun _ => mixed) (l' := [ps 1 (.ssl (ints l) 0 l.length), ps 2 (.opt 0 0), ps 4 (.opt 1 0), ps 8 (iv (l.getD i 0)), ps 13 (.ssl (ints l) 0 l.length), ps 14 (iv ((l.length : Nat) : Int)), ps 15 (iv ((i : Nat) : Int)), pb 0 35 [(.av (.int .u32 s0.1)), (iv s0.2.1), (iv s0.2.2.1), (iv s0.2.2.2)], pb 1 35 [(.av (.int .u32 0)), (iv 0), (iv 0), (iv 0)]]) (obs := [(0 : Int) ≤ ((i : Nat) : Int) ∧ ((i : Nat) : Int) < ((l.length : Nat) : Int), 0 + (((i : Nat) : Int) : Int).toNat * 1 = i, i + 1 ≤ ((ints l)).length ∧ (((ints l)).drop i).take 1 = [(iv (l.getD i 0))]]) (by kernel_rfl) (obs_cons (p := (0 : Int) ≤ ((i : Nat) : Int) ∧ ((i : Nat) : Int) < ((l.length : Nat) : Int)) (by omega) (obs_cons (p := 0 + (((i : Nat) : Int) : Int).toNat * 1 = i) (by omega) (obs_cons (p := i + 1 ≤ ((ints l)).length ∧ (((ints l)).drop i).take 1 = [(iv (l.getD i 0))]) (ints_at (by omega)) (obs_nil)))) ?_
    refine T_seq ?_
    refine T_region [(1, .call [] [(iv (l.getD i 0)), (iv 4503599627370496)] [] (bv (decide (-4503599627370496 ≤ (l.getD i 0) ∧ (l.getD i 0) ≤ 4503599627370496))) [])] [ks 1, ks 2, ks 4, ks 13, ks 14, ks 15, ks 21, kb 0, kb 1] (fun _ => mixed) (l' := [ps 1 (.ssl (ints l) 0 l.length), ps 2 (.opt 0 0), ps 4 (.opt 1 0), ps 13 (.ssl (ints l) 0 l.length), ps 14 (iv ((l.length : Nat) : Int)), ps 15 (iv ((i : Nat) : Int)), ps 21 (bv (!(decide (-4503599627370496 ≤ (l.getD i 0) ∧ (l.getD i 0) ≤ 4503599627370496)))), pb 0 35 [(.av (.int .u32 s0.1)), (iv s0.2.1), (iv s0.2.2.1), (iv s0.2.2.2)], pb 1 35 [(.av (.int .u32 0)), (iv 0), (iv 0), (iv 0)]]) (obs := [PC Try.prog 18 [(iv (l.getD i 0)), (iv 4503599627370496)] [] (bv (decide (-4503599627370496 ≤ (l.getD i 0) ∧ (l.getD i 0) ≤ 4503599627370496))) [], [(iv (l.getD i 0)), (iv 4503599627370496)] = renL (sigi [] 42) [(iv (l.getD i 0)), (iv 4503599627370496)]]) (by kernel_rfl) (obs_cons (p := PC Try.prog 18 [(iv (l.getD i 0)), (iv 4503599627370496)] [] (bv (decide (-4503599627370496 ≤ (l.getD i 0) ∧ (l.getD i 0) ≤ 4503599627370496))) []) (small_pc2 (l.getD i 0) 4503599627370496 (by decide)) (obs_cons (p := [(iv (l.getD i 0)), (iv 4503599627370496)] = renL (sigi [] 42) [(iv (l.getD i 0)), (iv 4503599627370496)]) rfl (obs_nil))) ?_
    by_cases h2 : -4503599627370496 ≤ (l.getD i 0) ∧ (l.getD i 0) ≤ 4503599627370496
    · refine T_else (b := (!(decide (-4503599627370496 ≤ (l.getD i 0) ∧ (l.getD i 0) ≤ 4503599627370496)))) rfl (congrArg Bool.not (decide_eq_true h2)) ?_
      refine T_skip ?_
      refine T_blk ?_
      refine T_region [] [ks 1, ks 2, ks 4, ks 13, ks 14, ks 15, kb 0, kb 1] (fun _ => mixed) (l' := [ps 1 (.ssl (ints l) 0 l.length), ps 2 (.opt 0 0), ps 4 (.opt 1 0), ps 13 (.ssl (ints l) 0 l.length), ps 14 (iv ((l.length : Nat) : Int)), ps 15 (iv (((i : Nat) : Int) + 1)), pb 0 35 [(.av (.int .u32 s0.1)), (iv s0.2.1), (iv s0.2.2.1), (iv s0.2.2.2)], pb 1 35 [(.av (.int .u32 0)), (iv 0), (iv 0), (iv 0)]]) (obs := [InK .i64 (((i : Nat) : Int) + 1)]) (by kernel_rfl) (obs_cons (p := InK .i64 (((i : Nat) : Int) + 1)) (by simp only [InK]; omega) (obs_nil)) ?_
      exact T_back ⟨i + 1, ⟨by omega, fun j hj => if e : j = i then e ▸ h2 else hw j (by omega)⟩⟩ (Wk.ren2 [ps 1 (.ssl (ints l) 0 l.length), ps 2 (.opt 0 0), ps 4 (.opt 1 0), ps 13 (.ssl (ints l) 0 l.length), ps 14 (iv ((l.length : Nat) : Int)), ps 15 (iv (((i + 1) : Nat) : Int)), pb 0 35 [(.av (.int .u32 s0.1)), (iv s0.2.1), (iv s0.2.2.1), (iv s0.2.2.2)], pb 1 35 [(.av (.int .u32 0)), (iv 0), (iv 0), (iv 0)]] 0 hc0 [0, 1] rfl rfl (by kernel_rfl) (by kernel_rfl)) (show l.length - (i + 1) < l.length - i from by omega)
    · refine T_then (b := (!(decide (-4503599627370496 ≤ (l.getD i 0) ∧ (l.getD i 0) ≤ 4503599627370496)))) rfl (congrArg Bool.not (decide_eq_false h2)) ?_
      refine T_seq ?_
      refine T_region [] [ks 4, ks 5, ks 6, kb 1] (fun _ => mixed) (l' := [ps 4 (.opt 1 0), ps 5 (.av (.slice none 0 0)), ps 6 (iv 3), pb 1 35 [(.av (.int .u32 s0.1)), (iv s0.2.1), (iv s0.2.2.1), (iv s0.2.2.2)]]) (obs := []) (by kernel_rfl) (obs_nil) ?_
      have hb : inB l = false := inB_no (by omega) h2
      rw [show nextD s0 l = s0 from by unfold nextD; rw [hb]; rfl, show outD s0 l = [] from by unfold outD; rw [hb]; rfl, show errD l = 3 from by unfold errD; rw [hb]; rfl]
      exact T_ret fun cx_ a_ hI_ => loop_ret (ret_ok (H' := [none]) (.inr rfl) (Wk.ren2 [ps 4 (.opt 0 0), ps 5 (.av (.slice none 0 0)), ps 6 (iv 3), pb 0 35 [(.av (.int .u32 s0.1)), (iv s0.2.1), (iv s0.2.2.1), (iv s0.2.2.2)]] 0 hc0 [1] rfl rfl (by kernel_rfl) (by kernel_rfl)) rfl (obs_nil) (fun cx_ a_ hI_ => ret_res (l' := [ps 4 (.opt 0 0), ps 5 (.av (.slice none 0 0)), ps 6 (iv 3), pb 0 35 [(.av (.int .u32 s0.1)), (iv s0.2.1), (iv s0.2.2.1), (iv s0.2.2.2)]]) (by kernel_rfl) cx_ a_ hI_) hI_)
  · refine T_else (b := (decide (((i : Nat) : Int) < ((l.length : Nat) : Int)))) rfl (decide_eq_false h1) ?_
    refine T_break rfl rfl ?_
    refine T_seq ?_
    refine T_region [] [ks 1, ks 2, ks 4, ks 9, kb 0, kb 1] (fun _ => mixed) (l' := [ps 1 (.ssl (ints l) 0 l.length), ps 2 (.opt 0 0), ps 4 (.opt 1 0), ps 9 (.av (.slice none 0 0)), pb 0 35 [(.av (.int .u32 s0.1)), (iv s0.2.1), (iv s0.2.2.1), (iv s0.2.2.2)], pb 1 35 [(.av (.int .u32 0)), (iv 0), (iv 0), (iv 0)]]) (obs := []) (by kernel_rfl) (obs_nil) ?_
    refine T_seq ?_
    refine T_seq ?_
    refine T_region [] [ks 2, ks 4, ks 9, ks 24, ks 25, ks 26, kb 0, kb 1] (fun _ => mixed) (l' := [ps 2 (.opt 0 0), ps 4 (.opt 1 0), ps 9 (.av (.slice none 0 0)), ps 24 (.ssl (ints l) 0 l.length), ps 25 (iv ((l.length : Nat) : Int)), ps 26 (iv 0), pb 0 35 [(.av (.int .u32 s0.1)), (iv s0.2.1), (iv s0.2.2.1), (iv s0.2.2.2)], pb 1 35 [(.av (.int .u32 0)), (iv 0), (iv 0), (iv 0)]]) (obs := []) (by kernel_rfl) (obs_nil) ?_
    refine T_block ?_
    obtain rfl : i = l.length := by omega
    have hB : inB l = true := inB_of hw
    refine T_wk (Wk.nil (s := 9) 3 (by kernel_rfl)) ?_
    refine T_wk (Wk.less (l' := [ps 2 (.opt 0 0), ps 4 (.opt 1 0), ps 9 (.osl 42 0 0), ps 24 (.ssl (ints l) 0 l.length), ps 25 (iv ((l.length : Nat) : Int)), ps 26 (iv 0), pb 0 35 [(.av (.int .u32 s0.1)), (iv s0.2.1), (iv s0.2.2.1), (iv s0.2.2.2)], pb 1 35 [(.av (.int .u32 0)), (iv 0), (iv 0), (iv 0)], pb 42 3 []]) 43 (by kernel_rfl) (by kernel_rfl)) ?_
    refine T_wk (Wk.eq (show [ps 2 (.opt 0 0), ps 4 (.opt 1 0), ps 9 (.osl 42 0 0), ps 24 (.ssl (ints l) 0 l.length), ps 25 (iv ((l.length : Nat) : Int)), ps 26 (iv 0), pb 0 35 [(.av (.int .u32 s0.1)), (iv s0.2.1), (iv s0.2.2.1), (iv s0.2.2.2)], pb 1 35 [(.av (.int .u32 0)), (iv 0), (iv 0), (iv 0)], pb 42 3 []] = [ps 2 (.opt 0 0), ps 4 (.opt 1 0), ps 9 (.osl 42 0 (([] : List Int).length)), ps 24 (.ssl (ints l) 0 l.length), ps 25 (iv ((l.length : Nat) : Int)), ps 26 (iv 0), pb 0 35 [(.av (.int .u32 s0.1)), (iv s0.2.1), (iv s0.2.2.1), (iv s0.2.2.2)], pb 1 35 [(.av (.int .u32 0)), (iv 0), (iv 0), (iv 0)], pb 42 3 (ints [])] from by rfl)) ?_
    refine T_loop (α := {x : Nat × DS × List Int // x.1 ≤ l.length ∧ restD x.2.2 (runD x.2.1 (l.drop x.1)) = runD s0 l ∧ okD x.2.1 ∧ x.2.2.length = x.1 ∧ x.2.1.2.2.2 ≤ s0.2.2.2 + ((x.1 : Nat) : Int)}) (fun x => [ps 2 (.opt 0 0), ps 4 (.opt 1 0), ps 9 (.osl 2 0 x.1.2.2.length), ps 24 (.ssl (ints l) 0 l.length), ps 25 (iv ((l.length : Nat) : Int)), ps 26 (iv ((x.1.1 : Nat) : Int)), pb 0 35 [(.av (.int .u32 x.1.2.1.1)), (iv x.1.2.1.2.1), (iv x.1.2.1.2.2.1), (iv x.1.2.1.2.2.2)], pb 1 35 [(.av (.int .u32 0)), (iv 0), (iv 0), (iv 0)], pb 2 3 (ints x.1.2.2)]) (fun x => l.length - x.1.1) 3 ⟨(0, s0, []), ⟨Nat.zero_le _, rfl, hs0, rfl, by show s0.2.2.2 ≤ s0.2.2.2 + ((0 : Nat) : Int); omega⟩⟩ (Wk.ren3 [ps 2 (.opt 0 0), ps 4 (.opt 1 0), ps 9 (.osl 2 0 [].length), ps 24 (.ssl (ints l) 0 l.length), ps 25 (iv ((l.length : Nat) : Int)), ps 26 (iv ((0 : Nat) : Int)), pb 0 35 [(.av (.int .u32 s0.1)), (iv s0.2.1), (iv s0.2.2.1), (iv s0.2.2.2)], pb 1 35 [(.av (.int .u32 0)), (iv 0), (iv 0), (iv 0)], pb 2 3 (ints [])] 0 hc0 [0, 1, 42] [(kb 2, (ints []))] (obs_cons (ints_shd _) (obs_nil)) (by kernel_rfl) rfl rfl (by kernel_rfl) (by kernel_rfl)) ?_
    rintro ⟨⟨i, s, D⟩, ⟨hi, hR, hs, hD, hc⟩⟩
    dsimp only at hi hR hs hD hc
    refine T_seq ?_
    refine T_region [] [ks 2, ks 4, ks 9, ks 24, ks 25, ks 26, ks 27, kb 0, kb 1, kb 2] (fun _ => mixed) (l' := [ps 2 (.opt 0 0), ps 4 (.opt 1 0), ps 9 (.osl 2 0 D.length), ps 24 (.ssl (ints l) 0 l.length), ps 25 (iv ((l.length : Nat) : Int)), ps 26 (iv ((i : Nat) : Int)), ps 27 (bv (decide (((i : Nat) : Int) < ((l.length : Nat) : Int)))), pb 0 35 [(.av (.int .u32 s.1)), (iv s.2.1), (iv s.2.2.1), (iv s.2.2.2)], pb 1 35 [(.av (.int .u32 0)), (iv 0), (iv 0), (iv 0)], pb 2 3 (ints D)]) (obs := []) (by kernel_rfl) (obs_nil) ?_
    refine T_seq ?_
    by_cases h3 : ((i : Nat) : Int) < ((l.length : Nat) : Int)
    · refine T_then (b := (decide (((i : Nat) : Int) < ((l.length : Nat) : Int)))) rfl (decide_eq_true h3) ?_
      refine T_skip ?_
      refine T_seq ?_
      refine T_block ?_
      refine T_seq ?_
      refine T_region [(0, .nat i), (1, .val (iv (l.getD i 0)))] [ks 2, ks 4, ks 9, ks 11, ks 24, ks 25, ks 26, kb 0, kb 1, kb 2] (fun _ => mixed) (l' := [ps 2 (.opt 0 0), ps 4 (.opt 1 0), ps 9 (.osl 2 0 D.length), ps 11 (iv (l.getD i 0)), ps 24 (.ssl (ints l) 0 l.length), ps 25 (iv ((l.length : Nat) : Int)), ps 26 (iv ((i : Nat) : Int)), pb 0 35 [(.av (.int .u32 s.1)), (iv s.2.1), (iv s.2.2.1), (iv s.2.2.2)], pb 1 35 [(.av (.int .u32 0)), (iv 0), (iv 0), (iv 0)], pb 2 3 (ints D)]) (obs := [(0 : Int) ≤ ((i : Nat) : Int) ∧ ((i : Nat) : Int) < ((l.length : Nat) : Int), 0 + (((i : Nat) : Int) : Int).toNat * 1 = i, i + 1 ≤ ((ints l)).length ∧ (((ints l)).drop i).take 1 = [(iv (l.getD i 0))]]) (by kernel_rfl) (obs_cons (p := (0 : Int) ≤ ((i : Nat) : Int) ∧ ((i : Nat) : Int) < ((l.length : Nat) : Int)) (by omega) (obs_cons (p := 0 + (((i : Nat) : Int) : Int).toNat * 1 = i) (by omega) (obs_cons (p := i + 1 ≤ ((ints l)).length ∧ (((ints l)).drop i).take 1 = [(iv (l.getD i 0))]) (ints_at (by omega)) (obs_nil)))) ?_
      refine T_seq ?_
      refine T_region [] [ks 2, ks 4, ks 9, ks 11, ks 24, ks 25, ks 26, kb 0, kb 1, kb 2] (fun _ => mixed) (l' := [ps 2 (.opt 0 0), ps 4 (.opt 1 0), ps 9 (.osl 2 0 D.length), ps 11 (iv (l.getD i 0)), ps 24 (.ssl (ints l) 0 l.length), ps 25 (iv ((l.length : Nat) : Int)), ps 26 (iv ((i : Nat) : Int)), pb 0 35 [(.av (.int .u32 s.1)), (iv s.2.1), (iv s.2.2.1), (iv s.2.2.2)], pb 1 35 [(.av (.int .u32 0)), (iv 0), (iv 0), (iv 0)], pb 2 3 (ints D)]) (obs := []) (by kernel_rfl) (obs_nil) ?_
      refine T_seq ?_
      refine T_region [(2, .call [] [(.agg [(.av (.int .u32 s.1)), (iv s.2.1), (iv s.2.2.1), (iv s.2.2.2)]), (iv (l.getD i 0))] [] (.tup [(.agg [(.av (.int .u32 ((oneS s (l.getD i 0)).1))), (iv ((oneS s (l.getD i 0)).2.1)), (iv ((oneS s (l.getD i 0)).2.2.1)), (iv ((oneS s (l.getD i 0)).2.2.2))]), (iv (smpS s (l.getD i 0)))]) [])] [ks 2, ks 4, ks 9, ks 12, ks 24, ks 25, ks 26, kb 0, kb 1, kb 2] (fun _ => mixed) (l' := [ps 2 (.opt 0 0), ps 4 (.opt 1 0), ps 9 (.osl 2 0 D.length), ps 12 (iv (smpS s (l.getD i 0))), ps 24 (.ssl (ints l) 0 l.length), ps 25 (iv ((l.length : Nat) : Int)), ps 26 (iv ((i : Nat) : Int)), pb 0 35 [(.av (.int .u32 ((oneS s (l.getD i 0)).1))), (iv ((oneS s (l.getD i 0)).2.1)), (iv ((oneS s (l.getD i 0)).2.2.1)), (iv ((oneS s (l.getD i 0)).2.2.2))], pb 1 35 [(.av (.int .u32 0)), (iv 0), (iv 0), (iv 0)], pb 2 3 (ints D)]) (obs := [PC Try.prog 19 [(.agg [(.av (.int .u32 s.1)), (iv s.2.1), (iv s.2.2.1), (iv s.2.2.2)]), (iv (l.getD i 0))] [] (.tup [(.agg [(.av (.int .u32 ((oneS s (l.getD i 0)).1))), (iv ((oneS s (l.getD i 0)).2.1)), (iv ((oneS s (l.getD i 0)).2.2.1)), (iv ((oneS s (l.getD i 0)).2.2.2))]), (iv (smpS s (l.getD i 0)))]) [], [(.agg [(.av (.int .u32 s.1)), (iv s.2.1), (iv s.2.2.1), (iv s.2.2.2)]), (iv (l.getD i 0))] = renL (sigi [] 59) [(.agg [(.av (.int .u32 s.1)), (iv s.2.1), (iv s.2.2.1), (iv s.2.2.2)]), (iv (l.getD i 0))]]) (by kernel_rfl) (obs_cons (p := PC Try.prog 19 [(.agg [(.av (.int .u32 s.1)), (iv s.2.1), (iv s.2.2.1), (iv s.2.2.2)]), (iv (l.getD i 0))] [] (.tup [(.agg [(.av (.int .u32 ((oneS s (l.getD i 0)).1))), (iv ((oneS s (l.getD i 0)).2.1)), (iv ((oneS s (l.getD i 0)).2.2.1)), (iv ((oneS s (l.getD i 0)).2.2.2))]), (iv (smpS s (l.getD i 0)))]) []) (one_pc s (l.getD i 0) hs (by omega) (inB_at hB (by omega))) (obs_cons (p := [(.agg [(.av (.int .u32 s.1)), (iv s.2.1), (iv s.2.2.1), (iv s.2.2.2)]), (iv (l.getD i 0))] = renL (sigi [] 59) [(.agg [(.av (.int .u32 s.1)), (iv s.2.1), (iv s.2.2.1), (iv s.2.2.2)]), (iv (l.getD i 0))]) rfl (obs_nil))) ?_
      refine T_region [(3, .app none (some (ints (D ++ [smpS s (l.getD i 0)]))))] [ks 2, ks 4, ks 9, ks 24, ks 25, ks 26, kb 0, kb 1, kb 131] (fun _ => mixed) (l' := [ps 2 (.opt 0 0), ps 4 (.opt 1 0), ps 9 (.osl 131 0 (D.length + 1)), ps 24 (.ssl (ints l) 0 l.length), ps 25 (iv ((l.length : Nat) : Int)), ps 26 (iv ((i : Nat) : Int)), pb 0 35 [(.av (.int .u32 ((oneS s (l.getD i 0)).1))), (iv ((oneS s (l.getD i 0)).2.1)), (iv ((oneS s (l.getD i 0)).2.2.1)), (iv ((oneS s (l.getD i 0)).2.2.2))], pb 1 35 [(.av (.int .u32 0)), (iv 0), (iv 0), (iv 0)], pb 131 3 (ints (D ++ [smpS s (l.getD i 0)]))]) (obs := [((ints D)).length = D.length * 1, (D.length + 1) * 8 ≤ 140737488355328 ∧ D.length + 1 ≤ 9223372036854775807, (ints D) ++ [(iv (smpS s (l.getD i 0)))] = (ints (D ++ [smpS s (l.getD i 0)]))]) (by kernel_rfl) (obs_cons (p := ((ints D)).length = D.length * 1) (by simp [flat_len, ints_len]) (obs_cons (p := (D.length + 1) * 8 ≤ 140737488355328 ∧ D.length + 1 ≤ 9223372036854775807) (by omega) (obs_cons (p := (ints D) ++ [(iv (smpS s (l.getD i 0)))] = (ints (D ++ [smpS s (l.getD i 0)]))) (flat_app (fun n => [iv n]) D [smpS s (l.getD i 0)]).symm (obs_nil)))) ?_
      refine T_blk ?_
      refine T_region [] [ks 2, ks 4, ks 9, ks 24, ks 25, ks 26, kb 0, kb 1, kb 131] (fun _ => mixed) (l' := [ps 2 (.opt 0 0), ps 4 (.opt 1 0), ps 9 (.osl 131 0 (D.length + 1)), ps 24 (.ssl (ints l) 0 l.length), ps 25 (iv ((l.length : Nat) : Int)), ps 26 (iv (((i : Nat) : Int) + 1)), pb 0 35 [(.av (.int .u32 ((oneS s (l.getD i 0)).1))), (iv ((oneS s (l.getD i 0)).2.1)), (iv ((oneS s (l.getD i 0)).2.2.1)), (iv ((oneS s (l.getD i 0)).2.2.2))], pb 1 35 [(.av (.int .u32 0)), (iv 0), (iv 0), (iv 0)], pb 131 3 (ints (D ++ [smpS s (l.getD i 0)]))]) (obs := [InK .i64 (((i : Nat) : Int) + 1)]) (by kernel_rfl) (obs_cons (p := InK .i64 (((i : Nat) : Int) + 1)) (by simp only [InK]; omega) (obs_nil)) ?_
      have hok := one_ok (x := (l.getD i 0)) hs
      exact T_back ⟨(i + 1, oneS s (l.getD i 0), (D ++ [smpS s (l.getD i 0)])), ⟨by omega, (restD_next (by omega)).trans hR, hok.1, by show (D ++ [_]).length = i + 1; simp; omega, by have := hok.2; show (oneS s (l.getD i 0)).2.2.2 ≤ s0.2.2.2 + ((i + 1 : Nat) : Int); omega⟩⟩ (Wk.trans (Wk.eq (show [ps 2 (.opt 0 0), ps 4 (.opt 1 0), ps 9 (.osl 131 0 (D.length + 1)), ps 24 (.ssl (ints l) 0 l.length), ps 25 (iv ((l.length : Nat) : Int)), ps 26 (iv (((i : Nat) : Int) + 1)), pb 0 35 [(.av (.int .u32 ((oneS s (l.getD i 0)).1))), (iv ((oneS s (l.getD i 0)).2.1)), (iv ((oneS s (l.getD i 0)).2.2.1)), (iv ((oneS s (l.getD i 0)).2.2.2))], pb 1 35 [(.av (.int .u32 0)), (iv 0), (iv 0), (iv 0)], pb 131 3 (ints (D ++ [smpS s (l.getD i 0)]))] = [ps 2 (.opt 0 0), ps 4 (.opt 1 0), ps 9 (.osl 131 0 ((D ++ [smpS s (l.getD i 0)]).length)), ps 24 (.ssl (ints l) 0 l.length), ps 25 (iv ((l.length : Nat) : Int)), ps 26 (iv (((i : Nat) : Int) + 1)), pb 0 35 [(.av (.int .u32 ((oneS s (l.getD i 0)).1))), (iv ((oneS s (l.getD i 0)).2.1)), (iv ((oneS s (l.getD i 0)).2.2.1)), (iv ((oneS s (l.getD i 0)).2.2.2))], pb 1 35 [(.av (.int .u32 0)), (iv 0), (iv 0), (iv 0)], pb 131 3 (ints (D ++ [smpS s (l.getD i 0)]))] from by rw [snoc_len])) (Wk.ren3 [ps 2 (.opt 0 0), ps 4 (.opt 1 0), ps 9 (.osl 2 0 (D ++ [smpS s (l.getD i 0)]).length), ps 24 (.ssl (ints l) 0 l.length), ps 25 (iv ((l.length : Nat) : Int)), ps 26 (iv (((i + 1) : Nat) : Int)), pb 0 35 [(.av (.int .u32 (oneS s (l.getD i 0)).1)), (iv (oneS s (l.getD i 0)).2.1), (iv (oneS s (l.getD i 0)).2.2.1), (iv (oneS s (l.getD i 0)).2.2.2)], pb 1 35 [(.av (.int .u32 0)), (iv 0), (iv 0), (iv 0)], pb 2 3 (ints (D ++ [smpS s (l.getD i 0)]))] 0 hc0 [0, 1, 131] [(kb 2, (ints (D ++ [smpS s (l.getD i 0)])))] (obs_cons (ints_shd _) (obs_nil)) (by kernel_rfl) rfl rfl (by kernel_rfl) (by kernel_rfl))) (show l.length - (i + 1) < l.length - i from by show l.length - (i + 1) < l.length - i; omega)
    · refine T_else (b := (decide (((i : Nat) : Int) < ((l.length : Nat) : Int)))) rfl (decide_eq_false h3) ?_
      refine T_break rfl rfl ?_
      refine T_seq ?_
      refine T_region [] [ks 4, ks 5, ks 6, kb 1, kb 2] (fun _ => mixed) (l' := [ps 4 (.opt 1 0), ps 5 (.osl 2 0 D.length), ps 6 (iv 0), pb 1 35 [(.av (.int .u32 s.1)), (iv s.2.1), (iv s.2.2.1), (iv s.2.2.2)], pb 2 3 (ints D)]) (obs := []) (by kernel_rfl) (obs_nil) ?_
      obtain rfl : i = l.length := by omega
      rw [List.drop_length, runD, restD, List.append_nil] at hR
      dsimp only at hR
      refine T_wk (Wk.frz (l' := [ps 4 (.opt 1 0), ps 5 (.ssl (ints D) 0 D.length), ps 6 (iv 0), pb 1 35 [(.av (.int .u32 s.1)), (iv s.2.1), (iv s.2.2.1), (iv s.2.2.2)], (kb 2, none)]) 2 (T := 3) (cs := (ints D)) (by kernel_rfl) (ints_shd _) (by kernel_rfl)) ?_
      refine T_wk (Wk.less (l' := [ps 4 (.opt 1 0), ps 5 (.ssl (ints D) 0 D.length), ps 6 (iv 0), pb 1 35 [(.av (.int .u32 s.1)), (iv s.2.1), (iv s.2.2.1), (iv s.2.2.2)]]) 51 (by kernel_rfl) (by kernel_rfl)) ?_
      rw [show nextD s0 l = s from by unfold nextD; rw [hB, ← hR]; rfl, show outD s0 l = D from by unfold outD; rw [hB, ← hR]; rfl, show errD l = 0 from by unfold errD; rw [hB]; rfl]
      exact T_ret fun cx_ a_ hI_ => ret_ok (H' := [none]) (.inr rfl) (Wk.ren2 [ps 4 (.opt 0 0), ps 5 (.ssl (ints D) 0 D.length), ps 6 (iv 0), pb 0 35 [(.av (.int .u32 s.1)), (iv s.2.1), (iv s.2.2.1), (iv s.2.2.2)]] 0 hc0 [1] rfl rfl (by kernel_rfl) (by kernel_rfl)) rfl (obs_nil) (fun cx_ a_ hI_ => ret_res (l' := [ps 4 (.opt 0 0), ps 5 (.ssl (ints D) 0 D.length), ps 6 (iv 0), pb 0 35 [(.av (.int .u32 s.1)), (iv s.2.1), (iv s.2.2.1), (iv s.2.2.2)]]) (by kernel_rfl) cx_ a_ hI_) hI_
end Go.Proofs.Ytgkahjaoajjgcaa.Pm
namespace Go.Proofs.Ytgkahjaoajjgcaa.Pm
open Go

theorem same_pc (l : List Int) (hl : l.length ≤ 9223372036854775807) : PC Try.prog 9 [(.ssl (ints l) 0 l.length), (.ssl (ints l) 0 l.length)] [] (bv true) [] := by
  refine pc_intro Try.func9 rfl (by kernel_rfl) (Nat.le_of_ble_eq_true rfl) (by kernel_rfl) (l0 := [ps 0 (.ssl (ints l) 0 l.length), ps 1 (.ssl (ints l) 0 l.length)]) rfl (fun c0 Bor hc0 => ?_)
  refine T_seq ?_
  refine T_region [] [ks 0, ks 1] (fun _ => mixed) (l' := [ps 0 (.ssl (ints l) 0 l.length), ps 1 (.ssl (ints l) 0 l.length)]) (obs := []) (by kernel_rfl) (obs_nil) ?_
  refine T_seq ?_
  refine T_seq ?_
  refine T_region [] [ks 0, ks 1, ks 10] (fun _ => mixed) (l' := [ps 0 (.ssl (ints l) 0 l.length), ps 1 (.ssl (ints l) 0 l.length), ps 10 (bv (!(decide (((l.length : Nat) : Int) = ((l.length : Nat) : Int)))))]) (obs := []) (by kernel_rfl) (obs_nil) ?_
  have h1 : ((l.length : Nat) : Int) = ((l.length : Nat) : Int) := rfl
  refine T_else (b := (!(decide (((l.length : Nat) : Int) = ((l.length : Nat) : Int))))) rfl (congrArg Bool.not (decide_eq_true h1)) ?_
  refine T_skip ?_
  refine T_seq ?_
  refine T_seq ?_
  refine T_region [] [ks 0, ks 1, ks 12, ks 13] (fun _ => mixed) (l' := [ps 0 (.ssl (ints l) 0 l.length), ps 1 (.ssl (ints l) 0 l.length), ps 12 (iv ((l.length : Nat) : Int)), ps 13 (iv 0)]) (obs := []) (by kernel_rfl) (obs_nil) ?_
  refine T_block ?_
  refine T_loop (α := {x : Nat // x ≤ l.length}) (fun x => [ps 0 (.ssl (ints l) 0 l.length), ps 1 (.ssl (ints l) 0 l.length), ps 12 (iv ((l.length : Nat) : Int)), ps 13 (iv ((x.1 : Nat) : Int))]) (fun x => l.length - x.1) 0 ⟨0, Nat.zero_le _⟩ (Wk.ren2 [ps 0 (.ssl (ints l) 0 l.length), ps 1 (.ssl (ints l) 0 l.length), ps 12 (iv ((l.length : Nat) : Int)), ps 13 (iv ((0 : Nat) : Int))] 0 hc0 [] rfl rfl (by kernel_rfl) (by kernel_rfl)) ?_
  rintro ⟨i, hi⟩
  refine T_seq ?_
  refine T_region [] [ks 0, ks 1, ks 12, ks 13, ks 14] (fun _ => mixed) (l' := [ps 0 (.ssl (ints l) 0 l.length), ps 1 (.ssl (ints l) 0 l.length), ps 12 (iv ((l.length : Nat) : Int)), ps 13 (iv ((i : Nat) : Int)), ps 14 (bv (decide (((i : Nat) : Int) < ((l.length : Nat) : Int))))]) (obs := []) (by kernel_rfl) (obs_nil) ?_
  refine T_seq ?_
  by_cases h2 : ((i : Nat) : Int) < ((l.length : Nat) : Int)
  · refine T_then (b := (decide (((i : Nat) : Int) < ((l.length : Nat) : Int)))) rfl (decide_eq_true h2) ?_
    refine T_skip ?_
    refine T_seq ?_
    refine T_block ?_
    refine T_seq ?_
    refine T_region [] [ks 0, ks 1, ks 5, ks 12, ks 13] (fun _ => mixed) (l' := [ps 0 (.ssl (ints l) 0 l.length), ps 1 (.ssl (ints l) 0 l.length), ps 5 (iv ((i : Nat) : Int)), ps 12 (iv ((l.length : Nat) : Int)), ps 13 (iv ((i : Nat) : Int))]) (obs := []) (by kernel_rfl) (obs_nil) ?_
    refine T_seq ?_
    refine T_region [(2, .nat i), (3, .val (iv (l.getD i 0))), (6, .nat i), (7, .val (iv (l.getD i 0)))] [ks 0, ks 1, ks 12, ks 13, ks 24] (fun _ => mixed) (l' := [ps 0 (.ssl (ints l) 0 l.length), ps 1 (.ssl (ints l) 0 l.length), ps 12 (iv ((l.length : Nat) : Int)), ps 13 (iv ((i : Nat) : Int)), ps 24 (bv (!(decide ((l.getD i 0) = (l.getD i 0)))))]) (obs := [(0 : Int) ≤ ((i : Nat) : Int) ∧ ((i : Nat) : Int) < ((l.length : Nat) : Int), 0 + (((i : Nat) : Int) : Int).toNat * 1 = i, i + 1 ≤ ((ints l)).length ∧ (((ints l)).drop i).take 1 = [(iv (l.getD i 0))], (0 : Int) ≤ ((i : Nat) : Int) ∧ ((i : Nat) : Int) < ((l.length : Nat) : Int), 0 + (((i : Nat) : Int) : Int).toNat * 1 = i, i + 1 ≤ ((ints l)).length ∧ (((ints l)).drop i).take 1 = [(iv (l.getD i 0))]]) (by kernel_rfl) (obs_cons (p := (0 : Int) ≤ ((i : Nat) : Int) ∧ ((i : Nat) : Int) < ((l.length : Nat) : Int)) (by omega) (obs_cons (p := 0 + (((i : Nat) : Int) : Int).toNat * 1 = i) (by omega) (obs_cons (p := i + 1 ≤ ((ints l)).length ∧ (((ints l)).drop i).take 1 = [(iv (l.getD i 0))]) (ints_at (by omega)) (obs_cons (p := (0 : Int) ≤ ((i : Nat) : Int) ∧ ((i : Nat) : Int) < ((l.length : Nat) : Int)) (by omega) (obs_cons (p := 0 + (((i : Nat) : Int) : Int).toNat * 1 = i) (by omega) (obs_cons (p := i + 1 ≤ ((ints l)).length ∧ (((ints l)).drop i).take 1 = [(iv (l.getD i 0))]) (ints_at (by omega)) (obs_nil))))))) ?_
    have h3 : (l.getD i 0) = (l.getD i 0) := rfl
    refine T_else (b := (!(decide ((l.getD i 0) = (l.getD i 0))))) rfl (congrArg Bool.not (decide_eq_true h3)) ?_
    refine T_skip ?_
    refine T_blk ?_
    refine T_region [] [ks 0, ks 1, ks 12, ks 13] (fun _ => mixed) (l' := [ps 0 (.ssl (ints l) 0 l.length), ps 1 (.ssl (ints l) 0 l.length), ps 12 (iv ((l.length : Nat) : Int)), ps 13 (iv (((i : Nat) : Int) + 1))]) (obs := [InK .i64 (((i : Nat) : Int) + 1)]) (by kernel_rfl) (obs_cons (p := InK .i64 (((i : Nat) : Int) + 1)) (by simp only [InK]; omega) (obs_nil)) ?_
    exact T_back ⟨i + 1, by omega⟩ (Wk.ren2 [ps 0 (.ssl (ints l) 0 l.length), ps 1 (.ssl (ints l) 0 l.length), ps 12 (iv ((l.length : Nat) : Int)), ps 13 (iv (((i + 1) : Nat) : Int))] 0 hc0 [] rfl rfl (by kernel_rfl) (by kernel_rfl)) (show l.length - (i + 1) < l.length - i from by omega)
  · refine T_else (b := (decide (((i : Nat) : Int) < ((l.length : Nat) : Int)))) rfl (decide_eq_false h2) ?_
    refine T_break rfl rfl ?_
    refine T_seq ?_
    refine T_region [] [ks 4] (fun _ => mixed) (l' := [ps 4 (bv true)]) (obs := []) (by kernel_rfl) (obs_nil) ?_
    exact T_ret fun cx_ a_ hI_ => ret_ok (H' := []) (.inr rfl) (Wk.ren2 [ps 4 (bv true)] 0 hc0 [] rfl rfl (by kernel_rfl) (by kernel_rfl)) rfl (obs_nil) (fun cx_ a_ hI_ => ret_res (l' := [ps 4 (bv true)]) (by kernel_rfl) cx_ a_ hI_) hI_
theorem outD_len (s : DS) (l : List Int) : (outD s l).length ≤ l.length := by
  unfold outD
  split
  · rw [runD_len]; exact Nat.le_refl _
  · exact Nat.zero_le _
set_option maxRecDepth 100000 in
theorem law_dithers (seed : Int) (T : List (List Int)) (hT : T.length ≤ 1048576) (ht : tot T ≤ 1048576) : PC Try.prog 4 [(.av (.int .u32 seed)), (.ssl (rows T) 0 T.length)] [] (bv true) [] := by
  refine pc_intro Try.func4 rfl (by kernel_rfl) (Nat.le_of_ble_eq_true rfl) (by kernel_rfl) (l0 := [ps 0 (.av (.int .u32 seed)), ps 1 (.ssl (rows T) 0 T.length)]) rfl (fun c0 Bor hc0 => ?_)
  refine T_seq ?_
  refine T_region [] [ks 0, ks 1] (fun _ => mixed) (l' := [ps 0 (.av (.int .u32 seed)), ps 1 (.ssl (rows T) 0 T.length)]) (obs := []) (by kernel_rfl) (obs_nil) ?_
  refine T_seq ?_
  refine T_region [(2, .call [] [(.av (.int .u32 seed)), (.ssl (rows T) 0 T.length)] [] (.ssl (dds (dithS (seed, 0, 0, 0) T)) 0 ((dithS (seed, 0, 0, 0) T).length)) [])] [ks 0, ks 1, ks 5] (fun _ => mixed) (l' := [ps 0 (.av (.int .u32 seed)), ps 1 (.ssl (rows T) 0 T.length), ps 5 (.ssl (dds (dithS (seed, 0, 0, 0) T)) 0 ((dithS (seed, 0, 0, 0) T).length))]) (obs := [PC Try.prog 10 [(.av (.int .u32 seed)), (.ssl (rows T) 0 T.length)] [] (.ssl (dds (dithS (seed, 0, 0, 0) T)) 0 ((dithS (seed, 0, 0, 0) T).length)) [], [(.av (.int .u32 seed)), (.ssl (rows T) 0 T.length)] = renL (sigi [] 24) [(.av (.int .u32 seed)), (.ssl (rows T) 0 T.length)]]) (by kernel_rfl) (obs_cons (p := PC Try.prog 10 [(.av (.int .u32 seed)), (.ssl (rows T) 0 T.length)] [] (.ssl (dds (dithS (seed, 0, 0, 0) T)) 0 ((dithS (seed, 0, 0, 0) T).length)) []) (dither_pc seed T hT ht) (obs_cons (p := [(.av (.int .u32 seed)), (.ssl (rows T) 0 T.length)] = renL (sigi [] 24) [(.av (.int .u32 seed)), (.ssl (rows T) 0 T.length)]) rfl (obs_nil))) ?_
  refine T_seq ?_
  refine T_seq ?_
  refine T_region [] [ks 0, ks 1, ks 5, ks 18] (fun _ => mixed) (l' := [ps 0 (.av (.int .u32 seed)), ps 1 (.ssl (rows T) 0 T.length), ps 5 (.ssl (dds (dithS (seed, 0, 0, 0) T)) 0 ((dithS (seed, 0, 0, 0) T).length)), ps 18 (bv (!(decide ((((dithS (seed, 0, 0, 0) T).length : Nat) : Int) = ((T.length : Nat) : Int)))))]) (obs := []) (by kernel_rfl) (obs_nil) ?_
  have h1 : (((dithS (seed, 0, 0, 0) T).length : Nat) : Int) = ((T.length : Nat) : Int) := by rw [dith_len]
  refine T_else (b := (!(decide ((((dithS (seed, 0, 0, 0) T).length : Nat) : Int) = ((T.length : Nat) : Int))))) rfl (congrArg Bool.not (decide_eq_true h1)) ?_
  refine T_skip ?_
  refine T_seq ?_
  refine T_region [] [ks 1, ks 5, ks 6, kb 96] (fun _ => mixed) (l' := [ps 1 (.ssl (rows T) 0 T.length), ps 5 (.ssl (dds (dithS (seed, 0, 0, 0) T)) 0 ((dithS (seed, 0, 0, 0) T).length)), ps 6 (.opt 96 0), pb 96 35 [(.av (.int .u32 seed)), (iv 0), (iv 0), (iv 0)]]) (obs := []) (by kernel_rfl) (obs_nil) ?_
  refine T_seq ?_
  refine T_seq ?_
  refine T_region [] [ks 5, ks 6, ks 21, ks 22, ks 23, kb 96] (fun _ => mixed) (l' := [ps 5 (.ssl (dds (dithS (seed, 0, 0, 0) T)) 0 ((dithS (seed, 0, 0, 0) T).length)), ps 6 (.opt 96 0), ps 21 (.ssl (rows T) 0 T.length), ps 22 (iv ((T.length : Nat) : Int)), ps 23 (iv 0), pb 96 35 [(.av (.int .u32 seed)), (iv 0), (iv 0), (iv 0)]]) (obs := []) (by kernel_rfl) (obs_nil) ?_
  refine T_block ?_
  refine T_wk (Wk.eq (show [ps 5 (.ssl (dds (dithS (seed, 0, 0, 0) T)) 0 ((dithS (seed, 0, 0, 0) T).length)), ps 6 (.opt 96 0), ps 21 (.ssl (rows T) 0 T.length), ps 22 (iv ((T.length : Nat) : Int)), ps 23 (iv 0), pb 96 35 [(.av (.int .u32 seed)), (iv 0), (iv 0), (iv 0)]] = [ps 5 (.ssl (dds (dithS (seed, 0, 0, 0) T)) 0 ((dithS (seed, 0, 0, 0) T).length)), ps 6 (.opt 96 0), ps 21 (.ssl (rows T) 0 T.length), ps 22 (iv ((T.length : Nat) : Int)), ps 23 (iv 0), pb 96 35 [(.av (.int .u32 (((seed, 0, 0, 0) : DS).1))), (iv (((seed, 0, 0, 0) : DS).2.1)), (iv (((seed, 0, 0, 0) : DS).2.2.1)), (iv (((seed, 0, 0, 0) : DS).2.2.2))]] from by rfl)) ?_
  refine T_loop (α := {x : Nat × DS // x.1 ≤ T.length ∧ (dithS (seed, 0, 0, 0) T).drop x.1 = dithS x.2 (T.drop x.1) ∧ okD x.2 ∧ x.2.2.2.2 ≤ ((tot (T.take x.1) : Nat) : Int)}) (fun x => [ps 5 (.ssl (dds (dithS (seed, 0, 0, 0) T)) 0 ((dithS (seed, 0, 0, 0) T).length)), ps 6 (.opt 0 0), ps 21 (.ssl (rows T) 0 T.length), ps 22 (iv ((T.length : Nat) : Int)), ps 23 (iv ((x.1.1 : Nat) : Int)), pb 0 35 [(.av (.int .u32 x.1.2.1)), (iv x.1.2.2.1), (iv x.1.2.2.2.1), (iv x.1.2.2.2.2)]]) (fun x => T.length - x.1.1) 1 ⟨(0, (seed, 0, 0, 0)), ⟨Nat.zero_le _, rfl, okD0 seed, by show (0 : Int) ≤ _; omega⟩⟩ (Wk.ren2 [ps 5 (.ssl (dds (dithS (seed, 0, 0, 0) T)) 0 ((dithS (seed, 0, 0, 0) T).length)), ps 6 (.opt 0 0), ps 21 (.ssl (rows T) 0 T.length), ps 22 (iv ((T.length : Nat) : Int)), ps 23 (iv ((0 : Nat) : Int)), pb 0 35 [(.av (.int .u32 ((seed, 0, 0, 0) : DS).1)), (iv ((seed, 0, 0, 0) : DS).2.1), (iv ((seed, 0, 0, 0) : DS).2.2.1), (iv ((seed, 0, 0, 0) : DS).2.2.2)]] 0 hc0 [96] rfl rfl (by kernel_rfl) (by kernel_rfl)) ?_
  rintro ⟨⟨i, s⟩, ⟨hi, hA, hs, hc⟩⟩
  dsimp only at hi hA hs hc
  refine T_seq ?_
  refine T_region [] [ks 5, ks 6, ks 21, ks 22, ks 23, ks 24, kb 0] (fun _ => mixed) (l' := [ps 5 (.ssl (dds (dithS (seed, 0, 0, 0) T)) 0 ((dithS (seed, 0, 0, 0) T).length)), ps 6 (.opt 0 0), ps 21 (.ssl (rows T) 0 T.length), ps 22 (iv ((T.length : Nat) : Int)), ps 23 (iv ((i : Nat) : Int)), ps 24 (bv (decide (((i : Nat) : Int) < ((T.length : Nat) : Int)))), pb 0 35 [(.av (.int .u32 s.1)), (iv s.2.1), (iv s.2.2.1), (iv s.2.2.2)]]) (obs := []) (by kernel_rfl) (obs_nil) ?_
  refine T_seq ?_
  by_cases h2 : ((i : Nat) : Int) < ((T.length : Nat) : Int)
  · refine T_then (b := (decide (((i : Nat) : Int) < ((T.length : Nat) : Int)))) rfl (decide_eq_true h2) ?_
    refine T_skip ?_
    refine T_seq ?_
    refine T_block ?_
    refine T_seq ?_
    have htt := tot_take T i
    have hta := tot_at (show i < T.length by omega)
    have hat := dith_at (by omega) hA
    have hrl := dith_len (seed, 0, 0, 0) T
    refine T_region [(1, .nat i), (2, .val (.ssl (ints (T.getD i [])) 0 ((T.getD i []).length)))] [ks 5, ks 6, ks 7, ks 8, ks 21, ks 22, ks 23, kb 0] (fun _ => mixed) (l' := [ps 5 (.ssl (dds (dithS (seed, 0, 0, 0) T)) 0 ((dithS (seed, 0, 0, 0) T).length)), ps 6 (.opt 0 0), ps 7 (iv ((i : Nat) : Int)), ps 8 (.ssl (ints (T.getD i [])) 0 ((T.getD i []).length)), ps 21 (.ssl (rows T) 0 T.length), ps 22 (iv ((T.length : Nat) : Int)), ps 23 (iv ((i : Nat) : Int)), pb 0 35 [(.av (.int .u32 s.1)), (iv s.2.1), (iv s.2.2.1), (iv s.2.2.2)]]) (obs := [(0 : Int) ≤ ((i : Nat) : Int) ∧ ((i : Nat) : Int) < ((T.length : Nat) : Int), 0 + (((i : Nat) : Int) : Int).toNat * 1 = i, i + 1 ≤ ((rows T)).length ∧ (((rows T)).drop i).take 1 = [(.ssl (ints (T.getD i [])) 0 ((T.getD i []).length))]]) (by kernel_rfl) (obs_cons (p := (0 : Int) ≤ ((i : Nat) : Int) ∧ ((i : Nat) : Int) < ((T.length : Nat) : Int)) (by omega) (obs_cons (p := 0 + (((i : Nat) : Int) : Int).toNat * 1 = i) (by omega) (obs_cons (p := i + 1 ≤ ((rows T)).length ∧ (((rows T)).drop i).take 1 = [(.ssl (ints (T.getD i [])) 0 ((T.getD i []).length))]) (flat_at1 rowC (fun _ => rfl) [] T i (by omega)) (obs_nil)))) ?_
    refine T_seq ?_
    refine T_region [] [ks 5, ks 6, ks 7, ks 8, ks 21, ks 22, ks 23, kb 0] (fun _ => mixed) (l' := [ps 5 (.ssl (dds (dithS (seed, 0, 0, 0) T)) 0 ((dithS (seed, 0, 0, 0) T).length)), ps 6 (.opt 0 0), ps 7 (iv ((i : Nat) : Int)), ps 8 (.ssl (ints (T.getD i [])) 0 ((T.getD i []).length)), ps 21 (.ssl (rows T) 0 T.length), ps 22 (iv ((T.length : Nat) : Int)), ps 23 (iv ((i : Nat) : Int)), pb 0 35 [(.av (.int .u32 s.1)), (iv s.2.1), (iv s.2.2.1), (iv s.2.2.2)]]) (obs := []) (by kernel_rfl) (obs_nil) ?_
    refine T_seq ?_
    refine T_region [] [ks 5, ks 6, ks 7, ks 8, ks 21, ks 22, ks 23, kb 0] (fun _ => mixed) (l' := [ps 5 (.ssl (dds (dithS (seed, 0, 0, 0) T)) 0 ((dithS (seed, 0, 0, 0) T).length)), ps 6 (.opt 0 0), ps 7 (iv ((i : Nat) : Int)), ps 8 (.ssl (ints (T.getD i [])) 0 ((T.getD i []).length)), ps 21 (.ssl (rows T) 0 T.length), ps 22 (iv ((T.length : Nat) : Int)), ps 23 (iv ((i : Nat) : Int)), pb 0 35 [(.av (.int .u32 s.1)), (iv s.2.1), (iv s.2.2.1), (iv s.2.2.2)]]) (obs := []) (by kernel_rfl) (obs_nil) ?_
    refine T_seq ?_
    refine T_region [(2, .call [] [(.agg [(.av (.int .u32 s.1)), (iv s.2.1), (iv s.2.2.1), (iv s.2.2.2)]), (.ssl (ints (T.getD i [])) 0 ((T.getD i []).length))] [] (.tup [(.agg [(.av (.int .u32 ((nextD s (T.getD i [])).1))), (iv ((nextD s (T.getD i [])).2.1)), (iv ((nextD s (T.getD i [])).2.2.1)), (iv ((nextD s (T.getD i [])).2.2.2))]), (.ssl (ints (outD s (T.getD i []))) 0 ((outD s (T.getD i [])).length)), (iv (errD (T.getD i [])))]) [none])] [ks 5, ks 6, ks 7, ks 9, ks 10, ks 21, ks 22, ks 23, kb 0] (fun _ => mixed) (l' := [ps 5 (.ssl (dds (dithS (seed, 0, 0, 0) T)) 0 ((dithS (seed, 0, 0, 0) T).length)), ps 6 (.opt 0 0), ps 7 (iv ((i : Nat) : Int)), ps 9 (.ssl (ints (outD s (T.getD i []))) 0 ((outD s (T.getD i [])).length)), ps 10 (iv (errD (T.getD i []))), ps 21 (.ssl (rows T) 0 T.length), ps 22 (iv ((T.length : Nat) : Int)), ps 23 (iv ((i : Nat) : Int)), pb 0 35 [(.av (.int .u32 ((nextD s (T.getD i [])).1))), (iv ((nextD s (T.getD i [])).2.1)), (iv ((nextD s (T.getD i [])).2.2.1)), (iv ((nextD s (T.getD i [])).2.2.2))]]) (obs := [PC Try.prog 11 [(.agg [(.av (.int .u32 s.1)), (iv s.2.1), (iv s.2.2.1), (iv s.2.2.2)]), (.ssl (ints (T.getD i [])) 0 ((T.getD i []).length))] [] (.tup [(.agg [(.av (.int .u32 ((nextD s (T.getD i [])).1))), (iv ((nextD s (T.getD i [])).2.1)), (iv ((nextD s (T.getD i [])).2.2.1)), (iv ((nextD s (T.getD i [])).2.2.2))]), (.ssl (ints (outD s (T.getD i []))) 0 ((outD s (T.getD i [])).length)), (iv (errD (T.getD i [])))]) [none], [(.agg [(.av (.int .u32 s.1)), (iv s.2.1), (iv s.2.2.1), (iv s.2.2.2)]), (.ssl (ints (T.getD i [])) 0 ((T.getD i []).length))] = renL (sigi [] 81) [(.agg [(.av (.int .u32 s.1)), (iv s.2.1), (iv s.2.2.1), (iv s.2.2.2)]), (.ssl (ints (T.getD i [])) 0 ((T.getD i []).length))]]) (by kernel_rfl) (obs_cons (p := PC Try.prog 11 [(.agg [(.av (.int .u32 s.1)), (iv s.2.1), (iv s.2.2.1), (iv s.2.2.2)]), (.ssl (ints (T.getD i [])) 0 ((T.getD i []).length))] [] (.tup [(.agg [(.av (.int .u32 ((nextD s (T.getD i [])).1))), (iv ((nextD s (T.getD i [])).2.1)), (iv ((nextD s (T.getD i [])).2.2.1)), (iv ((nextD s (T.getD i [])).2.2.2))]), (.ssl (ints (outD s (T.getD i []))) 0 ((outD s (T.getD i [])).length)), (iv (errD (T.getD i [])))]) [none]) (ref_run_pc s (T.getD i []) hs (by omega) (by omega)) (obs_cons (p := [(.agg [(.av (.int .u32 s.1)), (iv s.2.1), (iv s.2.2.1), (iv s.2.2.2)]), (.ssl (ints (T.getD i [])) 0 ((T.getD i []).length))] = renL (sigi [] 81) [(.agg [(.av (.int .u32 s.1)), (iv s.2.1), (iv s.2.2.1), (iv s.2.2.2)]), (.ssl (ints (T.getD i [])) 0 ((T.getD i []).length))]) rfl (obs_nil))) ?_
    refine T_seq ?_
    have h3 : (((dithS (seed, 0, 0, 0) T).getD i dDd).2.1) = (errD (T.getD i [])) := by rw [hat.1]; rfl
    have h4 : (((dithS (seed, 0, 0, 0) T).getD i dDd).2.2.1) = ((nextD s (T.getD i [])).2.2.1) := by rw [hat.1]; rfl
    refine T_region [(2, .nat (i * 4)), (4, .val (.ssl (ints (((dithS (seed, 0, 0, 0) T).getD i dDd).1)) 0 ((((dithS (seed, 0, 0, 0) T).getD i dDd).1).length))), (6, .call [] [(.ssl (ints (((dithS (seed, 0, 0, 0) T).getD i dDd).1)) 0 ((((dithS (seed, 0, 0, 0) T).getD i dDd).1).length)), (.ssl (ints (outD s (T.getD i []))) 0 ((outD s (T.getD i [])).length))] [] (bv true) []), (9, .gd false (.no)), (10, .gd false (.no)), (11, .gd false (.nat (i * 4))), (12, .gd false (.no)), (13, .gd false (.val (iv (((dithS (seed, 0, 0, 0) T).getD i dDd).2.1)))), (14, .gd false (.no)), (15, .gd false (.no)), (18, .gd false (.no)), (19, .gd false (.no)), (20, .gd false (.nat (i * 4))), (21, .gd false (.no)), (22, .gd false (.val (iv (((dithS (seed, 0, 0, 0) T).getD i dDd).2.2.1)))), (23, .gd false (.no)), (24, .gd false (.no)), (25, .gd false (.no)), (26, .yes false), (28, .gd false (.no)), (29, .gd false (.no)), (30, .gd false (.nat (i * 4))), (31, .gd false (.no)), (32, .gd false (.val (iv (((dithS (seed, 0, 0, 0) T).getD i dDd).2.2.2)))), (33, .gd false (.no)), (34, .gd false (.no)), (35, .gd false (.no)), (36, .yes false)] [ks 5, ks 6, ks 21, ks 22, ks 23, ks 71, kb 0] (fun _ => mixed) (l' := [ps 5 (.ssl (dds (dithS (seed, 0, 0, 0) T)) 0 ((dithS (seed, 0, 0, 0) T).length)), ps 6 (.opt 0 0), ps 21 (.ssl (rows T) 0 T.length), ps 22 (iv ((T.length : Nat) : Int)), ps 23 (iv ((i : Nat) : Int)), ps 71 (bv (!(decide ((((dithS (seed, 0, 0, 0) T).getD i dDd).2.2.2) = ((nextD s (T.getD i [])).2.2.2))))), pb 0 35 [(.av (.int .u32 ((nextD s (T.getD i [])).1))), (iv ((nextD s (T.getD i [])).2.1)), (iv ((nextD s (T.getD i [])).2.2.1)), (iv ((nextD s (T.getD i [])).2.2.2))]]) (obs := [(0 : Int) ≤ ((i : Nat) : Int) ∧ ((i : Nat) : Int) < (((dithS (seed, 0, 0, 0) T).length : Nat) : Int), 0 + (((i : Nat) : Int) : Int).toNat * 4 = (i * 4), (i * 4) + 1 ≤ ((dds (dithS (seed, 0, 0, 0) T))).length ∧ (((dds (dithS (seed, 0, 0, 0) T))).drop (i * 4)).take 1 = [(.ssl (ints (((dithS (seed, 0, 0, 0) T).getD i dDd).1)) 0 ((((dithS (seed, 0, 0, 0) T).getD i dDd).1).length))], PC Try.prog 9 [(.ssl (ints (((dithS (seed, 0, 0, 0) T).getD i dDd).1)) 0 ((((dithS (seed, 0, 0, 0) T).getD i dDd).1).length)), (.ssl (ints (outD s (T.getD i []))) 0 ((outD s (T.getD i [])).length))] [] (bv true) [], [(.ssl (ints (((dithS (seed, 0, 0, 0) T).getD i dDd).1)) 0 ((((dithS (seed, 0, 0, 0) T).getD i dDd).1).length)), (.ssl (ints (outD s (T.getD i []))) 0 ((outD s (T.getD i [])).length))] = renL (sigi [] 193) [(.ssl (ints (((dithS (seed, 0, 0, 0) T).getD i dDd).1)) 0 ((((dithS (seed, 0, 0, 0) T).getD i dDd).1).length)), (.ssl (ints (outD s (T.getD i []))) 0 ((outD s (T.getD i [])).length))], false = false, false = false, false = false, (0 : Int) ≤ ((i : Nat) : Int) ∧ ((i : Nat) : Int) < (((dithS (seed, 0, 0, 0) T).length : Nat) : Int), 0 + (((i : Nat) : Int) : Int).toNat * 4 = (i * 4), false = false, false = false, (i * 4 + 1) + 1 ≤ ((dds (dithS (seed, 0, 0, 0) T))).length ∧ (((dds (dithS (seed, 0, 0, 0) T))).drop (i * 4 + 1)).take 1 = [(iv (((dithS (seed, 0, 0, 0) T).getD i dDd).2.1))], false = false, false = false, (!(decide ((((dithS (seed, 0, 0, 0) T).getD i dDd).2.1) = (errD (T.getD i []))))) = false, (!(decide ((((dithS (seed, 0, 0, 0) T).getD i dDd).2.1) = (errD (T.getD i []))))) = false, (!(decide ((((dithS (seed, 0, 0, 0) T).getD i dDd).2.1) = (errD (T.getD i []))))) = false, (0 : Int) ≤ ((i : Nat) : Int) ∧ ((i : Nat) : Int) < (((dithS (seed, 0, 0, 0) T).length : Nat) : Int), 0 + (((i : Nat) : Int) : Int).toNat * 4 = (i * 4), (!(decide ((((dithS (seed, 0, 0, 0) T).getD i dDd).2.1) = (errD (T.getD i []))))) = false, (!(decide ((((dithS (seed, 0, 0, 0) T).getD i dDd).2.1) = (errD (T.getD i []))))) = false, (i * 4 + 2) + 1 ≤ ((dds (dithS (seed, 0, 0, 0) T))).length ∧ (((dds (dithS (seed, 0, 0, 0) T))).drop (i * 4 + 2)).take 1 = [(iv (((dithS (seed, 0, 0, 0) T).getD i dDd).2.2.1))], (!(decide ((((dithS (seed, 0, 0, 0) T).getD i dDd).2.1) = (errD (T.getD i []))))) = false, (!(decide ((((dithS (seed, 0, 0, 0) T).getD i dDd).2.1) = (errD (T.getD i []))))) = false, (!(decide ((((dithS (seed, 0, 0, 0) T).getD i dDd).2.1) = (errD (T.getD i []))))) = false, (!(decide ((((dithS (seed, 0, 0, 0) T).getD i dDd).2.1) = (errD (T.getD i []))))) = false, (!(decide ((((dithS (seed, 0, 0, 0) T).getD i dDd).2.2.1) = ((nextD s (T.getD i [])).2.2.1)))) = false, (!(decide ((((dithS (seed, 0, 0, 0) T).getD i dDd).2.2.1) = ((nextD s (T.getD i [])).2.2.1)))) = false, (!(decide ((((dithS (seed, 0, 0, 0) T).getD i dDd).2.2.1) = ((nextD s (T.getD i [])).2.2.1)))) = false, (0 : Int) ≤ ((i : Nat) : Int) ∧ ((i : Nat) : Int) < (((dithS (seed, 0, 0, 0) T).length : Nat) : Int), 0 + (((i : Nat) : Int) : Int).toNat * 4 = (i * 4), (!(decide ((((dithS (seed, 0, 0, 0) T).getD i dDd).2.2.1) = ((nextD s (T.getD i [])).2.2.1)))) = false, (!(decide ((((dithS (seed, 0, 0, 0) T).getD i dDd).2.2.1) = ((nextD s (T.getD i [])).2.2.1)))) = false, (i * 4 + 3) + 1 ≤ ((dds (dithS (seed, 0, 0, 0) T))).length ∧ (((dds (dithS (seed, 0, 0, 0) T))).drop (i * 4 + 3)).take 1 = [(iv (((dithS (seed, 0, 0, 0) T).getD i dDd).2.2.2))], (!(decide ((((dithS (seed, 0, 0, 0) T).getD i dDd).2.2.1) = ((nextD s (T.getD i [])).2.2.1)))) = false, (!(decide ((((dithS (seed, 0, 0, 0) T).getD i dDd).2.2.1) = ((nextD s (T.getD i [])).2.2.1)))) = false, (!(decide ((((dithS (seed, 0, 0, 0) T).getD i dDd).2.2.1) = ((nextD s (T.getD i [])).2.2.1)))) = false, (!(decide ((((dithS (seed, 0, 0, 0) T).getD i dDd).2.2.1) = ((nextD s (T.getD i [])).2.2.1)))) = false]) (by kernel_rfl) (obs_cons (p := (0 : Int) ≤ ((i : Nat) : Int) ∧ ((i : Nat) : Int) < (((dithS (seed, 0, 0, 0) T).length : Nat) : Int)) (by omega) (obs_cons (p := 0 + (((i : Nat) : Int) : Int).toNat * 4 = (i * 4)) (by omega) (obs_cons (p := (i * 4) + 1 ≤ ((dds (dithS (seed, 0, 0, 0) T))).length ∧ (((dds (dithS (seed, 0, 0, 0) T))).drop (i * 4)).take 1 = [(.ssl (ints (((dithS (seed, 0, 0, 0) T).getD i dDd).1)) 0 ((((dithS (seed, 0, 0, 0) T).getD i dDd).1).length))]) (flat_at ddC 4 (fun _ => rfl) dDd (dithS (seed, 0, 0, 0) T) i 0 1 (by omega) (by decide)) (obs_cons (p := PC Try.prog 9 [(.ssl (ints (((dithS (seed, 0, 0, 0) T).getD i dDd).1)) 0 ((((dithS (seed, 0, 0, 0) T).getD i dDd).1).length)), (.ssl (ints (outD s (T.getD i []))) 0 ((outD s (T.getD i [])).length))] [] (bv true) []) (by rw [hat.1]; exact same_pc (outD s (T.getD i [])) (by have := outD_len s (T.getD i []); omega)) (obs_cons (p := [(.ssl (ints (((dithS (seed, 0, 0, 0) T).getD i dDd).1)) 0 ((((dithS (seed, 0, 0, 0) T).getD i dDd).1).length)), (.ssl (ints (outD s (T.getD i []))) 0 ((outD s (T.getD i [])).length))] = renL (sigi [] 193) [(.ssl (ints (((dithS (seed, 0, 0, 0) T).getD i dDd).1)) 0 ((((dithS (seed, 0, 0, 0) T).getD i dDd).1).length)), (.ssl (ints (outD s (T.getD i []))) 0 ((outD s (T.getD i [])).length))]) rfl (obs_cons (p := false = false) rfl (obs_cons (p := false = false) rfl (obs_cons (p := false = false) rfl (obs_cons (p := (0 : Int) ≤ ((i : Nat) : Int) ∧ ((i : Nat) : Int) < (((dithS (seed, 0, 0, 0) T).length : Nat) : Int)) (by omega) (obs_cons (p := 0 + (((i : Nat) : Int) : Int).toNat * 4 = (i * 4)) (by omega) (obs_cons (p := false = false) rfl (obs_cons (p := false = false) rfl (obs_cons (p := (i * 4 + 1) + 1 ≤ ((dds (dithS (seed, 0, 0, 0) T))).length ∧ (((dds (dithS (seed, 0, 0, 0) T))).drop (i * 4 + 1)).take 1 = [(iv (((dithS (seed, 0, 0, 0) T).getD i dDd).2.1))]) (flat_at ddC 4 (fun _ => rfl) dDd (dithS (seed, 0, 0, 0) T) i 1 1 (by omega) (by decide)) (obs_cons (p := false = false) rfl (obs_cons (p := false = false) rfl (obs_cons (p := (!(decide ((((dithS (seed, 0, 0, 0) T).getD i dDd).2.1) = (errD (T.getD i []))))) = false) (congrArg Bool.not (decide_eq_true h3)) (obs_cons (p := (!(decide ((((dithS (seed, 0, 0, 0) T).getD i dDd).2.1) = (errD (T.getD i []))))) = false) (congrArg Bool.not (decide_eq_true h3)) (obs_cons (p := (!(decide ((((dithS (seed, 0, 0, 0) T).getD i dDd).2.1) = (errD (T.getD i []))))) = false) (congrArg Bool.not (decide_eq_true h3)) (obs_cons (p := (0 : Int) ≤ ((i : Nat) : Int) ∧ ((i : Nat) : Int) < (((dithS (seed, 0, 0, 0) T).length : Nat) : Int)) (by omega) (obs_cons (p := 0 + (((i : Nat) : Int) : Int).toNat * 4 = (i * 4)) (by omega) (obs_cons (p := (!(decide ((((dithS (seed, 0, 0, 0) T).getD i dDd).2.1) = (errD (T.getD i []))))) = false) (congrArg Bool.not (decide_eq_true h3)) (obs_cons (p := (!(decide ((((dithS (seed, 0, 0, 0) T).getD i dDd).2.1) = (errD (T.getD i []))))) = false) (congrArg Bool.not (decide_eq_true h3)) (obs_cons (p := (i * 4 + 2) + 1 ≤ ((dds (dithS (seed, 0, 0, 0) T))).length ∧ (((dds (dithS (seed, 0, 0, 0) T))).drop (i * 4 + 2)).take 1 = [(iv (((dithS (seed, 0, 0, 0) T).getD i dDd).2.2.1))]) (flat_at ddC 4 (fun _ => rfl) dDd (dithS (seed, 0, 0, 0) T) i 2 1 (by omega) (by decide)) (obs_cons (p := (!(decide ((((dithS (seed, 0, 0, 0) T).getD i dDd).2.1) = (errD (T.getD i []))))) = false) (congrArg Bool.not (decide_eq_true h3)) (obs_cons (p := (!(decide ((((dithS (seed, 0, 0, 0) T).getD i dDd).2.1) = (errD (T.getD i []))))) = false) (congrArg Bool.not (decide_eq_true h3)) (obs_cons (p := (!(decide ((((dithS (seed, 0, 0, 0) T).getD i dDd).2.1) = (errD (T.getD i []))))) = false) (congrArg Bool.not (decide_eq_true h3)) (obs_cons (p := (!(decide ((((dithS (seed, 0, 0, 0) T).getD i dDd).2.1) = (errD (T.getD i []))))) = false) (congrArg Bool.not (decide_eq_true h3)) (obs_cons (p := (!(decide ((((dithS (seed, 0, 0, 0) T).getD i dDd).2.2.1) = ((nextD s (T.getD i [])).2.2.1)))) = false) (congrArg Bool.not (decide_eq_true h4)) (obs_cons (p := (!(decide ((((dithS (seed, 0, 0, 0) T).getD i dDd).2.2.1) = ((nextD s (T.getD i [])).2.2.1)))) = false) (congrArg Bool.not (decide_eq_true h4)) (obs_cons (p := (!(decide ((((dithS (seed, 0, 0, 0) T).getD i dDd).2.2.1) = ((nextD s (T.getD i [])).2.2.1)))) = false) (congrArg Bool.not (decide_eq_true h4)) (obs_cons (p := (0 : Int) ≤ ((i : Nat) : Int) ∧ ((i : Nat) : Int) < (((dithS (seed, 0, 0, 0) T).length : Nat) : Int)) (by omega) (obs_cons (p := 0 + (((i : Nat) : Int) : Int).toNat * 4 = (i * 4)) (by omega) (obs_cons (p := (!(decide ((((dithS (seed, 0, 0, 0) T).getD i dDd).2.2.1) = ((nextD s (T.getD i [])).2.2.1)))) = false) (congrArg Bool.not (decide_eq_true h4)) (obs_cons (p := (!(decide ((((dithS (seed, 0, 0, 0) T).getD i dDd).2.2.1) = ((nextD s (T.getD i [])).2.2.1)))) = false) (congrArg Bool.not (decide_eq_true h4)) (obs_cons (p := (i * 4 + 3) + 1 ≤ ((dds (dithS (seed, 0, 0, 0) T))).length ∧ (((dds (dithS (seed, 0, 0, 0) T))).drop (i * 4 + 3)).take 1 = [(iv (((dithS (seed, 0, 0, 0) T).getD i dDd).2.2.2))]) (flat_at ddC 4 (fun _ => rfl) dDd (dithS (seed, 0, 0, 0) T) i 3 1 (by omega) (by decide)) (obs_cons (p := (!(decide ((((dithS (seed, 0, 0, 0) T).getD i dDd).2.2.1) = ((nextD s (T.getD i [])).2.2.1)))) = false) (congrArg Bool.not (decide_eq_true h4)) (obs_cons (p := (!(decide ((((dithS (seed, 0, 0, 0) T).getD i dDd).2.2.1) = ((nextD s (T.getD i [])).2.2.1)))) = false) (congrArg Bool.not (decide_eq_true h4)) (obs_cons (p := (!(decide ((((dithS (seed, 0, 0, 0) T).getD i dDd).2.2.1) = ((nextD s (T.getD i [])).2.2.1)))) = false) (congrArg Bool.not (decide_eq_true h4)) (obs_cons (p := (!(decide ((((dithS (seed, 0, 0, 0) T).getD i dDd).2.2.1) = ((nextD s (T.getD i [])).2.2.1)))) = false) (congrArg Bool.not (decide_eq_true h4)) (obs_nil)))))))))))))))))))))))))))))))))))))))) ?_
    have h5 : (((dithS (seed, 0, 0, 0) T).getD i dDd).2.2.2) = ((nextD s (T.getD i [])).2.2.2) := by rw [hat.1]; rfl
    refine T_else (b := (!(decide ((((dithS (seed, 0, 0, 0) T).getD i dDd).2.2.2) = ((nextD s (T.getD i [])).2.2.2))))) rfl (congrArg Bool.not (decide_eq_true h5)) ?_
    refine T_skip ?_
    refine T_blk ?_
    refine T_region [] [ks 5, ks 6, ks 21, ks 22, ks 23, kb 0] (fun _ => mixed) (l' := [ps 5 (.ssl (dds (dithS (seed, 0, 0, 0) T)) 0 ((dithS (seed, 0, 0, 0) T).length)), ps 6 (.opt 0 0), ps 21 (.ssl (rows T) 0 T.length), ps 22 (iv ((T.length : Nat) : Int)), ps 23 (iv (((i : Nat) : Int) + 1)), pb 0 35 [(.av (.int .u32 ((nextD s (T.getD i [])).1))), (iv ((nextD s (T.getD i [])).2.1)), (iv ((nextD s (T.getD i [])).2.2.1)), (iv ((nextD s (T.getD i [])).2.2.2))]]) (obs := [InK .i64 (((i : Nat) : Int) + 1)]) (by kernel_rfl) (obs_cons (p := InK .i64 (((i : Nat) : Int) + 1)) (by simp only [InK]; omega) (obs_nil)) ?_
    have hno := nextD_ok (l := (T.getD i [])) hs
    have htn := tot_next (show i < T.length by omega)
    exact T_back ⟨(i + 1, nextD s (T.getD i [])), ⟨by omega, hat.2, hno.1, by show (nextD s (T.getD i [])).2.2.2 ≤ ((tot (T.take (i + 1)) : Nat) : Int); omega⟩⟩ (Wk.ren2 [ps 5 (.ssl (dds (dithS (seed, 0, 0, 0) T)) 0 ((dithS (seed, 0, 0, 0) T).length)), ps 6 (.opt 0 0), ps 21 (.ssl (rows T) 0 T.length), ps 22 (iv ((T.length : Nat) : Int)), ps 23 (iv (((i + 1) : Nat) : Int)), pb 0 35 [(.av (.int .u32 (nextD s (T.getD i [])).1)), (iv (nextD s (T.getD i [])).2.1), (iv (nextD s (T.getD i [])).2.2.1), (iv (nextD s (T.getD i [])).2.2.2)]] 0 hc0 [0] rfl rfl (by kernel_rfl) (by kernel_rfl)) (show T.length - (i + 1) < T.length - i from by show T.length - (i + 1) < T.length - i; omega)
  · refine T_else (b := (decide (((i : Nat) : Int) < ((T.length : Nat) : Int)))) rfl (decide_eq_false h2) ?_
    refine T_break rfl rfl ?_
    refine T_seq ?_
    refine T_region [] [ks 4] (fun _ => mixed) (l' := [ps 4 (bv true)]) (obs := []) (by kernel_rfl) (obs_nil) ?_
    exact T_ret fun cx_ a_ hI_ => ret_ok (H' := []) (.inr rfl) (Wk.ren2 [ps 4 (bv true)] 0 hc0 [] rfl rfl (by kernel_rfl) (by kernel_rfl)) rfl (obs_nil) (fun cx_ a_ hI_ => ret_res (l' := [ps 4 (bv true)]) (by kernel_rfl) cx_ a_ hI_) hI_
end Go.Proofs.Ytgkahjaoajjgcaa.Pm
namespace Go.Proofs.Ytgkahjaoajjgcaa
open Go.ChangeShapes Go.WideShapes Go.ChangeAt Go.RowKit

theorem Try.own : ownKnob Try.prog.godebug = none := by kernel_rfl
theorem Try.laidOut : laidOutB Try.prog = true := by kernel_rfl

section
variable {H : Type} {enc : TypeId × Value → H} {P : Program}
/-- All arguments at once. -/
theorem trodAll_stays (hl : laidOutB P = true) {W W' : World} {sp : Nat → Bool} (hb : Below W.heap.size W W') :
    ∀ {ts : List TypeId} {vs : List Value} {ds : List (DataW H)} {ps : List MemPlace}, (ts.all fun t => P.readableRec t && decide (t < P.types.size)) = true →
      DataW.TrodAll enc P W 0 (fun _ => true) true ts vs ds ps → (∀ x ∈ ps, x.block < W.heap.size) → (∀ x ∈ ps, sp x.block = true) → DataW.TrodAll enc P W' 0 sp true ts vs ds ps
  | [], _, _, _, _, h, _, _ => by obtain ⟨rfl, rfl, rfl⟩ := trodAll_nil h; exact trodAll_mk0
  | t :: ts, _, _, _, hr, h, hlt, hsp => by
    obtain ⟨v, vs, d, ds, p, q, rfl, rfl, rfl, h0, h1⟩ := trodAll_cons h
    simp only [List.all_cons, Bool.and_eq_true, decide_eq_true_eq] at hr
    exact trodAll_cons_mk (WideElems.Trod_stays hl hr.1.1 hr.1.2 h0 (fun x hx => hb.same (hlt x (by simp [hx]))) (fun x hx => hsp x (by simp [hx])))
      (trodAll_stays hl hb hr.2 h1 (fun x hx => hlt x (by simp [hx])) (fun x hx => hsp x (by simp [hx])))

/-- A law's post: true, and each argument reads as it did. -/
theorem law_post {f : Func} {s : ChangeSpec} {apart fresh handsOn again : Bool} {W W' : World} {args : Array Value} {ds : List (DataW H)} {before : List MemPlace} {tb : TypeId}
    (hW : DataW.Whole enc P f.params.toList s.vars apart W args.toList ds [] before) (hl : laidOutB P = true)
    (hv : s.vars = []) (hr : (f.params.toList.all fun t => P.readableRec t && decide (t < P.types.size)) = true) (hrt : f.resultTypes = #[tb]) (htb : P.underlying tb = some .bool)
    (hs : s.fn H (ds ++ []) = { results := [.lit (.bool true)], args := ds }) (hb : Below W.heap.size W W') :
    s.post enc P f apart fresh handsOn again W args (.bool true) W' := by
  have hlt : ∀ p ∈ before, p.block < W.heap.size := fun p hp => hW.lt p hp
  have hold : ∀ p ∈ before, (fun b => decide (b < W.heap.size)) p.block = true := fun p hp => by simpa using hlt p hp
  have hW0 := hW
  obtain ⟨p, q, hA, hV, hpq, hz, hn⟩ := hW
  have hq : q = [] := by rw [hv] at hV; exact (trodVars_none hV).2
  have hpq' : before = p := by rw [hpq, hq, List.append_nil]
  subst hpq'
  have hargs : ∀ sp : Nat → Bool, (∀ x ∈ before, sp x.block = true) → DataW.TrodAll enc P W' 0 sp true f.params.toList args.toList (s.fn H (ds ++ [])).args before := fun sp hsp => by
    rw [hs]; exact trodAll_stays hl hb hr hA hlt hsp
  have hvars : ∀ sp : Nat → Bool, DataW.TrodVars enc P W' sp s.vars (s.fn H (ds ++ [])).vars [] := fun sp => by rw [hs, hv]; rfl
  have hres : ∀ (b : Nat) (sp : Nat → Bool) (hd : Bool), DataW.TrodAll enc P W' b sp hd f.resultTypes.toList (Value.resultList f.resultTypes.size (.bool true)) (s.fn H (ds ++ [])).results [] := fun b sp hd => by
    rw [hrt, hs]; exact trodAll_mk1 (shut_bool htb true)
  have hok : ∀ (j : Nat) (t : TypeId) (r : Value), f.resultTypes[j]? = some t → (Value.resultList f.resultTypes.size (.bool true))[j]? = some r → Value.okWide P W' .any 0 t r := by
    exact ok_one (t := tb) hrt rfl (okWide_bool_mk htb true)
  refine ⟨ds, [], before, [], before, [], hW0, hres _ _ _, hargs _ hold, hvars _, World.keptBut_mono (fun p hp => ⟨hp, ?_⟩) (hb.frame (· ∈ before)), fun _ => ?_⟩
  · exact Or.inr (Or.inl hp)
  · refine ⟨hok, _, _, ([] ++ before) ++ [], ⟨[] ++ before, [], trodAll_append (hargs _ (fun _ _ => rfl)) (hres _ _ _), hvars _, rfl, ?_, ?_⟩, ?_⟩
    · intro b off hp
      have hin : MemPlace.cell b off ∈ before := by simpa using hp
      rw [hb.frozen (hlt _ hin)]
      exact hz b off hin
    · intro ha
      have := hn ha
      simpa using this
    · intro p hp _
      simpa using hp
end
end Go.Proofs.Ytgkahjaoajjgcaa
namespace Go.Proofs.Ytgkahjaoajjgcaa.Pm
open Go Go.Deep Go.ChangeShapes Go.WideShapes Go.ChangeAt Go.RowKit

theorem cells_from {w : World} {a : Addr} {n : Nat} {f : Nat → Value} (h : ∀ c, c < n → w.cell? (a.add c) = some (f c)) (hn : 0 < n) : ∃ b o, a = ⟨b, o, none⟩ ∧ b < w.heap.size ∧ ∀ c, c < n → w.cell? ⟨b, o + c, none⟩ = some (f c) := by
  obtain ⟨b, o, s⟩ := a
  have h0 := h 0 hn
  have hs : s = none := by
    simp only [Addr.add, if_true, World.cell?] at h0
    cases s with
    | none => rfl
    | some s =>
      exfalso
      split at h0
      · simp at h0
      · cases h0
  subst hs
  refine ⟨b, o, rfl, ?_, fun c hc => ?_⟩
  · simp only [Addr.add, if_true, World.cell?] at h0
    rcases Nat.lt_or_ge b w.heap.size with hb | hb
    · exact hb
    · rw [Array.getElem?_eq_none hb] at h0; cases h0
  · rw [← h c hc]
    unfold Addr.add
    by_cases e : c = 0
    · subst e; rfl
    · rw [if_neg e]
theorem ints_map (l : List Int) : ints l = l.map iv := by
  unfold ints
  induction l with
  | nil => rfl
  | cons a l ih => rw [List.flatMap_cons, ih]; rfl
theorem ints_ones (l : List Int) : ones (ints l) := fun p hp => by
  rw [ints_map] at hp
  obtain ⟨x, _, rfl⟩ := List.mem_map.1 hp
  rfl
theorem srep_ints {w : World} {A : Option Addr} {L C : Nat} {Z : List Int} (hl : L ≤ C) (hz : Z.length = C) (hn : A = none → C = 0) (hc : ∀ a, A = some a → ∀ c, c < C → w.cell? (a.add c) = some (.int .i64 (Z.getD c 0))) :
    SRep w (fun b => b < w.heap.size) (.ssl (ints (Z.take L)) 0 (Z.take L).length) (.slice A L C) := by
  have hL : (Z.take L).length = L := by rw [List.length_take]; omega
  rw [hL]
  rcases Nat.eq_zero_or_pos L with h | h
  · subst h; exact .emp
  · cases A with
    | none => have := hn rfl; omega
    | some a =>
      obtain ⟨b, o, rfl, hb, hcell⟩ := cells_from (hc a rfl) (by omega)
      refine SRep.ssl (a := o) (off := 0) (vf := fun j => .int .i64 (Z.getD j 0)) hb (fun j hj => ?_) (fun j hj => ?_) (ints_ones _) hl
      · rw [ints_len, hL] at hj; exact hcell j (by omega)
      · rw [ints_len, hL] at hj
        have : (ints (Z.take L)).getD j P0 = iv (Z.getD j 0) := by
          rw [ints_map]
          have h1 : j < Z.length := by omega
          simp [List.getD_eq_getElem?_getD, hj, h1]
        rw [this]
        exact .av _
theorem rows_map (T : List (List Int)) : rows T = T.map fun l => .ssl (ints l) 0 l.length := by
  induction T with
  | nil => rfl
  | cons a l ih => unfold rows at ih ⊢; rw [List.flatMap_cons, ih]; rfl
theorem srep_rows {w : World} {a : Addr} {len cap : Nat} {A : Nat → Option Addr} {L C : Nat → Nat} {Z : Nat → List Int} (hl : len ≤ cap)
    (h : ∀ r, r < cap → w.cell? (a.add r) = some (.slice (A r) (L r) (C r)) ∧ L r ≤ C r ∧ (Z r).length = C r ∧ (A r = none → C r = 0) ∧ ∀ a', A r = some a' → ∀ c, c < C r → w.cell? (a'.add c) = some (.int .i64 ((Z r).getD c 0))) :
    SRep w (fun b => b < w.heap.size) (.ssl (rows ((List.range len).map fun r => (Z r).take (L r))) 0 len) (.slice (some a) len cap) := by
  rcases Nat.eq_zero_or_pos len with h0 | h0
  · subst h0; exact .emp
  · obtain ⟨b, o, rfl, hb, hcell⟩ := cells_from (fun c hc => (h c hc).1) (by omega)
    have hlen : (rows ((List.range len).map fun r => (Z r).take (L r))).length = len := by rw [rows_map]; simp
    refine SRep.ssl (a := o) (off := 0) (vf := fun j => .slice (A j) (L j) (C j)) hb (fun j hj => ?_) (fun j hj => ?_) (fun p hp => ?_) hl
    · rw [hlen] at hj; exact hcell j (by omega)
    · rw [hlen] at hj
      have : (rows ((List.range len).map fun r => (Z r).take (L r))).getD j P0 = .ssl (ints ((Z j).take (L j))) 0 ((Z j).take (L j)).length := by
        rw [rows_map]
        simp [List.getD_eq_getElem?_getD, hj]
      rw [this]
      obtain ⟨_, h2, h3, h4, h5⟩ := h j (by omega)
      exact srep_ints h2 h3 h4 h5
    · rw [rows_map] at hp
      obtain ⟨x, _, rfl⟩ := List.mem_map.1 hp
      rfl
/-- A list of numbers that came in. -/
theorem arg_ints {H : Type} {enc : TypeId × Value → H} {P : Program} {w : World} {base : Nat} {t e : TypeId} {v : Value} {d : DataW H} {pl : List MemPlace} {r : Reach} {b0 : Nat} {held : Bool}
    (ht : P.underlying t = some (.slice e)) (he : P.underlying e = some (.int .i64)) (hc : P.cellsOf e = 1) (hv : Value.okWide P w r b0 t v) (h : DataW.Trod enc P w base (fun _ => true) held t v d pl) :
    ∃ l : List Int, SRep w (fun b => b < w.heap.size) (.ssl (ints l) 0 l.length) v ∧ (∀ n ∈ l, (Lit.int .i64 n).wf = true) ∧ (l = [] ∨ ∃ es sp, d = .slice es sp ∧ es.length = l.length) := by
  obtain ⟨a0, len0, cap0, rfl⟩ := okWide_slice ht hv
  obtain ⟨fuel, hf⟩ := h
  rcases open_ints ht he hc hf with ⟨hcs, _⟩ | ⟨a, len, cap, zs, hcs, hb, hl, hm, hz, hx, hcell, hwz⟩
  · simp only [Value.cells, List.cons.injEq, Value.slice.injEq, and_true] at hcs
    obtain ⟨rfl, rfl, rfl⟩ := hcs
    exact ⟨[], .emp, (by simp), .inl rfl⟩
  · simp only [Value.cells, List.cons.injEq, Value.slice.injEq, and_true] at hcs
    obtain ⟨rfl, rfl, rfl⟩ := hcs
    simp only [if_true] at hz
    simp only [Prod.mk.injEq] at hx
    refine ⟨zs.take len0, srep_ints hl hz (fun h => by cases h) (fun a' ha c hc => ?_), fun n hn => hwz n (List.mem_of_mem_take hn), .inr ⟨_, _, hx.1, by simp [lits]⟩⟩
    cases ha
    exact hcell c (by omega)
theorem weights_all_mem {H : Type} {P : Program} {e : TypeId} : ∀ {l : List (DataW H)} {d : DataW H}, d ∈ l → ∀ n ∈ d.weights P e, n ∈ DataW.weightsAll P e l
  | d' :: r, d, hd, n, hn => by
    simp only [DataW.weightsAll, List.mem_append]
    rcases List.mem_cons.1 hd with rfl | h
    · exact Or.inl hn
    · exact Or.inr (weights_all_mem h n hn)
/-- The reach, of a row inside a slice of slices. -/
theorem row_sized {H : Type} {P : Program} {ts : List TypeId} {ds : List (DataW H)} (h : (DataW.weightsEach P ts ds).all (· ≤ reachBytes) = true) {j : Nat} {t e q : TypeId} {elems spare e' sp' : List (DataW H)}
    (ht : ts[j]? = some t) (hd : ds[j]? = some (.slice elems spare)) (hu : P.underlying t = some (.slice e)) (hu2 : P.underlying e = some (.slice q)) (hx : DataW.slice e' sp' ∈ elems) : (e'.length + sp'.length) * P.bytesOf q ≤ reachBytes := by
  refine of_decide_eq_true (List.all_eq_true.1 h _ (DataW.weights_mem_each ht hd _ ?_))
  simp only [DataW.weights, hu, List.mem_cons, List.mem_append]
  exact Or.inr (Or.inl (weights_all_mem hx _ (by simp [DataW.weights, hu2])))
/-- The sizes of a list of numbers. -/
theorem ints_sized {H : Type} {P : Program} {ts : List TypeId} {ds : List (DataW H)} (h : (DataW.weightsEach P ts ds).all (· ≤ reachBytes) = true) {j : Nat} {t e : TypeId} {d : DataW H} {l : List Int} {k : Nat}
    (ht : ts[j]? = some t) (hd : ds[j]? = some d) (hu : P.underlying t = some (.slice e)) (hk : P.bytesOf e = k) (hx : l = [] ∨ ∃ es sp, d = .slice es sp ∧ es.length = l.length) : l.length * k ≤ 140737488351232 := by
  rcases hx with rfl | ⟨es, sp, rfl, he⟩
  · simp
  · have := sized_slice h ht hd hu
    rw [hk] at this
    rw [← he]
    exact Nat.le_trans (Nat.mul_le_mul_right k (Nat.le_add_right _ _)) this
/-- A list of lists of numbers that came in. -/
theorem arg_rows {H : Type} {enc : TypeId × Value → H} {P : Program} {w : World} {base : Nat} {t e q : TypeId} {v : Value} {d : DataW H} {pl : List MemPlace} {r : Reach} {b0 : Nat} {held : Bool}
    (ht : P.underlying t = some (.slice e)) (he : P.underlying e = some (.slice q)) (hq : P.underlying q = some (.int .i64)) (ce : P.cellsOf e = 1) (cq : P.cellsOf q = 1) (bq : P.bytesOf q = 8) (hv : Value.okWide P w r b0 t v) (h : DataW.Trod enc P w base (fun _ => true) held t v d pl)
    {ts : List TypeId} {ds : List (DataW H)} (hs : (DataW.weightsEach P ts ds).all (· ≤ reachBytes) = true) {j : Nat} (hj : ts[j]? = some t) (hd : ds[j]? = some d) :
    ∃ T : List (List Int), SRep w (fun b => b < w.heap.size) (.ssl (rows T) 0 T.length) v ∧ T.length ≤ 9223372036854775807 ∧ (∀ i, (T.getD i []).length * 8 ≤ 140737488351232) ∧ ∀ i, ∀ n ∈ T.getD i [], (Lit.int .i64 n).wf = true := by
  obtain ⟨a0, len0, cap0, rfl⟩ := okWide_slice ht hv
  obtain ⟨fuel, hf⟩ := h
  rcases open_int_rows ht he hq ce cq hf with ⟨hcs, _⟩ | ⟨a, len, cap, A, L, C, Z, hcs, _, hl, hm, hx, hrows⟩
  · simp only [Value.cells, List.cons.injEq, Value.slice.injEq, and_true] at hcs
    obtain ⟨rfl, rfl, rfl⟩ := hcs
    exact ⟨[], .emp, by simp, by simp, by simp⟩
  · simp only [Value.cells, List.cons.injEq, Value.slice.injEq, and_true] at hcs
    obtain ⟨rfl, rfl, rfl⟩ := hcs
    simp only [Prod.mk.injEq] at hx
    have hT : ((List.range len0).map fun r => (Z r).take (L r)).length = len0 := by simp
    have hg : ∀ i, i < len0 → ((List.range len0).map fun r => (Z r).take (L r)).getD i [] = (Z i).take (L i) := fun i hi => by simp [List.getD_eq_getElem?_getD, hi]
    have hg0 : ∀ i, ¬ i < len0 → ((List.range len0).map fun r => (Z r).take (L r)).getD i [] = [] := fun i hi => by rw [List.getD_eq_getElem?_getD, List.getElem?_eq_none (by simpa using hi)]; rfl
    refine ⟨(List.range len0).map fun r => (Z r).take (L r), ?_, ?_, fun i => ?_, fun i n hn => ?_⟩
    · rw [hT]
      exact srep_rows hl fun r hr => by
        obtain ⟨h1, h2, h3, h4, h5, h6, h7⟩ := hrows r hr
        exact ⟨h1, h2, h4, h6, fun a' ha => (h7 a' ha).2⟩
    · rw [hT]; unfold maxLen at hm; omega
    · by_cases hi : i < len0
      · rw [hg i hi]
        obtain ⟨h1, h2, h3, h4, h5, h6, h7⟩ := hrows i (by omega)
        cases hA : A i with
        | none => have := h6 hA; rw [List.length_take]; omega
        | some a' =>
          have hin := row_sized hs hj (by rw [hd, hx.1]) ht he (e' := lits .i64 ((Z i).take (L i))) (sp' := lits .i64 ((Z i).drop (L i))) (List.mem_map.2 ⟨i, List.mem_range.2 hi, by simp [intRow, hA]⟩)
          rw [bq] at hin
          simp only [lits, List.length_map, reachBytes] at hin
          omega
      · rw [hg0 i hi]; simp
    · by_cases hi : i < len0
      · rw [hg i hi] at hn
        exact (hrows i (by omega)).2.2.2.2.1 n (List.mem_of_mem_take hn)
      · rw [hg0 i hi] at hn; cases hn
end Go.Proofs.Ytgkahjaoajjgcaa.Pm
namespace Go.Proofs.Ytgkahjaoajjgcaa.Pm
open Go Go.Deep Go.ChangeShapes Go.WideShapes Go.ChangeAt Go.RowKit

/-- The parts of a struct, one behind the other. -/
def ShF (r : TypeId → List PV → Prop) : List Field → List PV → Prop
  | [], ps => ps = []
  | f :: fs, ps => ∃ a b, ps = a ++ b ∧ r f.type a ∧ ShF r fs b
/-- The tree's form, by the type. -/
def Sh (P : Program) : Nat → TypeId → List PV → Prop
  | 0, _, _ => False
  | n + 1, t, ps => match P.underlying t with
    | some .bool => ∃ b, ps = [.av (.bool b)]
    | some (.int k) => ∃ m, ps = [.av (.int k m)] ∧ (Lit.int k m).wf = true
    | some (.float k) => ∃ b, ps = [.av (.float k b)] ∧ (Lit.float k b).wf = true
    | some .string => ∃ s : ByteArray, ps = [.av (.string s)] ∧ s.size ≤ maxLen
    | some (.slice e) => ∃ ess : List (List PV), ps = [.ssl ess.flatten 0 ess.length] ∧ ess.length ≤ maxLen ∧ ess.length * P.bytesOf e ≤ reachBytes ∧ ∀ es ∈ ess, Sh P n e es
    | some (.struct fs) => ShF (Sh P n) fs.toList ps
    | _ => False
mutual
/-- How much a reading holds. -/
def bulkW {H : Type} : DataW H → Nat
  | .lit (.string bytes) => bytes.length + 1
  | .lit _ => 1
  | .nil => 1
  | .ptr d => bulkW d + 1
  | .slice elems spare => bulkAll elems + bulkAll spare + 1
  | .agg parts => bulkAll parts + 1
  | .iface _ d => bulkW d + 1
  | .map entries => bulkEntries entries + 1
  | .held _ => 1
def bulkAll {H : Type} : List (DataW H) → Nat
  | [] => 0
  | d :: r => bulkW d + bulkAll r
def bulkEntries {H : Type} : List (Lit × DataW H) → Nat
  | [] => 0
  | x :: r => bulkEntry x + bulkEntries r
def bulkEntry {H : Type} : Lit × DataW H → Nat
  | (.string bytes, d) => bytes.length + bulkW d + 1
  | (_, d) => bulkW d + 1
end
mutual
/-- How much a tree holds. -/
def pvw : PV → Nat
  | .av (.string s) => s.size + 1
  | .ssl cs _ _ => pvws cs + 1
  | .agg cs => pvws cs + 1
  | _ => 1
def pvws : List PV → Nat
  | [] => 0
  | p :: l => pvw p + pvws l
end
theorem pvws_app : ∀ a b : List PV, pvws (a ++ b) = pvws a + pvws b
  | [], b => by simp [pvws]
  | p :: a, b => by rw [List.cons_append, pvws, pvws, pvws_app a b]; omega
theorem pvws_flatten : ∀ l : List (List PV), pvws l.flatten = (l.map pvws).sum
  | [] => rfl
  | a :: l => by rw [List.flatten_cons, pvws_app, pvws_flatten l, List.map_cons, List.sum_cons]
theorem sum_le {H : Type} : ∀ (n : Nat) (f : Nat → Nat) (ds : List (DataW H)), ds.length = n → (∀ i (h : i < ds.length), f i ≤ bulkW ds[i]) → ((List.range n).map f).sum ≤ bulkAll ds
  | 0, f, ds, hl, h => by simp
  | n + 1, f, [], hl, h => by simp at hl
  | n + 1, f, d :: ds, hl, h => by
    rw [List.range_succ_eq_map, List.map_cons, List.sum_cons, List.map_map, bulkAll]
    have h0 := h 0 (by simp)
    have h1 := sum_le n (f ∘ Nat.succ) ds (by simpa using hl) fun i hi => by have := h (i + 1) (by simpa using hi); simpa using this
    simp only [List.getElem_cons_zero] at h0
    omega
def contig (P : Program) : List Field → Nat → Option Nat
  | [], o => some o
  | f :: fs, o => if f.offset = o then contig P fs (o + P.cellsOf f.type) else none
/-- These types can be opened, with all that is in them. -/
def openB (P : Program) (Ts : List TypeId) : Bool := Ts.all fun t => match P.underlying t with
  | some .bool | some (.int _) | some (.float _) | some .string => Nat.beq (P.cellsOf t) 1
  | some (.slice e) => Nat.beq (P.cellsOf t) 1 && Nat.ble 1 (P.cellsOf e) && Ts.contains e
  | some (.struct fs) => contig P fs.toList 0 == some (P.cellsOf t) && fs.toList.all fun f => Ts.contains f.type
  | _ => false
theorem List.getD_app {α : Type} {l m : List α} {i : Nat} {d : α} (h : i < l.length) : (l ++ m).getD i d = l.getD i d := by
  rw [List.getD_eq_getElem?_getD, List.getD_eq_getElem?_getD, List.getElem?_append_left h]
theorem List.getD_app_r {α : Type} {l m : List α} {i : Nat} {d : α} (h : l.length ≤ i) : (l ++ m).getD i d = m.getD (i - l.length) d := by
  rw [List.getD_eq_getElem?_getD, List.getD_eq_getElem?_getD, List.getElem?_append_right h]
theorem flatten_get {k : Nat} : ∀ {ess : List (List PV)}, (∀ es ∈ ess, es.length = k) → ess.flatten.length = ess.length * k ∧ ∀ i j, j < k → i < ess.length → ess.flatten.getD (i * k + j) P0 = (ess.getD i []).getD j P0
  | [], _ => ⟨by simp, fun i j _ h => absurd h (Nat.not_lt_zero _)⟩
  | es :: ess, h => by
    have h0 := h es (by simp)
    obtain ⟨h1, h2⟩ := flatten_get (ess := ess) fun x hx => h x (by simp [hx])
    refine ⟨by rw [List.flatten_cons, List.length_append, h0, h1, List.length_cons, Nat.succ_mul]; omega, fun i j hj hi => ?_⟩
    rw [List.flatten_cons]
    cases i with
    | zero => rw [Nat.zero_mul, Nat.zero_add, List.getD_app (by omega)]; rfl
    | succ i =>
      rw [List.getD_app_r (by rw [h0, Nat.succ_mul]; omega), h0, show (i + 1) * k + j - k = i * k + j from by rw [Nat.succ_mul]; omega, h2 i j hj (by simpa using hi)]
      rfl
section
variable {H : Type} {enc : TypeId × Value → H} {P : Program} {w : World} {base : Nat} {held : Bool}
abbrev Opened (w : World) (ps : List PV) (cs : List Value) : Prop := ones ps ∧ ps.length = cs.length ∧ ∀ i, i < ps.length → SRep w (fun b => b < w.heap.size) (ps.getD i P0) (cs.getD i undef)
theorem opened_one {p : PV} {v : Value} (h : p.one = true) (hr : SRep w (fun b => b < w.heap.size) p v) : Opened w [p] [v] :=
  ⟨fun q hq => by simp only [List.mem_singleton] at hq; rw [hq]; exact h, rfl, fun i hi => by
    have : i = 0 := by simp at hi; omega
    subst this; exact hr⟩
theorem open_fs {Ts : List TypeId} {n : Nat} (ih : ∀ (t : TypeId) (cs : List Value) (x : DataW H × List MemPlace), t ∈ Ts → DataW.trod enc P w base (fun _ => true) held n t cs = some x → (x.1.weights P t).all (· ≤ reachBytes) = true →
    ∃ ps, Sh P n t ps ∧ Opened w ps cs ∧ cs.length = P.cellsOf t ∧ pvws ps ≤ bulkW x.1) (cs : List Value) :
    ∀ (fs : List Field) (xs : List (DataW H × List MemPlace)) (o e : Nat), contig P fs o = some e → e ≤ cs.length → (∀ f ∈ fs, f.type ∈ Ts) → xs.length = fs.length →
      (∀ (i : Nat) (f : Field), fs[i]? = some f → DataW.trod enc P w base (fun _ => true) held n f.type ((cs.drop f.offset).take (P.cellsOf f.type)) = xs[i]?) →
      (DataW.weightsEach P (fs.map (·.type)) (xs.map (·.1))).all (· ≤ reachBytes) = true → ∃ ps, ShF (Sh P n) fs ps ∧ Opened w ps ((cs.drop o).take (e - o)) ∧ o ≤ e ∧ pvws ps ≤ bulkAll (xs.map (·.1))
  | [], xs, o, e, hc, he, _, _, _, _ => by
    simp only [contig, Option.some.injEq] at hc
    subst hc
    exact ⟨[], rfl, ⟨fun p hp => (by cases hp), by simp, fun i hi => by simp at hi⟩, Nat.le_refl _, Nat.zero_le _⟩
  | f :: fs, [], o, e, hc, he, hT, hx, hf, hw => by simp at hx
  | f :: fs, x :: xs, o, e, hc, he, hT, hx, hf, hw => by
    simp only [contig] at hc
    split at hc
    case isFalse => cases hc
    rename_i ho
    simp only [List.map_cons, DataW.weightsEach, List.all_append, Bool.and_eq_true] at hw
    obtain ⟨b, hb1, hb2, hb3, hb4⟩ := open_fs ih cs fs xs _ e hc he (fun g hg => hT g (by simp [hg])) (by simpa using hx) (fun i g hg => by have := hf (i + 1) g (by simpa using hg); simpa using this) hw.2
    obtain ⟨a, ha1, ha2, ha3, ha4⟩ := ih f.type _ x (hT f (by simp)) (by have := hf 0 f (by simp); simpa using this) hw.1
    rw [ho] at ha2 ha3
    have hla : (List.take (P.cellsOf f.type) (List.drop o cs)).length = P.cellsOf f.type := ha3
    have e1 : (cs.drop o).take (e - o) = (cs.drop o).take (P.cellsOf f.type) ++ (cs.drop (o + P.cellsOf f.type)).take (e - (o + P.cellsOf f.type)) := by
      rw [← List.drop_drop, show e - o = P.cellsOf f.type + (e - (o + P.cellsOf f.type)) from by omega, List.take_add]
    refine ⟨a ++ b, ⟨a, b, rfl, ha1, hb1⟩, ?_, by omega, by rw [pvws_app, List.map_cons, bulkAll]; omega⟩
    rw [e1]
    refine ⟨fun p hp => ?_, by rw [List.length_append, List.length_append, ha2.2.1, hb2.2.1], fun i hi => ?_⟩
    · rcases List.mem_append.1 hp with h | h
      · exact ha2.1 p h
      · exact hb2.1 p h
    · have hl := ha2.2.1
      rw [List.length_append] at hi
      by_cases h : i < a.length
      · rw [List.getD_app h, List.getD_app (by omega)]
        exact ha2.2.2 i h
      · rw [List.getD_app_r (by omega), List.getD_app_r (by omega), ← hl]
        exact hb2.2.2 _ (by omega)
theorem open_any {Ts : List TypeId} (hT : openB P Ts = true) : ∀ (n : Nat) (t : TypeId) (cs : List Value) (x : DataW H × List MemPlace), t ∈ Ts → DataW.trod enc P w base (fun _ => true) held n t cs = some x → (x.1.weights P t).all (· ≤ reachBytes) = true →
    ∃ ps, Sh P n t ps ∧ Opened w ps cs ∧ cs.length = P.cellsOf t ∧ pvws ps ≤ bulkW x.1
  | 0, _, _, _, _, h, _ => by simp [DataW.trod] at h
  | n + 1, t, cs, x, ht, h, hw => by
    have hB := List.all_eq_true.1 hT t ht
    split at hB
    · rename_i hu
      obtain ⟨b, rfl, rfl⟩ := DataW.trod_bool hu h
      exact ⟨[.av (.bool b)], by simp only [Sh, hu]; exact ⟨b, rfl⟩, opened_one rfl (.av _), (Nat.eq_of_beq_eq_true hB).symm, by simp [pvws, pvw, bulkW]⟩
    · rename_i k hu
      obtain ⟨b, rfl, rfl, hwf⟩ := DataW.trod_int hu h
      exact ⟨[.av (.int k b)], by simp only [Sh, hu]; exact ⟨b, rfl, hwf⟩, opened_one rfl (.av _), (Nat.eq_of_beq_eq_true hB).symm, by simp [pvws, pvw, bulkW]⟩
    · rename_i k hu
      have : ∃ b, cs = [.float k b] ∧ (Lit.float k b).wf = true ∧ x = (.lit (.float k b), []) := by
        unfold DataW.trod at h
        rw [hu] at h
        split at h <;> simp_all
      obtain ⟨b, rfl, hwf, rfl⟩ := this
      exact ⟨[.av (.float k b)], by simp only [Sh, hu]; exact ⟨b, rfl, hwf⟩, opened_one rfl (.av _), (Nat.eq_of_beq_eq_true hB).symm, by simp [pvws, pvw, bulkW]⟩
    · rename_i hu
      obtain ⟨s, rfl, rfl, hs⟩ := DataW.trod_string hu h
      exact ⟨[.av (.string s)], by simp only [Sh, hu]; exact ⟨s, rfl, hs⟩, opened_one rfl (.av _), (Nat.eq_of_beq_eq_true hB).symm, by simp [pvws, pvw, bulkW]⟩
    · rename_i e hu
      simp only [Bool.and_eq_true] at hB
      obtain ⟨⟨hB1, hB2⟩, hB3⟩ := hB
      have hB1 := Nat.eq_of_beq_eq_true hB1
      have hk := Nat.le_of_ble_eq_true hB2
      have he : e ∈ Ts := by simpa using hB3
      rcases DataW.trod_slice hu h with ⟨rfl, rfl⟩ | ⟨a, len, cap, elems, rest, m, hm, rfl, rfl, hb, hl, hcap, hel, hE, _, _⟩
      · refine ⟨[.ssl [] 0 0], ?_, opened_one rfl .emp, hB1.symm, by simp [pvws, pvw, bulkW]⟩
        simp only [Sh, hu]
        exact ⟨[], rfl, Nat.zero_le _, by simp, by simp⟩
      · obtain rfl : m = n := by omega
        simp only [DataW.weights, hu, List.length_map, List.all_cons, List.all_append, Bool.and_eq_true, decide_eq_true_eq] at hw
        have hwl : ∀ i (hi : i < elems.length), ((elems[i].1).weights P e).all (· ≤ reachBytes) = true := by
          intro i hi
          refine List.all_eq_true.2 fun z hz => ?_
          exact List.all_eq_true.1 hw.2.1 z (weights_all_mem (List.mem_map.2 ⟨elems[i], List.getElem_mem hi, rfl⟩) z hz)
        have each : ∀ i, i < len → ∃ q : List PV × List Value, Sh P m e q.1 ∧ Opened w q.1 q.2 ∧ q.2.length = P.cellsOf e ∧ (∀ j, j < P.cellsOf e → w.cell? (a.add (i * P.cellsOf e + j)) = some (q.2.getD j undef)) ∧ ∀ h : i < elems.length, pvws q.1 ≤ bulkW (elems[i]).1 := by
          intro i hi
          have h1 := hE i hi
          rw [List.getElem?_eq_getElem (by omega), Option.bind_eq_some_iff] at h1
          obtain ⟨cs', h2, h3⟩ := h1
          obtain ⟨ps, h4, h5, h6, h7⟩ := open_any hT m e cs' _ he h3 (hwl i (by omega))
          refine ⟨(ps, cs'), h4, h5, h6, fun j hj => ?_, fun _ => h7⟩
          rw [← Addr.add_add, (World.cells?_some h2).2.2 j hj]
          have : j < cs'.length := by omega
          simp [List.getD_eq_getElem?_getD, this]
        let Q : Nat → List PV × List Value := fun i => if hi : i < len then (each i hi).choose else ([], [])
        have hQ : ∀ i, i < len → Sh P m e (Q i).1 ∧ Opened w (Q i).1 (Q i).2 ∧ (Q i).2.length = P.cellsOf e ∧ (∀ j, j < P.cellsOf e → w.cell? (a.add (i * P.cellsOf e + j)) = some ((Q i).2.getD j undef)) ∧ ∀ h : i < elems.length, pvws (Q i).1 ≤ bulkW (elems[i]).1 := by
          intro i hi
          have e1 : Q i = (each i hi).choose := dif_pos hi
          rw [e1]
          exact (each i hi).choose_spec
        have hlen : ((List.range len).map fun i => (Q i).1).length = len := by simp
        refine ⟨[.ssl ((List.range len).map fun i => (Q i).1).flatten 0 ((List.range len).map fun i => (Q i).1).length], ?_, opened_one rfl ?_, hB1.symm, ?_⟩
        · simp only [Sh, hu]
          refine ⟨_, rfl, by rw [hlen]; omega, by rw [hlen]; exact Nat.le_trans (Nat.mul_le_mul_right _ (by omega)) hw.1, fun es hes => ?_⟩
          obtain ⟨i, hi, rfl⟩ := List.mem_map.1 hes
          exact (hQ i (List.mem_range.1 hi)).1
        · rw [hlen]
          rcases Nat.eq_zero_or_pos len with h0 | h0
          · subst h0; exact .emp
          · have hes : ∀ es ∈ (List.range len).map fun i => (Q i).1, es.length = P.cellsOf e := fun es hes => by
              obtain ⟨i, hi, rfl⟩ := List.mem_map.1 hes
              obtain ⟨_, h2, h3, _⟩ := hQ i (List.mem_range.1 hi)
              exact h2.2.1.trans h3
            obtain ⟨hf1, hf2⟩ := flatten_get hes
            rw [hlen] at hf1 hf2
            have hg : ∀ i, i < len → ((List.range len).map fun i => (Q i).1).getD i [] = (Q i).1 := fun i hi => by simp [List.getD_eq_getElem?_getD, hi]
            obtain ⟨b, o, rfl, hbs, hcell⟩ := cells_from (w := w) (a := a) (n := len * P.cellsOf e) (f := fun c => (Q (c / P.cellsOf e)).2.getD (c % P.cellsOf e) undef) (fun c hc => by
              have hd : c / P.cellsOf e < len := Nat.div_lt_of_lt_mul (by rw [Nat.mul_comm]; exact hc)
              have := (hQ _ hd).2.2.2.1 (c % P.cellsOf e) (Nat.mod_lt _ hk)
              rw [Nat.mul_comm, Nat.div_add_mod] at this
              exact this) (Nat.mul_pos h0 hk)
            refine SRep.ssl (a := o) (off := 0) (vf := fun c => (Q (c / P.cellsOf e)).2.getD (c % P.cellsOf e) undef) hbs (fun j hj => hcell j (by omega)) (fun j hj => ?_) (fun p hp => ?_) hl
            · rw [hf1] at hj
              have hd : j / P.cellsOf e < len := Nat.div_lt_of_lt_mul (by rw [Nat.mul_comm]; exact hj)
              have hm := Nat.mod_lt j hk
              have e1 := hf2 (j / P.cellsOf e) (j % P.cellsOf e) hm hd
              rw [Nat.mul_comm, Nat.div_add_mod, hg _ hd] at e1
              rw [e1]
              obtain ⟨_, h2, h3, _⟩ := hQ _ hd
              exact h2.2.2 _ (by rw [h2.2.1, h3]; exact hm)
            · obtain ⟨es, hes', hp'⟩ := List.mem_flatten.1 hp
              obtain ⟨i, hi, rfl⟩ := List.mem_map.1 hes'
              exact (hQ i (List.mem_range.1 hi)).2.1.1 p hp'
        · simp only [pvws, pvw, bulkW, pvws_flatten, List.map_map]
          have := sum_le len (pvws ∘ fun i => (Q i).1) (elems.map (·.1)) (by simpa using hel) fun i hi => by
            have hi' : i < elems.length := by simpa using hi
            have := (hQ i (by omega)).2.2.2.2 hi'
            simpa using this
          omega
    · rename_i fs hu
      simp only [Bool.and_eq_true, beq_iff_eq, List.all_eq_true] at hB
      obtain ⟨xs, m, hm, rfl, hl, hxl, hf⟩ := DataW.trod_struct hu h
      obtain rfl : m = n := by omega
      simp only [DataW.weights, hu] at hw
      obtain ⟨ps, h1, h2, _, h4⟩ := open_fs (open_any hT m) cs fs.toList xs 0 _ hB.1 (by omega) (fun f hf => by simpa using hB.2 f hf) (by simpa using hxl) (fun i f hif => hf i f (by simpa using hif)) hw
      rw [List.drop_zero, Nat.sub_zero, ← hl, List.take_length] at h2
      exact ⟨ps, by simp only [Sh, hu]; exact h1, h2, hl, by simp only [bulkW]; omega⟩
    · cases hB
end
theorem weights_at {H : Type} {P : Program} {ts : List TypeId} {ds : List (DataW H)} (h : (DataW.weightsEach P ts ds).all (· ≤ reachBytes) = true) {j : Nat} {t : TypeId} {d : DataW H} (ht : ts[j]? = some t) (hd : ds[j]? = some d) : (d.weights P t).all (· ≤ reachBytes) = true :=
  List.all_eq_true.2 fun n hn => List.all_eq_true.1 h n (DataW.weights_mem_each ht hd n hn)
/-- An argument, whatever its type. -/
theorem arg_any {H : Type} {enc : TypeId × Value → H} {P : Program} {w : World} {base : Nat} {t : TypeId} {v : Value} {d : DataW H} {pl : List MemPlace} {r : Reach} {b0 : Nat} {held : Bool} {Ts : List TypeId}
    (hT : openB P Ts = true) (ht : t ∈ Ts) (hv : Value.okWide P w r b0 t v) (h : DataW.Trod enc P w base (fun _ => true) held t v d pl)
    {ts : List TypeId} {ds : List (DataW H)} (hs : (DataW.weightsEach P ts ds).all (· ≤ reachBytes) = true) {j : Nat} (hj : ts[j]? = some t) (hd : ds[j]? = some d) :
    ∃ n ps, Sh P n t ps ∧ pvws ps ≤ bulkW d ∧ match isAggD (P.underlying t) with
      | some true => SRep w (fun b => b < w.heap.size) (.agg ps) v
      | _ => ∃ p, ps = [p] ∧ SRep w (fun b => b < w.heap.size) p v := by
  obtain ⟨n, hf⟩ := h
  obtain ⟨ps, h1, ⟨h2, h3, h4⟩, h5, h6⟩ := open_any hT n t _ _ ht hf (weights_at hs hj hd)
  refine ⟨n, ps, h1, h6, ?_⟩
  have hB := List.all_eq_true.1 hT t ht
  have one : v.cells = #[v] → ∃ p, ps = [p] ∧ SRep w (fun b => b < w.heap.size) p v := fun hc => by
    rw [hc] at h3 h4
    simp only [List.length_cons, List.length_nil] at h3
    obtain ⟨p, rfl⟩ := List.length_eq_one_iff.1 h3
    exact ⟨p, rfl, h4 0 (by simp)⟩
  split at hB
  · rename_i hu
    obtain ⟨b, rfl⟩ := okWide_bool hu hv
    simp only [hu, isAggD]
    exact one rfl
  · rename_i k hu
    obtain ⟨b, rfl⟩ := okWide_int hu hv
    simp only [hu, isAggD]
    exact one rfl
  · rename_i k hu
    have : ∃ b, v = .float k b := by
      simp only [Value.okWide, hu, Cell.okWide] at hv
      cases v <;> simp_all [Cell.ok]
    obtain ⟨b, rfl⟩ := this
    simp only [hu, isAggD]
    exact one rfl
  · rename_i hu
    obtain ⟨b, rfl⟩ := okWide_string hu hv
    simp only [hu, isAggD]
    exact one rfl
  · rename_i e hu
    obtain ⟨a, l, c, rfl⟩ := okWide_slice hu hv
    simp only [hu, isAggD]
    exact one rfl
  · rename_i fs hu
    obtain ⟨cs, rfl, hsz⟩ := okWide_struct hu hv
    simp only [hu, isAggD]
    simp only [Value.cells] at h3 h4
    refine .agg (by simpa using h3.symm) fun i hi => ?_
    have := h4 i hi
    rwa [show cs.toList.getD i undef = cs.getD i undef from by rw [List.getD_eq_getElem?_getD, Array.getElem?_toList, Array.getD_eq_getD_getElem?]] at this
  · cases hB
end Go.Proofs.Ytgkahjaoajjgcaa.Pm
namespace Go.Proofs.Ytgkahjaoajjgcaa.Pm
open Go Go.Deep Go.ChangeShapes Go.WideShapes Go.ChangeAt Go.RowKit

mutual
theorem bulk_eq {H : Type} : ∀ d : DataW H, Rows.uptoBulk d = bulkW d
  | .lit (.string b) => by simp [Rows.uptoBulk, bulkW]
  | .lit (.bool _) => by simp [Rows.uptoBulk, bulkW]
  | .lit (.int _ _) => by simp [Rows.uptoBulk, bulkW]
  | .lit (.float _ _) => by simp [Rows.uptoBulk, bulkW]
  | .lit .nil => by simp [Rows.uptoBulk, bulkW]
  | .nil => by simp [Rows.uptoBulk, bulkW]
  | .ptr d => by simp [Rows.uptoBulk, bulkW, bulk_eq d]
  | .slice e s => by simp [Rows.uptoBulk, bulkW, bulk_all e, bulk_all s]
  | .agg ps => by simp [Rows.uptoBulk, bulkW, bulk_all ps]
  | .iface _ d => by simp [Rows.uptoBulk, bulkW, bulk_eq d]
  | .map es => by simp [Rows.uptoBulk, bulkW, bulk_entries es]
  | .held _ => by simp [Rows.uptoBulk, bulkW]
theorem bulk_all {H : Type} : ∀ l : List (DataW H), Rows.uptoBulkAll l = bulkAll l
  | [] => by simp [Rows.uptoBulkAll, bulkAll]
  | d :: l => by simp [Rows.uptoBulkAll, bulkAll, bulk_eq d, bulk_all l]
theorem bulk_entries {H : Type} : ∀ l : List (Lit × DataW H), Rows.uptoBulkEntries l = bulkEntries l
  | [] => by simp [Rows.uptoBulkEntries, bulkEntries]
  | x :: l => by simp [Rows.uptoBulkEntries, bulkEntries, bulk_entry x, bulk_entries l]
theorem bulk_entry {H : Type} : ∀ x : Lit × DataW H, Rows.uptoBulkEntry x = bulkEntry x
  | (.string b, d) => by simp [Rows.uptoBulkEntry, bulkEntry, bulk_eq d]
  | (.bool _, d) => by simp [Rows.uptoBulkEntry, bulkEntry, bulk_eq d]
  | (.int _ _, d) => by simp [Rows.uptoBulkEntry, bulkEntry, bulk_eq d]
  | (.float _ _, d) => by simp [Rows.uptoBulkEntry, bulkEntry, bulk_eq d]
  | (.nil, d) => by simp [Rows.uptoBulkEntry, bulkEntry, bulk_eq d]
end
theorem small_bulk {H : Type} {l : List (DataW H)} (hk : Rows.uptoSmall H l = true) : bulkAll l ≤ 1048576 := by
  have h : Rows.uptoBulkAll l ≤ 1048576 := of_decide_eq_true hk
  rwa [bulk_all] at h
theorem bulk_mem {H : Type} {d : DataW H} : ∀ {l : List (DataW H)}, d ∈ l → bulkW d ≤ bulkAll l
  | x :: l, h => by
    rw [bulkAll]
    rcases List.mem_cons.1 h with rfl | h
    · omega
    · have := bulk_mem h; omega
theorem list_of {α : Type} {g : α → List PV} {q : α → Prop} : ∀ {ess : List (List PV)}, (∀ es ∈ ess, ∃ x, es = g x ∧ q x) → ∃ l : List α, ess = l.map g ∧ ∀ x ∈ l, q x
  | [], _ => ⟨[], rfl, by simp⟩
  | es :: ess, h => by
    obtain ⟨x, rfl, hx⟩ := h es (by simp)
    obtain ⟨l, rfl, hl⟩ := list_of (ess := ess) fun e he => h e (by simp [he])
    exact ⟨x :: l, rfl, fun y hy => by
      rcases List.mem_cons.1 hy with rfl | hy
      · exact hx
      · exact hl y hy⟩
theorem flat_of {α : Type} (g : α → List PV) (l : List α) : (l.map g).flatten = l.flatMap g := List.flatMap_def.symm
theorem getD_of {α : Type} {q : α → Prop} {l : List α} (h : ∀ x ∈ l, q x) (d : α) (hd : q d) (i : Nat) : q (l.getD i d) := by
  rcases Nat.lt_or_ge i l.length with h1 | h1
  · rw [List.getD_eq_getElem?_getD, List.getElem?_eq_getElem h1]
    exact h _ (List.getElem_mem h1)
  · rw [List.getD_eq_getElem?_getD, List.getElem?_eq_none h1]
    exact hd
/-- A number of a kind. -/
theorem sh_num {P : Program} {t : TypeId} {k : IntKind} (ht : P.underlying t = some (.int k)) {n : Nat} {ps : List PV} (h : Sh P n t ps) : ∃ m, ps = [.av (.int k m)] ∧ (Lit.int k m).wf = true := by
  cases n with
  | zero => exact h.elim
  | succ n => simpa only [Sh, ht] using h
theorem sh_bool {P : Program} {t : TypeId} (ht : P.underlying t = some .bool) {n : Nat} {ps : List PV} (h : Sh P n t ps) : ∃ b, ps = [bv b] := by
  cases n with
  | zero => exact h.elim
  | succ n => simpa only [Sh, ht] using h
theorem sh_str {P : Program} {t : TypeId} (ht : P.underlying t = some .string) {n : Nat} {ps : List PV} (h : Sh P n t ps) : ∃ s : ByteArray, ps = [.av (.string s)] ∧ s.size ≤ maxLen := by
  cases n with
  | zero => exact h.elim
  | succ n => simpa only [Sh, ht] using h
theorem sh_float {P : Program} {t : TypeId} {k : FloatKind} (ht : P.underlying t = some (.float k)) {n : Nat} {ps : List PV} (h : Sh P n t ps) : ∃ b, ps = [.av (.float k b)] ∧ (Lit.float k b).wf = true := by
  cases n with
  | zero => exact h.elim
  | succ n => simpa only [Sh, ht] using h
/-- A slice of elements that are told. -/
theorem sh_list {P : Program} {t e : TypeId} (ht : P.underlying t = some (.slice e)) {α : Type} {g : α → List PV} {q : α → Prop} {n : Nat} {ps : List PV} (h : Sh P n t ps) (hg : ∀ m es, m < n → Sh P m e es → ∃ x, es = g x ∧ q x) :
    ∃ l : List α, ps = [.ssl (l.flatMap g) 0 l.length] ∧ (∀ x ∈ l, q x) ∧ l.length ≤ maxLen ∧ l.length * P.bytesOf e ≤ reachBytes := by
  cases n with
  | zero => exact h.elim
  | succ n =>
    simp only [Sh, ht] at h
    obtain ⟨ess, rfl, h1, h2, h3⟩ := h
    obtain ⟨l, rfl, hl⟩ := list_of fun es hes => hg n es (Nat.lt_succ_self _) (h3 es hes)
    rw [List.length_map] at h1 h2
    refine ⟨l, by rw [flat_of, List.length_map], hl, h1, h2⟩
theorem sh_ints {P : Program} {t e : TypeId} (ht : P.underlying t = some (.slice e)) (he : P.underlying e = some (.int .i64)) {n : Nat} {ps : List PV} (h : Sh P n t ps) :
    ∃ l : List Int, ps = [.ssl (ints l) 0 l.length] ∧ (∀ m ∈ l, (Lit.int .i64 m).wf = true) ∧ l.length ≤ maxLen ∧ l.length * P.bytesOf e ≤ reachBytes := by
  obtain ⟨l, h1, h2, h3, h4⟩ := sh_list (g := fun m => [iv m]) (q := fun m => (Lit.int .i64 m).wf = true) ht h fun m es _ hs => by
    obtain ⟨x, h1, h2⟩ := sh_num he hs
    exact ⟨x, h1, h2⟩
  exact ⟨l, h1, h2, h3, h4⟩
theorem sh_rows {P : Program} {t e k : TypeId} (ht : P.underlying t = some (.slice e)) (he : P.underlying e = some (.slice k)) (hk : P.underlying k = some (.int .i64)) {n : Nat} {ps : List PV} (h : Sh P n t ps) :
    ∃ T : List (List Int), ps = [.ssl (rows T) 0 T.length] ∧ (∀ l ∈ T, (∀ m ∈ l, (Lit.int .i64 m).wf = true) ∧ l.length * P.bytesOf k ≤ reachBytes) ∧ T.length ≤ maxLen := by
  obtain ⟨l, h1, h2, h3, _⟩ := sh_list (g := fun l : List Int => [.ssl (ints l) 0 l.length]) (q := fun l => (∀ m ∈ l, (Lit.int .i64 m).wf = true) ∧ l.length * P.bytesOf k ≤ reachBytes) ht h fun m es _ hs => by
    obtain ⟨x, h1, h2, _, h3⟩ := sh_ints he hk hs
    exact ⟨x, h1, h2, h3⟩
  exact ⟨l, h1, h2, h3⟩
theorem pvws_ints (l : List Int) : pvws (ints l) = l.length := by
  induction l with
  | nil => rfl
  | cons a l ih =>
    rw [ints_map] at ih ⊢
    rw [List.map_cons, pvws, ih, List.length_cons, pvw]
    · omega
    all_goals intros; simp_all
theorem pvws_rows : ∀ T : List (List Int), pvws (rows T) = (T.map List.length).sum + T.length
  | [] => rfl
  | l :: T => by
    have ih := pvws_rows T
    rw [rows_map] at ih ⊢
    rw [List.map_cons, pvws, ih, pvw, pvws_ints, List.map_cons, List.sum_cons, List.length_cons]
    omega
end Go.Proofs.Ytgkahjaoajjgcaa.Pm
namespace Go.Proofs.Ytgkahjaoajjgcaa.Pm
open Go

theorem rows_snoc (A : List (List Int)) (L : List Int) : rows A ++ [.ssl (ints L) 0 L.length] = rows (A ++ [L]) := by
  rw [rows_map, rows_map, List.map_append]; rfl
theorem cut_drop {P : Program} {L : List Int} {n : Nat} (h : n ≤ L.length) (c : Cx) (v : Value) (hr : Rep P c (.ssl (ints L) n (L.length - n)) v) : Rep P c (.ssl (ints (L.drop n)) 0 (L.drop n).length) v := by
  rw [List.length_drop]
  refine ssl_cut (m := L.length - n) (by rw [ints_len]; omega) ?_ c v hr
  rw [ints_map, ints_map, ← List.map_drop, List.take_of_length_le (by simp)]
theorem cut_take {P : Program} {L : List Int} {n : Nat} (h : n ≤ L.length) (c : Cx) (v : Value) (hr : Rep P c (.ssl (ints L) 0 n) v) : Rep P c (.ssl (ints (L.take n)) 0 (L.take n).length) v := by
  rw [show (L.take n).length = n from by rw [List.length_take]; omega]
  refine ssl_cut (m := n) (by rw [ints_len]; omega) ?_ c v hr
  rw [ints_map, ints_map, List.drop_zero, List.map_take]
theorem tot_flat : ∀ T : List (List Int), tot T = T.flatten.length
  | [] => rfl
  | p :: T => by
    have := tot_flat T
    simp only [tot, List.map_cons, List.sum_cons, List.flatten_cons, List.length_append] at this ⊢
    omega
theorem runD_app : ∀ (s : DS) (l m : List Int), runD s (l ++ m) = ((runD (runD s l).1 m).1, (runD s l).2 ++ (runD (runD s l).1 m).2)
  | s, [], m => by simp [runD]
  | s, x :: l, m => by rw [List.cons_append, runD, runD, runD_app (oneS s x) l m]; rfl
theorem inB_app (l m : List Int) : inB (l ++ m) = (inB l && inB m) := List.all_append
theorem inB_flat : ∀ {T : List (List Int)}, (∀ j, j < T.length → inB (T.getD j []) = true) → inB T.flatten = true
  | [], _ => rfl
  | p :: T, h => by
    rw [List.flatten_cons, inB_app, show inB p = true from h 0 (by simp), inB_flat (T := T) fun j hj => by have := h (j + 1) (by simpa using hj); simpa using this]
    rfl
theorem inB_part {T : List (List Int)} {i : Nat} (h : inB (T.getD i []) = false) : inB T.flatten = false := by
  cases hb : inB T.flatten with
  | false => rfl
  | true =>
    exfalso
    rcases Nat.lt_or_ge i T.length with hi | hi
    · have hm : T.getD i [] ∈ T := by rw [List.getD_eq_getElem?_getD, List.getElem?_eq_getElem hi]; exact List.getElem_mem hi
      have : inB (T.getD i []) = true := List.all_eq_true.2 fun x hx => List.all_eq_true.1 hb x (List.mem_flatten.2 ⟨_, hm, hx⟩)
      rw [h] at this; cases this
    · rw [List.getD_eq_getElem?_getD, List.getElem?_eq_none hi] at h
      cases h
theorem take_flat {T : List (List Int)} {i : Nat} (h : i < T.length) : (T.take (i + 1)).flatten = (T.take i).flatten ++ T.getD i [] := by
  rw [List.take_add_one, List.flatten_append, List.getD_eq_getElem?_getD, List.getElem?_eq_getElem h]
  simp
theorem tell_in {s : DS} {p : List Int} (h : inB p = true) : tellD s p = ((runD s p).2, 0, (runD s p).1.2.2.1, (runD s p).1.2.2.2) ∧ nextD s p = (runD s p).1 := by
  unfold tellD outD errD nextD
  rw [h]
  exact ⟨rfl, rfl⟩
theorem errD_zero {p : List Int} : errD p = 0 ↔ inB p = true := by
  unfold errD
  cases inB p <;> simp
theorem runD_take {s : DS} {l : List Int} {i : Nat} (h : i < l.length) : (runD s (l.take (i + 1))).1 = oneS (runD s (l.take i)).1 (l.getD i 0) := by
  rw [List.take_add_one, runD_app, List.getD_eq_getElem?_getD, List.getElem?_eq_getElem h]
  rfl
theorem runD_get {s : DS} {l : List Int} {i : Nat} (h : i < l.length) : (runD s l).2.getD i 0 = smpS (runD s (l.take i)).1 (l.getD i 0) := by
  have e : l = l.take i ++ l.drop i := (List.take_append_drop i l).symm
  have h1 : runD s l = ((runD (runD s (l.take i)).1 (l.drop i)).1, (runD s (l.take i)).2 ++ (runD (runD s (l.take i)).1 (l.drop i)).2) := by
    rw [← runD_app, ← e]
  rw [h1, dropI h, runD]
  have hl : (runD s (l.take i)).2.length = i := by rw [runD_len, List.length_take]; omega
  rw [List.getD_eq_getElem?_getD, List.getElem?_append_right (by omega), hl, Nat.sub_self]
  rfl
theorem clip_up : ∀ (s : DS) (l : List Int), s.2.2.2 ≤ (runD s l).1.2.2.2
  | s, [] => Int.le_refl _
  | s, x :: l => by
    have h := clip_up (oneS s x) l
    rw [runD]
    have h1 : s.2.2.2 ≤ (oneS s x).2.2.2 := by
      simp only [oneS]
      split <;> omega
    exact Int.le_trans h1 h
/-- Where nothing was too great. -/
theorem no_clip {s : DS} {l : List Int} (h : (runD s l).1.2.2.2 ≤ s.2.2.2) {i : Nat} (hi : i < l.length) : tooB (rawS (runD s (l.take i)).1 (l.getD i 0)) = false := by
  have e : l = l.take (i + 1) ++ l.drop (i + 1) := (List.take_append_drop (i + 1) l).symm
  have h1 := clip_up (runD s (l.take (i + 1))).1 (l.drop (i + 1))
  have h2 : (runD s l).1 = (runD (runD s (l.take (i + 1))).1 (l.drop (i + 1))).1 := by
    have : runD s l = _ := (congrArg (runD s) e).trans (runD_app s _ _)
    rw [this]
  rw [← h2, runD_take hi] at h1
  have h3 := clip_up s (l.take i)
  cases hb : tooB (rawS (runD s (l.take i)).1 (l.getD i 0)) with
  | false => rfl
  | true =>
    exfalso
    simp only [oneS, hb, if_true] at h1
    omega
theorem step_left {s : DS} {l : List Int} (hs : okD s) (h : (runD s l).1.2.2.2 ≤ s.2.2.2) {i : Nat} (hi : i < l.length) :
    (runD s (l.take (i + 1))).1.2.1 = (runD s (l.take i)).1.2.1 + l.getD i 0 - (runD s l).2.getD i 0 * 65536 ∧ (-65535 ≤ (runD s (l.take i)).1.2.1 ∧ (runD s (l.take i)).1.2.1 ≤ 65535) ∧
      (-2147700000 ≤ l.getD i 0 ∧ l.getD i 0 ≤ 2147700000) ∧ (-32768 ≤ (runD s l).2.getD i 0 ∧ (runD s l).2.getD i 0 ≤ 32767) ∧ (-65535 ≤ (runD s (l.take (i + 1))).1.2.1 ∧ (runD s (l.take (i + 1))).1.2.1 ≤ 65535) := by
  have hb := no_clip h hi
  have ho := (runD_ok s (l.take i) hs).1
  have ho2 := (runD_ok s (l.take (i + 1)) hs).1
  have hn := noi_bd (runD s (l.take i)).1.1
  rw [runD_get hi]
  rw [runD_take hi] at ho2 ⊢
  unfold okD at ho ho2
  have hr : ¬ (32767 < rawS (runD s (l.take i)).1 (l.getD i 0) ∨ rawS (runD s (l.take i)).1 (l.getD i 0) < -32768) := by
    unfold tooB at hb
    exact of_decide_eq_false hb
  have hsm : smpS (runD s (l.take i)).1 (l.getD i 0) = rawS (runD s (l.take i)).1 (l.getD i 0) := by
    unfold smpS cutS
    rw [if_neg (by omega), if_neg (by omega)]
  rw [hsm]
  have hle : (oneS (runD s (l.take i)).1 (l.getD i 0)).2.1 = l.getD i 0 + (runD s (l.take i)).1.2.1 - rawS (runD s (l.take i)).1 (l.getD i 0) * 65536 := by
    simp only [oneS, hb]
    rfl
  rw [hle] at ho2 ⊢
  have hraw : rawS (runD s (l.take i)).1 (l.getD i 0) * 65536 ≤ l.getD i 0 + (runD s (l.take i)).1.2.1 + noiS (runD s (l.take i)).1.1 ∧ l.getD i 0 + (runD s (l.take i)).1.2.1 + noiS (runD s (l.take i)).1.1 < rawS (runD s (l.take i)).1 (l.getD i 0) * 65536 + 65536 := by
    unfold rawS; omega
  omega
/-- The last cell of a row told otherwise. -/
theorem Wk.last {P : Program} {n : Nat} {c0 : Cx} {Bor : Nat → Prop} {n0 : Nat} {l : L} (id : Nat) {T : TypeId} (X : List PV) (p q : PV) (hs : get l (kb id) = some (.blk T (X ++ [p]))) (hq : q.one = true) (hpq : ∀ c v, Rep P c p v → Rep P c q v) :
    Wk P n c0 Bor n0 l n0 ([(kb id, some (.blk T (X ++ [q])))] ++ l) := fun cx a hI => by
  have hge : ∀ k, get ([(kb id, some (.blk T (X ++ [q])))] ++ l) k = if Nat.beq k (kb id) then some (.blk T (X ++ [q])) else get l k := fun k => by
    rw [get_append]
    simp only [over, lk]
    by_cases h1 : Nat.beq k (kb id) = true
    · simp [h1]
    · simp only [h1]; rfl
  have hb : ∀ i, get ([(kb id, some (.blk T (X ++ [q])))] ++ l) (kb i) = if i = id then some (.blk T (X ++ [q])) else get l (kb i) := fun i => by
    rw [hge, beq_kb]; by_cases e : i = id <;> simp [e]
  have hsl : ∀ s, get ([(kb id, some (.blk T (X ++ [q])))] ++ l) (Pm.ks s) = get l (Pm.ks s) := fun s => by
    rw [hge, beq_ksb, if_neg (by simp)]
  have hl : ∀ i, Live (get ([(kb id, some (.blk T (X ++ [q])))] ++ l)) i → Live (get l) i := fun i ⟨T', cs, hx⟩ => by
    rw [hb] at hx
    by_cases e : i = id
    · subst e; exact ⟨T, _, hs⟩
    · rw [if_neg e] at hx; exact ⟨T', cs, hx⟩
  refine ⟨cx, rfl, { ids := hI.ids, blk := fun i T' cs hx => ?_, inj := fun i j b T T' l1 l2 => hI.inj i j b T T' (hl i l1) (hl j l2), apart := fun i b T l1 => hI.apart i b T (hl i l1), bnd := hI.bnd, sok := hI.sok, os := hI.os, tape := hI.tape, output := hI.output, size := hI.size, same := hI.same, s0 := hI.s0, s1 := hI.s1, keep := hI.keep, tmps := hI.tmps, dfr := hI.dfr, slot := fun s p hp => hI.slot s p (by rw [← hsl]; exact hp), isv := fun s x hx => hI.isv s x (by rw [← hsl]; exact hx) }⟩
  rw [hb] at hx
  by_cases e : i = id
  · subst e
    rw [if_pos rfl] at hx
    cases hx
    obtain ⟨ob, h1, h2, h3⟩ := hI.blk i _ _ hs
    refine ⟨ob, h1, fun r hr => ?_, ?_⟩
    · rcases List.mem_append.1 hr with h | h
      · exact h2 r (List.mem_append.2 (.inl h))
      · rw [List.mem_singleton] at h; rw [h]; exact hq
    · rcases h3 with ⟨_, h4⟩ | ⟨b, arr, h4, h5, h6, h7⟩
      · simp at h4
      · refine .inr ⟨b, arr, h4, h5, by simpa using h6, fun j hj => ?_⟩
        have h8 := h7 j (by simpa using hj)
        by_cases e : j < X.length
        · rw [List.getD_eq_getElem?_getD, List.getElem?_append_left e] at h8 ⊢
          exact h8
        · have e2 : j = X.length := by simp at hj; omega
          subst e2
          simp only [List.getD_eq_getElem?_getD, List.getElem?_append_right (Nat.le_refl _), Nat.sub_self, List.getElem?_cons_zero, Option.getD_some] at h8 ⊢
          exact hpq _ _ h8
  · rw [if_neg e] at hx
    exact hI.blk i T' cs hx
end Go.Proofs.Ytgkahjaoajjgcaa.Pm
namespace Go.Proofs.Ytgkahjaoajjgcaa
open Go

section
variable {P : Program} {ops : Array Oper} {md : Region.Mode} {C : World → Prop}

/-- Whatever order is picked for the first n operations; then L. -/
def wpAnyC (P : Program) (md : Region.Mode) (ops : Array Oper) (C : World → Prop) (n : Nat) (L : Array Bool → Act → Prop) : Nat → Array Bool → Act → Prop
  | 0, listed, a => L listed a
  | f + 1, listed, a => Region.ready md ops listed ≠ [] ∧ ∀ i ∈ Region.ready md ops listed, i < n ∧ qOp P ops C i (wpAnyC P md ops C n L f (listed.setIfInBounds i true)) a

theorem wpAny_of_headC {n g : Nat} {L : Array Bool → Act → Prop} {Q' : Exit → Act → World → Prop} (hL : ∀ listed a w, C w → L listed a → wpAny P md ops Q' g listed a w) :
    ∀ (f : Nat) (listed : Array Bool) (a : Act) (w : World), C w → wpAnyC P md ops C n L f listed a → wpAny P md ops Q' (f + g) listed a w
  | 0, _, _, _, hw, h => by rw [Nat.zero_add]; exact hL _ _ _ hw h
  | f + 1, _, _, _, hw, h => by
    rw [show f + 1 + g = (f + g) + 1 by omega]
    exact ⟨fun h0 => absurd h0 h.1, fun i hi => wpOp_of_qOp hw (fun a' w' hw' h' => wpAny_of_headC hL f _ a' w' hw' h') (h.2 i hi).2⟩

theorem wpAnyC_first {n i : Nat} {oi : Oper} {v : Value} {L : Array Bool → Act → Prop} (hi : ops[i]? = some oi) (hsel : ∀ (j : Nat) (o : Oper) cs b, ops[j]? = some o → o.op ≠ .select cs b)
    (hs : Region.sinkB md ops n = true) (hc : Region.chainB md ops n = true) (hn : n < ops.size) (hin : i < n)
    (hdone : ∀ listed a, L listed a → ∀ j ∈ Region.ready md ops listed, n ≤ j) :
    ∀ (f : Nat) (listed : Array Bool) (a : Act), HeadInv md ops n listed →
      (∀ j oj, ops[j]? = some oj → j ≠ i → listed.getD j true = false → (∀ e ∈ oj.after, Region.binds md e = true → e.on ≠ i) → oi.apart ops oj = true) →
      i ∈ Region.ready md ops listed → YieldsIn P ops C oi v a →
      wpAnyC P md ops C n L f (listed.setIfInBounds i true) (a.put oi.dst v) → wpAnyC P md ops C n L (f + 1) listed a := by
  intro f
  induction f with
  | zero =>
    intro listed a inv _ hr hy H
    have hun := (mem_ready.1 hr).1
    refine ⟨fun h => (by rw [h] at hr; cases hr), fun j hj => ?_⟩
    have hjn : j < n := by
      rcases Nat.lt_or_ge j n with h | h
      · exact h
      · exact absurd hj (tail_waits hs hc hn inv _ i rfl hin hun j h)
    refine ⟨hjn, ?_⟩
    by_cases hji : j = i
    · subst hji; exact hy.qOp hi H
    · have := hdone _ _ H j (ready_mono hj hji)
      omega
  | succ f ih =>
    intro listed a inv hfree hr hy H
    have hun := (mem_ready.1 hr).1
    refine ⟨fun h => (by rw [h] at hr; cases hr), fun j hj => ?_⟩
    have hjn : j < n := by
      rcases Nat.lt_or_ge j n with h | h
      · exact h
      · exact absurd hj (tail_waits hs hc hn inv _ i rfl hin hun j h)
    refine ⟨hjn, ?_⟩
    by_cases hji : j = i
    · subst hji; exact hy.qOp hi H
    · have h1 := (H.2 j (ready_mono hj hji)).2
      obtain ⟨hjun, oj, hoj, hall⟩ := mem_ready.1 hj
      have hnot : ∀ e ∈ oj.after, Region.binds md e = true → e.on ≠ i := fun e he hb heq => by
        have h1 := hall e he hb
        rw [heq, getD_both hun] at h1
        cases h1
      have h2 := qOp_put hoj (hfree j oj hoj hji hjun hnot) (fun cs b => hsel i oi cs b hi) (fun cs b => hsel j oj cs b hoj) hy h1
      have hfree' : ∀ k ok, ops[k]? = some ok → k ≠ i → (listed.setIfInBounds j true).getD k true = false →
          (∀ e ∈ ok.after, Region.binds md e = true → e.on ≠ i) → oi.apart ops ok = true := fun k ok hk hki hun hno => by
        refine hfree k ok hk hki ?_ hno
        by_cases hjk : j = k
        · subst hjk; exact hjun
        · rw [getD_set_ne true hjk] at hun; exact hun
      refine qOp_mono (fun a' h3 => ih (listed.setIfInBounds j true) a' (inv.set hj hjn) hfree' (ready_mono hr (Ne.symm hji)) h3.1 ?_) h2
      rw [Array.setIfInBounds_comm _ _ hji]
      exact h3.2

theorem wpAnyC_lex {n g : Nat} {Lq : Act → Prop} (hsel : Region.noSelect ops = true) (hs : Region.sinkB md ops n = true) (hc : Region.chainB md ops n = true) (hn : n < ops.size) :
    ∀ (l : List Oper) (k : Nat) (listed : Array Bool) (a : Act), (∀ j, j < l.length → l[j]? = ops[k + j]?) → k + l.length = n → HeadInv md ops n listed →
    Region.lexHead md ops g l.length k listed = true → wpQuiet P ops C Lq l a →
    wpAnyC P md ops C n (fun listed' a' => Region.seqB md ops g n listed' = true ∧ Lq a') l.length listed a
  | [], k, _, _, _, hk, _, hB, h => by
    have : k = n := by simpa using hk
    subst this
    exact ⟨by simpa [Region.lexHead] using hB, h⟩
  | o :: l, k, listed, a, hl, hk, inv, hB, h => by
    have h0 : ops[k]? = some o := by simpa using (hl 0 (by simp)).symm
    simp only [List.length_cons, Region.lexHead, Bool.and_eq_true] at hB
    obtain ⟨⟨hr, hf⟩, hB'⟩ := hB
    have hkn : k < n := by simp only [List.length_cons] at hk; omega
    have hr' : k ∈ Region.ready md ops listed := by simpa using hr
    have hst : qOp P ops C k (wpQuiet P ops C Lq l) a := by unfold qOp; simp only [h0]; exact h
    obtain ⟨v, hy, hK⟩ := yieldsIn_of_qOp h0 hst
    exact wpAnyC_first h0 (Region.noSelect_spec hsel) hs hc hn hkn (fun listed' a' hL => seqB_ready hL.1) l.length listed a inv (Region.free_spec h0 hf) hr' hy
      (wpAnyC_lex hsel hs hc hn l (k + 1) _ _ (fun j hj => by have := hl (j + 1) (by simp; omega); simpa [Nat.add_assoc, Nat.add_comm 1 j] using this) (by simp only [List.length_cons] at hk; omega) (inv.set hr' hkn) hB' hK)

/-- THE FIRST n OPERATIONS QUIET IN C, THE REST FORCED: one walk. -/
theorem wp_region_class_tail {id : Nat} {Q : Exit → Act → World → Prop} {a : Act} {w : World} {l : List Oper} (C : World → Prop) (n : Nat) (hm : P.follows .mixedOrders = true) (hB : Region.lexTailB .any l.toArray n = true)
    (hC : C { w with drawn := w.drawn + 1 })
    (h : wpQuiet P l.toArray C (fun a' => ∀ w', C w' → wpList P l.toArray Q (l.drop n) a' w') (l.take n) a) : (Code.region id l.toArray true).wp P Q a w := by
  simp only [Region.lexTailB, Bool.and_eq_true, decide_eq_true_eq] at hB
  obtain ⟨⟨⟨⟨hsel, hn⟩, hs⟩, hc⟩, hlex⟩ := hB
  have hn' : n < l.length := by simpa using hn
  have htl : (l.take n).length = n := by simp; omega
  have hdl : (l.drop n).length = l.toArray.size - n := by simp
  have inv0 : HeadInv .any l.toArray n (Array.replicate l.toArray.size false) :=
    ⟨by simp, fun j oj _ hl => (by rw [getD_replicate_false] at hl; cases hl), fun t _ ht => getD_in (by simpa using ht) (getD_replicate_false _ _)⟩
  have H := wpAnyC_lex (md := .any) (g := l.toArray.size - n) hsel hs hc hn (l.take n) 0 _ a (fun j hj => by
    have hj' : j < n := by rw [htl] at hj; exact hj
    simp [hj']) (by simpa using htl) inv0 (by rw [htl]; exact hlex) h
  refine wp_region_any hm ?_
  have := wpAny_of_headC (Q' := Q) (g := l.toArray.size - n) (fun listed a' w' hw' hL => by
    have := wpAny_of_seq (md := .any) (Q' := Q) (l.drop n) n listed a' w' (fun j => by simp [List.getElem?_drop]) (by rw [hdl]; exact hL.1) (hL.2 w' hw')
    rwa [hdl] at this) _ _ _ _ hC H
  rw [htl, show n + (l.toArray.size - n) = l.toArray.size by omega] at this
  exact this

end

/-- A world with more in it: what was there is as it was. -/
structure Ext (w : World) where
  u : World
  h : RowKit.Below w.heap.size w u
instance Ext.some_ (w : World) : Nonempty (Ext w) := ⟨⟨w, RowKit.Below.refl _ _⟩⟩
theorem Ext.cells (w : World) : ∀ (d : Ext w) (b o : Nat), b < w.heap.size → d.u.cell? ⟨b, o, none⟩ = w.cell? ⟨b, o, none⟩ := fun d b o h => d.h.cell (p := ⟨b, o, none⟩) h

section
variable {P : Program}
theorem wp_region_ext_tail {id : Nat} {Q : Exit → Act → World → Prop} {a : Act} {w : World} {l : List Oper} (n : Nat) (hm : P.follows .mixedOrders = true) (hB : Region.lexTailB .any l.toArray n = true)
    (h : wpQuiet P l.toArray (fun w' => ∃ d : Ext w, w' = d.u) (fun a' => ∀ w', (∃ d : Ext w, w' = d.u) → wpList P l.toArray Q (l.drop n) a' w') (l.take n) a) :
    (Code.region id l.toArray true).wp P Q a w :=
  wp_region_class_tail (fun w' => ∃ d : Ext w, w' = d.u) n hm hB ⟨⟨{ w with drawn := w.drawn + 1 }, rfl, rfl, rfl, Nat.le_refl _, fun _ _ => rfl⟩, rfl⟩ h
theorem wp_region_ext {id : Nat} {Q : Exit → Act → World → Prop} {a : Act} {w : World} {l : List Oper} (hm : P.follows .mixedOrders = true) (hB : Region.lexB .any l.toArray = true)
    (h : wpQuiet P l.toArray (fun w' => ∃ d : Ext w, w' = d.u) (fun a' => ∀ w', (∃ d : Ext w, w' = d.u) → Q .normal a' w') l a) :
    (Code.region id l.toArray true).wp P Q a w :=
  wp_region_quiet (C := fun w' => ∃ d : Ext w, w' = d.u) hm hB ⟨⟨{ w with drawn := w.drawn + 1 }, rfl, rfl, rfl, Nat.le_refl _, fun _ _ => rfl⟩, rfl⟩ (by simpa using h)
/-- A call in such a region, by the callee's contract. -/
theorem ext_call {f : FuncId} {args : Array Value} {w : World} {d : Ext w} {v : Value} (h : Calls P f args d.u fun e w' => e = .returned v ∧ RowKit.Below d.u.heap.size d.u w') :
    Calls P f args d.u fun e w'' => e = .returned v ∧ ∃ d' : Ext w, w'' = d'.u :=
  h.mono fun _ w' ⟨he, hb⟩ => ⟨he, ⟨w', d.h.trans (hb.mono d.h.size)⟩, rfl⟩
theorem ext_same {f : FuncId} {args : Array Value} {w : World} {d : Ext w} {v : Value} (h : Calls P f args d.u fun e w' => e = .returned v ∧ d.u = w') :
    Calls P f args d.u fun e w'' => e = .returned v ∧ ∃ d' : Ext w, w'' = d'.u :=
  h.mono fun _ _ ⟨he, hb⟩ => ⟨he, d, hb.symm⟩
theorem ext_drewN {f : FuncId} {args : Array Value} {w : World} {d : Ext w} {v : Value} (h : Calls P f args d.u fun e w' => e = .returned v ∧ ∃ n, w' = d.u.drewN n) :
    Calls P f args d.u fun e w'' => e = .returned v ∧ ∃ d' : Ext w, w'' = d'.u :=
  h.mono fun _ w' ⟨he, n, hb⟩ => ⟨he, ⟨w', by subst hb; exact ⟨d.h.os, d.h.tape, d.h.output, d.h.size, d.h.block⟩⟩, rfl⟩
end
end Go.Proofs.Ytgkahjaoajjgcaa
namespace Go.Proofs.Ytgkahjaoajjgcaa.Mx
open Go.RowKit

def I64 (n : Int) : Prop := -9223372036854775808 ≤ n ∧ n ≤ 9223372036854775807
def X (l : List Int) (i : Nat) : Int := l.getD i 0
theorem X_past {l : List Int} {i : Nat} (h : l.length ≤ i) : X l i = 0 := by
  unfold X; rw [List.getD_eq_getElem?_getD, List.getElem?_eq_none h]; rfl
/-- Whole numbers in memory. -/
def Cells (w : World) (p : Option Addr) (l : List Int) : Prop := 0 < l.length → ∃ b o, p = some ⟨b, o, none⟩ ∧ ∀ i, i < l.length → w.cell? ⟨b, o + i, none⟩ = some (.int .i64 (X l i))
theorem Cells.below {w w' : World} {p : Option Addr} {l : List Int} (h : Cells w p l) (hb : Below w.heap.size w w') : Cells w' p l := fun hn => by
  obtain ⟨b, o, hp, hc⟩ := h hn
  exact ⟨b, o, hp, fun i hi => cell_then (hc i hi) hb⟩
structure Row where
  p : Option Addr
  l : List Int
  cap : Nat
def Row.val (r : Row) : Value := .slice r.p r.l.length r.cap
def R0 : Row := ⟨none, [], 0⟩
def Y (T : List Row) (i : Nat) : Row := T.getD i R0
theorem Y_past {T : List Row} {i : Nat} (h : T.length ≤ i) : Y T i = R0 := by
  unfold Y; rw [List.getD_eq_getElem?_getD, List.getElem?_eq_none h]; rfl
structure Row.Ok (w : World) (r : Row) : Prop where
  le : r.l.length ≤ r.cap
  cap : r.cap ≤ 9223372036854775807
  sz : r.l.length * 8 ≤ 140737488351232
  cells : Cells w r.p r.l
theorem Row.Ok.below {w w' : World} {r : Row} (h : r.Ok w) (hb : Below w.heap.size w w') : r.Ok w' := ⟨h.le, h.cap, h.sz, h.cells.below hb⟩
theorem R0_ok (w : World) : R0.Ok w := ⟨Nat.le_refl _, by decide, by decide, fun h => absurd h (by decide)⟩
/-- Lists of numbers in memory. -/
structure Rows (w : World) (p : Option Addr) (T : List Row) : Prop where
  at' : 0 < T.length → ∃ b o, p = some ⟨b, o, none⟩ ∧ ∀ i, i < T.length → w.cell? ⟨b, o + i, none⟩ = some (Y T i).val
  ok : ∀ i, (Y T i).Ok w
theorem Rows.below {w w' : World} {p : Option Addr} {T : List Row} (h : Rows w p T) (hb : Below w.heap.size w w') : Rows w' p T :=
  ⟨fun hn => by
    obtain ⟨b, o, hp, hc⟩ := h.at' hn
    exact ⟨b, o, hp, fun i hi => cell_then (hc i hi) hb⟩, fun i => (h.ok i).below hb⟩

/-! ### a block of the call's own -/
def Out (w : World) (g N : Nat) (F : Nat → Int) : Prop := ∃ cs : Array Value, w.heap[g]? = some (.cells cs 3 (0, 0)) ∧ cs.size = N ∧ ∀ k, k < N → cs[k]? = some (.int .i64 (F k))
theorem Out.lt {w : World} {g N : Nat} {F : Nat → Int} (h : Out w g N F) : g < w.heap.size := by
  obtain ⟨cs, h1, _⟩ := h
  exact (Array.getElem?_eq_some_iff.1 h1).1
theorem Out.cell {w : World} {g N : Nat} {F : Nat → Int} (h : Out w g N F) {k : Nat} (hk : k < N) : w.cell? ⟨g, k, none⟩ = some (.int .i64 (F k)) := by
  obtain ⟨cs, h1, h2, h3⟩ := h
  simp only [World.cell?, h1]
  exact h3 k hk
theorem Out.free {w : World} {g N : Nat} {F : Nat → Int} (h : Out w g N F) (k : Nat) : w.frozen? ⟨g, k, none⟩ = false := by
  obtain ⟨cs, h1, h2, h3⟩ := h
  exact frozen_of_row w g k cs _ h1
theorem Out.below {w w' : World} {g N : Nat} {F : Nat → Int} (h : Out w g N F) (hb : Below w.heap.size w w') : Out w' g N F := by
  have hl := h.lt
  obtain ⟨cs, h1, h2, h3⟩ := h
  exact ⟨cs, (hb.block g hl).trans h1, h2, h3⟩
theorem Out.set {w : World} {g N : Nat} {F : Nat → Int} (h : Out w g N F) (j : Nat) (v : Int) : Out (w.setCell ⟨g, j, none⟩ (.int .i64 v)) g N (fun k => if k = j then v else F k) := by
  obtain ⟨cs, h1, h2, h3⟩ := h
  refine ⟨cs.setIfInBounds j (.int .i64 v), heap_setCell_same w g j cs _ _ h1, by simpa using h2, fun k hk => ?_⟩
  by_cases e : k = j
  · subst e; simp [h2, hk]
  · rw [Array.getElem?_setIfInBounds_ne (by omega), h3 k hk]; simp [e]
theorem Out.congr {w : World} {g N : Nat} {F G : Nat → Int} (h : Out w g N F) (e : ∀ k, k < N → F k = G k) : Out w g N G := by
  obtain ⟨cs, h1, h2, h3⟩ := h
  exact ⟨cs, h1, h2, fun k hk => by rw [h3 k hk, e k hk]⟩
theorem Out.made (w : World) (N : Nat) : Out (w.alloc (.cells (madeCells #[.int .i64 0] N) 3)) w.heap.size N (fun _ => 0) := by
  refine ⟨madeCells #[.int .i64 0] N, by show (w.heap.push _)[w.heap.size]? = _; simp, by simp [madeCells], fun k hk => ?_⟩
  simp [madeCells, hk, Nat.mod_one]
theorem Out.list {w : World} {g N : Nat} {F : Nat → Int} (h : Out w g N F) {l : List Int} (hl : l.length = N) (e : ∀ k, k < N → F k = X l k) : Cells w (some ⟨g, 0, none⟩) l := fun _ =>
  ⟨g, 0, rfl, fun i hi => by rw [Nat.zero_add, h.cell (by omega), e i (by omega)]⟩

/-! ### plain -/
def long (T : List Row) : Nat → Nat
  | 0 => 0
  | k + 1 => max (long T k) (Y T k).l.length
def part (T : List Row) (G : List Int) : Nat → Nat → Int
  | 0, _ => 0
  | j + 1, k => part T G j k + X G j * X (Y T j).l k
def sums (T : List Row) (G : List Int) : List Int := (List.range (long T T.length)).map (part T G T.length)
theorem sums_length (T : List Row) (G : List Int) : (sums T G).length = long T T.length := by simp [sums]
theorem sums_X {T : List Row} {G : List Int} {k : Nat} (h : k < long T T.length) : X (sums T G) k = part T G T.length k := by
  unfold X sums
  simp [List.getD_eq_getElem?_getD, h]
theorem long_le {T : List Row} : ∀ {n k : Nat}, k < n → (Y T k).l.length ≤ long T n
  | n + 1, k, h => by
    rw [long]
    by_cases e : k = n
    · subst e; omega
    · have := long_le (T := T) (n := n) (k := k) (by omega); omega
theorem long_bd {T : List Row} {M : Nat} (h : ∀ i, (Y T i).l.length ≤ M) : ∀ n, long T n ≤ M
  | 0 => Nat.zero_le _
  | n + 1 => by rw [long]; have := long_bd h n; have := h n; omega
/-- What can be added up. -/
def LoudOk (z : Int) : Prop := -1048576 ≤ z ∧ z ≤ 1048576
def SampOk (z : Int) : Prop := -16777216 ≤ z ∧ z ≤ 16777216
def RowGood (l : List Int) : Prop := ∀ k, k < l.length → SampOk (X l k)
structure Good (T : List Row) (G : List Int) : Prop where
  n : T.length ≤ 256
  g : G.length = T.length
  all : ∀ i, i < T.length → LoudOk (X G i) ∧ RowGood (Y T i).l
theorem mul_bd {a b A B : Int} (ha : -A ≤ a ∧ a ≤ A) (hb : -B ≤ b ∧ b ≤ B) (hB : 0 ≤ B) : -(A * B) ≤ a * b ∧ a * b ≤ A * B := by
  have hA : 0 ≤ A := by omega
  have h1 : a.natAbs ≤ A.toNat := by omega
  have h2 : b.natAbs ≤ B.toNat := by omega
  have h3 : (a * b).natAbs ≤ A.toNat * B.toNat := by rw [Int.natAbs_mul]; exact Nat.mul_le_mul h1 h2
  have h4 : ((A.toNat * B.toNat : Nat) : Int) = A * B := by rw [Int.natCast_mul, Int.toNat_of_nonneg hA, Int.toNat_of_nonneg hB]
  omega
theorem prod_bd {T : List Row} {G : List Int} {j : Nat} (h : LoudOk (X G j) ∧ RowGood (Y T j).l) (k : Nat) : -17592186044416 ≤ X G j * X (Y T j).l k ∧ X G j * X (Y T j).l k ≤ 17592186044416 := by
  have hx : -16777216 ≤ X (Y T j).l k ∧ X (Y T j).l k ≤ 16777216 := by
    by_cases hk : k < (Y T j).l.length
    · exact h.2 k hk
    · rw [X_past (by omega)]; decide
  have := mul_bd (A := 1048576) (B := 16777216) h.1 hx (by decide)
  simpa using this
theorem part_bd {T : List Row} {G : List Int} (h : Good T G) (k : Nat) : ∀ {j : Nat}, j ≤ T.length → -(17592186044416 * j) ≤ part T G j k ∧ part T G j k ≤ 17592186044416 * j
  | 0, _ => by simp [part]
  | j + 1, hj => by
    have h1 := part_bd h k (j := j) (by omega)
    have h2 := prod_bd (h.all j (by omega)) k
    rw [part]
    omega
end Go.Proofs.Ytgkahjaoajjgcaa.Mx
namespace Go.Proofs.Ytgkahjaoajjgcaa.Mx
open Go.RowKit

set_option maxHeartbeats 1000000 in
theorem within_any (n m : Int) (w : World) (hm : 0 ≤ m ∧ m ≤ 1000000000) :
    Calls Try.prog 15 #[.int .i64 n, .int .i64 m] w fun e w' => e = .returned (.bool (decide (-m ≤ n ∧ n ≤ m))) ∧ w = w' := by
  by_cases h1 : -m ≤ n
  all_goals
    have e1 : decide (-m ≤ n) = decide (-m ≤ n) := rfl
    by_cases h2 : n ≤ m
    all_goals
      go_enter Try.func15, Try.ntmps15
      go_wp2
      go_ret
      exact ⟨ret_bool (by simp [h1, h2]), rfl⟩

theorem Try.infoInt : (Try.prog.info? 3).map (fun i => (i.zero, i.size, i.bytes)) = some (some (.int .i64 0), 1, 8) := by kernel_rfl
def SumPost (w : World) (T : List Row) (G : List Int) (e : Ending) (w' : World) : Prop :=
  Below w.heap.size w w' ∧ ((Good T G ∧ ∃ p cap, e = .returned (.tuple #[.slice p (sums T G).length cap, .int .i64 0]) ∧ Cells w' p (sums T G)) ∨
    (¬ Good T G ∧ ∃ c : Int, c ≠ 0 ∧ e = .returned (.tuple #[.slice none 0 0, .int .i64 c])))

set_option maxHeartbeats 4000000 in
theorem sum_any (P gp : Option Addr) (T : List Row) (G : List Int) (cap gcap : Nat) (w : World) (hT : Rows w P T) (hG : Cells w gp G) (hTl : T.length ≤ 9223372036854775807) (hGl : G.length ≤ 9223372036854775807) :
    Calls Try.prog 8 #[.slice P T.length cap, .slice gp G.length gcap] w (SumPost w T G) := by
  by_cases h1 : T.length ≤ 256
  · by_cases h2 : G.length = T.length
    · rw [h2]
      have e1 : (T.length : Int) ≤ 256 := by omega
      obtain ⟨i0, hin, hz0, hz1, hz2⟩ := info_parts Try.infoInt
      go_enter Try.func8, Try.ntmps8
      go_wp2
      go_loopw [6, 26] (fun v6 v26 wr => ∃ (i : Nat), v6 = .int .i64 ((long T i : Nat) : Int) ∧ v26 = .int .i64 (i : Int) ∧ i ≤ T.length ∧ (∀ j, j < i → LoudOk (X G j) ∧ RowGood (Y T j).l) ∧ Below w.heap.size w wr) (fun _ v26 _ => T.length - (intOf v26).toNat)
      case atStart => exact ⟨0, rfl, rfl, by omega, fun j hj => absurd hj (by omega), Below.refl _ _⟩
      case round =>
        obtain ⟨i, rfl, rfl, hi, hgd, hbr⟩ := hrel
        by_cases hlt : i < T.length
        · obtain ⟨b, off, rfl, hc⟩ := (hT.below hbr).at' (by omega)
          obtain ⟨gb, go, rfl, hgc⟩ := (hG.below hbr) (by omega)
          have c1 := hc i hlt
          have c2 := hgc i (by omega)
          have hr := (hT.ok i).below hbr
          obtain ⟨rp, hrp⟩ : ∃ r, Y T i = r := ⟨_, rfl⟩
          have e2 : (i : Int) < T.length := by omega
          rw [hrp] at c1 hr
          obtain ⟨q, l, c⟩ := rp
          have hl := hr.cells
          have hlc := hr.cap
          have hle := hr.le
          simp only at hl hlc hle
          simp only [Row.val] at c1
          clear hc hgc hr
          by_cases hg : -1048576 ≤ X G i ∧ X G i ≤ 1048576
          · have hg1 : decide (-1048576 ≤ X G i ∧ X G i ≤ 1048576) = true := by simp [hg]
            go_wp2_with (go_at_call 15; (with_reducible refine (within_any _ _ _ (by decide)).mono ?_); rintro e w1 ⟨rfl, rfl⟩)
            obtain ⟨wo, rfl⟩ : ∃ wo : World, wo = wr := ⟨_, rfl⟩
            go_loopw [39] (fun v39 wq => ∃ (k : Nat), v39 = .int .i64 (k : Int) ∧ k ≤ l.length ∧ (∀ j, j < k → SampOk (X l j)) ∧ Below wo.heap.size wo wq) (fun v39 _ => l.length - (intOf v39).toNat)
            case atStart => exact ⟨0, rfl, by omega, fun j hj => absurd hj (by omega), Below.refl _ _⟩
            case round =>
              obtain ⟨k, rfl, hk, hsm, hbq⟩ := hrel
              by_cases hkl : k < l.length
              · obtain ⟨b2, off2, rfl, hc2⟩ := (hl.below hbq) (by omega)
                have c3 := hc2 k hkl
                have e3 : (k : Int) < l.length := by omega
                clear hc2
                by_cases hx : -16777216 ≤ X l k ∧ X l k ≤ 16777216
                · have hx1 : decide (-16777216 ≤ X l k ∧ X l k ≤ 16777216) = true := by simp [hx]
                  go_wp2_with (go_at_call 15; (with_reducible refine (within_any _ _ _ (by decide)).mono ?_); rintro e w1 ⟨rfl, rfl⟩)
                  go_roundw
                  case rel => exact ⟨k + 1, by go_num, by omega, fun j hj => by
                    by_cases e : j = k
                    · subst e; exact hx
                    · exact hsm j (by omega), hbq⟩
                  case measure => simp [intOf]; omega
                · have hx1 : decide (-16777216 ≤ X l k ∧ X l k ≤ 16777216) = false := by simp [hx]
                  go_wp2_with (go_at_call 15; (with_reducible refine (within_any _ _ _ (by decide)).mono ?_); rintro e w1 ⟨rfl, rfl⟩)
                  go_ret2
                  exact ⟨below_then hbq hbr, .inr ⟨fun h => hx (by have := (h.all i hlt).2 k; rw [hrp] at this; exact this hkl), 3, by decide, rfl⟩⟩
              · have e3 : ¬ (k : Int) < l.length := by omega
                obtain rfl : k = l.length := by omega
                have hlo := long_bd (fun i => by have := (hT.ok i).sz; omega) (M := 17592186043904) i (T := T)
                go_wp2
                go_roundw
                case rel => exact ⟨i + 1, by rw [long, hrp]; go_num, by go_num, by omega, fun j hj => by
                    by_cases e : j = i
                    · subst e; rw [hrp]; exact ⟨hg, hsm⟩
                    · exact hgd j (by omega), below_then hbq hbr⟩
                case measure => simp [intOf]; omega
          · have hg1 : decide (-1048576 ≤ X G i ∧ X G i ≤ 1048576) = false := by simp [hg]
            go_wp2_with (go_at_call 15; (with_reducible refine (within_any _ _ _ (by decide)).mono ?_); rintro e w1 ⟨rfl, rfl⟩)
            go_ret2
            exact ⟨hbr, .inr ⟨fun h => hg (h.all i hlt).1, 3, by decide, rfl⟩⟩
        · have e2 : ¬ (i : Int) < T.length := by omega
          obtain rfl : i = T.length := by omega
          have hGood : Good T G := ⟨h1, h2, hgd⟩
          have hN : long T T.length ≤ 17592186043904 := long_bd (fun i => by have := (hT.ok i).sz; omega) _
          have hHG := Lib.hid hGood
          clear hGood h2
          go_wp2_with (refine wpList_make_row _ rfl _ _ 23 rfl 3 i0 (.int .i64 0) Try.underlying23 hin hz0 hz1 rfl .i64 .i64 (long T T.length) rfl rfl (by rw [hz2]; omega) (by omega) ?_)
          obtain ⟨w9, rfl⟩ : ∃ w9 : World, w9 = wr := ⟨_, rfl⟩
          have hO := Out.made w9 (long T T.length)
          have hB0 : Below w.heap.size w (w9.alloc (.cells (madeCells #[.int .i64 0] (long T T.length)) 3)) := below_new hbr _
          generalize hV : w9.alloc (.cells (madeCells #[.int .i64 0] (long T T.length)) 3) = V at *
          clear hV
          have hg9 := hbr.size
          go_loopw [56] (fun v56 wx => ∃ (i : Nat), v56 = .int .i64 (i : Int) ∧ i ≤ T.length ∧ Out wx w9.heap.size (long T T.length) (part T G i) ∧ Below w.heap.size w wx) (fun v56 _ => T.length - (intOf v56).toNat)
          case atStart => exact ⟨0, rfl, by omega, hO, hB0⟩
          case round =>
            obtain ⟨i, rfl, hi, hout, hbx⟩ := hrel
            by_cases hlt : i < T.length
            · obtain ⟨b, off, rfl, hc⟩ := (hT.below hbx).at' (by omega)
              have c1 := hc i hlt
              have hr := (hT.ok i)
              have hll := long_le (T := T) hlt
              have hpr := prod_bd (hHG.out.all i hlt)
              have hpt := fun k => part_bd hHG.out k (j := i) (by omega)
              obtain ⟨rp, hrp⟩ : ∃ r, Y T i = r := ⟨_, rfl⟩
              have e2 : (i : Int) < T.length := by omega
              rw [hrp] at c1 hr hll hpr
              obtain ⟨q, l, c⟩ := rp
              have hl := hr.cells
              have hlc := hr.cap
              have hle := hr.le
              simp only at hl hlc hle hll hpr
              simp only [Row.val] at c1
              clear hc hr
              go_wp2
              obtain ⟨wo, rfl⟩ : ∃ wo : World, wo = wr := ⟨_, rfl⟩
              go_loopw [63] (fun v63 wq => ∃ (k : Nat), v63 = .int .i64 (k : Int) ∧ k ≤ l.length ∧ Out wq w9.heap.size (long T T.length) (fun t => if t < k then part T G (i + 1) t else part T G i t) ∧ Below w.heap.size w wq) (fun v63 _ => l.length - (intOf v63).toNat)
              case atStart => exact ⟨0, rfl, by omega, hout, hbx⟩
              case round =>
                obtain ⟨k, rfl, hk, hok, hbq⟩ := hrel
                by_cases hkl : k < l.length
                · obtain ⟨b2, off2, rfl, hc2⟩ := (hl.below hbq) (by omega)
                  have hgl := Lib.hid hHG.out.g
                  obtain ⟨gb, go, rfl, hgc⟩ := (hG.below hbq) (by have := hgl.out; omega)
                  have c3 := hc2 k hkl
                  have c2 := hgc i (by have := hgl.out; omega)
                  have e3 : (k : Int) < l.length := by omega
                  have hkN : k < long T T.length := by omega
                  have e4 : (k : Int) < (long T T.length : Nat) := by omega
                  have e5 : (i : Int) < G.length := by have := hgl.out; omega
                  have c4 := hok.cell hkN
                  simp only [Nat.lt_irrefl, if_false] at c4
                  have f4 := hok.free k
                  have z4 := hok.lt
                  have b1 := hpr k
                  have b2' := hpt k
                  clear hc2 hgc
                  go_wp2
                  have hE := Ext.cells wr
                  have z5 := World.block_lt_of_cell? wr _ c3
                  have z6 := World.block_lt_of_cell? wr _ c2
                  simp only at z5 z6
                  refine wp_region_ext_tail 12 (by kernel_rfl) (by kernel_rfl) ?_
                  simp only [List.take_succ_cons, List.take_zero, List.drop_succ_cons, List.drop_zero]
                  repeat go_big_quiet_step ((fail))
                  refine wpQuiet_nil ?_
                  rintro wd ⟨⟨_, hbd⟩, rfl⟩
                  have q1 := cell_then c4 hbd
                  have q2 := (hbd.frozen (p := ⟨w9.heap.size, k, none⟩) z4).trans f4
                  have q3 := hok.below hbd
                  clear hE
                  go_wp2
                  go_roundw
                  case rel => exact ⟨k + 1, by go_num, by omega, (q3.set k _).congr (fun t ht => by
                    by_cases e : t = k
                    · subst e
                      rw [if_pos rfl, if_pos (by omega), part, hrp]
                    · by_cases e' : t < k
                      · simp only [if_neg e, if_pos e', if_pos (show t < k + 1 by omega)]
                      · simp only [if_neg e, if_neg e', if_neg (show ¬ t < k + 1 by omega)]), (below_then hbd hbq).setCell (p := ⟨w9.heap.size, k, none⟩) hg9 _⟩
                  case measure => simp [intOf]; omega
                · have e3 : ¬ (k : Int) < l.length := by omega
                  obtain rfl : k = l.length := by omega
                  go_wp2
                  go_roundw
                  case rel => exact ⟨i + 1, by go_num, by omega, hok.congr (fun t ht => by
                    by_cases e : t < l.length
                    · rw [if_pos e]
                    · have hz : X l t = 0 := X_past (by omega)
                      simp only [if_neg e, part, hrp, hz, Int.mul_zero, Int.add_zero]), hbq⟩
                  case measure => simp [intOf]; omega
            · have e2 : ¬ (i : Int) < T.length := by omega
              obtain rfl : i = T.length := by omega
              go_wp2
              go_ret2
              exact ⟨hbx, .inl ⟨hHG.out, some ⟨w9.heap.size, 0, none⟩, long T T.length, by rw [sums_length]; rfl, hout.list (sums_length T G) (fun k hk => (sums_X hk).symm)⟩⟩
    · have e1 : (T.length : Int) ≤ 256 := by omega
      have e2 : ¬ (G.length : Int) = T.length := by omega
      go_enter Try.func8, Try.ntmps8
      go_wp2
      go_ret2
      exact ⟨Below.refl _ _, .inr ⟨fun h => h2 h.g, 8, by decide, rfl⟩⟩
  · have e1 : ¬ (T.length : Int) ≤ 256 := by omega
    go_enter Try.func8, Try.ntmps8
    go_wp2
    go_ret2
    exact ⟨Below.refl _ _, .inr ⟨fun h => h1 h.n, 5, by decide, rfl⟩⟩
end Go.Proofs.Ytgkahjaoajjgcaa.Mx
namespace Go.Proofs.Ytgkahjaoajjgcaa.Mx
open Go.RowKit

theorem X_eq {l m : List Int} (h : l.length = m.length) (e : ∀ i, i < l.length → X l i = X m i) : l = m := by
  apply List.ext_getElem h
  intro i h1 h2
  have := e i h1
  unfold X at this
  simpa [List.getD_eq_getElem?_getD, h1, h2] using this

set_option maxHeartbeats 2000000 in
theorem same_any (p q : Option Addr) (l m : List Int) (cp cq : Nat) (w : World) (hl : Cells w p l) (hm : Cells w q m) (hll : l.length ≤ 9223372036854775807) :
    Calls Try.prog 9 #[.slice p l.length cp, .slice q m.length cq] w fun e w' => e = .returned (.bool (decide (l = m))) ∧ Below w.heap.size w w' := by
  by_cases hn : l.length = m.length
  · have HD := Lib.hid (show (∀ i, i < l.length → X l i = X m i) → decide (l = m) = true from fun h => by simp [X_eq hn h])
    have HF := Lib.hid (show ∀ i, X l i ≠ X m i → decide (l = m) = false from fun i h => by
      have : l ≠ m := fun e => h (by rw [e])
      simp [this])
    rw [show m.length = l.length from hn.symm]
    have hn' := Lib.hid hn
    clear hn
    go_enter Try.func9, Try.ntmps9
    go_wp2
    go_loopw [13] (fun v13 wr => ∃ (k : Nat), v13 = .int .i64 (k : Int) ∧ k ≤ l.length ∧ (∀ i, i < k → X l i = X m i) ∧ Below w.heap.size w wr) (fun v13 _ => l.length - (intOf v13).toNat)
    case atStart => exact ⟨0, rfl, by omega, fun i hi => absurd hi (by omega), Below.refl _ _⟩
    case round =>
      obtain ⟨k, rfl, hk, heq, hbr⟩ := hrel
      by_cases hkl : k < l.length
      · obtain ⟨b, off, rfl, hc⟩ := (hl.below hbr) (by omega)
        obtain ⟨b2, off2, rfl, hc2⟩ := (hm.below hbr) (by have := hn'.out; omega)
        have c1 := hc k hkl
        have c2 := hc2 k (by have := hn'.out; omega)
        have e1 : (k : Int) < l.length := by omega
        have z1 := World.block_lt_of_cell? wr _ c1
        have z2 := World.block_lt_of_cell? wr _ c2
        simp only at z1 z2
        clear hc hc2
        by_cases hx : X l k = X m k
        · go_wp2
          have hE := Ext.cells wr
          refine wp_region_ext (by kernel_rfl) (by kernel_rfl) ?_
          repeat go_big_quiet_step ((fail))
          refine wpQuiet_nil ?_
          rintro wd ⟨⟨_, hbd⟩, rfl⟩
          clear hE
          go_wp2
          go_roundw
          case rel => exact ⟨k + 1, by go_num, by omega, fun i hi => by
            by_cases e : i = k
            · subst e; exact hx
            · exact heq i (by omega), below_then hbd hbr⟩
          case measure => simp [intOf]; omega
        · go_wp2
          have hE := Ext.cells wr
          refine wp_region_ext (by kernel_rfl) (by kernel_rfl) ?_
          repeat go_big_quiet_step ((fail))
          refine wpQuiet_nil ?_
          rintro wd ⟨⟨_, hbd⟩, rfl⟩
          clear hE
          go_wp2
          go_ret
          exact ⟨ret_bool (HF.out k hx).symm, below_then hbd hbr⟩
      · have e1 : ¬ (k : Int) < l.length := by omega
        obtain rfl : k = l.length := by omega
        go_wp2
        go_ret
        exact ⟨ret_bool (HD.out heq).symm, hbr⟩
  · have hne : ¬ (l.length : Int) = m.length := by omega
    have HF : decide (l = m) = false := by
      have : l ≠ m := fun e => hn (by rw [e])
      simp [this]
    go_enter Try.func9, Try.ntmps9
    go_wp2
    go_ret
    exact ⟨ret_bool HF.symm, Below.refl _ _⟩

def oneT (b : Nat) : List Row := [⟨some ⟨b, 0, none⟩, [3], 1⟩]
theorem one_good (b : Nat) : Good (oneT b) [5] := ⟨by simp [oneT], rfl, fun i hi => by
  obtain rfl : i = 0 := by simp [oneT] at hi; exact hi
  refine ⟨by simp [X, LoudOk], fun k hk => ?_⟩
  obtain rfl : k = 0 := by simp [oneT, Y] at hk; exact hk
  simp [oneT, Y, X, SampOk]⟩
theorem one_sums (b : Nat) : sums (oneT b) [5] = [15] := rfl
theorem sum_one (b gb ab : Nat) (w : World) (h1 : w.cell? ⟨b, 0, none⟩ = some (.int .i64 3)) (h2 : w.cell? ⟨ab, 0, none⟩ = some (.slice (some ⟨b, 0, none⟩) 1 1)) (h3 : w.cell? ⟨gb, 0, none⟩ = some (.int .i64 5)) :
    Calls Try.prog 8 #[.slice (some ⟨ab, 0, none⟩) 1 1, .slice (some ⟨gb, 0, none⟩) 1 1] w fun e w' => Below w.heap.size w w' ∧ ∃ g o cap, e = .returned (.tuple #[.slice (some ⟨g, o, none⟩) 1 cap, .int .i64 0]) ∧ w'.cell? ⟨g, o, none⟩ = some (.int .i64 15) := by
  have hrow : (Y (oneT b) 0).Ok w := ⟨by simp [oneT, Y], by simp [oneT, Y], by simp [oneT, Y], fun _ => ⟨b, 0, rfl, fun i hi => by
    obtain rfl : i = 0 := by simp [oneT, Y] at hi; exact hi
    exact h1⟩⟩
  have hT : Rows w (some ⟨ab, 0, none⟩) (oneT b) := ⟨fun _ => ⟨ab, 0, rfl, fun i hi => by
    obtain rfl : i = 0 := by simp [oneT] at hi; exact hi
    exact h2⟩, fun i => by
    by_cases hi : i = 0
    · subst hi; exact hrow
    · rw [Y_past (by simp [oneT]; omega)]; exact R0_ok w⟩
  have hG : Cells w (some ⟨gb, 0, none⟩) [5] := fun _ => ⟨gb, 0, rfl, fun i hi => by
    obtain rfl : i = 0 := by simp at hi; exact hi
    exact h3⟩
  refine (sum_any _ _ (oneT b) [5] 1 1 w hT hG (by simp [oneT]) (by decide)).mono ?_
  rintro e w' ⟨hb, ⟨_, p, cap, rfl, hc⟩ | ⟨hg, _⟩⟩
  · rw [one_sums] at hc
    obtain ⟨g, o, rfl, hcc⟩ := hc (by simp)
    exact ⟨hb, g, o, cap, rfl, hcc 0 (by simp)⟩
  · exact absurd (one_good b) hg

theorem alloc_same (w : World) (x : Value) (t : TypeId) : (w.alloc (.cells #[x] t)).cell? ⟨w.heap.size, 0, none⟩ = some x := by
  have h : (w.alloc (.cells #[x] t)).heap[w.heap.size]? = some (.cells #[x] t (0, 0)) := by show (w.heap.push _)[w.heap.size]? = _; simp
  simp only [World.cell?, h]
  rfl
theorem alloc_old {w : World} {b i : Nat} {x : Value} (o : Obj) (h : w.cell? ⟨b, i, none⟩ = some x) : (w.alloc o).cell? ⟨b, i, none⟩ = some x :=
  cell_then h (below_new (Below.refl _ _) o)
theorem alloc_size (w : World) (o : Obj) : (w.alloc o).heap.size = w.heap.size + 1 := by show (w.heap.push _).size = _; simp
set_option maxHeartbeats 2000000 in
theorem alive_any (w : World) : Calls Try.prog 7 #[] w fun e w' => e = .returned (.bool true) ∧ Below w.heap.size w w' := by
  go_enter Try.func7, Try.ntmps7
  go_wp2_with (go_at_call 8; (with_reducible refine (sum_one w.heap.size (w.heap.size + 2) (w.heap.size + 1) _ (alloc_old _ (alloc_old _ (alloc_same _ _ _))) ?_ ?_).mono ?_); rotate_left 2; rintro e w1 ⟨hb, g, o, cap, rfl, hc⟩)
  go_ret
  exact ⟨rfl, below_then hb (below_new (below_new (below_new (Below.refl _ _) _) _) _)⟩
  · exact alloc_old _ (by have h := alloc_same (w.alloc (.cells #[.int .i64 3] 3)) (.slice (some ⟨w.heap.size, 0, none⟩) 1 1) 23; rw [alloc_size] at h; exact h)
  · have h := alloc_same ((w.alloc (.cells #[.int .i64 3] 3)).alloc (.cells #[.slice (some ⟨w.heap.size, 0, none⟩) 1 1] 23)) (.int .i64 5) 3
    rw [alloc_size, alloc_size] at h
    exact h
end Go.Proofs.Ytgkahjaoajjgcaa.Mx
namespace Go.Proofs.Ytgkahjaoajjgcaa.Pm
open Go Mx

theorem alive_pc : PC Try.prog 7 [] [] (bv true) [] :=
  pc_flat (fn_ok Try.func7 (by kernel_rfl) (by kernel_rfl)) rfl rfl fun w => alive_any w
end Go.Proofs.Ytgkahjaoajjgcaa.Pm
namespace Go.Proofs.Ytgkahjaoajjgcaa.Pm
open Go

def apartK (ws : Nat → List Nat) (rd : Nat → List Nat) (bf : List (List Nat)) (n : Nat) : Bool :=
  (List.range n).all fun j => (List.range j).all fun i => (bf.getD j []).contains i ||
    (((ws i).all fun k => !(ws j).contains k && !(rd j).contains k) && (ws j).all fun k => !(rd i).contains k)
theorem hits_mem {l : L} {k : Nat} : hits l k = true → k ∈ l.map (·.1) := fun h => by
  obtain ⟨x, hx, rfl⟩ := mem_of_hits h
  exact List.mem_map.2 ⟨x, hx, rfl⟩
theorem apart_of {W : Nat → L} {rd : Nat → List Nat} {ws rs : Nat → List Nat} {bf : List (List Nat)} {n : Nat} (hw : ∀ i, i < n → ∀ x ∈ W i, x.1 ∈ ws i) (hr : ∀ i, i < n → ∀ k ∈ rd i, k ∈ rs i) (h : apartK ws rs bf n = true) : apartB W rd bf n = true := by
  simp only [apartK, apartB, List.all_eq_true, List.mem_range, Bool.or_eq_true, Bool.and_eq_true, Bool.not_eq_true'] at h ⊢
  intro j hj i hi
  rcases h j hj i hi with h1 | ⟨h1, h2⟩
  · exact .inl h1
  · refine .inr ⟨fun x hx => ?_, fun x hx => ?_⟩
    · obtain ⟨h3, h4⟩ := h1 x.1 (hw i (by omega) x hx)
      refine ⟨?_, ?_⟩
      · cases hh : hits (W j) x.1 with
        | false => rfl
        | true =>
          obtain ⟨y, hy, e⟩ := List.mem_map.1 (hits_mem hh)
          have := hw j hj y hy
          rw [e] at this
          rw [List.contains_iff_mem.2 this] at h3
          cases h3
      · cases hh : (rd j).contains x.1 with
        | false => rfl
        | true =>
          have := hr j hj x.1 (List.contains_iff_mem.1 hh)
          rw [List.contains_iff_mem.2 this] at h4
          cases h4
    · have h3 := h2 x.1 (hw j hj x hx)
      cases hh : (rd i).contains x.1 with
      | false => rfl
      | true =>
        have := hr i (by omega) x.1 (List.contains_iff_mem.1 hh)
        rw [List.contains_iff_mem.2 this] at h3
        cases h3
def subK (l m : List Nat) : Bool := l.all fun k => m.contains k
def keysB : List Oper → List Out → List (List Nat × List Nat) → Bool
  | [], [], [] => true
  | o :: os, x :: xs, k :: ks => match subK ((wr o.dst x).map (·.1)) k.1, subK x.reads k.2 with
    | true, true => keysB os xs ks
    | _, _ => false
  | _, _, _ => false
theorem keysB_spec : ∀ {os : List Oper} {xs : List Out} {ks : List (List Nat × List Nat)}, keysB os xs ks = true → ∀ i o x, os[i]? = some o → xs[i]? = some x →
    (∀ y ∈ wr o.dst x, y.1 ∈ (ks.getD i ([], [])).1) ∧ ∀ k ∈ x.reads, k ∈ (ks.getD i ([], [])).2
  | o :: os, x :: xs, k :: ks, h, 0, o', x', ho, hx => by
    simp only [keysB] at h
    split at h
    · rename_i h1 h2
      simp only [List.getElem?_cons_zero, Option.some.injEq] at ho hx
      subst ho; subst hx
      refine ⟨fun y hy => ?_, fun q hq => ?_⟩
      · exact List.contains_iff_mem.1 (List.all_eq_true.1 h1 y.1 (List.mem_map.2 ⟨y, hy, rfl⟩))
      · exact List.contains_iff_mem.1 (List.all_eq_true.1 h2 q hq)
    · cases h
  | o :: os, x :: xs, k :: ks, h, i + 1, o', x', ho, hx => by
    simp only [keysB] at h
    split at h
    · exact keysB_spec h i o' x' (by simpa using ho) (by simpa using hx)
    · cases h
  | [], _, _, _, i, _, _, ho, _ => by simp at ho
  | _ :: _, [], _, _, i, _, _, _, hx => by simp at hx
def evrK (P : Program) (n : Nat) (ops : List Oper) (n0 : Nat) (ans : List (Nat × Ans)) (ks : List (List Nat × List Nat)) (live : List Nat) (l : L) : Option (L × List Prop) :=
  match evs P n ops n0 ans ops 0 l with
  | some (l', obs, outs) => match keysB ops outs ks with
    | true => some (live.map fun k => (k, get l' k), obs)
    | false => none
  | none => none
def drawB (ops : List Oper) (bf : List (List Nat)) (ks : List (List Nat × List Nat)) : Bool := befB ops bf && apartK (fun i => (ks.getD i ([], [])).1) (fun i => (ks.getD i ([], [])).2) bf ops.length
theorem evs_len {P : Program} {n : Nat} {ops : List Oper} {n0 : Nat} {ans : List (Nat × Ans)} : ∀ {r : List Oper} {i : Nat} {l l' : L} {obs : List Prop} {outs : List Out}, evs P n ops n0 ans r i l = some (l', obs, outs) → outs.length = r.length
  | [], i, l, l', obs, outs, h => by
    simp only [evs, Option.some.injEq, Prod.mk.injEq] at h
    obtain ⟨_, _, rfl⟩ := h
    rfl
  | o :: r, i, l, l', obs, outs, h => by
    simp only [evs] at h
    split at h
    case h_2 => cases h
    split at h
    case h_2 => cases h
    rename_i l1 obs1 outs1 he
    simp only [Option.some.injEq, Prod.mk.injEq] at h
    obtain ⟨_, _, rfl⟩ := h
    simp [evs_len he]
theorem regionK_ok {E : Env} {n0 : Nat} {l l' : L} {id : Nat} {ops : Array Oper} {ans : List (Nat × Ans)} {bf : List (List Nat)} {ks : List (List Nat × List Nat)} {live : List Nat} {obs : List Prop} (hm : E.P.follows .mixedOrders = true) (h : evrK E.P E.n ops.toList n0 ans ks live l = some (l', obs)) (hd : drawB ops.toList bf ks = true) (hob : ∀ p ∈ obs, p)
    {Q : Exit → Act → World → Prop} (hQ : ∀ c a, Inv E (· < n0 + 8 * ops.size) c (get l') a → Q .normal a c.w) {c : Cx} {a : Act} (hI : Inv E (· < n0) c (get l) a) : (Code.region id ops true).wp E.P Q a c.w := by
  unfold evrK at h
  split at h
  case h_2 => cases h
  rename_i l1 obs1 outs he
  split at h
  case h_2 => cases h
  rename_i hk
  simp only [Option.some.injEq, Prod.mk.injEq] at h
  obtain ⟨rfl, rfl⟩ := h
  simp only [drawB, Bool.and_eq_true] at hd
  have hl := evs_len he
  have hap : apartB (Wt ops.toList.toArray fun i => outs.getD i out0) (fun i => (outs.getD i out0).reads) bf ops.toList.length = true := by
    refine apart_of (fun i hi x hx => ?_) (fun i hi k hk' => ?_) hd.2
    · have h1 : ops.toList[i]? = some ops.toList[i] := by simp only [List.getElem?_eq_getElem hi]
      have h2 : outs[i]? = some (outs.getD i out0) := by rw [List.getD_eq_getElem?_getD, List.getElem?_eq_getElem (by omega)]; rfl
      refine (keysB_spec hk i _ _ h1 h2).1 x ?_
      have : Wt ops.toList.toArray (fun i => outs.getD i out0) i = wr ops.toList[i].dst (outs.getD i out0) := by
        unfold Wt
        rw [List.getElem?_toArray, h1]
        rfl
      rw [this] at hx
      exact hx
    · have h1 : ops.toList[i]? = some ops.toList[i] := by simp only [List.getElem?_eq_getElem hi]
      have h2 : outs[i]? = some (outs.getD i out0) := by rw [List.getD_eq_getElem?_getD, List.getElem?_eq_getElem (by omega)]; rfl
      exact (keysB_spec hk i _ _ h1 h2).2 k hk'
  obtain ⟨h1, h2, h3⟩ := evs_spec (g0 := get l) (tab := fun i => outs.getD i out0) he (by simp) (fun j _ => by simp) (by
    funext k
    have : ∀ m, fold (get l) (Wt ops.toList.toArray fun i => outs.getD i out0) (fun j => decide (j < 0)) m = get l := fun m => by
      induction m with
      | zero => rfl
      | succ m ih => simp only [fold, Nat.not_lt_zero, decide_false, Bool.false_eq_true, if_false]; exact ih
    rw [this])
  have hops : ops.toList.toArray = ops := by simp
  have hlen : ops.toList.length = ops.size := by simp
  have hstep : ∀ i o, ops.toList[i]? = some o → ∀ g, (∀ k ∈ (outs.getD i out0).reads, g k = fold (get l) (Wt ops.toList.toArray fun i => outs.getD i out0) (fun j => decide (j < i)) ops.toList.length k) → StepOk E ops.toList.toArray i o (outs.getD i out0) (n0 + 8 * i) g := by
    intro i o ho g hg
    obtain ⟨h4, h5, h6⟩ := h3 i o (Nat.zero_le _) ho
    exact gplan_ok ho h6 (run_congr h4 hg) fun p hp => hob p (h5 p hp)
  have hfin : ∀ {c : Cx} {a : Act}, Inv E (fun id => id < n0 + 8 * ops.toList.length) c (fold (get l) (Wt ops.toList.toArray fun i => outs.getD i out0) (fun _ => true) ops.toList.length) a → Q .normal a c.w := by
    intro c a h
    rw [← h2, hlen] at h
    exact hQ c a (h.less fun k v hk => get_live k v hk)
  have hs := any_ops (E := E) (l := ops.toList) (g0 := get l) (tab := fun i => outs.getD i out0) (n0 := n0) hd.1 hap hstep (Q := Q) (fun c a h => hfin h)
      ops.toList.length (Array.replicate ops.toList.length false) ⟨{ c.w with drawn := c.w.drawn + 1 }, c.S, c.own⟩ a (by simp) (by
        rw [left_congr (g := fun _ => false) fun i _ => repl_false _ _]
        exact left_false _) (fun j o _ hj => by
        have hj' : (Array.replicate ops.toList.length false).getD j false = true := hj
        rw [repl_false] at hj'
        cases hj') (by
        have h0 : fold (get l) (Wt ops.toList.toArray fun i => outs.getD i out0) (fun j => (Array.replicate ops.toList.length false).getD j false) ops.toList.length = get l := by
          have e : (fun j => (Array.replicate ops.toList.length false).getD j false) = fun _ => false := funext fun j => repl_false _ j
          rw [e]
          have : ∀ m, fold (get l) (Wt ops.toList.toArray fun i => outs.getD i out0) (fun _ => false) m = get l := fun m => by
            induction m with
            | zero => rfl
            | succ m ih => simp only [fold, Bool.false_eq_true, if_false]; exact ih
          exact this _
        rw [h0]
        exact (hI.drawn _).more fun i hi => .inl hi)
  rw [hops] at hs
  refine wp_region_any hm ?_
  rw [hlen] at hs
  exact hs
theorem T_regionD {P : Program} {n : Nat} {c0 : Cx} {Bor : Nat → Prop} {Q : Post} {n0 : Nat} {l : L} {rs : List Item} {id : Nat} {ops : Array Oper} (ans : List (Nat × Ans)) (bf : List (List Nat)) (ks : List (List Nat × List Nat)) (live : List Nat) {l' : L} {obs : List Prop} (hm : P.follows .mixedOrders = true) (h : evrK P n ops.toList n0 ans ks live l = some (l', obs)) (hd : drawB ops.toList bf ks = true) (hob : ∀ p ∈ obs, p)
    (hT : T P n c0 Bor Q (n0 + 8 * ops.size) l' rs) : T P n c0 Bor Q n0 l (.code (.region id ops true) :: rs) := fun cx a hI =>
  regionK_ok (E := ⟨P, n, c0, Bor⟩) hm h hd hob (fun c a h => ⟨c, rfl, hT c a h⟩) hI
end Go.Proofs.Ytgkahjaoajjgcaa.Pm
