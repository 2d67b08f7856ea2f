/-
  Small helpers: walks. (Printed by wip/pm.) | Decode: walks. (Printed by wip/pm.) | The document's answer: bits. (Printed by wip/pm.) | What was written is read as it was: in plain Lean. | Differences of differences, in plain Lean. | The document's answer: how long. (Printed by wip/pm.) | A frame's bits in the document's way, in plain Lean. | The document's answer: a frame. (Printed by wip/pm.) | Bytes of bits in the document's way, in plain Lean. | The document's answer: bytes. (Printed by wip/pm.) | The document's Encode, in plain Lean.
-/
import Derived.Test.YtfoiadlaekknpaaJLawCWrites3
namespace Go.Proofs.Ytfoiadlaekknpaa.Pm
open Go Co

def oc1 (v : Int) : Int := IntKind.wrap .u64 ((IntKind.wrap .u64 (BitVec.ofInt (IntKind.bits .u64) ((v).fdiv (2 ^ (1 : Int).toNat)) &&& BitVec.ofInt (IntKind.bits .u64) 6148914691236517205).toNat) + (IntKind.wrap .u64 (BitVec.ofInt (IntKind.bits .u64) v &&& BitVec.ofInt (IntKind.bits .u64) 6148914691236517205).toNat))
def oc2 (v : Int) : Int := IntKind.wrap .u64 ((IntKind.wrap .u64 (BitVec.ofInt (IntKind.bits .u64) ((v).fdiv (2 ^ (2 : Int).toNat)) &&& BitVec.ofInt (IntKind.bits .u64) 3689348814741910323).toNat) + (IntKind.wrap .u64 (BitVec.ofInt (IntKind.bits .u64) v &&& BitVec.ofInt (IntKind.bits .u64) 3689348814741910323).toNat))
def oc3 (v : Int) : Int := IntKind.wrap .u64 (BitVec.ofInt (IntKind.bits .u64) (IntKind.wrap .u64 (((v).fdiv (2 ^ (4 : Int).toNat)) + v)) &&& BitVec.ofInt (IntKind.bits .u64) 1085102592571150095).toNat
def oc4 (v : Int) : Int := IntKind.wrap .u64 (v + ((v).fdiv (2 ^ (8 : Int).toNat)))
def oc5 (v : Int) : Int := IntKind.wrap .u64 (v + ((v).fdiv (2 ^ (16 : Int).toNat)))
def oc6 (v : Int) : Int := IntKind.wrap .u64 (v + ((v).fdiv (2 ^ (32 : Int).toNat)))
def oc7 (v : Int) : Int := IntKind.wrap .i64 (BitVec.ofInt (IntKind.bits .i64) (IntKind.wrap .i64 (v)) &&& BitVec.ofInt (IntKind.bits .i64) 127).toNat
def oc (v : Int) : Int := oc7 (oc6 (oc5 (oc4 (oc3 (oc2 (oc1 v))))))
theorem ones64_pc (v : Int) : PC Try.prog 39 [(.av (.int .u64 v))] [] (iv (oc v)) [] := by
  refine pc_intro Try.func39 rfl (by kernel_rfl) (Nat.le_of_ble_eq_true rfl) (by kernel_rfl) (l0 := [ps 0 (.av (.int .u64 v))]) rfl (fun c0 Bor hc0 => ?_)
  refine T_seq ?_
  refine T_region [] [ks 0] (fun _ => mixed) (l' := [ps 0 (.av (.int .u64 v))]) (obs := []) (by kernel_rfl) (obs_nil) ?_
  refine T_seq ?_
  refine T_region [(5, .wrap)] [ks 0] (fun _ => mixed) (l' := [ps 0 (.av (.int .u64 (IntKind.wrap .u64 ((IntKind.wrap .u64 (BitVec.ofInt (IntKind.bits .u64) ((v).fdiv (2 ^ (1 : Int).toNat)) &&& BitVec.ofInt (IntKind.bits .u64) 6148914691236517205).toNat) + (IntKind.wrap .u64 (BitVec.ofInt (IntKind.bits .u64) v &&& BitVec.ofInt (IntKind.bits .u64) 6148914691236517205).toNat)))))]) (obs := [(0 : Int) ≤ 1 ∧ 1 ≤ ((IntKind.bits .u64 : Nat) : Int)]) (by kernel_rfl) (obs_cons (p := (0 : Int) ≤ 1 ∧ 1 ≤ ((IntKind.bits .u64 : Nat) : Int)) (by simp only [IntKind.bits]; omega) (obs_nil)) ?_
  refine T_seq ?_
  obtain ⟨v1, hv1⟩ : ∃ x, oc1 v = x := ⟨_, rfl⟩
  refine T_wk (Wk.eq (show [ps 0 (.av (.int .u64 (IntKind.wrap .u64 ((IntKind.wrap .u64 (BitVec.ofInt (IntKind.bits .u64) ((v).fdiv (2 ^ (1 : Int).toNat)) &&& BitVec.ofInt (IntKind.bits .u64) 6148914691236517205).toNat) + (IntKind.wrap .u64 (BitVec.ofInt (IntKind.bits .u64) v &&& BitVec.ofInt (IntKind.bits .u64) 6148914691236517205).toNat)))))] = [ps 0 (.av (.int .u64 v1))] from by rw [show IntKind.wrap .u64 ((IntKind.wrap .u64 (BitVec.ofInt (IntKind.bits .u64) ((v).fdiv (2 ^ (1 : Int).toNat)) &&& BitVec.ofInt (IntKind.bits .u64) 6148914691236517205).toNat) + (IntKind.wrap .u64 (BitVec.ofInt (IntKind.bits .u64) v &&& BitVec.ofInt (IntKind.bits .u64) 6148914691236517205).toNat)) = v1 from hv1])) ?_
  refine T_region [(5, .wrap)] [ks 0] (fun _ => mixed) (l' := [ps 0 (.av (.int .u64 (IntKind.wrap .u64 ((IntKind.wrap .u64 (BitVec.ofInt (IntKind.bits .u64) ((v1).fdiv (2 ^ (2 : Int).toNat)) &&& BitVec.ofInt (IntKind.bits .u64) 3689348814741910323).toNat) + (IntKind.wrap .u64 (BitVec.ofInt (IntKind.bits .u64) v1 &&& BitVec.ofInt (IntKind.bits .u64) 3689348814741910323).toNat)))))]) (obs := [(0 : Int) ≤ 2 ∧ 2 ≤ ((IntKind.bits .u64 : Nat) : Int)]) (by kernel_rfl) (obs_cons (p := (0 : Int) ≤ 2 ∧ 2 ≤ ((IntKind.bits .u64 : Nat) : Int)) (by simp only [IntKind.bits]; omega) (obs_nil)) ?_
  refine T_seq ?_
  obtain ⟨v2, hv2⟩ : ∃ x, oc2 v1 = x := ⟨_, rfl⟩
  refine T_wk (Wk.eq (show [ps 0 (.av (.int .u64 (IntKind.wrap .u64 ((IntKind.wrap .u64 (BitVec.ofInt (IntKind.bits .u64) ((v1).fdiv (2 ^ (2 : Int).toNat)) &&& BitVec.ofInt (IntKind.bits .u64) 3689348814741910323).toNat) + (IntKind.wrap .u64 (BitVec.ofInt (IntKind.bits .u64) v1 &&& BitVec.ofInt (IntKind.bits .u64) 3689348814741910323).toNat)))))] = [ps 0 (.av (.int .u64 v2))] from by rw [show IntKind.wrap .u64 ((IntKind.wrap .u64 (BitVec.ofInt (IntKind.bits .u64) ((v1).fdiv (2 ^ (2 : Int).toNat)) &&& BitVec.ofInt (IntKind.bits .u64) 3689348814741910323).toNat) + (IntKind.wrap .u64 (BitVec.ofInt (IntKind.bits .u64) v1 &&& BitVec.ofInt (IntKind.bits .u64) 3689348814741910323).toNat)) = v2 from hv2])) ?_
  refine T_region [(3, .wrap)] [ks 0] (fun _ => mixed) (l' := [ps 0 (.av (.int .u64 (IntKind.wrap .u64 (BitVec.ofInt (IntKind.bits .u64) (IntKind.wrap .u64 (((v2).fdiv (2 ^ (4 : Int).toNat)) + v2)) &&& BitVec.ofInt (IntKind.bits .u64) 1085102592571150095).toNat)))]) (obs := [(0 : Int) ≤ 4 ∧ 4 ≤ ((IntKind.bits .u64 : Nat) : Int)]) (by kernel_rfl) (obs_cons (p := (0 : Int) ≤ 4 ∧ 4 ≤ ((IntKind.bits .u64 : Nat) : Int)) (by simp only [IntKind.bits]; omega) (obs_nil)) ?_
  refine T_seq ?_
  obtain ⟨v3, hv3⟩ : ∃ x, oc3 v2 = x := ⟨_, rfl⟩
  refine T_wk (Wk.eq (show [ps 0 (.av (.int .u64 (IntKind.wrap .u64 (BitVec.ofInt (IntKind.bits .u64) (IntKind.wrap .u64 (((v2).fdiv (2 ^ (4 : Int).toNat)) + v2)) &&& BitVec.ofInt (IntKind.bits .u64) 1085102592571150095).toNat)))] = [ps 0 (.av (.int .u64 v3))] from by rw [show IntKind.wrap .u64 (BitVec.ofInt (IntKind.bits .u64) (IntKind.wrap .u64 (((v2).fdiv (2 ^ (4 : Int).toNat)) + v2)) &&& BitVec.ofInt (IntKind.bits .u64) 1085102592571150095).toNat = v3 from hv3])) ?_
  refine T_region [(3, .wrap)] [ks 0] (fun _ => mixed) (l' := [ps 0 (.av (.int .u64 (IntKind.wrap .u64 (v3 + ((v3).fdiv (2 ^ (8 : Int).toNat))))))]) (obs := [(0 : Int) ≤ 8 ∧ 8 ≤ ((IntKind.bits .u64 : Nat) : Int)]) (by kernel_rfl) (obs_cons (p := (0 : Int) ≤ 8 ∧ 8 ≤ ((IntKind.bits .u64 : Nat) : Int)) (by simp only [IntKind.bits]; omega) (obs_nil)) ?_
  refine T_seq ?_
  obtain ⟨v4, hv4⟩ : ∃ x, oc4 v3 = x := ⟨_, rfl⟩
  refine T_wk (Wk.eq (show [ps 0 (.av (.int .u64 (IntKind.wrap .u64 (v3 + ((v3).fdiv (2 ^ (8 : Int).toNat))))))] = [ps 0 (.av (.int .u64 v4))] from by rw [show IntKind.wrap .u64 (v3 + ((v3).fdiv (2 ^ (8 : Int).toNat))) = v4 from hv4])) ?_
  refine T_region [(3, .wrap)] [ks 0] (fun _ => mixed) (l' := [ps 0 (.av (.int .u64 (IntKind.wrap .u64 (v4 + ((v4).fdiv (2 ^ (16 : Int).toNat))))))]) (obs := [(0 : Int) ≤ 16 ∧ 16 ≤ ((IntKind.bits .u64 : Nat) : Int)]) (by kernel_rfl) (obs_cons (p := (0 : Int) ≤ 16 ∧ 16 ≤ ((IntKind.bits .u64 : Nat) : Int)) (by simp only [IntKind.bits]; omega) (obs_nil)) ?_
  refine T_seq ?_
  obtain ⟨v5, hv5⟩ : ∃ x, oc5 v4 = x := ⟨_, rfl⟩
  refine T_wk (Wk.eq (show [ps 0 (.av (.int .u64 (IntKind.wrap .u64 (v4 + ((v4).fdiv (2 ^ (16 : Int).toNat))))))] = [ps 0 (.av (.int .u64 v5))] from by rw [show IntKind.wrap .u64 (v4 + ((v4).fdiv (2 ^ (16 : Int).toNat))) = v5 from hv5])) ?_
  refine T_region [(3, .wrap)] [ks 0] (fun _ => mixed) (l' := [ps 0 (.av (.int .u64 (IntKind.wrap .u64 (v5 + ((v5).fdiv (2 ^ (32 : Int).toNat))))))]) (obs := [(0 : Int) ≤ 32 ∧ 32 ≤ ((IntKind.bits .u64 : Nat) : Int)]) (by kernel_rfl) (obs_cons (p := (0 : Int) ≤ 32 ∧ 32 ≤ ((IntKind.bits .u64 : Nat) : Int)) (by simp only [IntKind.bits]; omega) (obs_nil)) ?_
  refine T_seq ?_
  obtain ⟨v6, hv6⟩ : ∃ x, oc6 v5 = x := ⟨_, rfl⟩
  refine T_wk (Wk.eq (show [ps 0 (.av (.int .u64 (IntKind.wrap .u64 (v5 + ((v5).fdiv (2 ^ (32 : Int).toNat))))))] = [ps 0 (.av (.int .u64 v6))] from by rw [show IntKind.wrap .u64 (v5 + ((v5).fdiv (2 ^ (32 : Int).toNat))) = v6 from hv6])) ?_
  refine T_region [(1, .wrap)] [ks 2] (fun _ => mixed) (l' := [ps 2 (iv (IntKind.wrap .i64 (BitVec.ofInt (IntKind.bits .i64) (IntKind.wrap .i64 (v6)) &&& BitVec.ofInt (IntKind.bits .i64) 127).toNat))]) (obs := []) (by kernel_rfl) (obs_nil) ?_
  obtain ⟨v7, hv7⟩ : ∃ x, oc7 v6 = x := ⟨_, rfl⟩
  refine T_wk (Wk.eq (show [ps 2 (iv (IntKind.wrap .i64 (BitVec.ofInt (IntKind.bits .i64) (IntKind.wrap .i64 (v6)) &&& BitVec.ofInt (IntKind.bits .i64) 127).toNat))] = [ps 2 (iv v7)] from by rw [show (IntKind.wrap .i64 (BitVec.ofInt (IntKind.bits .i64) (IntKind.wrap .i64 (v6)) &&& BitVec.ofInt (IntKind.bits .i64) 127).toNat) = v7 from hv7])) ?_
  rw [show oc v = v7 from by unfold oc; rw [hv1, hv2, hv3, hv4, hv5, hv6, hv7]]
  exact T_ret fun cx_ a_ hI_ => ret_ok (H' := []) (.inr rfl) (Wk.ren2 [ps 2 (iv v7)] 0 hc0 [] rfl rfl (by kernel_rfl) (by kernel_rfl)) rfl (obs_nil) (fun cx_ a_ hI_ => ret_res (l' := [ps 2 (iv v7)]) (by kernel_rfl) cx_ a_ hI_) hI_
theorem oc_0 : (List.range 8).all (fun v => decide (0 < oc (((v + 0 : Nat)) : Int)) == decide (v + 0 ≠ 0)) = true := by decide +kernel
theorem oc_1 : (List.range 8).all (fun v => decide (0 < oc (((v + 8 : Nat)) : Int)) == decide (v + 8 ≠ 0)) = true := by decide +kernel
theorem oc_2 : (List.range 8).all (fun v => decide (0 < oc (((v + 16 : Nat)) : Int)) == decide (v + 16 ≠ 0)) = true := by decide +kernel
theorem oc_3 : (List.range 8).all (fun v => decide (0 < oc (((v + 24 : Nat)) : Int)) == decide (v + 24 ≠ 0)) = true := by decide +kernel
theorem oc_4 : (List.range 8).all (fun v => decide (0 < oc (((v + 32 : Nat)) : Int)) == decide (v + 32 ≠ 0)) = true := by decide +kernel
theorem oc_5 : (List.range 8).all (fun v => decide (0 < oc (((v + 40 : Nat)) : Int)) == decide (v + 40 ≠ 0)) = true := by decide +kernel
theorem oc_6 : (List.range 8).all (fun v => decide (0 < oc (((v + 48 : Nat)) : Int)) == decide (v + 48 ≠ 0)) = true := by decide +kernel
theorem oc_7 : (List.range 8).all (fun v => decide (0 < oc (((v + 56 : Nat)) : Int)) == decide (v + 56 ≠ 0)) = true := by decide +kernel
theorem oc_8 : (List.range 8).all (fun v => decide (0 < oc (((v + 64 : Nat)) : Int)) == decide (v + 64 ≠ 0)) = true := by decide +kernel
theorem oc_9 : (List.range 8).all (fun v => decide (0 < oc (((v + 72 : Nat)) : Int)) == decide (v + 72 ≠ 0)) = true := by decide +kernel
theorem oc_10 : (List.range 8).all (fun v => decide (0 < oc (((v + 80 : Nat)) : Int)) == decide (v + 80 ≠ 0)) = true := by decide +kernel
theorem oc_11 : (List.range 8).all (fun v => decide (0 < oc (((v + 88 : Nat)) : Int)) == decide (v + 88 ≠ 0)) = true := by decide +kernel
theorem oc_12 : (List.range 8).all (fun v => decide (0 < oc (((v + 96 : Nat)) : Int)) == decide (v + 96 ≠ 0)) = true := by decide +kernel
theorem oc_13 : (List.range 8).all (fun v => decide (0 < oc (((v + 104 : Nat)) : Int)) == decide (v + 104 ≠ 0)) = true := by decide +kernel
theorem oc_14 : (List.range 8).all (fun v => decide (0 < oc (((v + 112 : Nat)) : Int)) == decide (v + 112 ≠ 0)) = true := by decide +kernel
theorem oc_15 : (List.range 8).all (fun v => decide (0 < oc (((v + 120 : Nat)) : Int)) == decide (v + 120 ≠ 0)) = true := by decide +kernel
theorem oc_pos {v : Int} (h0 : 0 ≤ v) (h1 : v < 128) : 0 < oc v ↔ v ≠ 0 := by
  obtain ⟨m, rfl⟩ : ∃ m : Nat, v = (m : Int) := ⟨v.toNat, by omega⟩
  have : (decide (0 < oc ((m : Nat) : Int)) == decide (m ≠ 0)) = true := by
    obtain ⟨r, q, hr, hq, rfl⟩ : ∃ r q, r < 8 ∧ q < 16 ∧ m = r + 8 * q := ⟨m % 8, m / 8, by omega, by omega, by omega⟩
    have hr' := List.mem_range.2 hr
    have h16 : q = 0 ∨ q = 1 ∨ q = 2 ∨ q = 3 ∨ q = 4 ∨ q = 5 ∨ q = 6 ∨ q = 7 ∨ q = 8 ∨ q = 9 ∨ q = 10 ∨ q = 11 ∨ q = 12 ∨ q = 13 ∨ q = 14 ∨ q = 15 := by omega
    rcases h16 with rfl | rfl | rfl | rfl | rfl | rfl | rfl | rfl | rfl | rfl | rfl | rfl | rfl | rfl | rfl | rfl
    · exact List.all_eq_true.1 oc_0 r hr'
    · exact List.all_eq_true.1 oc_1 r hr'
    · exact List.all_eq_true.1 oc_2 r hr'
    · exact List.all_eq_true.1 oc_3 r hr'
    · exact List.all_eq_true.1 oc_4 r hr'
    · exact List.all_eq_true.1 oc_5 r hr'
    · exact List.all_eq_true.1 oc_6 r hr'
    · exact List.all_eq_true.1 oc_7 r hr'
    · exact List.all_eq_true.1 oc_8 r hr'
    · exact List.all_eq_true.1 oc_9 r hr'
    · exact List.all_eq_true.1 oc_10 r hr'
    · exact List.all_eq_true.1 oc_11 r hr'
    · exact List.all_eq_true.1 oc_12 r hr'
    · exact List.all_eq_true.1 oc_13 r hr'
    · exact List.all_eq_true.1 oc_14 r hr'
    · exact List.all_eq_true.1 oc_15 r hr'
  by_cases h : 0 < oc (m : Int)
  · rw [decide_eq_true h] at this; simp at this; exact ⟨fun _ => by omega, fun _ => h⟩
  · rw [decide_eq_false h] at this; simp at this; exact ⟨fun k => absurd k h, fun k => by omega⟩
theorem ones_pc (v : Int) : PC Try.prog 22 [(.av (.int .u64 v))] [] (iv (oc v)) [] := by
  refine pc_intro Try.func22 rfl (by kernel_rfl) (Nat.le_of_ble_eq_true rfl) (by kernel_rfl) (l0 := [ps 0 (.av (.int .u64 v))]) rfl (fun c0 Bor hc0 => ?_)
  refine T_seq ?_
  refine T_region [] [ks 0] (fun _ => mixed) (l' := [ps 0 (.av (.int .u64 v))]) (obs := []) (by kernel_rfl) (obs_nil) ?_
  refine T_seq ?_
  refine T_elsec ?_
  refine T_skip ?_
  refine T_seq ?_
  refine T_region [(1, .call [] [(.av (.int .u64 v))] [] (iv (oc v)) [])] [ks 2] (fun _ => mixed) (l' := [ps 2 (iv (oc v))]) (obs := [PC Try.prog 39 [(.av (.int .u64 v))] [] (iv (oc v)) [], [(.av (.int .u64 v))] = renL (sigi [] 16) [(.av (.int .u64 v))]]) (by kernel_rfl) (obs_cons (p := PC Try.prog 39 [(.av (.int .u64 v))] [] (iv (oc v)) []) (ones64_pc v) (obs_cons (p := [(.av (.int .u64 v))] = renL (sigi [] 16) [(.av (.int .u64 v))]) rfl (obs_nil))) ?_
  exact T_ret fun cx_ a_ hI_ => ret_ok (H' := []) (.inr rfl) (Wk.ren2 [ps 2 (iv (oc v))] 0 hc0 [] rfl rfl (by kernel_rfl) (by kernel_rfl)) rfl (obs_nil) (fun cx_ a_ hI_ => ret_res (l' := [ps 2 (iv (oc v))]) (by kernel_rfl) cx_ a_ hI_) hI_
theorem same_pc (u z : List Int) (hx : u.length ≤ 140737488355328) (hy : z.length ≤ 140737488355328) : PC Try.prog 12 [(.ssl (ints u) 0 u.length), (.ssl (ints z) 0 z.length)] [] (bv (decide (u = z))) [] := by
  refine pc_intro Try.func12 rfl (by kernel_rfl) (Nat.le_of_ble_eq_true rfl) (by kernel_rfl) (l0 := [ps 0 (.ssl (ints u) 0 u.length), ps 1 (.ssl (ints z) 0 z.length)]) rfl (fun c0 Bor hc0 => ?_)
  refine T_seq ?_
  refine T_region [] [ks 0, ks 1] (fun _ => mixed) (l' := [ps 0 (.ssl (ints u) 0 u.length), ps 1 (.ssl (ints z) 0 z.length)]) (obs := []) (by kernel_rfl) (obs_nil) ?_
  refine T_seq ?_
  refine T_seq ?_
  refine T_region [] [ks 0, ks 1, ks 10] (fun _ => mixed) (l' := [ps 0 (.ssl (ints u) 0 u.length), ps 1 (.ssl (ints z) 0 z.length), ps 10 (bv (!(decide (((u.length : Nat) : Int) = ((z.length : Nat) : Int)))))]) (obs := []) (by kernel_rfl) (obs_nil) ?_
  by_cases h1 : ((u.length : Nat) : Int) = ((z.length : Nat) : Int)
  · refine T_else (b := (!(decide (((u.length : Nat) : Int) = ((z.length : Nat) : Int))))) rfl (congrArg Bool.not (decide_eq_true h1)) ?_
    refine T_skip ?_
    refine T_seq ?_
    refine T_seq ?_
    refine T_region [] [ks 0, ks 1, ks 12, ks 13] (fun _ => mixed) (l' := [ps 0 (.ssl (ints u) 0 u.length), ps 1 (.ssl (ints z) 0 z.length), ps 12 (iv ((u.length : Nat) : Int)), ps 13 (iv 0)]) (obs := []) (by kernel_rfl) (obs_nil) ?_
    refine T_block ?_
    refine T_loop (α := {x : Nat // x ≤ u.length ∧ u.take x = z.take x}) (fun x => [ps 0 (.ssl (ints u) 0 u.length), ps 1 (.ssl (ints z) 0 z.length), ps 12 (iv ((u.length : Nat) : Int)), ps 13 (iv ((x.1 : Nat) : Int))]) (fun x => u.length - x.1) 0 ⟨0, ⟨Nat.zero_le _, rfl⟩⟩ (Wk.ren2 [ps 0 (.ssl (ints u) 0 u.length), ps 1 (.ssl (ints z) 0 z.length), ps 12 (iv ((u.length : Nat) : Int)), ps 13 (iv ((0 : Nat) : Int))] 0 hc0 [] rfl rfl (by kernel_rfl) (by kernel_rfl)) ?_
    rintro ⟨i, ⟨hi, ht⟩⟩
    refine T_seq ?_
    refine T_region [] [ks 0, ks 1, ks 12, ks 13, ks 14] (fun _ => mixed) (l' := [ps 0 (.ssl (ints u) 0 u.length), ps 1 (.ssl (ints z) 0 z.length), ps 12 (iv ((u.length : Nat) : Int)), ps 13 (iv ((i : Nat) : Int)), ps 14 (bv (decide (((i : Nat) : Int) < ((u.length : Nat) : Int))))]) (obs := []) (by kernel_rfl) (obs_nil) ?_
    refine T_seq ?_
    by_cases h2 : ((i : Nat) : Int) < ((u.length : Nat) : Int)
    · refine T_then (b := (decide (((i : Nat) : Int) < ((u.length : Nat) : Int)))) rfl (decide_eq_true h2) ?_
      refine T_skip ?_
      refine T_seq ?_
      refine T_block ?_
      refine T_seq ?_
      refine T_region [] [ks 0, ks 1, ks 5, ks 12, ks 13] (fun _ => mixed) (l' := [ps 0 (.ssl (ints u) 0 u.length), ps 1 (.ssl (ints z) 0 z.length), ps 5 (iv ((i : Nat) : Int)), ps 12 (iv ((u.length : Nat) : Int)), ps 13 (iv ((i : Nat) : Int))]) (obs := []) (by kernel_rfl) (obs_nil) ?_
      refine T_seq ?_
      refine T_regionD [(2, .nat i), (3, .val (iv (u.getD i 0))), (6, .nat i), (7, .val (iv (z.getD i 0)))] [[], [], [0, 1], [0, 1, 2], [], [], [4, 5], [4, 5, 6], [0, 1, 2, 3, 4, 5, 6, 7]] [([32], [0]), ([34], [10]), ([36], [32, 34]), ([38], [36]), ([40], [2]), ([42], [10]), ([44], [40, 42]), ([46], [44]), ([48], [38, 46])] [ks 0, ks 1, ks 12, ks 13, ks 24] (l' := [ps 0 (.ssl (ints u) 0 u.length), ps 1 (.ssl (ints z) 0 z.length), ps 12 (iv ((u.length : Nat) : Int)), ps 13 (iv ((i : Nat) : Int)), ps 24 (bv (!(decide ((u.getD i 0) = (z.getD i 0)))))]) (obs := [(0 : Int) ≤ ((i : Nat) : Int) ∧ ((i : Nat) : Int) < ((u.length : Nat) : Int), 0 + (((i : Nat) : Int) : Int).toNat * 1 = i, i + 1 ≤ ((ints u)).length ∧ (((ints u)).drop i).take 1 = [(iv (u.getD i 0))], (0 : Int) ≤ ((i : Nat) : Int) ∧ ((i : Nat) : Int) < ((z.length : Nat) : Int), 0 + (((i : Nat) : Int) : Int).toNat * 1 = i, i + 1 ≤ ((ints z)).length ∧ (((ints z)).drop i).take 1 = [(iv (z.getD i 0))]]) mixed (by kernel_rfl) (by kernel_rfl) (obs_cons (p := (0 : Int) ≤ ((i : Nat) : Int) ∧ ((i : Nat) : Int) < ((u.length : Nat) : Int)) (by omega) (obs_cons (p := 0 + (((i : Nat) : Int) : Int).toNat * 1 = i) (by omega) (obs_cons (p := i + 1 ≤ ((ints u)).length ∧ (((ints u)).drop i).take 1 = [(iv (u.getD i 0))]) (ints_at (by omega)) (obs_cons (p := (0 : Int) ≤ ((i : Nat) : Int) ∧ ((i : Nat) : Int) < ((z.length : Nat) : Int)) (by omega) (obs_cons (p := 0 + (((i : Nat) : Int) : Int).toNat * 1 = i) (by omega) (obs_cons (p := i + 1 ≤ ((ints z)).length ∧ (((ints z)).drop i).take 1 = [(iv (z.getD i 0))]) (ints_at (by omega)) (obs_nil))))))) ?_
      by_cases h3 : (u.getD i 0) = (z.getD i 0)
      · refine T_else (b := (!(decide ((u.getD i 0) = (z.getD i 0))))) rfl (congrArg Bool.not (decide_eq_true h3)) ?_
        refine T_skip ?_
        refine T_blk ?_
        refine T_region [] [ks 0, ks 1, ks 12, ks 13] (fun _ => mixed) (l' := [ps 0 (.ssl (ints u) 0 u.length), ps 1 (.ssl (ints z) 0 z.length), ps 12 (iv ((u.length : Nat) : Int)), ps 13 (iv (((i : Nat) : Int) + 1))]) (obs := [InK .i64 (((i : Nat) : Int) + 1)]) (by kernel_rfl) (obs_cons (p := InK .i64 (((i : Nat) : Int) + 1)) (by simp only [InK]; omega) (obs_nil)) ?_
        have he := h3
        exact T_back ⟨i + 1, ⟨by omega, take_next (by omega) (by omega) ht he⟩⟩ (Wk.ren2 [ps 0 (.ssl (ints u) 0 u.length), ps 1 (.ssl (ints z) 0 z.length), ps 12 (iv ((u.length : Nat) : Int)), ps 13 (iv (((i + 1) : Nat) : Int))] 0 hc0 [] rfl rfl (by kernel_rfl) (by kernel_rfl)) (show u.length - (i + 1) < u.length - i from by omega)
      · refine T_then (b := (!(decide ((u.getD i 0) = (z.getD i 0))))) rfl (congrArg Bool.not (decide_eq_false h3)) ?_
        refine T_seq ?_
        refine T_region [] [ks 4] (fun _ => mixed) (l' := [ps 4 (bv false)]) (obs := []) (by kernel_rfl) (obs_nil) ?_
        rw [decide_eq_false (fun e => by subst e; simp_all)]
        exact T_ret fun cx_ a_ hI_ => loop_ret (ret_ok (H' := []) (.inr rfl) (Wk.ren2 [ps 4 (bv false)] 0 hc0 [] rfl rfl (by kernel_rfl) (by kernel_rfl)) rfl (obs_nil) (fun cx_ a_ hI_ => ret_res (l' := [ps 4 (bv false)]) (by kernel_rfl) cx_ a_ hI_) hI_)
    · refine T_else (b := (decide (((i : Nat) : Int) < ((u.length : Nat) : Int)))) rfl (decide_eq_false h2) ?_
      refine T_break rfl rfl ?_
      refine T_seq ?_
      refine T_region [] [ks 4] (fun _ => mixed) (l' := [ps 4 (bv true)]) (obs := []) (by kernel_rfl) (obs_nil) ?_
      obtain rfl : i = u.length := by omega
      rw [List.take_length, List.take_of_length_le (by omega)] at ht
      rw [decide_eq_true ht]
      exact T_ret fun cx_ a_ hI_ => ret_ok (H' := []) (.inr rfl) (Wk.ren2 [ps 4 (bv true)] 0 hc0 [] rfl rfl (by kernel_rfl) (by kernel_rfl)) rfl (obs_nil) (fun cx_ a_ hI_ => ret_res (l' := [ps 4 (bv true)]) (by kernel_rfl) cx_ a_ hI_) hI_
  · refine T_then (b := (!(decide (((u.length : Nat) : Int) = ((z.length : Nat) : Int))))) rfl (congrArg Bool.not (decide_eq_false h1)) ?_
    refine T_seq ?_
    refine T_region [] [ks 4] (fun _ => mixed) (l' := [ps 4 (bv false)]) (obs := []) (by kernel_rfl) (obs_nil) ?_
    rw [decide_eq_false (fun e => by subst e; simp_all)]
    exact T_ret fun cx_ a_ hI_ => ret_ok (H' := []) (.inr rfl) (Wk.ren2 [ps 4 (bv false)] 0 hc0 [] rfl rfl (by kernel_rfl) (by kernel_rfl)) rfl (obs_nil) (fun cx_ a_ hI_ => ret_res (l' := [ps 4 (bv false)]) (by kernel_rfl) cx_ a_ hI_) hI_
end Go.Proofs.Ytfoiadlaekknpaa.Pm
namespace Go.Proofs.Ytfoiadlaekknpaa.Pm
open Go Co

attribute [local irreducible] rnum rones rrice rsample bitsB rdec rframe rfr riceV unf oc dec enc
theorem nil_ssl {P : Program} (c : Cx) (v : Value) (h : Rep P c (.av (.slice none 0 0)) v) : Rep P c (.ssl (ints []) 0 ([] : List Int).length) v := by
  rw [rep_av h]
  exact .sh .emp
theorem frame_as (b : ByteArray) (hb : b.size ≤ 140737488355328) (x : Int) (many : Nat) (hx : x = ((many : Nat) : Int)) (hk : many ≤ 256) (s : Rs) (hs : s.1 <:+ bitsB b) :
    PC Try.prog 21 [.opt 0 0, iv x] (RdH b s) (.ssl (ints (rframe many s).1) 0 (rframe many s).1.length) (RdH b (rframe many s).2) := by subst hx; exact frame_pc b hb many hk s hs
theorem dec_next {b : ByteArray} {n j : Nat} {l : List Int} {t : Rs} {r : List Int × Rs} (h1 : l.length < n) (h2 : ¬ t.2 = true) (hs : t.1 <:+ bitsB b) (hj : t.2 = true ∨ n < l.length + j) (hr : rdec n j l t = r) :
    (rframe (min 256 (n - l.length)) t).2.1 <:+ bitsB b ∧ rdec n (j - 1) (l ++ (rframe (min 256 (n - l.length)) t).1) (rframe (min 256 (n - l.length)) t).2 = r ∧ ((rframe (min 256 (n - l.length)) t).2.2 = true ∨ n < (l ++ (rframe (min 256 (n - l.length)) t).1).length + (j - 1)) ∧ (l ++ (rframe (min 256 (n - l.length)) t).1).length ≤ n ∧ j - 1 < j := by
  obtain ⟨j', rfl, hr'⟩ := rdec_next h1 h2 hj hr
  have h3 := rframe_le (min 256 (n - l.length)) t
  rw [List.length_append, Nat.add_sub_cancel]
  refine ⟨rframe_suf _ hs, hr', ?_, by omega, by omega⟩
  rcases rframe_len (min 256 (n - l.length)) t with h | h
  · exact .inl h
  · refine .inr ?_
    rcases hj with h4 | h4
    · exact absurd h4 h2
    · omega
theorem left_eq (b : ByteArray) (D : List Bool) : 8 * ((b.size : Nat) : Int) - posI b D = ((D.length : Nat) : Int) := by unfold posI; omega
theorem rnum_small {k : Nat} {t : Rs} (h : k ≤ 7) : 0 ≤ (rnum k 0 t).1 ∧ (rnum k 0 t).1 < 128 := by
  have h1 := rnum_bd k 0 t (Int.le_refl _)
  have h2 : (2 : Int) ^ k ≤ 128 := by
    have := Nat.pow_le_pow_right (n := 2) (by omega) h
    exact_mod_cast this
  omega
theorem ones_iff {t : Rs} (ht : ¬ t.2 = true) (h : t.1.length ≤ 7) : 0 < oc (rnum t.1.length 0 t).1 ↔ ¬ t.1.all (· == false) = true := by
  have h1 := rnum_small (t := t) h
  refine (oc_pos h1.1 h1.2).trans (not_congr ?_)
  obtain ⟨D, f⟩ := t
  have hf : f = false := Bool.eq_false_iff.2 ht
  subst hf
  refine (rnum_zero D.length 0 D (Int.le_refl _) rfl).trans ?_
  simp
theorem ones_yes {t : Rs} (ht : ¬ t.2 = true) (h : t.1.length ≤ 7) (k : 0 < oc (rnum t.1.length 0 t).1) : ¬ t.1.all (· == false) = true := (ones_iff ht h).1 k
theorem ones_no {t : Rs} (ht : ¬ t.2 = true) (h : t.1.length ≤ 7) (k : ¬ 0 < oc (rnum t.1.length 0 t).1) : t.1.all (· == false) = true := Decidable.of_not_not fun e => k ((ones_iff ht h).2 e)
set_option maxRecDepth 100000 in
theorem decode_pc (b : ByteArray) (hb : b.size ≤ 140737488355328) : PC Try.prog 10 [(sv b)] [] (.tup [(.ssl (ints ((dec b).1)) 0 (((dec b).1).length)), (iv ((dec b).2))]) [] := by
  have hn0 := rnum_bd 24 0 (bitsB b, false) (Int.le_refl _)
  obtain ⟨n, hn⟩ : ∃ n : Nat, (rnum 24 0 (bitsB b, false)).1 = (n : Int) := ⟨(rnum 24 0 (bitsB b, false)).1.toNat, by omega⟩
  have hn24 : n < 16777216 := by omega
  obtain ⟨R, hR⟩ : ∃ R, rdec n (n + 1) [] (rnum 24 0 (bitsB b, false)).2 = R := ⟨_, rfl⟩
  refine pc_intro Try.func10 rfl (by kernel_rfl) (Nat.le_of_ble_eq_true rfl) (by kernel_rfl) (l0 := [ps 0 (sv b)]) rfl (fun c0 Bor hc0 => ?_)
  refine T_seq ?_
  refine T_region [] [ks 0] (fun _ => mixed) (l' := [ps 0 (sv b)]) (obs := []) (by kernel_rfl) (obs_nil) ?_
  refine T_seq ?_
  refine T_region [] [ks 0, ks 4, kb 32] (fun _ => mixed) (l' := [ps 0 (sv b), ps 4 (.opt 32 0), pb 32 46 [(sv b), (iv 0), (bv false)]]) (obs := []) (by kernel_rfl) (obs_nil) ?_
  refine T_seq ?_
  refine T_wk (Wk.eq (show [ps 0 (sv b), ps 4 (.opt 32 0), pb 32 46 [(sv b), (iv 0), (bv false)]] = [ps 0 (sv b), ps 4 (.opt 32 0), pb 32 46 [(sv b), (iv (posI b (bitsB b))), (bv false)]] from by rw [show posI b (bitsB b) = 0 from by unfold posI; rw [bitsB_length]; omega])) ?_
  refine T_region [(1, .call [32] [(.opt 0 0), (iv 24)] [some (46, [(sv b), (iv (posI b (bitsB b))), (bv false)])] (iv ((rnum 24 0 ((bitsB b), false)).1)) [some (46, [(sv b), (iv (posI b (rnum 24 0 ((bitsB b), false)).2.1)), (bv (rnum 24 0 ((bitsB b), false)).2.2)])])] [ks 0, ks 4, ks 5, kb 32] (fun _ => mixed) (l' := [ps 0 (sv b), ps 4 (.opt 32 0), ps 5 (iv ((rnum 24 0 ((bitsB b), false)).1)), pb 32 46 [(sv b), (iv (posI b (rnum 24 0 ((bitsB b), false)).2.1)), (bv (rnum 24 0 ((bitsB b), false)).2.2)]]) (obs := [PC Try.prog 20 [(.opt 0 0), (iv 24)] [some (46, [(sv b), (iv (posI b (bitsB b))), (bv false)])] (iv ((rnum 24 0 ((bitsB b), false)).1)) [some (46, [(sv b), (iv (posI b (rnum 24 0 ((bitsB b), false)).2.1)), (bv (rnum 24 0 ((bitsB b), false)).2.2)])], [(.opt 32 0), (iv 24)] = renL (sigi [32] 56) [(.opt 0 0), (iv 24)], [(sv b), (iv (posI b (bitsB b))), (bv false)] = renL (sigi [32] 56) [(sv b), (iv (posI b (bitsB b))), (bv false)]]) (by kernel_rfl) (obs_cons (p := PC Try.prog 20 [(.opt 0 0), (iv 24)] [some (46, [(sv b), (iv (posI b (bitsB b))), (bv false)])] (iv ((rnum 24 0 ((bitsB b), false)).1)) [some (46, [(sv b), (iv (posI b (rnum 24 0 ((bitsB b), false)).2.1)), (bv (rnum 24 0 ((bitsB b), false)).2.2)])]) (number_pc b hb 24 (by omega) ((bitsB b), false) (List.suffix_refl _)) (obs_cons (p := [(.opt 32 0), (iv 24)] = renL (sigi [32] 56) [(.opt 0 0), (iv 24)]) rfl (obs_cons (p := [(sv b), (iv (posI b (bitsB b))), (bv false)] = renL (sigi [32] 56) [(sv b), (iv (posI b (bitsB b))), (bv false)]) rfl (obs_nil)))) ?_
  refine T_seq ?_
  refine T_seq ?_
  refine T_region [] [ks 0, ks 4, ks 5, ks 16, kb 32] (fun _ => mixed) (l' := [ps 0 (sv b), ps 4 (.opt 32 0), ps 5 (iv ((rnum 24 0 ((bitsB b), false)).1)), ps 16 (bv (rnum 24 0 ((bitsB b), false)).2.2), pb 32 46 [(sv b), (iv (posI b (rnum 24 0 ((bitsB b), false)).2.1)), (bv (rnum 24 0 ((bitsB b), false)).2.2)]]) (obs := []) (by kernel_rfl) (obs_nil) ?_
  by_cases h1 : (rnum 24 0 ((bitsB b), false)).2.2 = true
  · refine T_then (b := (rnum 24 0 ((bitsB b), false)).2.2) rfl h1 ?_
    refine T_seq ?_
    refine T_region [] [ks 2, ks 3] (fun _ => mixed) (l' := [ps 2 (.av (.slice none 0 0)), ps 3 (iv 2)]) (obs := []) (by kernel_rfl) (obs_nil) ?_
    rw [dec_a h1]
    refine T_wk (Wk.slot 2 (.av (.slice none 0 0)) (.ssl (ints []) 0 (([] : List Int).length)) (by kernel_rfl) nil_ssl) ?_
    refine T_wk (Wk.less (l' := [ps 2 (.ssl (ints []) 0 (([] : List Int).length)), ps 3 (iv 2)]) 120 (by kernel_rfl) (by kernel_rfl)) ?_
    exact T_ret fun cx_ a_ hI_ => ret_ok (H' := []) (.inr rfl) (Wk.ren2 [ps 2 (.ssl (ints []) 0 (([] : List Int).length)), ps 3 (iv 2)] 0 hc0 [] rfl rfl (by kernel_rfl) (by kernel_rfl)) rfl (obs_nil) (fun cx_ a_ hI_ => ret_res (l' := [ps 2 (.ssl (ints []) 0 (([] : List Int).length)), ps 3 (iv 2)]) (by kernel_rfl) cx_ a_ hI_) hI_
  · refine T_else (b := (rnum 24 0 ((bitsB b), false)).2.2) rfl (Bool.eq_false_iff.2 h1) ?_
    refine T_skip ?_
    refine T_seq ?_
    refine T_seq ?_
    refine T_wk (Wk.eq (show [ps 0 (sv b), ps 4 (.opt 32 0), ps 5 (iv ((rnum 24 0 ((bitsB b), false)).1)), ps 16 (bv (rnum 24 0 ((bitsB b), false)).2.2), pb 32 46 [(sv b), (iv (posI b (rnum 24 0 ((bitsB b), false)).2.1)), (bv (rnum 24 0 ((bitsB b), false)).2.2)]] = [ps 0 (sv b), ps 4 (.opt 32 0), ps 5 (iv ((n : Nat) : Int)), ps 16 (bv (rnum 24 0 ((bitsB b), false)).2.2), pb 32 46 [(sv b), (iv (posI b (rnum 24 0 ((bitsB b), false)).2.1)), (bv (rnum 24 0 ((bitsB b), false)).2.2)]] from by rw [hn])) ?_
    refine T_region [] [ks 0, ks 4, ks 5, ks 18, kb 32] (fun _ => mixed) (l' := [ps 0 (sv b), ps 4 (.opt 32 0), ps 5 (iv ((n : Nat) : Int)), ps 18 (bv (decide (1048576 < ((n : Nat) : Int)))), pb 32 46 [(sv b), (iv (posI b (rnum 24 0 ((bitsB b), false)).2.1)), (bv (rnum 24 0 ((bitsB b), false)).2.2)]]) (obs := []) (by kernel_rfl) (obs_nil) ?_
    by_cases h2 : 1048576 < ((n : Nat) : Int)
    · refine T_then (b := (decide (1048576 < ((n : Nat) : Int)))) rfl (decide_eq_true h2) ?_
      refine T_seq ?_
      refine T_region [] [ks 2, ks 3] (fun _ => mixed) (l' := [ps 2 (.av (.slice none 0 0)), ps 3 (iv 5)]) (obs := []) (by kernel_rfl) (obs_nil) ?_
      rw [dec_b h1 hn h2]
      refine T_wk (Wk.slot 2 (.av (.slice none 0 0)) (.ssl (ints []) 0 (([] : List Int).length)) (by kernel_rfl) nil_ssl) ?_
      refine T_wk (Wk.less (l' := [ps 2 (.ssl (ints []) 0 (([] : List Int).length)), ps 3 (iv 5)]) 136 (by kernel_rfl) (by kernel_rfl)) ?_
      exact T_ret fun cx_ a_ hI_ => ret_ok (H' := []) (.inr rfl) (Wk.ren2 [ps 2 (.ssl (ints []) 0 (([] : List Int).length)), ps 3 (iv 5)] 0 hc0 [] rfl rfl (by kernel_rfl) (by kernel_rfl)) rfl (obs_nil) (fun cx_ a_ hI_ => ret_res (l' := [ps 2 (.ssl (ints []) 0 (([] : List Int).length)), ps 3 (iv 5)]) (by kernel_rfl) cx_ a_ hI_) hI_
    · refine T_else (b := (decide (1048576 < ((n : Nat) : Int)))) rfl (decide_eq_false h2) ?_
      refine T_skip ?_
      refine T_seq ?_
      refine T_region [] [ks 0, ks 4, ks 5, ks 6, kb 32] (fun _ => mixed) (l' := [ps 0 (sv b), ps 4 (.opt 32 0), ps 5 (iv ((n : Nat) : Int)), ps 6 (.av (.slice none 0 0)), pb 32 46 [(sv b), (iv (posI b (rnum 24 0 ((bitsB b), false)).2.1)), (bv (rnum 24 0 ((bitsB b), false)).2.2)]]) (obs := []) (by kernel_rfl) (obs_nil) ?_
      refine T_seq ?_
      refine T_block ?_
      refine T_wk (Wk.nil (s := 6) 3 (by kernel_rfl)) ?_
      refine T_wk (Wk.less (l' := [ps 0 (sv b), ps 4 (.opt 32 0), ps 5 (iv ((n : Nat) : Int)), ps 6 (.osl 128 0 0), pb 32 46 [(sv b), (iv (posI b (rnum 24 0 ((bitsB b), false)).2.1)), (bv (rnum 24 0 ((bitsB b), false)).2.2)], pb 128 3 []]) 129 (by kernel_rfl) (by kernel_rfl)) ?_
      refine T_wk (Wk.eq (show [ps 0 (sv b), ps 4 (.opt 32 0), ps 5 (iv ((n : Nat) : Int)), ps 6 (.osl 128 0 0), pb 32 46 [(sv b), (iv (posI b (rnum 24 0 ((bitsB b), false)).2.1)), (bv (rnum 24 0 ((bitsB b), false)).2.2)], pb 128 3 []] = [ps 0 (sv b), ps 4 (.opt 32 0), ps 5 (iv ((n : Nat) : Int)), ps 6 (.osl 128 0 (([] : List Int).length)), pb 32 46 [(sv b), (iv (posI b (rnum 24 0 ((bitsB b), false)).2.1)), (bv (rnum 24 0 ((bitsB b), false)).2.2)], pb 128 3 (ints [])] from by rfl)) ?_
      refine T_loop (α := {x : Nat × List Int × Rs // x.2.2.1 <:+ bitsB b ∧ rdec n x.1 x.2.1 x.2.2 = R ∧ (x.2.2.2 = true ∨ n < x.2.1.length + x.1) ∧ x.2.1.length ≤ n}) (fun x => [ps 0 (sv b), ps 4 (.opt 0 0), ps 5 (iv ((n : Nat) : Int)), ps 6 (.osl 1 0 x.1.2.1.length), pb 0 46 [(sv b), (iv (posI b x.1.2.2.1)), (bv x.1.2.2.2)], pb 1 3 (ints x.1.2.1)]) (fun x => x.1.1) 2 ⟨(n + 1, [], (rnum 24 0 ((bitsB b), false)).2), ⟨rnum_suf 24 0 (s := (bitsB b, false)) (List.suffix_refl _), hR, .inr (by show n < 0 + (n + 1); omega), Nat.zero_le _⟩⟩ (Wk.ren3 [ps 0 (sv b), ps 4 (.opt 0 0), ps 5 (iv ((n : Nat) : Int)), ps 6 (.osl 1 0 ([] : List Int).length), pb 0 46 [(sv b), (iv (posI b ((rnum 24 0 ((bitsB b), false)).2).1)), (bv ((rnum 24 0 ((bitsB b), false)).2).2)], pb 1 3 (ints ([] : List Int))] 0 hc0 [32, 128] [(kb 1, (ints ([] : List Int)))] (obs_cons (ints_shd _) (obs_nil)) (by kernel_rfl) rfl rfl (by kernel_rfl) (by kernel_rfl)) ?_
      rintro ⟨⟨j, l, t⟩, ⟨hs, hr, hj, hl⟩⟩
      dsimp only at hs hr hj hl
      refine T_seq ?_
      refine T_seq ?_
      by_cases h3 : ((l.length : Nat) : Int) < ((n : Nat) : Int)
      · refine T_region [(5, .gd true (.no)), (6, .gd true (.no)), (7, .gd true (.no)), (8, .gd true (.no)), (9, .gd true (.no)), (10, .yes true)] [ks 0, ks 4, ks 5, ks 6, ks 29, kb 0, kb 1] (fun _ => mixed) (l' := [ps 0 (sv b), ps 4 (.opt 0 0), ps 5 (iv ((n : Nat) : Int)), ps 6 (.osl 1 0 l.length), ps 29 (bv (!t.2)), pb 0 46 [(sv b), (iv (posI b t.1)), (bv t.2)], pb 1 3 (ints l)]) (obs := [(decide (((l.length : Nat) : Int) < ((n : Nat) : Int))) = true, (decide (((l.length : Nat) : Int) < ((n : Nat) : Int))) = true, (decide (((l.length : Nat) : Int) < ((n : Nat) : Int))) = true, (decide (((l.length : Nat) : Int) < ((n : Nat) : Int))) = true, (decide (((l.length : Nat) : Int) < ((n : Nat) : Int))) = true, (decide (((l.length : Nat) : Int) < ((n : Nat) : Int))) = true]) (by kernel_rfl) (obs_cons (p := (decide (((l.length : Nat) : Int) < ((n : Nat) : Int))) = true) (decide_eq_true h3) (obs_cons (p := (decide (((l.length : Nat) : Int) < ((n : Nat) : Int))) = true) (decide_eq_true h3) (obs_cons (p := (decide (((l.length : Nat) : Int) < ((n : Nat) : Int))) = true) (decide_eq_true h3) (obs_cons (p := (decide (((l.length : Nat) : Int) < ((n : Nat) : Int))) = true) (decide_eq_true h3) (obs_cons (p := (decide (((l.length : Nat) : Int) < ((n : Nat) : Int))) = true) (decide_eq_true h3) (obs_cons (p := (decide (((l.length : Nat) : Int) < ((n : Nat) : Int))) = true) (decide_eq_true h3) (obs_nil))))))) ?_
        by_cases h4 : t.2 = true
        · refine T_else (b := (!t.2)) rfl (congrArg Bool.not h4) ?_
          refine T_break rfl rfl ?_
          refine T_seq ?_
          have hlft := left_eq b t.1
          have hsl := suf_len hs
          refine T_region [] [ks 4, ks 6, ks 7, kb 0, kb 1] (fun _ => mixed) (l' := [ps 4 (.opt 0 0), ps 6 (.osl 1 0 l.length), ps 7 (iv ((8 * (((b).size : Nat) : Int)) - (posI b t.1))), pb 0 46 [(sv b), (iv (posI b t.1)), (bv t.2)], pb 1 3 (ints l)]) (obs := [InK .i64 (8 * (((b).size : Nat) : Int)), InK .i64 ((8 * (((b).size : Nat) : Int)) - (posI b t.1))]) (by kernel_rfl) (obs_cons (p := InK .i64 (8 * (((b).size : Nat) : Int))) (by simp only [InK]; omega) (obs_cons (p := InK .i64 ((8 * (((b).size : Nat) : Int)) - (posI b t.1))) (by simp only [InK]; omega) (obs_nil))) ?_
          refine T_seq ?_
          refine T_seq ?_
          have hz := (rnum_bd t.1.length 0 t (Int.le_refl _)).1
          have hz2 : t.1.length ≤ 7 → (rnum t.1.length 0 t).1 < 128 := fun h => (rnum_small h).2
          refine T_wk (Wk.eq (show [ps 4 (.opt 0 0), ps 6 (.osl 1 0 l.length), ps 7 (iv ((8 * (((b).size : Nat) : Int)) - (posI b t.1))), pb 0 46 [(sv b), (iv (posI b t.1)), (bv t.2)], pb 1 3 (ints l)] = [ps 4 (.opt 0 0), ps 6 (.osl 1 0 l.length), ps 7 (iv ((t.1.length : Nat) : Int)), pb 0 46 [(sv b), (iv (posI b t.1)), (bv t.2)], pb 1 3 (ints l)] from by rw [show (8 * (((b).size : Nat) : Int)) - (posI b t.1) = ((t.1.length : Nat) : Int) from by unfold posI; unfold posI at hlft; omega])) ?_
          refine T_region [(5, .gd true .no), (6, .gd true .no), (7, .yes true), (9, .gd true .no), (10, .gd true .no), (11, .gd true .no), (12, .gd true .no), (13, .gd true .no), (14, .gd true .no)] [ks 6, ks 62, kb 1] (fun _ => mixed) (l' := [ps 6 (.osl 1 0 l.length), ps 62 (bv true), pb 1 3 (ints l)]) (obs := [t.2 = true, t.2 = true, t.2 = true, true = true, true = true, true = true, true = true, true = true, true = true]) (by kernel_rfl) (obs_cons (p := t.2 = true) h4 (obs_cons (p := t.2 = true) h4 (obs_cons (p := t.2 = true) h4 (obs_cons (p := true = true) rfl (obs_cons (p := true = true) rfl (obs_cons (p := true = true) rfl (obs_cons (p := true = true) rfl (obs_cons (p := true = true) rfl (obs_cons (p := true = true) rfl (obs_nil)))))))))) ?_
          refine T_then (b := true) rfl rfl ?_
          refine T_seq ?_
          refine T_region [] [ks 2, ks 3] (fun _ => mixed) (l' := [ps 2 (.av (.slice none 0 0)), ps 3 (iv 2)]) (obs := []) (by kernel_rfl) (obs_nil) ?_
          have hE := rdec_stop (.inr h4) hr
          have hD := dec_c h1 hn h2 (hR.trans hE)
          rw [if_pos h4] at hD
          rw [hD]
          refine T_wk (Wk.slot 2 (.av (.slice none 0 0)) (.ssl (ints []) 0 (([] : List Int).length)) (by kernel_rfl) nil_ssl) ?_
          refine T_wk (Wk.less (l' := [ps 2 (.ssl (ints []) 0 (([] : List Int).length)), ps 3 (iv 2)]) 306 (by kernel_rfl) (by kernel_rfl)) ?_
          exact T_ret fun cx_ a_ hI_ => ret_ok (H' := []) (.inr rfl) (Wk.ren2 [ps 2 (.ssl (ints []) 0 (([] : List Int).length)), ps 3 (iv 2)] 0 hc0 [] rfl rfl (by kernel_rfl) (by kernel_rfl)) rfl (obs_nil) (fun cx_ a_ hI_ => ret_res (l' := [ps 2 (.ssl (ints []) 0 (([] : List Int).length)), ps 3 (iv 2)]) (by kernel_rfl) cx_ a_ hI_) hI_
        · refine T_then (b := (!t.2)) rfl (congrArg Bool.not (Bool.eq_false_iff.2 h4)) ?_
          refine T_skip ?_
          refine T_block ?_
          have hfl := rframe_le (min 256 (n - l.length)) t
          refine T_region [(7, .call [0] [(.opt 0 0), (iv (min 256 (((n : Nat) : Int) - ((l.length : Nat) : Int))))] [some (46, [(sv b), (iv (posI b t.1)), (bv t.2)])] (.ssl (ints ((rframe (min 256 (n - l.length)) t).1)) 0 (((rframe (min 256 (n - l.length)) t).1).length)) [some (46, [(sv b), (iv (posI b (rframe (min 256 (n - l.length)) t).2.1)), (bv (rframe (min 256 (n - l.length)) t).2.2)])]), (8, .app (some (ints ((rframe (min 256 (n - l.length)) t).1))) (some (ints (l ++ ((rframe (min 256 (n - l.length)) t).1)))))] [ks 0, ks 4, ks 5, ks 6, kb 0, kb 154] (fun _ => mixed) (l' := [ps 0 (sv b), ps 4 (.opt 0 0), ps 5 (iv ((n : Nat) : Int)), ps 6 (.osl 154 0 (l.length + (((rframe (min 256 (n - l.length)) t).1).length))), pb 0 46 [(sv b), (iv (posI b (rframe (min 256 (n - l.length)) t).2.1)), (bv (rframe (min 256 (n - l.length)) t).2.2)], pb 154 3 (ints (l ++ ((rframe (min 256 (n - l.length)) t).1)))]) (obs := [InK .i64 (((n : Nat) : Int) - ((l.length : Nat) : Int)), PC Try.prog 21 [(.opt 0 0), (iv (min 256 (((n : Nat) : Int) - ((l.length : Nat) : Int))))] [some (46, [(sv b), (iv (posI b t.1)), (bv t.2)])] (.ssl (ints ((rframe (min 256 (n - l.length)) t).1)) 0 (((rframe (min 256 (n - l.length)) t).1).length)) [some (46, [(sv b), (iv (posI b (rframe (min 256 (n - l.length)) t).2.1)), (bv (rframe (min 256 (n - l.length)) t).2.2)])], [(.opt 0 0), (iv (min 256 (((n : Nat) : Int) - ((l.length : Nat) : Int))))] = renL (sigi [0] 146) [(.opt 0 0), (iv (min 256 (((n : Nat) : Int) - ((l.length : Nat) : Int))))], [(sv b), (iv (posI b t.1)), (bv t.2)] = renL (sigi [0] 146) [(sv b), (iv (posI b t.1)), (bv t.2)], 0 + (((rframe (min 256 (n - l.length)) t).1).length) * 1 ≤ ((ints ((rframe (min 256 (n - l.length)) t).1))).length ∧ (((ints ((rframe (min 256 (n - l.length)) t).1))).drop 0).take ((((rframe (min 256 (n - l.length)) t).1).length) * 1) = (ints ((rframe (min 256 (n - l.length)) t).1)), ((ints l)).length = l.length * 1, (l.length + (((rframe (min 256 (n - l.length)) t).1).length)) * 8 ≤ 140737488355328 ∧ l.length + (((rframe (min 256 (n - l.length)) t).1).length) ≤ 9223372036854775807, (ints l) ++ (ints ((rframe (min 256 (n - l.length)) t).1)) = (ints (l ++ ((rframe (min 256 (n - l.length)) t).1)))]) (by kernel_rfl) (obs_cons (p := InK .i64 (((n : Nat) : Int) - ((l.length : Nat) : Int))) (by simp only [InK]; omega) (obs_cons (p := PC Try.prog 21 [(.opt 0 0), (iv (min 256 (((n : Nat) : Int) - ((l.length : Nat) : Int))))] [some (46, [(sv b), (iv (posI b t.1)), (bv t.2)])] (.ssl (ints ((rframe (min 256 (n - l.length)) t).1)) 0 (((rframe (min 256 (n - l.length)) t).1).length)) [some (46, [(sv b), (iv (posI b (rframe (min 256 (n - l.length)) t).2.1)), (bv (rframe (min 256 (n - l.length)) t).2.2)])]) (frame_as b hb _ (min 256 (n - l.length)) (by omega) (by omega) t hs) (obs_cons (p := [(.opt 0 0), (iv (min 256 (((n : Nat) : Int) - ((l.length : Nat) : Int))))] = renL (sigi [0] 146) [(.opt 0 0), (iv (min 256 (((n : Nat) : Int) - ((l.length : Nat) : Int))))]) rfl (obs_cons (p := [(sv b), (iv (posI b t.1)), (bv t.2)] = renL (sigi [0] 146) [(sv b), (iv (posI b t.1)), (bv t.2)]) rfl (obs_cons (p := 0 + (((rframe (min 256 (n - l.length)) t).1).length) * 1 ≤ ((ints ((rframe (min 256 (n - l.length)) t).1))).length ∧ (((ints ((rframe (min 256 (n - l.length)) t).1))).drop 0).take ((((rframe (min 256 (n - l.length)) t).1).length) * 1) = (ints ((rframe (min 256 (n - l.length)) t).1))) (by have h9 := ints_len (rframe (min 256 (n - l.length)) t).1; refine ⟨by omega, ?_⟩; rw [List.drop_zero, Nat.mul_one, ← h9, List.take_length]) (obs_cons (p := ((ints l)).length = l.length * 1) (by simp [ints_len]) (obs_cons (p := (l.length + (((rframe (min 256 (n - l.length)) t).1).length)) * 8 ≤ 140737488355328 ∧ l.length + (((rframe (min 256 (n - l.length)) t).1).length) ≤ 9223372036854775807) (by omega) (obs_cons (p := (ints l) ++ (ints ((rframe (min 256 (n - l.length)) t).1)) = (ints (l ++ ((rframe (min 256 (n - l.length)) t).1)))) (flat_app (fun n => [iv n]) l ((rframe (min 256 (n - l.length)) t).1)).symm (obs_nil))))))))) ?_
          refine T_blk ?_
          have hq := dec_next (by omega) h4 hs hj hr
          exact T_back ⟨(j - 1, (l ++ (rframe (min 256 (n - l.length)) t).1), (rframe (min 256 (n - l.length)) t).2), ⟨hq.1, hq.2.1, hq.2.2.1, hq.2.2.2.1⟩⟩ (Wk.trans (Wk.eq (show [ps 0 (sv b), ps 4 (.opt 0 0), ps 5 (iv ((n : Nat) : Int)), ps 6 (.osl 154 0 (l.length + (((rframe (min 256 (n - l.length)) t).1).length))), pb 0 46 [(sv b), (iv (posI b (rframe (min 256 (n - l.length)) t).2.1)), (bv (rframe (min 256 (n - l.length)) t).2.2)], pb 154 3 (ints (l ++ ((rframe (min 256 (n - l.length)) t).1)))] = [ps 0 (sv b), ps 4 (.opt 0 0), ps 5 (iv ((n : Nat) : Int)), ps 6 (.osl 154 0 ((l ++ (rframe (min 256 (n - l.length)) t).1).length)), pb 0 46 [(sv b), (iv (posI b (rframe (min 256 (n - l.length)) t).2.1)), (bv (rframe (min 256 (n - l.length)) t).2.2)], pb 154 3 (ints (l ++ (rframe (min 256 (n - l.length)) t).1))] from by rw [List.length_append])) (Wk.ren3 [ps 0 (sv b), ps 4 (.opt 0 0), ps 5 (iv ((n : Nat) : Int)), ps 6 (.osl 1 0 (l ++ (rframe (min 256 (n - l.length)) t).1).length), pb 0 46 [(sv b), (iv (posI b ((rframe (min 256 (n - l.length)) t).2).1)), (bv ((rframe (min 256 (n - l.length)) t).2).2)], pb 1 3 (ints (l ++ (rframe (min 256 (n - l.length)) t).1))] 0 hc0 [0, 154] [(kb 1, (ints (l ++ (rframe (min 256 (n - l.length)) t).1)))] (obs_cons (ints_shd _) (obs_nil)) (by kernel_rfl) rfl rfl (by kernel_rfl) (by kernel_rfl))) (show (j - 1) < j from hq.2.2.2.2)
      · refine T_region [(5, .gd false .no), (6, .gd false .no), (7, .gd false .no), (8, .gd false .no), (9, .gd false .no), (10, .yes false)] [ks 0, ks 4, ks 5, ks 6, ks 29, kb 0, kb 1] (fun _ => mixed) (l' := [ps 0 (sv b), ps 4 (.opt 0 0), ps 5 (iv ((n : Nat) : Int)), ps 6 (.osl 1 0 l.length), ps 29 (bv false), pb 0 46 [(sv b), (iv (posI b t.1)), (bv t.2)], pb 1 3 (ints l)]) (obs := [(decide (((l.length : Nat) : Int) < ((n : Nat) : Int))) = false, (decide (((l.length : Nat) : Int) < ((n : Nat) : Int))) = false, (decide (((l.length : Nat) : Int) < ((n : Nat) : Int))) = false, (decide (((l.length : Nat) : Int) < ((n : Nat) : Int))) = false, (decide (((l.length : Nat) : Int) < ((n : Nat) : Int))) = false, (decide (((l.length : Nat) : Int) < ((n : Nat) : Int))) = false]) (by kernel_rfl) (obs_cons (p := (decide (((l.length : Nat) : Int) < ((n : Nat) : Int))) = false) (decide_eq_false h3) (obs_cons (p := (decide (((l.length : Nat) : Int) < ((n : Nat) : Int))) = false) (decide_eq_false h3) (obs_cons (p := (decide (((l.length : Nat) : Int) < ((n : Nat) : Int))) = false) (decide_eq_false h3) (obs_cons (p := (decide (((l.length : Nat) : Int) < ((n : Nat) : Int))) = false) (decide_eq_false h3) (obs_cons (p := (decide (((l.length : Nat) : Int) < ((n : Nat) : Int))) = false) (decide_eq_false h3) (obs_cons (p := (decide (((l.length : Nat) : Int) < ((n : Nat) : Int))) = false) (decide_eq_false h3) (obs_nil))))))) ?_
        refine T_else (b := false) rfl rfl ?_
        refine T_break rfl rfl ?_
        refine T_seq ?_
        have hlft := left_eq b t.1
        have hsl := suf_len hs
        refine T_region [] [ks 4, ks 6, ks 7, kb 0, kb 1] (fun _ => mixed) (l' := [ps 4 (.opt 0 0), ps 6 (.osl 1 0 l.length), ps 7 (iv ((8 * (((b).size : Nat) : Int)) - (posI b t.1))), pb 0 46 [(sv b), (iv (posI b t.1)), (bv t.2)], pb 1 3 (ints l)]) (obs := [InK .i64 (8 * (((b).size : Nat) : Int)), InK .i64 ((8 * (((b).size : Nat) : Int)) - (posI b t.1))]) (by kernel_rfl) (obs_cons (p := InK .i64 (8 * (((b).size : Nat) : Int))) (by simp only [InK]; omega) (obs_cons (p := InK .i64 ((8 * (((b).size : Nat) : Int)) - (posI b t.1))) (by simp only [InK]; omega) (obs_nil))) ?_
        refine T_seq ?_
        refine T_seq ?_
        have hz := (rnum_bd t.1.length 0 t (Int.le_refl _)).1
        have hz2 : t.1.length ≤ 7 → (rnum t.1.length 0 t).1 < 128 := fun h => (rnum_small h).2
        refine T_wk (Wk.eq (show [ps 4 (.opt 0 0), ps 6 (.osl 1 0 l.length), ps 7 (iv ((8 * (((b).size : Nat) : Int)) - (posI b t.1))), pb 0 46 [(sv b), (iv (posI b t.1)), (bv t.2)], pb 1 3 (ints l)] = [ps 4 (.opt 0 0), ps 6 (.osl 1 0 l.length), ps 7 (iv ((t.1.length : Nat) : Int)), pb 0 46 [(sv b), (iv (posI b t.1)), (bv t.2)], pb 1 3 (ints l)] from by rw [show (8 * (((b).size : Nat) : Int)) - (posI b t.1) = ((t.1.length : Nat) : Int) from by unfold posI; unfold posI at hlft; omega])) ?_
        by_cases h5 : t.2 = true
        · refine T_region [(5, .gd true .no), (6, .gd true .no), (7, .yes true), (9, .gd true .no), (10, .gd true .no), (11, .gd true .no), (12, .gd true .no), (13, .gd true .no), (14, .gd true .no)] [ks 6, ks 62, kb 1] (fun _ => mixed) (l' := [ps 6 (.osl 1 0 l.length), ps 62 (bv true), pb 1 3 (ints l)]) (obs := [t.2 = true, t.2 = true, t.2 = true, true = true, true = true, true = true, true = true, true = true, true = true]) (by kernel_rfl) (obs_cons (p := t.2 = true) h5 (obs_cons (p := t.2 = true) h5 (obs_cons (p := t.2 = true) h5 (obs_cons (p := true = true) rfl (obs_cons (p := true = true) rfl (obs_cons (p := true = true) rfl (obs_cons (p := true = true) rfl (obs_cons (p := true = true) rfl (obs_cons (p := true = true) rfl (obs_nil)))))))))) ?_
          refine T_then (b := true) rfl rfl ?_
          refine T_seq ?_
          refine T_region [] [ks 2, ks 3] (fun _ => mixed) (l' := [ps 2 (.av (.slice none 0 0)), ps 3 (iv 2)]) (obs := []) (by kernel_rfl) (obs_nil) ?_
          have hE := rdec_stop (.inl (by omega)) hr
          have hD := dec_c h1 hn h2 (hR.trans hE)
          rw [if_pos h5] at hD
          rw [hD]
          refine T_wk (Wk.slot 2 (.av (.slice none 0 0)) (.ssl (ints []) 0 (([] : List Int).length)) (by kernel_rfl) nil_ssl) ?_
          refine T_wk (Wk.less (l' := [ps 2 (.ssl (ints []) 0 (([] : List Int).length)), ps 3 (iv 2)]) 306 (by kernel_rfl) (by kernel_rfl)) ?_
          exact T_ret fun cx_ a_ hI_ => ret_ok (H' := []) (.inr rfl) (Wk.ren2 [ps 2 (.ssl (ints []) 0 (([] : List Int).length)), ps 3 (iv 2)] 0 hc0 [] rfl rfl (by kernel_rfl) (by kernel_rfl)) rfl (obs_nil) (fun cx_ a_ hI_ => ret_res (l' := [ps 2 (.ssl (ints []) 0 (([] : List Int).length)), ps 3 (iv 2)]) (by kernel_rfl) cx_ a_ hI_) hI_
        · by_cases h6 : 7 < ((t.1.length : Nat) : Int)
          · refine T_region [(5, .gd false (.no)), (6, .gd false (.no)), (7, .yes false), (9, .gd true .no), (10, .gd true .no), (11, .gd true .no), (12, .gd true .no), (13, .gd true .no), (14, .gd true .no), (15, .yes true)] [ks 6, ks 62, kb 1] (fun _ => mixed) (l' := [ps 6 (.osl 1 0 l.length), ps 62 (bv true), pb 1 3 (ints l)]) (obs := [t.2 = false, t.2 = false, t.2 = false, (decide (7 < ((t.1.length : Nat) : Int))) = true, (decide (7 < ((t.1.length : Nat) : Int))) = true, (decide (7 < ((t.1.length : Nat) : Int))) = true, (decide (7 < ((t.1.length : Nat) : Int))) = true, (decide (7 < ((t.1.length : Nat) : Int))) = true, (decide (7 < ((t.1.length : Nat) : Int))) = true, (decide (7 < ((t.1.length : Nat) : Int))) = true]) (by kernel_rfl) (obs_cons (p := t.2 = false) (Bool.eq_false_iff.2 h5) (obs_cons (p := t.2 = false) (Bool.eq_false_iff.2 h5) (obs_cons (p := t.2 = false) (Bool.eq_false_iff.2 h5) (obs_cons (p := (decide (7 < ((t.1.length : Nat) : Int))) = true) (decide_eq_true h6) (obs_cons (p := (decide (7 < ((t.1.length : Nat) : Int))) = true) (decide_eq_true h6) (obs_cons (p := (decide (7 < ((t.1.length : Nat) : Int))) = true) (decide_eq_true h6) (obs_cons (p := (decide (7 < ((t.1.length : Nat) : Int))) = true) (decide_eq_true h6) (obs_cons (p := (decide (7 < ((t.1.length : Nat) : Int))) = true) (decide_eq_true h6) (obs_cons (p := (decide (7 < ((t.1.length : Nat) : Int))) = true) (decide_eq_true h6) (obs_cons (p := (decide (7 < ((t.1.length : Nat) : Int))) = true) (decide_eq_true h6) (obs_nil))))))))))) ?_
            refine T_then (b := true) rfl rfl ?_
            refine T_seq ?_
            refine T_region [] [ks 2, ks 3] (fun _ => mixed) (l' := [ps 2 (.av (.slice none 0 0)), ps 3 (iv 2)]) (obs := []) (by kernel_rfl) (obs_nil) ?_
            have hE := rdec_stop (.inl (by omega)) hr
            have hD := dec_c h1 hn h2 (hR.trans hE)
            rw [if_neg h5] at hD
            rw [if_pos (by omega)] at hD
            rw [hD]
            refine T_wk (Wk.slot 2 (.av (.slice none 0 0)) (.ssl (ints []) 0 (([] : List Int).length)) (by kernel_rfl) nil_ssl) ?_
            refine T_wk (Wk.less (l' := [ps 2 (.ssl (ints []) 0 (([] : List Int).length)), ps 3 (iv 2)]) 306 (by kernel_rfl) (by kernel_rfl)) ?_
            exact T_ret fun cx_ a_ hI_ => ret_ok (H' := []) (.inr rfl) (Wk.ren2 [ps 2 (.ssl (ints []) 0 (([] : List Int).length)), ps 3 (iv 2)] 0 hc0 [] rfl rfl (by kernel_rfl) (by kernel_rfl)) rfl (obs_nil) (fun cx_ a_ hI_ => ret_res (l' := [ps 2 (.ssl (ints []) 0 (([] : List Int).length)), ps 3 (iv 2)]) (by kernel_rfl) cx_ a_ hI_) hI_
          · refine T_region [(5, .gd false (.no)), (6, .gd false (.no)), (7, .yes false), (9, .gd false (.no)), (10, .gd false (.no)), (11, .gd false (.call [0] [(.opt 0 0), (iv ((t.1.length : Nat) : Int))] [some (46, [(sv b), (iv (posI b t.1)), (bv t.2)])] (iv ((rnum t.1.length 0 t).1)) [some (46, [(sv b), (iv (posI b (rnum t.1.length 0 t).2.1)), (bv (rnum t.1.length 0 t).2.2)])])), (12, .gd false (.no)), (13, .gd false (.call [] [(.av (.int .u64 ((rnum t.1.length 0 t).1)))] [] (iv (oc ((rnum t.1.length 0 t).1))) [])), (14, .gd false (.no)), (15, .yes false)] [ks 6, ks 62, kb 1] (fun _ => mixed) (l' := [ps 6 (.osl 1 0 l.length), ps 62 (bv (decide (0 < (oc ((rnum t.1.length 0 t).1))))), pb 1 3 (ints l)]) (obs := [t.2 = false, t.2 = false, t.2 = false, (decide (7 < ((t.1.length : Nat) : Int))) = false, (decide (7 < ((t.1.length : Nat) : Int))) = false, (decide (7 < ((t.1.length : Nat) : Int))) = false, PC Try.prog 20 [(.opt 0 0), (iv ((t.1.length : Nat) : Int))] [some (46, [(sv b), (iv (posI b t.1)), (bv t.2)])] (iv ((rnum t.1.length 0 t).1)) [some (46, [(sv b), (iv (posI b (rnum t.1.length 0 t).2.1)), (bv (rnum t.1.length 0 t).2.2)])], [(.opt 0 0), (iv ((t.1.length : Nat) : Int))] = renL (sigi [0] 250) [(.opt 0 0), (iv ((t.1.length : Nat) : Int))], [(sv b), (iv (posI b t.1)), (bv t.2)] = renL (sigi [0] 250) [(sv b), (iv (posI b t.1)), (bv t.2)], (decide (7 < ((t.1.length : Nat) : Int))) = false, InK .u64 ((rnum t.1.length 0 t).1), (decide (7 < ((t.1.length : Nat) : Int))) = false, PC Try.prog 22 [(.av (.int .u64 ((rnum t.1.length 0 t).1)))] [] (iv (oc ((rnum t.1.length 0 t).1))) [], [(.av (.int .u64 ((rnum t.1.length 0 t).1)))] = renL (sigi [] 266) [(.av (.int .u64 ((rnum t.1.length 0 t).1)))], (decide (7 < ((t.1.length : Nat) : Int))) = false, (decide (7 < ((t.1.length : Nat) : Int))) = false]) (by kernel_rfl) (obs_cons (p := t.2 = false) (Bool.eq_false_iff.2 h5) (obs_cons (p := t.2 = false) (Bool.eq_false_iff.2 h5) (obs_cons (p := t.2 = false) (Bool.eq_false_iff.2 h5) (obs_cons (p := (decide (7 < ((t.1.length : Nat) : Int))) = false) (decide_eq_false h6) (obs_cons (p := (decide (7 < ((t.1.length : Nat) : Int))) = false) (decide_eq_false h6) (obs_cons (p := (decide (7 < ((t.1.length : Nat) : Int))) = false) (decide_eq_false h6) (obs_cons (p := PC Try.prog 20 [(.opt 0 0), (iv ((t.1.length : Nat) : Int))] [some (46, [(sv b), (iv (posI b t.1)), (bv t.2)])] (iv ((rnum t.1.length 0 t).1)) [some (46, [(sv b), (iv (posI b (rnum t.1.length 0 t).2.1)), (bv (rnum t.1.length 0 t).2.2)])]) (number_pc b hb t.1.length (by omega) t hs) (obs_cons (p := [(.opt 0 0), (iv ((t.1.length : Nat) : Int))] = renL (sigi [0] 250) [(.opt 0 0), (iv ((t.1.length : Nat) : Int))]) rfl (obs_cons (p := [(sv b), (iv (posI b t.1)), (bv t.2)] = renL (sigi [0] 250) [(sv b), (iv (posI b t.1)), (bv t.2)]) rfl (obs_cons (p := (decide (7 < ((t.1.length : Nat) : Int))) = false) (decide_eq_false h6) (obs_cons (p := InK .u64 ((rnum t.1.length 0 t).1)) (by simp only [InK]; omega) (obs_cons (p := (decide (7 < ((t.1.length : Nat) : Int))) = false) (decide_eq_false h6) (obs_cons (p := PC Try.prog 22 [(.av (.int .u64 ((rnum t.1.length 0 t).1)))] [] (iv (oc ((rnum t.1.length 0 t).1))) []) (ones_pc ((rnum t.1.length 0 t).1)) (obs_cons (p := [(.av (.int .u64 ((rnum t.1.length 0 t).1)))] = renL (sigi [] 266) [(.av (.int .u64 ((rnum t.1.length 0 t).1)))]) rfl (obs_cons (p := (decide (7 < ((t.1.length : Nat) : Int))) = false) (decide_eq_false h6) (obs_cons (p := (decide (7 < ((t.1.length : Nat) : Int))) = false) (decide_eq_false h6) (obs_nil))))))))))))))))) ?_
            by_cases h7 : 0 < (oc ((rnum t.1.length 0 t).1))
            · refine T_then (b := (decide (0 < (oc ((rnum t.1.length 0 t).1))))) rfl (decide_eq_true h7) ?_
              refine T_seq ?_
              refine T_region [] [ks 2, ks 3] (fun _ => mixed) (l' := [ps 2 (.av (.slice none 0 0)), ps 3 (iv 2)]) (obs := []) (by kernel_rfl) (obs_nil) ?_
              have hE := rdec_stop (.inl (by omega)) hr
              have hD := dec_c h1 hn h2 (hR.trans hE)
              rw [if_neg h5] at hD
              rw [if_neg (by omega)] at hD
              rw [if_neg (ones_yes h5 (by omega) h7)] at hD
              rw [hD]
              refine T_wk (Wk.slot 2 (.av (.slice none 0 0)) (.ssl (ints []) 0 (([] : List Int).length)) (by kernel_rfl) nil_ssl) ?_
              refine T_wk (Wk.less (l' := [ps 2 (.ssl (ints []) 0 (([] : List Int).length)), ps 3 (iv 2)]) 306 (by kernel_rfl) (by kernel_rfl)) ?_
              exact T_ret fun cx_ a_ hI_ => ret_ok (H' := []) (.inr rfl) (Wk.ren2 [ps 2 (.ssl (ints []) 0 (([] : List Int).length)), ps 3 (iv 2)] 0 hc0 [] rfl rfl (by kernel_rfl) (by kernel_rfl)) rfl (obs_nil) (fun cx_ a_ hI_ => ret_res (l' := [ps 2 (.ssl (ints []) 0 (([] : List Int).length)), ps 3 (iv 2)]) (by kernel_rfl) cx_ a_ hI_) hI_
            · refine T_else (b := (decide (0 < (oc ((rnum t.1.length 0 t).1))))) rfl (decide_eq_false h7) ?_
              refine T_skip ?_
              refine T_seq ?_
              refine T_region [] [ks 2, ks 3, kb 1] (fun _ => mixed) (l' := [ps 2 (.osl 1 0 l.length), ps 3 (iv 0), pb 1 3 (ints l)]) (obs := []) (by kernel_rfl) (obs_nil) ?_
              have hE := rdec_stop (.inl (by omega)) hr
              have hD := dec_c h1 hn h2 (hR.trans hE)
              rw [if_neg h5] at hD
              rw [if_neg (by omega)] at hD
              rw [if_pos (ones_no h5 (by omega) h7)] at hD
              rw [hD]
              refine T_wk (Wk.frz (l' := [ps 2 (.ssl (ints l) 0 l.length), ps 3 (iv 0), (kb 1, none)]) 1 (T := 3) (cs := (ints l)) (by kernel_rfl) (ints_shd _) (by kernel_rfl)) ?_
              refine T_wk (Wk.less (l' := [ps 2 (.ssl (ints l) 0 l.length), ps 3 (iv 0)]) 314 (by kernel_rfl) (by kernel_rfl)) ?_
              exact T_ret fun cx_ a_ hI_ => ret_ok (H' := []) (.inr rfl) (Wk.ren2 [ps 2 (.ssl (ints l) 0 l.length), ps 3 (iv 0)] 0 hc0 [] rfl rfl (by kernel_rfl) (by kernel_rfl)) rfl (obs_nil) (fun cx_ a_ hI_ => ret_res (l' := [ps 2 (.ssl (ints l) 0 l.length), ps 3 (iv 0)]) (by kernel_rfl) cx_ a_ hI_) hI_
end Go.Proofs.Ytfoiadlaekknpaa.Pm
namespace Go.Proofs.Ytfoiadlaekknpaa.Pm
open Go Co

attribute [local irreducible] rnum
def bI (l : List Bool) : List Int := l.map bi
theorem bI_len (l : List Bool) : (bI l).length = l.length := List.length_map ..
theorem bI_app (l m : List Bool) : bI (l ++ m) = bI l ++ bI m := List.map_append
theorem bI_get (B : List Bool) (i : Nat) (h : i < B.length) : (bI B).getD i 0 = bi (B.getD i false) := by
  unfold bI
  rw [List.getD_eq_getElem?_getD, List.getElem?_map, List.getD_eq_getElem?_getD, List.getElem?_eq_getElem h]; rfl
theorem bits_set (n : Int) (k m : Nat) (h : m < k) (x : Int) (hx : x = n / 2 ^ m) :
    (List.replicate (k - m) (0 : Int) ++ bI (bitsOf n m)).set (k - 1 - m) (x.tmod 2) = List.replicate (k - (m + 1)) 0 ++ bI (bitsOf n (m + 1)) ∨ x < 0 := by
  by_cases h0 : x < 0
  · exact .inr h0
  · refine .inl ?_
    have e : x.tmod 2 = bi (decide (n / 2 ^ m % 2 = 1)) := by
      rw [Int.tmod_eq_emod_of_nonneg (by omega), hx]; unfold bi
      by_cases h1 : n / 2 ^ m % 2 = 1
      · rw [h1]; rfl
      · rw [decide_eq_false h1]; show _ = (0 : Int); omega
    rw [e, List.set_append_left _ _ (by rw [List.length_replicate]; omega)]
    rw [show k - m = (k - (m + 1)) + 1 by omega, List.replicate_succ', List.set_append_right _ _ (by rw [List.length_replicate]; omega), List.length_replicate, show k - 1 - m - (k - (m + 1)) = 0 by omega, List.append_assoc]
    rfl
theorem bits_next {n : Int} {m : Nat} {x : Int} (h0 : 0 ≤ x) (hx : x = n / 2 ^ m) : x.tdiv 2 = n / 2 ^ (m + 1) ∧ 0 ≤ x.tdiv 2 ∧ x.tdiv 2 ≤ x := by
  have h1 : x.tdiv 2 = x / 2 := Int.tdiv_eq_ediv_of_nonneg h0
  refine ⟨?_, by omega, by omega⟩
  rw [h1, hx, Int.ediv_ediv_of_nonneg (Int.le_of_lt (Int.pow_pos (by omega))), ← Int.pow_succ]
theorem pow_small {i : Nat} (h : i ≤ 15) : (1 : Int) ≤ 2 ^ i ∧ (2 : Int) ^ i ≤ 32768 := by
  have h1 := Nat.pow_le_pow_right (n := 2) (by omega) h
  have h2 := Nat.pow_pos (n := i) (show 0 < 2 by omega)
  have e : ((2 ^ i : Nat) : Int) = (2 : Int) ^ i := by rw [Int.natCast_pow]; rfl
  rw [← e]; omega
theorem power_pc (k : Nat) (hk : k ≤ 15) : PC Try.prog 16 [(iv ((k : Nat) : Int))] [] (iv (2 ^ k)) [] := by
  refine pc_intro Try.func16 rfl (by kernel_rfl) (Nat.le_of_ble_eq_true rfl) (by kernel_rfl) (l0 := [ps 0 (iv ((k : Nat) : Int))]) rfl (fun c0 Bor hc0 => ?_)
  refine T_seq ?_
  refine T_region [] [ks 0] (fun _ => mixed) (l' := [ps 0 (iv ((k : Nat) : Int))]) (obs := []) (by kernel_rfl) (obs_nil) ?_
  refine T_seq ?_
  refine T_region [] [ks 0, ks 3] (fun _ => mixed) (l' := [ps 0 (iv ((k : Nat) : Int)), ps 3 (iv 1)]) (obs := []) (by kernel_rfl) (obs_nil) ?_
  refine T_seq ?_
  refine T_seq ?_
  refine T_region [] [ks 0, ks 3, ks 4] (fun _ => mixed) (l' := [ps 0 (iv ((k : Nat) : Int)), ps 3 (iv 1), ps 4 (iv 0)]) (obs := []) (by kernel_rfl) (obs_nil) ?_
  refine T_block ?_
  refine T_loop (α := {x : Nat // x ≤ k}) (fun x => [ps 0 (iv ((k : Nat) : Int)), ps 3 (iv (2 ^ x.1)), ps 4 (iv ((x.1 : Nat) : Int))]) (fun x => k - x.1) 0 ⟨0, Nat.zero_le _⟩ (Wk.ren2 [ps 0 (iv ((k : Nat) : Int)), ps 3 (iv (2 ^ 0)), ps 4 (iv ((0 : Nat) : Int))] 0 hc0 [] rfl rfl (by kernel_rfl) (by kernel_rfl)) ?_
  rintro ⟨i, hi⟩
  refine T_seq ?_
  refine T_seq ?_
  refine T_region [] [ks 0, ks 3, ks 4, ks 7] (fun _ => mixed) (l' := [ps 0 (iv ((k : Nat) : Int)), ps 3 (iv (2 ^ i)), ps 4 (iv ((i : Nat) : Int)), ps 7 (bv (decide (((i : Nat) : Int) < ((k : Nat) : Int))))]) (obs := []) (by kernel_rfl) (obs_nil) ?_
  by_cases h1 : ((i : Nat) : Int) < ((k : Nat) : Int)
  · refine T_then (b := (decide (((i : Nat) : Int) < ((k : Nat) : Int)))) rfl (decide_eq_true h1) ?_
    refine T_skip ?_
    refine T_seq ?_
    refine T_block ?_
    have hp := pow_small (i := i) (by omega)
    refine T_region [] [ks 0, ks 3, ks 4] (fun _ => mixed) (l' := [ps 0 (iv ((k : Nat) : Int)), ps 3 (iv (2 * (2 ^ i))), ps 4 (iv ((i : Nat) : Int))]) (obs := [InK .i64 (2 * (2 ^ i))]) (by kernel_rfl) (obs_cons (p := InK .i64 (2 * (2 ^ i))) (by simp only [InK]; omega) (obs_nil)) ?_
    refine T_blk ?_
    refine T_region [] [ks 0, ks 3, ks 4] (fun _ => mixed) (l' := [ps 0 (iv ((k : Nat) : Int)), ps 3 (iv (2 * (2 ^ i))), ps 4 (iv (((i : Nat) : Int) + 1))]) (obs := [InK .i64 (((i : Nat) : Int) + 1)]) (by kernel_rfl) (obs_cons (p := InK .i64 (((i : Nat) : Int) + 1)) (by simp only [InK]; omega) (obs_nil)) ?_
    have hp := pow_small (i := i) (by omega)
    exact T_back ⟨i + 1, by show i + 1 ≤ k; omega⟩ (Wk.trans (Wk.eq (show [ps 0 (iv ((k : Nat) : Int)), ps 3 (iv (2 * (2 ^ i))), ps 4 (iv (((i : Nat) : Int) + 1))] = [ps 0 (iv ((k : Nat) : Int)), ps 3 (iv (2 ^ (i + 1))), ps 4 (iv (((i : Nat) : Int) + 1))] from by rw [show (2 : Int) ^ (i + 1) = 2 * 2 ^ i from by rw [Int.pow_succ]; omega])) (Wk.ren2 [ps 0 (iv ((k : Nat) : Int)), ps 3 (iv (2 ^ (i + 1))), ps 4 (iv (((i + 1) : Nat) : Int))] 0 hc0 [] rfl rfl (by kernel_rfl) (by kernel_rfl))) (show k - (i + 1) < k - i from by show k - (i + 1) < k - i; omega)
  · refine T_else (b := (decide (((i : Nat) : Int) < ((k : Nat) : Int)))) rfl (decide_eq_false h1) ?_
    refine T_break rfl rfl ?_
    refine T_seq ?_
    refine T_region [] [ks 2] (fun _ => mixed) (l' := [ps 2 (iv (2 ^ i))]) (obs := []) (by kernel_rfl) (obs_nil) ?_
    obtain rfl : i = k := by omega
    exact T_ret fun cx_ a_ hI_ => ret_ok (H' := []) (.inr rfl) (Wk.ren2 [ps 2 (iv (2 ^ i))] 0 hc0 [] rfl rfl (by kernel_rfl) (by kernel_rfl)) rfl (obs_nil) (fun cx_ a_ hI_ => ret_res (l' := [ps 2 (iv (2 ^ i))]) (by kernel_rfl) cx_ a_ hI_) hI_
theorem bits_pc (n : Int) (hn : 0 ≤ n) (hn2 : n ≤ 9223372036854775807) (k : Nat) (hk : k ≤ 24) : PC Try.prog 17 [(iv n), (iv ((k : Nat) : Int))] [] (.osl 0 0 k) [some (3, (ints (bI (bitsOf n k))))] := by
  refine pc_intro Try.func17 rfl (by kernel_rfl) (Nat.le_of_ble_eq_true rfl) (by kernel_rfl) (l0 := [ps 0 (iv n), ps 1 (iv ((k : Nat) : Int))]) rfl (fun c0 Bor hc0 => ?_)
  refine T_seq ?_
  refine T_region [] [ks 0, ks 1] (fun _ => mixed) (l' := [ps 0 (iv n), ps 1 (iv ((k : Nat) : Int))]) (obs := []) (by kernel_rfl) (obs_nil) ?_
  refine T_seq ?_
  refine T_region [(1, .cells (ints (List.replicate k 0)))] [ks 0, ks 1, ks 5, kb 16] (fun _ => mixed) (l' := [ps 0 (iv n), ps 1 (iv ((k : Nat) : Int)), ps 5 (.osl 16 0 k), pb 16 3 (ints (List.replicate k 0))]) (obs := [(0 : Int) ≤ ((k : Nat) : Int) ∧ ((k : Nat) : Int) ≤ ((k : Nat) : Int) ∧ ((k : Nat) : Int) ≤ 140737488355328 ∧ ((8 : Nat) : Int) * ((k : Nat) : Int) ≤ 140737488355328, zeros [(iv 0)] (((k : Nat) : Int) : Int).toNat = (ints (List.replicate k 0))]) (by kernel_rfl) (obs_cons (p := (0 : Int) ≤ ((k : Nat) : Int) ∧ ((k : Nat) : Int) ≤ ((k : Nat) : Int) ∧ ((k : Nat) : Int) ≤ 140737488355328 ∧ ((8 : Nat) : Int) * ((k : Nat) : Int) ≤ 140737488355328) (by omega) (obs_cons (p := zeros [(iv 0)] (((k : Nat) : Int) : Int).toNat = (ints (List.replicate k 0))) (zeros_ints _) (obs_nil))) ?_
  refine T_seq ?_
  refine T_seq ?_
  refine T_region [] [ks 0, ks 5, ks 6, kb 16] (fun _ => mixed) (l' := [ps 0 (iv n), ps 5 (.osl 16 0 k), ps 6 (iv (((k : Nat) : Int) - 1)), pb 16 3 (ints (List.replicate k 0))]) (obs := [InK .i64 (((k : Nat) : Int) - 1)]) (by kernel_rfl) (obs_cons (p := InK .i64 (((k : Nat) : Int) - 1)) (by simp only [InK]; omega) (obs_nil)) ?_
  refine T_block ?_
  refine T_wk (Wk.eq (show [ps 0 (iv n), ps 5 (.osl 16 0 k), ps 6 (iv (((k : Nat) : Int) - 1)), pb 16 3 (ints (List.replicate k 0))] = [ps 0 (iv n), ps 5 (.osl 16 0 k), ps 6 (iv (((k : Nat) : Int) - 1 - ((0 : Nat) : Int))), pb 16 3 (ints (List.replicate (k - 0) (0 : Int) ++ bI (bitsOf n 0)))] from by rw [Nat.sub_zero, show bI (bitsOf n 0) = [] from rfl, List.append_nil]; simp)) ?_
  refine T_loop (α := {x : Nat × Int // x.1 ≤ k ∧ 0 ≤ x.2 ∧ x.2 = n / 2 ^ x.1 ∧ x.2 ≤ n}) (fun x => [ps 0 (iv x.1.2), ps 5 (.osl 0 0 k), ps 6 (iv (((k : Nat) : Int) - 1 - ((x.1.1 : Nat) : Int))), pb 0 3 (ints (List.replicate (k - x.1.1) (0 : Int) ++ bI (bitsOf n x.1.1)))]) (fun x => k - x.1.1) 1 ⟨(0, n), ⟨Nat.zero_le _, hn, by rw [Int.pow_zero, Int.ediv_one], Int.le_refl _⟩⟩ (Wk.ren3 [ps 0 (iv n), ps 5 (.osl 0 0 k), ps 6 (iv (((k : Nat) : Int) - 1 - ((0 : Nat) : Int))), pb 0 3 (ints (List.replicate (k - 0) (0 : Int) ++ bI (bitsOf n 0)))] 0 hc0 [16] [(kb 0, (ints (List.replicate (k - 0) (0 : Int) ++ bI (bitsOf n 0))))] (obs_cons (ints_shd _) (obs_nil)) (by kernel_rfl) rfl rfl (by kernel_rfl) (by kernel_rfl)) ?_
  rintro ⟨⟨m, x⟩, ⟨hi, h0, hx, hxn⟩⟩
  dsimp only at hi h0 hx hxn
  refine T_seq ?_
  refine T_seq ?_
  refine T_region [] [ks 0, ks 5, ks 6, ks 12, kb 0] (fun _ => mixed) (l' := [ps 0 (iv x), ps 5 (.osl 0 0 k), ps 6 (iv (((k : Nat) : Int) - 1 - ((m : Nat) : Int))), ps 12 (bv (decide (0 ≤ (((k : Nat) : Int) - 1 - ((m : Nat) : Int))))), pb 0 3 (ints (List.replicate (k - m) (0 : Int) ++ bI (bitsOf n m)))]) (obs := []) (by kernel_rfl) (obs_nil) ?_
  by_cases h1 : 0 ≤ (((k : Nat) : Int) - 1 - ((m : Nat) : Int))
  · refine T_then (b := (decide (0 ≤ (((k : Nat) : Int) - 1 - ((m : Nat) : Int))))) rfl (decide_eq_true h1) ?_
    refine T_skip ?_
    refine T_seq ?_
    refine T_block ?_
    refine T_seq ?_
    have ht1 : x.tmod 2 = x % 2 := Int.tmod_eq_emod_of_nonneg h0
    have ht2 : x.tdiv 2 = x / 2 := Int.tdiv_eq_ediv_of_nonneg h0
    refine T_region [(4, .nat ((k - 1 - m))), (5, .cells (ints ((List.replicate (k - m) (0 : Int) ++ bI (bitsOf n m)).set (k - 1 - m) (x.tmod 2))))] [ks 0, ks 5, ks 6, kb 0] (fun _ => mixed) (l' := [ps 0 (iv x), ps 5 (.osl 0 0 k), ps 6 (iv (((k : Nat) : Int) - 1 - ((m : Nat) : Int))), pb 0 3 (ints ((List.replicate (k - m) (0 : Int) ++ bI (bitsOf n m)).set (k - 1 - m) (x.tmod 2)))]) (obs := [2 ≠ (0 : Int), (0 : Int) ≤ (((k : Nat) : Int) - 1 - ((m : Nat) : Int)) ∧ (((k : Nat) : Int) - 1 - ((m : Nat) : Int)) < ((k : Nat) : Int), 0 + ((((k : Nat) : Int) - 1 - ((m : Nat) : Int)) : Int).toNat * 1 = ((k - 1 - m)), ((k - 1 - m)) + 1 ≤ ((ints (List.replicate (k - m) (0 : Int) ++ bI (bitsOf n m)))).length ∧ splice (ints (List.replicate (k - m) (0 : Int) ++ bI (bitsOf n m))) ((k - 1 - m)) [(iv ((x).tmod 2))] = (ints ((List.replicate (k - m) (0 : Int) ++ bI (bitsOf n m)).set (k - 1 - m) (x.tmod 2)))]) (by kernel_rfl) (obs_cons (p := 2 ≠ (0 : Int)) (by decide) (obs_cons (p := (0 : Int) ≤ (((k : Nat) : Int) - 1 - ((m : Nat) : Int)) ∧ (((k : Nat) : Int) - 1 - ((m : Nat) : Int)) < ((k : Nat) : Int)) (by omega) (obs_cons (p := 0 + ((((k : Nat) : Int) - 1 - ((m : Nat) : Int)) : Int).toNat * 1 = ((k - 1 - m))) (by omega) (obs_cons (p := ((k - 1 - m)) + 1 ≤ ((ints (List.replicate (k - m) (0 : Int) ++ bI (bitsOf n m)))).length ∧ splice (ints (List.replicate (k - m) (0 : Int) ++ bI (bitsOf n m))) ((k - 1 - m)) [(iv ((x).tmod 2))] = (ints ((List.replicate (k - m) (0 : Int) ++ bI (bitsOf n m)).set (k - 1 - m) (x.tmod 2)))) (ints_splice (by rw [List.length_append, List.length_replicate]; omega)) (obs_nil))))) ?_
    refine T_region [] [ks 0, ks 5, ks 6, kb 0] (fun _ => mixed) (l' := [ps 0 (iv ((x).tdiv 2)), ps 5 (.osl 0 0 k), ps 6 (iv (((k : Nat) : Int) - 1 - ((m : Nat) : Int))), pb 0 3 (ints ((List.replicate (k - m) (0 : Int) ++ bI (bitsOf n m)).set (k - 1 - m) (x.tmod 2)))]) (obs := [2 ≠ (0 : Int), InK .i64 ((x).tdiv 2)]) (by kernel_rfl) (obs_cons (p := 2 ≠ (0 : Int)) (by decide) (obs_cons (p := InK .i64 ((x).tdiv 2)) (by simp only [InK]; omega) (obs_nil))) ?_
    refine T_blk ?_
    refine T_region [] [ks 0, ks 5, ks 6, kb 0] (fun _ => mixed) (l' := [ps 0 (iv ((x).tdiv 2)), ps 5 (.osl 0 0 k), ps 6 (iv ((((k : Nat) : Int) - 1 - ((m : Nat) : Int)) - 1)), pb 0 3 (ints ((List.replicate (k - m) (0 : Int) ++ bI (bitsOf n m)).set (k - 1 - m) (x.tmod 2)))]) (obs := [InK .i64 ((((k : Nat) : Int) - 1 - ((m : Nat) : Int)) - 1)]) (by kernel_rfl) (obs_cons (p := InK .i64 ((((k : Nat) : Int) - 1 - ((m : Nat) : Int)) - 1)) (by simp only [InK]; omega) (obs_nil)) ?_
    have hq := bits_next h0 hx
    have hw := (bits_set n k m (by omega) x hx).resolve_right (by omega)
    exact T_back ⟨(m + 1, x.tdiv 2), ⟨by omega, hq.2.1, hq.1, by omega⟩⟩ (Wk.trans (Wk.eq (show [ps 0 (iv ((x).tdiv 2)), ps 5 (.osl 0 0 k), ps 6 (iv ((((k : Nat) : Int) - 1 - ((m : Nat) : Int)) - 1)), pb 0 3 (ints ((List.replicate (k - m) (0 : Int) ++ bI (bitsOf n m)).set (k - 1 - m) (x.tmod 2)))] = [ps 0 (iv ((x).tdiv 2)), ps 5 (.osl 0 0 k), ps 6 (iv (((k : Nat) : Int) - 1 - (((m + 1) : Nat) : Int))), pb 0 3 (ints (List.replicate (k - (m + 1)) (0 : Int) ++ bI (bitsOf n (m + 1))))] from by rw [hw, show ((k : Nat) : Int) - 1 - ((m : Nat) : Int) - 1 = ((k : Nat) : Int) - 1 - (((m + 1) : Nat) : Int) from by omega])) (Wk.ren3 [ps 0 (iv (x.tdiv 2)), ps 5 (.osl 0 0 k), ps 6 (iv (((k : Nat) : Int) - 1 - (((m + 1) : Nat) : Int))), pb 0 3 (ints (List.replicate (k - (m + 1)) (0 : Int) ++ bI (bitsOf n (m + 1))))] 0 hc0 [0] [(kb 0, (ints (List.replicate (k - (m + 1)) (0 : Int) ++ bI (bitsOf n (m + 1)))))] (obs_cons (ints_shd _) (obs_nil)) (by kernel_rfl) rfl rfl (by kernel_rfl) (by kernel_rfl))) (show k - (m + 1) < k - m from by show k - (m + 1) < k - m; omega)
  · refine T_else (b := (decide (0 ≤ (((k : Nat) : Int) - 1 - ((m : Nat) : Int))))) rfl (decide_eq_false h1) ?_
    refine T_break rfl rfl ?_
    refine T_seq ?_
    refine T_region [] [ks 4, kb 0] (fun _ => mixed) (l' := [ps 4 (.osl 0 0 k), pb 0 3 (ints (List.replicate (k - m) (0 : Int) ++ bI (bitsOf n m)))]) (obs := []) (by kernel_rfl) (obs_nil) ?_
    have hmk : m = k := by omega
    refine T_wk (Wk.eq (show [ps 4 (.osl 0 0 k), pb 0 3 (ints (List.replicate (k - m) (0 : Int) ++ bI (bitsOf n m)))] = [ps 4 (.osl 0 0 k), pb 0 3 (ints (bI (bitsOf n k)))] from by rw [hmk, Nat.sub_self]; rfl)) ?_
    exact T_ret fun cx_ a_ hI_ => ret_ok (H' := [some (3, (ints (bI (bitsOf n k))))]) (.inr rfl) (Wk.ren3 [ps 4 (.osl 0 0 k), pb 0 3 (ints (bI (bitsOf n k)))] 0 hc0 [0] [(kb 0, (ints (bI (bitsOf n k))))] (obs_cons (ints_shd _) (obs_nil)) (by kernel_rfl) rfl rfl (by kernel_rfl) (by kernel_rfl)) rfl (obs_cons rfl (obs_nil)) (fun cx_ a_ hI_ => ret_res (l' := [ps 4 (.osl 0 0 k), pb 0 3 (ints (bI (bitsOf n k)))]) (by kernel_rfl) cx_ a_ hI_) hI_
end Go.Proofs.Ytfoiadlaekknpaa.Pm
namespace Go.Proofs.Ytfoiadlaekknpaa.Pm
open Go Co

theorem bit_mod (n : Int) (k : Nat) : n % 2 ^ (k + 1) = bi (decide (n / 2 ^ k % 2 = 1)) * 2 ^ k + n % 2 ^ k := by
  have hp : (0 : Int) < 2 ^ k := Int.pow_pos (by omega)
  have h1 := Int.mul_ediv_add_emod n (2 ^ k)
  have h2 := Int.emod_nonneg n (Int.ne_of_gt hp)
  have h3 := Int.emod_lt_of_pos n hp
  have h4 : (bi (decide (n / 2 ^ k % 2 = 1)) = n / 2 ^ k % 2) := by
    unfold bi
    by_cases h : n / 2 ^ k % 2 = 1
    · rw [decide_eq_true h, if_pos rfl, h]
    · rw [decide_eq_false h, if_neg (by simp)]; omega
  rw [h4]
  generalize hq : n / 2 ^ k = q at *
  generalize hr : n % 2 ^ k = r at *
  generalize hP : (2 : Int) ^ k = p at *
  have h5 : q = 2 * (q / 2) + q % 2 := by omega
  have e : n = (q % 2 * p + r) + (2 ^ (k + 1)) * (q / 2) := by
    rw [Int.pow_succ, hP]
    have h6 : p * q = p * (2 * (q / 2) + q % 2) := congrArg (p * ·) h5
    rw [Int.mul_add] at h6
    have h7 : p * 2 * (q / 2) = p * (2 * (q / 2)) := Int.mul_assoc ..
    have h8 : q % 2 * p = p * (q % 2) := Int.mul_comm ..
    rw [h7, h8]; omega
  rw [e, Int.add_mul_emod_self_left]
  refine Int.emod_eq_of_lt ?_ ?_
  · have : 0 ≤ q % 2 * p := Int.mul_nonneg (by omega) (by omega)
    omega
  · rw [Int.pow_succ, hP]
    have h9 : q % 2 = 0 ∨ q % 2 = 1 := by omega
    rcases h9 with h9 | h9 <;> rw [h9] <;> omega
theorem rnum_bits (n : Int) : ∀ (k : Nat) (a : Int) (D : List Bool) (f : Bool), rnum k a (bitsOf n k ++ D, f) = (a * 2 ^ k + n % 2 ^ k, (D, f))
  | 0, a, D, f => by
    rw [rnum, bitsOf, List.nil_append]
    have : n % 2 ^ 0 = 0 := by rw [Int.pow_zero]; omega
    rw [this, Int.pow_zero, Int.mul_one, Int.add_zero]
  | k + 1, a, D, f => by
    rw [bitsOf, List.cons_append, rnum]
    show rnum k (2 * a + bi (decide (n / 2 ^ k % 2 = 1))) (bitsOf n k ++ D, f) = _
    rw [rnum_bits n k, bit_mod n k, Int.pow_succ, Int.add_mul]
    have : 2 * a * 2 ^ k = a * (2 ^ k * 2) := by rw [Int.mul_comm 2 a, Int.mul_assoc, Int.mul_comm 2 (2 ^ k)]
    rw [this, Int.add_assoc]
theorem rnum_of {n : Int} {k : Nat} (h0 : 0 ≤ n) (h1 : n < 2 ^ k) (D : List Bool) (f : Bool) : rnum k 0 (bitsOf n k ++ D, f) = (n, (D, f)) := by
  rw [rnum_bits, Int.emod_eq_of_lt h0 h1, Int.zero_mul, Int.zero_add]
theorem rones_of (D : List Bool) : ∀ m : Nat, rones (List.replicate m true ++ (false :: D)) = (m, (D, false))
  | 0 => rfl
  | m + 1 => by
    rw [List.replicate_succ, List.cons_append, rones, rones_of D m]
theorem pow_bd {k : Nat} (hk : k ≤ 15) : (1 : Int) ≤ 2 ^ k ∧ (2 : Int) ^ k ≤ 32768 := by
  have h1 := Nat.pow_le_pow_right (n := 2) (by omega) hk
  have h2 := Nat.pow_pos (n := k) (show 0 < 2 by omega)
  have e : ((2 ^ k : Nat) : Int) = (2 : Int) ^ k := by rw [Int.natCast_pow]; rfl
  rw [← e]; omega
theorem rrice_of {k : Nat} {x : Int} (h0 : 0 ≤ x) (h1 : x ≤ 9223372036854775807) (D : List Bool) : rrice k (riceBits k x ++ D) = (x, (D, false)) := by
  unfold rrice riceBits
  have hp : (0 : Int) < 2 ^ k := Int.pow_pos (by omega)
  have h2 : 0 ≤ x / 2 ^ k := Int.ediv_nonneg h0 (by omega)
  rw [List.append_assoc, List.append_assoc, List.singleton_append, rones_of, rnum_bits]
  have h3 := Int.mul_ediv_add_emod x (2 ^ k)
  have h4 := Int.emod_nonneg x (Int.ne_of_gt hp)
  have h5 := Int.emod_lt_of_pos x hp
  have e : ((x / 2 ^ k).toNat : Int) = x / 2 ^ k := Int.toNat_of_nonneg h2
  have h6 : ((x / 2 ^ k).toNat : Int) * 2 ^ k + (0 * 2 ^ k + x % 2 ^ k) = x := by rw [e, Int.zero_mul, Int.zero_add, Int.mul_comm]; exact h3
  rw [riceV_ok (by omega) (by omega) (by rw [h6]; omega), h6]
theorem unf_nat {v : Int} (h0 : 0 ≤ v) (h1 : v ≤ 9223372036854775807) : unf v = if v % 2 = 1 then -((v + 1) / 2) else v / 2 := by
  unfold unf
  have ht := tdiv2 v
  split
  · have hw : IntKind.wrap .i64 (0 - IntKind.wrap .i64 (v + 1)) = -(v + 1) := by rw [IntKind.wrap_i64, IntKind.wrap_i64]; omega
    rw [hw]
    have := tdiv2 (-(v + 1))
    rw [IntKind.wrap_i64]; omega
  · omega
theorem fold_unf {v : Int} (h0 : 0 ≤ v) (h1 : v ≤ 9223372036854775807) : Co.fold (unf v) = v := by
  rw [unf_nat h0 h1]; unfold Co.fold
  split <;> split <;> omega
theorem unf_fold {y : Int} (h0 : -1000000 ≤ y) (h1 : y ≤ 1000000) : unf (Co.fold y) = y := by
  have h2 : 0 ≤ Co.fold y ∧ Co.fold y ≤ 2000000 := by unfold Co.fold; split <;> omega
  rw [unf_nat h2.1 (by omega)]; unfold Co.fold
  split <;> split <;> omega

/-! ### samples -/
theorem X_take {g : List Int} {i j : Nat} (h : j < i) : X (g.take i) j = X g j := by
  unfold X; rw [List.getD_eq_getElem?_getD, List.getD_eq_getElem?_getD, List.getElem?_take, if_pos h]
theorem guess_take {g : List Int} {i o : Nat} (ho : o ≤ i) : guess (g.take i) i o = guess g i o := by
  unfold guess
  split
  · rw [X_take (by omega)]
  · split
    · rw [X_take (by omega), X_take (by omega)]
    · split
      · rw [X_take (by omega), X_take (by omega), X_take (by omega)]
      · rfl
theorem take_snoc {g : List Int} {i : Nat} (h : i < g.length) : g.take i ++ [X g i] = g.take (i + 1) := by
  rw [List.take_add_one]; unfold X
  rw [List.getD_eq_getElem?_getD, List.getElem?_eq_getElem h]; rfl
def piece (g : List Int) (o k i : Nat) : List Bool := if i < o then bitsOf (X g i + 32768) 16 else riceBits k (miss g o i)
def rest (g : List Int) (o k : Nat) : Nat → Nat → List Bool
  | 0, _ => []
  | m + 1, i => piece g o k i ++ rest g o k m (i + 1)
theorem rest_rice {g : List Int} {o k : Nat} : ∀ (m i : Nat), o ≤ i → rest g o k m i = riceAll k (missFrom g o m i)
  | 0, _, _ => rfl
  | m + 1, i, h => by rw [rest, missFrom, riceAll, rest_rice m (i + 1) (by omega)]; unfold piece; rw [if_neg (by omega)]
theorem rawBits_app : ∀ (l m : List Int), rawBits (l ++ m) = rawBits l ++ rawBits m
  | [], m => rfl
  | x :: l, m => by rw [List.cons_append, rawBits, rawBits, rawBits_app l m, List.append_assoc]
theorem rest_raw {g : List Int} {o k : Nat} : ∀ (m i : Nat), i + m = g.length → i ≤ o → rawBits (g.take i) ++ rest g o k m i = rawBits (g.take o) ++ riceAll k (misses g o)
  | 0, i, h, hi => by
    have h1 : g.take i = g.take o := by rw [List.take_of_length_le (by omega), List.take_of_length_le (by omega)]
    have h2 : misses g o = [] := by unfold misses; rw [show g.length - o = 0 by omega]; rfl
    rw [h1, h2]; rfl
  | m + 1, i, h, hi => by
    rcases Nat.lt_or_ge i o with h1 | h1
    · rw [← rest_raw (g := g) (o := o) (k := k) m (i + 1) (by omega) (by omega), rest, ← take_snoc (by omega), rawBits_app, List.append_assoc]
      congr 1
      unfold piece; rw [if_pos h1, rawBits, rawBits, List.append_nil]
    · have : i = o := by omega
      subst this
      rw [rest_rice (m + 1) i (Nat.le_refl _)]
      unfold misses; rw [show g.length - i = m + 1 by omega]
theorem frame_rest (g : List Int) (o k : Nat) : frameBits g o k = bitsOf o 2 ++ (bitsOf k 4 ++ rest g o k g.length 0) := by
  have := rest_raw (g := g) (o := o) (k := k) g.length 0 (by omega) (by omega)
  rw [List.take_zero, rawBits, List.nil_append] at this
  unfold frameBits
  rw [this, List.append_assoc, List.append_assoc]
theorem rsample_of {g : List Int} (hs : Small g) {o k i : Nat} (hi : i < g.length) (D : List Bool) : rsample o k (g.take i) (piece g o k i ++ D) = (X g i, (D, false)) := by
  have hl : (g.take i).length = i := by rw [List.length_take]; omega
  have hx := X_bd hs i
  unfold rsample piece
  rw [hl]
  split
  · rw [rnum_of (by omega) (by omega)]
    show (X g i + 32768 - 32768, (D, false)) = _
    rw [show X g i + 32768 - 32768 = X g i by omega]
  · have hm := miss_bd hs o i
    have hg := guess_bd hs i o
    rw [rrice_of hm.1 (by omega), guess_take (by omega)]
    show (unf (miss g o i) + guess g i o, (D, false)) = _
    unfold miss
    rw [unf_fold (by omega) (by omega), show X g i - guess g i o + guess g i o = X g i by omega]
theorem rfr_of {g : List Int} (hs : Small g) {o k : Nat} (D : List Bool) : ∀ (m i : Nat), i + m = g.length → rfr o k m (g.take i) (rest g o k m i ++ D, false) = (g, (D, false))
  | 0, i, h => by rw [rfr, rest, List.nil_append, List.take_of_length_le (by omega)]
  | m + 1, i, h => by
    have hx := X_bd hs i
    have hsm : sm (X g i) = true := decide_eq_true hx
    rw [rfr, if_neg (by simp), rest, List.append_assoc, rsample_of hs (by omega)]
    show rfr o k m (g.take i ++ [X g i]) (rest g o k m (i + 1) ++ D, false || !sm (X g i)) = _
    rw [hsm, take_snoc (by omega)]
    exact rfr_of hs D m (i + 1) (by omega)
theorem best_lt {g : List Int} (hs : Small g) : (bestTo g 64).2.1 < 4 ∧ (bestTo g 64).2.2 < 16 := by
  have := bestTo_spec hs 64 (by omega)
  omega
theorem rframe_of {g : List Int} (hs : Small g) (D : List Bool) : rframe g.length (bestBits g ++ D, false) = (g, (D, false)) := by
  have hb := best_lt hs
  unfold bestBits
  generalize (bestTo g 64).2.1 = o at *
  generalize (bestTo g 64).2.2 = k at *
  rw [frame_rest]
  unfold rframe
  rw [List.append_assoc, rnum_of (by omega) (by omega), List.append_assoc]
  show rfr (o : Int).toNat (rnum 4 0 (bitsOf k 4 ++ (rest g o k g.length 0 ++ D), false)).1.toNat g.length [] (rnum 4 0 (bitsOf k 4 ++ (rest g o k g.length 0 ++ D), false)).2 = _
  rw [rnum_of (by omega) (by omega)]
  show rfr o k g.length (g.take 0) (rest g o k g.length 0 ++ D, false) = _
  exact rfr_of hs D g.length 0 (by omega)

/-! ### frames -/
def encRest (l : List Int) : Nat → Nat → List Bool
  | 0, _ => []
  | c + 1, t => bestBits (fr l t) ++ encRest l c (t + 1)
theorem encTo_rest (l : List Int) : ∀ c t : Nat, encTo l t ++ encRest l c t = encTo l (t + c)
  | 0, t => by rw [encRest, List.append_nil]; rfl
  | c + 1, t => by rw [encRest, ← List.append_assoc, show t + (c + 1) = (t + 1) + c by omega, ← encTo_rest l c (t + 1)]; rfl
theorem rdec_of {l : List Int} (hs : Small l) (D : List Bool) : ∀ (c t j : Nat), t + c = (l.length + 255) / 256 → c < j → rdec l.length j (l.take (256 * t)) (encRest l c t ++ D, false) = (l, (D, false))
  | 0, t, j + 1, h, hj => by
    rw [rdec, if_neg (by rw [List.length_take]; omega), encRest, List.nil_append, List.take_of_length_le (by omega)]
  | c + 1, t, j + 1, h, hj => by
    have hl : (l.take (256 * t)).length = 256 * t := by rw [List.length_take]; omega
    have hf : min 256 (l.length - 256 * t) = (fr l t).length := (fr_length l t).symm
    rw [rdec, if_pos ⟨by rw [hl]; omega, rfl⟩, hl, hf, encRest, List.append_assoc, rframe_of (hs.frame t)]
    show rdec l.length j (l.take (256 * t) ++ fr l t) (encRest l c (t + 1) ++ D, false) = _
    unfold fr
    rw [← List.take_add, show 256 * t + 256 = 256 * (t + 1) by omega]
    exact rdec_of hs D c (t + 1) j (by omega) (by omega)

/-! ### bytes -/
theorem byte_bits : ∀ b0 b1 b2 b3 b4 b5 b6 b7 : Bool, ∀ r : Fin 8, decide ((0 + (if b0 then 2 ^ 7 else 0) + (if b1 then 2 ^ 6 else 0) + (if b2 then 2 ^ 5 else 0) + (if b3 then 2 ^ 4 else 0) + (if b4 then 2 ^ 3 else 0) + (if b5 then 2 ^ 2 else 0) + (if b6 then 2 ^ 1 else 0) + (if b7 then 2 ^ 0 else 0)) / 2 ^ (7 - r.val) % 2 = 1) = [b0, b1, b2, b3, b4, b5, b6, b7].getD r.val false := by decide +kernel
theorem byteOf_bit (L : List Bool) (j r : Nat) (hr : r < 8) : decide (Co.byteOf L j / 2 ^ (7 - r) % 2 = 1) = L.getD (8 * j + r) false := by
  have := byte_bits (L.getD (8 * j + 0) false) (L.getD (8 * j + 1) false) (L.getD (8 * j + 2) false) (L.getD (8 * j + 3) false) (L.getD (8 * j + 4) false) (L.getD (8 * j + 5) false) (L.getD (8 * j + 6) false) (L.getD (8 * j + 7) false) ⟨r, hr⟩
  refine Eq.trans this ?_
  match r, hr with
  | 0, _ => rfl
  | 1, _ => rfl
  | 2, _ => rfl
  | 3, _ => rfl
  | 4, _ => rfl
  | 5, _ => rfl
  | 6, _ => rfl
  | 7, _ => rfl
theorem packS_byte (L : List Bool) (j : Nat) (h : j < nb L) : byteAt (packS L) j = (Co.byteOf L j : Int) := by
  unfold byteAt packS
  rw [strOfNums_data, List.getD_eq_getElem?_getD, List.getElem?_map]
  unfold packN
  rw [List.getElem?_map, List.getElem?_range h]
  have := Co.byteOf_lt L j
  simp only [Option.map_some, Option.getD_some, Int.toNat_natCast, UInt8.toNat_ofNat']
  omega
theorem bitsB_pack (L : List Bool) : bitsB (packS L) = L ++ List.replicate (8 * nb L - L.length) false := by
  refine List.ext_getElem? fun i => ?_
  have hnb : L.length ≤ 8 * nb L := by unfold nb; omega
  unfold bitsB
  rw [List.getElem?_map, packS_size]
  rcases Nat.lt_or_ge i (8 * nb L) with h | h
  · rw [List.getElem?_range h, Option.map_some, packS_byte L _ (by omega)]
    have h1 := byteOf_bit L (i / 8) (i % 8) (by omega)
    have h2 : decide (((Co.byteOf L (i / 8) : Nat) : Int) / 2 ^ (7 - i % 8) % 2 = 1) = decide (Co.byteOf L (i / 8) / 2 ^ (7 - i % 8) % 2 = 1) := by
      refine decide_eq_decide.2 ?_
      have e : ((2 ^ (7 - i % 8) : Nat) : Int) = (2 : Int) ^ (7 - i % 8) := by rw [Int.natCast_pow]; rfl
      rw [← e]; omega
    rw [h2, h1, show 8 * (i / 8) + i % 8 = i by omega, List.getD_eq_getElem?_getD]
    rcases Nat.lt_or_ge i L.length with h3 | h3
    · rw [List.getElem?_append_left h3, List.getElem?_eq_getElem h3]; rfl
    · rw [List.getElem?_append_right h3, List.getElem?_eq_none h3, List.getElem?_replicate, if_pos (by omega)]; rfl
  · rw [List.getElem?_eq_none (by rw [List.length_range]; omega), List.getElem?_eq_none (by rw [List.length_append, List.length_replicate]; omega)]; rfl
theorem all_false : ∀ n : Nat, (List.replicate n false).all (· == false) = true
  | 0 => rfl
  | n + 1 => by rw [List.replicate_succ, List.all_cons, all_false n]; rfl
theorem dec_pack {l : List Int} (hl : l.length ≤ 1048576) (hs : Small l) : dec (packS (encBits l)) = (l, 0) := by
  have hB := bitsB_pack (encBits l)
  generalize hD : List.replicate (8 * nb (encBits l) - (encBits l).length) false = D at hB
  have hDl : D.length ≤ 7 := by rw [← hD, List.length_replicate]; unfold nb; omega
  have hDa : D.all (· == false) = true := by rw [← hD]; exact all_false _
  have hq : rnum 24 0 (bitsB (packS (encBits l)), false) = ((l.length : Int), (encRest l ((l.length + 255) / 256) 0 ++ D, false)) := by
    have h1 := encTo_rest l ((l.length + 255) / 256) 0
    rw [show encTo l 0 = [] from rfl, List.nil_append, Nat.zero_add] at h1
    rw [hB]; unfold encBits
    rw [← h1, List.append_assoc, rnum_of (by omega) (by omega)]
  have hr := rdec_of hs D ((l.length + 255) / 256) 0 (l.length + 1) (by omega) (by omega)
  have := dec_c (b := packS (encBits l)) (n := l.length) (l := l) (t := (D, false)) (by rw [hq]; simp) (by rw [hq]) (by omega) (by rw [hq]; exact hr)
  rw [this, if_neg (by simp), if_neg (by show ¬ 7 < D.length; omega), if_pos hDa]
theorem dec_enc {l : List Int} {s : ByteArray} {e : Int} (hE : enc l = (s, e)) (h : e = 0) : dec s = (l, 0) := by
  subst h
  unfold enc at hE
  split at hE
  · cases hE
  · split at hE
    · next h1 h2 => cases hE; exact dec_pack (by omega) (smallB_iff.1 h2)
    · cases hE
end Go.Proofs.Ytfoiadlaekknpaa.Pm
namespace Go.Proofs.Ytfoiadlaekknpaa.Pm
open Go Co

def dl : List Int → List Int
  | x :: y :: r => (y - x) :: dl (y :: r)
  | _ => []
theorem dl_length : ∀ l : List Int, (dl l).length = l.length - 1
  | [] => rfl
  | [_] => rfl
  | x :: y :: r => by rw [dl, List.length_cons, dl_length (y :: r)]; simp
theorem X_dl : ∀ {l : List Int} {i : Nat}, i + 1 < l.length → X (dl l) i = X l (i + 1) - X l i
  | x :: y :: r, 0, _ => rfl
  | x :: y :: r, i + 1, h => by
    have := X_dl (l := y :: r) (i := i) (by simpa using h)
    exact this
def dn (l : List Int) : Nat → List Int
  | 0 => l
  | k + 1 => dl (dn l k)
theorem dn_length (l : List Int) : ∀ k, (dn l k).length = l.length - k
  | 0 => rfl
  | k + 1 => by rw [dn, dl_length, dn_length l k]; omega
theorem dn_miss {l : List Int} {o i : Nat} (ho : o ≤ 3) (hi : o + i < l.length) : X (dn l o) i = X l (o + i) - guess l (o + i) o := by
  have h1 : ∀ {j}, j + 1 < l.length → X (dn l 1) j = X l (j + 1) - X l j := fun h => X_dl h
  have h2 : ∀ {j}, j + 2 < l.length → X (dn l 2) j = X l (j + 2) - 2 * X l (j + 1) + X l j := fun {j} h => by
    have := X_dl (l := dn l 1) (i := j) (by rw [dn_length]; omega)
    rw [h1 (by omega), h1 (by omega)] at this
    show X (dl (dn l 1)) j = _
    rw [this, show j + 1 + 1 = j + 2 by omega]; omega
  have h3 : ∀ {j}, j + 3 < l.length → X (dn l 3) j = X l (j + 3) - 3 * X l (j + 2) + 3 * X l (j + 1) - X l j := fun {j} h => by
    have := X_dl (l := dn l 2) (i := j) (by rw [dn_length]; omega)
    rw [h2 (by omega), h2 (by omega)] at this
    show X (dl (dn l 2)) j = _
    rw [this, show j + 1 + 2 = j + 3 by omega, show j + 1 + 1 = j + 2 by omega]; omega
  have h4 : o = 0 ∨ o = 1 ∨ o = 2 ∨ o = 3 := by omega
  rcases h4 with rfl | rfl | rfl | rfl
  · simp [dn, guess]
  · rw [h1 (by omega)]; simp only [guess, if_true]; rw [show 1 + i - 1 = i by omega, show 1 + i = i + 1 by omega]
  · rw [h2 (by omega)]; simp only [guess, show (2 : Nat) ≠ 1 by omega, if_false, if_true]; rw [show 2 + i - 1 = i + 1 by omega, show 2 + i - 2 = i by omega, show 2 + i = i + 2 by omega]; omega
  · rw [h3 (by omega)]; simp only [guess, show (3 : Nat) ≠ 1 by omega, show (3 : Nat) ≠ 2 by omega, if_false, if_true]; rw [show 3 + i - 1 = i + 2 by omega, show 3 + i - 2 = i + 1 by omega, show 3 + i - 3 = i by omega, show 3 + i = i + 3 by omega]; omega
theorem dn_bd {l : List Int} (hs : Small l) {o i : Nat} (ho : o ≤ 3) : -300000 ≤ X (dn l o) i ∧ X (dn l o) i ≤ 300000 := by
  by_cases hi : o + i < l.length
  · rw [dn_miss ho hi]
    have := X_bd hs (o + i); have := guess_bd hs (o + i) o
    omega
  · unfold X; rw [List.getD_eq_getElem?_getD, List.getElem?_eq_none (by rw [dn_length]; omega)]; simp

theorem X_getD (l : List Int) (i : Nat) : l.getD i 0 = X l i := rfl
theorem misses_X {l : List Int} {o i : Nat} (ho : o ≤ 3) (hi : i < (misses l o).length) : Co.fold (X (dn l o) i) = X (misses l o) i := by
  rw [misses_length] at hi
  unfold misses
  rw [missFrom_get hi, dn_miss ho (by omega)]
  rfl
theorem dl_next {l : List Int} {i : Nat} (h1 : 1 ≤ i) (h2 : i < l.length) : (dl l).take (i - 1) ++ [l.getD i 0 - l.getD (i - 1) 0] = (dl l).take i := by
  have h3 := take_snoc (g := dl l) (i := i - 1) (by rw [dl_length]; omega)
  rw [X_dl (by omega), show i - 1 + 1 = i by omega] at h3
  exact h3
theorem mis_next {l : List Int} {o i : Nat} (ho : o ≤ 3) (hi : i < (misses l o).length) : (misses l o).take i ++ [Co.fold ((dn l o).getD i 0)] = (misses l o).take (i + 1) := by
  rw [X_getD, misses_X ho hi, take_snoc hi]
theorem long_next {l : List Int} {o k i : Nat} {s : Int} (hi : i < (misses l o).length) (hs : Small l) (h : s + costs k ((misses l o).drop i) = 6 + long l o k) :
    s + ((misses l o).getD i 0).tdiv (2 ^ k) + 1 + ((k : Nat) : Int) + costs k ((misses l o).drop (i + 1)) = 6 + long l o k ∧ 0 ≤ ((misses l o).getD i 0).tdiv (2 ^ k) ∧ ((misses l o).getD i 0).tdiv (2 ^ k) ≤ 524288 ∧ 0 ≤ (misses l o).getD i 0 ∧ (misses l o).getD i 0 ≤ 524288 := by
  have h1 := costs_drop (k := k) hi
  have h2 := misses_bd hs hi
  have h3 : (X (misses l o) i).tdiv (2 ^ k) = X (misses l o) i / 2 ^ k := Int.tdiv_eq_ediv_of_nonneg h2.1
  have h4 : 0 ≤ X (misses l o) i / 2 ^ k := Int.ediv_nonneg h2.1 (Int.le_of_lt (Int.pow_pos (by omega)))
  have h5 : X (misses l o) i / 2 ^ k ≤ X (misses l o) i := Int.ediv_le_self _ h2.1
  unfold cost at h1
  rw [X_getD, h3]
  exact ⟨by omega, h4, by omega, h2.1, h2.2⟩
theorem costs_nn {k : Nat} (hk : k ≤ 15) {l : List Int} (hs : Small l) (o i : Nat) : 0 ≤ costs k ((misses l o).drop i) := (costs_bd hk (fun x hx => missFrom_bd hs o _ _ x (List.mem_of_mem_drop hx))).1
end Go.Proofs.Ytfoiadlaekknpaa.Pm
namespace Go.Proofs.Ytfoiadlaekknpaa.Pm
open Go Co

theorem ref_fold_pc (n : Int) (hn1 : -1000000 ≤ n) (hn2 : n ≤ 1000000) : PC Try.prog 33 [(iv n)] [] (iv (Co.fold n)) [] := by
  refine pc_intro Try.func33 rfl (by kernel_rfl) (Nat.le_of_ble_eq_true rfl) (by kernel_rfl) (l0 := [ps 0 (iv n)]) rfl (fun c0 Bor hc0 => ?_)
  refine T_seq ?_
  refine T_region [] [ks 0] (fun _ => mixed) (l' := [ps 0 (iv n)]) (obs := []) (by kernel_rfl) (obs_nil) ?_
  refine T_seq ?_
  refine T_seq ?_
  refine T_region [] [ks 0, ks 4] (fun _ => mixed) (l' := [ps 0 (iv n), ps 4 (bv (decide (n < 0)))]) (obs := []) (by kernel_rfl) (obs_nil) ?_
  by_cases h1 : n < 0
  · refine T_then (b := (decide (n < 0))) rfl (decide_eq_true h1) ?_
    refine T_seq ?_
    refine T_region [] [ks 2] (fun _ => mixed) (l' := [ps 2 (iv ((2 * (0 - n)) - 1))]) (obs := [InK .i64 (0 - n), InK .i64 (2 * (0 - n)), InK .i64 ((2 * (0 - n)) - 1)]) (by kernel_rfl) (obs_cons (p := InK .i64 (0 - n)) (by simp only [InK]; omega) (obs_cons (p := InK .i64 (2 * (0 - n))) (by simp only [InK]; omega) (obs_cons (p := InK .i64 ((2 * (0 - n)) - 1)) (by simp only [InK]; omega) (obs_nil)))) ?_
    rw [show Co.fold n = ((2 * (0 - n)) - 1) from by unfold Co.fold; rw [if_pos h1]; omega]
    exact T_ret fun cx_ a_ hI_ => ret_ok (H' := []) (.inr rfl) (Wk.ren2 [ps 2 (iv ((2 * (0 - n)) - 1))] 0 hc0 [] rfl rfl (by kernel_rfl) (by kernel_rfl)) rfl (obs_nil) (fun cx_ a_ hI_ => ret_res (l' := [ps 2 (iv ((2 * (0 - n)) - 1))]) (by kernel_rfl) cx_ a_ hI_) hI_
  · refine T_else (b := (decide (n < 0))) rfl (decide_eq_false h1) ?_
    refine T_skip ?_
    refine T_seq ?_
    refine T_region [] [ks 2] (fun _ => mixed) (l' := [ps 2 (iv (2 * n))]) (obs := [InK .i64 (2 * n)]) (by kernel_rfl) (obs_cons (p := InK .i64 (2 * n)) (by simp only [InK]; omega) (obs_nil)) ?_
    rw [show Co.fold n = (2 * n) from if_neg h1]
    exact T_ret fun cx_ a_ hI_ => ret_ok (H' := []) (.inr rfl) (Wk.ren2 [ps 2 (iv (2 * n))] 0 hc0 [] rfl rfl (by kernel_rfl) (by kernel_rfl)) rfl (obs_nil) (fun cx_ a_ hI_ => ret_res (l' := [ps 2 (iv (2 * n))]) (by kernel_rfl) cx_ a_ hI_) hI_
theorem diff_pc (l : List Int) (hl : l.length ≤ 256) (hx : ∀ i, -300000 ≤ l.getD i 0 ∧ l.getD i 0 ≤ 300000) : PC Try.prog 32 [(.ssl (ints l) 0 l.length)] [] (.ssl (ints (dl l)) 0 ((dl l).length)) [] := by
  refine pc_intro Try.func32 rfl (by kernel_rfl) (Nat.le_of_ble_eq_true rfl) (by kernel_rfl) (l0 := [ps 0 (.ssl (ints l) 0 l.length)]) rfl (fun c0 Bor hc0 => ?_)
  refine T_seq ?_
  refine T_region [] [ks 0] (fun _ => mixed) (l' := [ps 0 (.ssl (ints l) 0 l.length)]) (obs := []) (by kernel_rfl) (obs_nil) ?_
  refine T_seq ?_
  refine T_region [] [ks 0, ks 3] (fun _ => mixed) (l' := [ps 0 (.ssl (ints l) 0 l.length), ps 3 (.av (.slice none 0 0))]) (obs := []) (by kernel_rfl) (obs_nil) ?_
  refine T_seq ?_
  refine T_seq ?_
  refine T_region [] [ks 0, ks 3, ks 4] (fun _ => mixed) (l' := [ps 0 (.ssl (ints l) 0 l.length), ps 3 (.av (.slice none 0 0)), ps 4 (iv 1)]) (obs := []) (by kernel_rfl) (obs_nil) ?_
  refine T_block ?_
  refine T_wk (Wk.nil (s := 3) 3 (by kernel_rfl)) ?_
  refine T_wk (Wk.less (l' := [ps 0 (.ssl (ints l) 0 l.length), ps 3 (.osl 24 0 0), ps 4 (iv 1), pb 24 3 []]) 25 (by kernel_rfl) (by kernel_rfl)) ?_
  refine T_wk (Wk.eq (show [ps 0 (.ssl (ints l) 0 l.length), ps 3 (.osl 24 0 0), ps 4 (iv 1), pb 24 3 []] = [ps 0 (.ssl (ints l) 0 l.length), ps 3 (.osl 24 0 (1 - 1)), ps 4 (iv ((1 : Nat) : Int)), pb 24 3 (ints ((dl l).take (1 - 1)))] from by rfl)) ?_
  refine T_loop (α := {x : Nat // 1 ≤ x ∧ (x ≤ l.length ∨ x = 1)}) (fun x => [ps 0 (.ssl (ints l) 0 l.length), ps 3 (.osl 0 0 (x.1 - 1)), ps 4 (iv ((x.1 : Nat) : Int)), pb 0 3 (ints ((dl l).take (x.1 - 1)))]) (fun x => l.length + 1 - x.1) 1 ⟨1, ⟨Nat.le_refl _, .inr rfl⟩⟩ (Wk.ren3 [ps 0 (.ssl (ints l) 0 l.length), ps 3 (.osl 0 0 (1 - 1)), ps 4 (iv ((1 : Nat) : Int)), pb 0 3 (ints ((dl l).take (1 - 1)))] 0 hc0 [24] [(kb 0, (ints ((dl l).take (1 - 1))))] (obs_cons (ints_shd _) (obs_nil)) (by kernel_rfl) rfl rfl (by kernel_rfl) (by kernel_rfl)) ?_
  rintro ⟨i, ⟨hi1, hi⟩⟩
  refine T_seq ?_
  refine T_seq ?_
  refine T_region [] [ks 0, ks 3, ks 4, ks 8, kb 0] (fun _ => mixed) (l' := [ps 0 (.ssl (ints l) 0 l.length), ps 3 (.osl 0 0 (i - 1)), ps 4 (iv ((i : Nat) : Int)), ps 8 (bv (decide (((i : Nat) : Int) < ((l.length : Nat) : Int)))), pb 0 3 (ints ((dl l).take (i - 1)))]) (obs := []) (by kernel_rfl) (obs_nil) ?_
  by_cases h1 : ((i : Nat) : Int) < ((l.length : Nat) : Int)
  · refine T_then (b := (decide (((i : Nat) : Int) < ((l.length : Nat) : Int)))) rfl (decide_eq_true h1) ?_
    refine T_skip ?_
    refine T_seq ?_
    refine T_block ?_
    have ha := hx i
    have hb := hx (i - 1)
    have hln : ((dl l).take (i - 1)).length = i - 1 := by rw [List.length_take, dl_length]; omega
    refine T_regionD [(3, .nat i), (4, .val (iv (l.getD i 0))), (8, .nat ((i - 1))), (9, .val (iv (l.getD (i - 1) 0))), (12, .app none (some (ints (((dl l).take (i - 1)) ++ [(l.getD i 0) - (l.getD (i - 1) 0)]))))] [[], [], [], [1, 2], [1, 2, 3], [], [], [6], [5, 6, 7], [5, 6, 7, 8], [1, 2, 3, 4, 5, 6, 7, 8, 9], [1, 2, 3, 4, 5, 6, 7, 8, 9, 10], [0, 1, 2, 3, 4, 5, 6, 7, 8, 9, 10, 11], [0, 1, 2, 3, 4, 5, 6, 7, 8, 9, 10, 11, 12]] [([22], [6]), ([24], [0]), ([26], [8]), ([28], [24, 26]), ([30], [28]), ([32], [0]), ([34], [8]), ([36], [34]), ([38], [32, 36]), ([40], [38]), ([42], [30, 40]), ([44, 243], [42]), ([46, 1, 259], [1, 22, 44, 243]), ([6], [46])] [ks 0, ks 3, ks 4, kb 129] (l' := [ps 0 (.ssl (ints l) 0 l.length), ps 3 (.osl 129 0 ((i - 1) + 1)), ps 4 (iv ((i : Nat) : Int)), pb 129 3 (ints (((dl l).take (i - 1)) ++ [(l.getD i 0) - (l.getD (i - 1) 0)]))]) (obs := [(0 : Int) ≤ ((i : Nat) : Int) ∧ ((i : Nat) : Int) < ((l.length : Nat) : Int), 0 + (((i : Nat) : Int) : Int).toNat * 1 = i, i + 1 ≤ ((ints l)).length ∧ (((ints l)).drop i).take 1 = [(iv (l.getD i 0))], InK .i64 (((i : Nat) : Int) - 1), (0 : Int) ≤ (((i : Nat) : Int) - 1) ∧ (((i : Nat) : Int) - 1) < ((l.length : Nat) : Int), 0 + ((((i : Nat) : Int) - 1) : Int).toNat * 1 = ((i - 1)), ((i - 1)) + 1 ≤ ((ints l)).length ∧ (((ints l)).drop ((i - 1))).take 1 = [(iv (l.getD (i - 1) 0))], InK .i64 ((l.getD i 0) - (l.getD (i - 1) 0)), ((ints ((dl l).take (i - 1)))).length = (i - 1) * 1, ((i - 1) + 1) * 8 ≤ 140737488355328 ∧ (i - 1) + 1 ≤ 9223372036854775807, (ints ((dl l).take (i - 1))) ++ [(iv ((l.getD i 0) - (l.getD (i - 1) 0)))] = (ints (((dl l).take (i - 1)) ++ [(l.getD i 0) - (l.getD (i - 1) 0)]))]) mixed (by kernel_rfl) (by kernel_rfl) (obs_cons (p := (0 : Int) ≤ ((i : Nat) : Int) ∧ ((i : Nat) : Int) < ((l.length : Nat) : Int)) (by omega) (obs_cons (p := 0 + (((i : Nat) : Int) : Int).toNat * 1 = i) (by omega) (obs_cons (p := i + 1 ≤ ((ints l)).length ∧ (((ints l)).drop i).take 1 = [(iv (l.getD i 0))]) (ints_at (by omega)) (obs_cons (p := InK .i64 (((i : Nat) : Int) - 1)) (by simp only [InK]; omega) (obs_cons (p := (0 : Int) ≤ (((i : Nat) : Int) - 1) ∧ (((i : Nat) : Int) - 1) < ((l.length : Nat) : Int)) (by omega) (obs_cons (p := 0 + ((((i : Nat) : Int) - 1) : Int).toNat * 1 = ((i - 1))) (by omega) (obs_cons (p := ((i - 1)) + 1 ≤ ((ints l)).length ∧ (((ints l)).drop ((i - 1))).take 1 = [(iv (l.getD (i - 1) 0))]) (ints_at (by omega)) (obs_cons (p := InK .i64 ((l.getD i 0) - (l.getD (i - 1) 0))) (by simp only [InK]; omega) (obs_cons (p := ((ints ((dl l).take (i - 1)))).length = (i - 1) * 1) (by have h8 := ints_len ((dl l).take (i - 1)); omega) (obs_cons (p := ((i - 1) + 1) * 8 ≤ 140737488355328 ∧ (i - 1) + 1 ≤ 9223372036854775807) (by omega) (obs_cons (p := (ints ((dl l).take (i - 1))) ++ [(iv ((l.getD i 0) - (l.getD (i - 1) 0)))] = (ints (((dl l).take (i - 1)) ++ [(l.getD i 0) - (l.getD (i - 1) 0)]))) (flat_app (fun n => [iv n]) ((dl l).take (i - 1)) [(l.getD i 0) - (l.getD (i - 1) 0)]).symm (obs_nil)))))))))))) ?_
    refine T_blk ?_
    refine T_region [] [ks 0, ks 3, ks 4, kb 129] (fun _ => mixed) (l' := [ps 0 (.ssl (ints l) 0 l.length), ps 3 (.osl 129 0 ((i - 1) + 1)), ps 4 (iv (((i : Nat) : Int) + 1)), pb 129 3 (ints (((dl l).take (i - 1)) ++ [(l.getD i 0) - (l.getD (i - 1) 0)]))]) (obs := [InK .i64 (((i : Nat) : Int) + 1)]) (by kernel_rfl) (obs_cons (p := InK .i64 (((i : Nat) : Int) + 1)) (by simp only [InK]; omega) (obs_nil)) ?_
    exact T_back ⟨i + 1, ⟨by omega, by omega⟩⟩ (Wk.trans (Wk.eq (show [ps 0 (.ssl (ints l) 0 l.length), ps 3 (.osl 129 0 ((i - 1) + 1)), ps 4 (iv (((i : Nat) : Int) + 1)), pb 129 3 (ints (((dl l).take (i - 1)) ++ [(l.getD i 0) - (l.getD (i - 1) 0)]))] = [ps 0 (.ssl (ints l) 0 l.length), ps 3 (.osl 129 0 (i + 1 - 1)), ps 4 (iv (((i : Nat) : Int) + 1)), pb 129 3 (ints ((dl l).take (i + 1 - 1)))] from by rw [dl_next hi1 (by omega), Nat.add_sub_cancel, show i - 1 + 1 = i from by omega])) (Wk.ren3 [ps 0 (.ssl (ints l) 0 l.length), ps 3 (.osl 0 0 ((i + 1) - 1)), ps 4 (iv (((i + 1) : Nat) : Int)), pb 0 3 (ints ((dl l).take ((i + 1) - 1)))] 0 hc0 [129] [(kb 0, (ints ((dl l).take ((i + 1) - 1))))] (obs_cons (ints_shd _) (obs_nil)) (by kernel_rfl) rfl rfl (by kernel_rfl) (by kernel_rfl))) (show l.length + 1 - (i + 1) < l.length + 1 - i from by show l.length + 1 - (i + 1) < l.length + 1 - i; omega)
  · refine T_else (b := (decide (((i : Nat) : Int) < ((l.length : Nat) : Int)))) rfl (decide_eq_false h1) ?_
    refine T_break rfl rfl ?_
    refine T_seq ?_
    refine T_region [] [ks 2, kb 0] (fun _ => mixed) (l' := [ps 2 (.osl 0 0 (i - 1)), pb 0 3 (ints ((dl l).take (i - 1)))]) (obs := []) (by kernel_rfl) (obs_nil) ?_
    have hT : (dl l).take (i - 1) = dl l := List.take_of_length_le (by rw [dl_length]; omega)
    have hT2 : i - 1 = (dl l).length := by rw [dl_length]; omega
    refine T_wk (Wk.eq (show [ps 2 (.osl 0 0 (i - 1)), pb 0 3 (ints ((dl l).take (i - 1)))] = [ps 2 (.osl 0 0 ((dl l).length)), pb 0 3 (ints (dl l))] from by rw [hT, hT2])) ?_
    refine T_wk (Wk.frz (l' := [ps 2 (.ssl (ints (dl l)) 0 ((dl l).length)), (kb 0, none)]) 0 (T := 3) (cs := (ints (dl l))) (by kernel_rfl) (ints_shd _) (by kernel_rfl)) ?_
    refine T_wk (Wk.less (l' := [ps 2 (.ssl (ints (dl l)) 0 ((dl l).length))]) 49 (by kernel_rfl) (by kernel_rfl)) ?_
    exact T_ret fun cx_ a_ hI_ => ret_ok (H' := []) (.inr rfl) (Wk.ren2 [ps 2 (.ssl (ints (dl l)) 0 ((dl l).length))] 0 hc0 [] rfl rfl (by kernel_rfl) (by kernel_rfl)) rfl (obs_nil) (fun cx_ a_ hI_ => ret_res (l' := [ps 2 (.ssl (ints (dl l)) 0 ((dl l).length))]) (by kernel_rfl) cx_ a_ hI_) hI_
theorem ref_misses_pc (l : List Int) (hl : l.length ≤ 256) (hs : Small l) (o : Nat) (ho : o ≤ 3) : PC Try.prog 15 [(.ssl (ints l) 0 l.length), (iv ((o : Nat) : Int))] [] (.ssl (ints (misses l o)) 0 ((misses l o).length)) [] := by
  refine pc_intro Try.func15 rfl (by kernel_rfl) (Nat.le_of_ble_eq_true rfl) (by kernel_rfl) (l0 := [ps 0 (.ssl (ints l) 0 l.length), ps 1 (iv ((o : Nat) : Int))]) rfl (fun c0 Bor hc0 => ?_)
  refine T_seq ?_
  refine T_region [] [ks 0, ks 1] (fun _ => mixed) (l' := [ps 0 (.ssl (ints l) 0 l.length), ps 1 (iv ((o : Nat) : Int))]) (obs := []) (by kernel_rfl) (obs_nil) ?_
  refine T_seq ?_
  refine T_seq ?_
  refine T_region [] [ks 0, ks 1, ks 5] (fun _ => mixed) (l' := [ps 0 (.ssl (ints l) 0 l.length), ps 1 (iv ((o : Nat) : Int)), ps 5 (iv 0)]) (obs := []) (by kernel_rfl) (obs_nil) ?_
  refine T_block ?_
  refine T_wk (Wk.eq (show [ps 0 (.ssl (ints l) 0 l.length), ps 1 (iv ((o : Nat) : Int)), ps 5 (iv 0)] = [ps 0 (.ssl (ints (dn l 0)) 0 ((dn l 0).length)), ps 1 (iv ((o : Nat) : Int)), ps 5 (iv 0)] from by rfl)) ?_
  refine T_loop (α := {x : Nat // x ≤ o}) (fun x => [ps 0 (.ssl (ints (dn l x.1)) 0 ((dn l x.1).length)), ps 1 (iv ((o : Nat) : Int)), ps 5 (iv ((x.1 : Nat) : Int))]) (fun x => o - x.1) 0 ⟨0, Nat.zero_le _⟩ (Wk.ren2 [ps 0 (.ssl (ints (dn l 0)) 0 ((dn l 0).length)), ps 1 (iv ((o : Nat) : Int)), ps 5 (iv ((0 : Nat) : Int))] 0 hc0 [] rfl rfl (by kernel_rfl) (by kernel_rfl)) ?_
  rintro ⟨k, hk⟩
  refine T_seq ?_
  refine T_seq ?_
  refine T_region [] [ks 0, ks 1, ks 5, ks 11] (fun _ => mixed) (l' := [ps 0 (.ssl (ints (dn l k)) 0 ((dn l k).length)), ps 1 (iv ((o : Nat) : Int)), ps 5 (iv ((k : Nat) : Int)), ps 11 (bv (decide (((k : Nat) : Int) < ((o : Nat) : Int))))]) (obs := []) (by kernel_rfl) (obs_nil) ?_
  by_cases h1 : ((k : Nat) : Int) < ((o : Nat) : Int)
  · refine T_then (b := (decide (((k : Nat) : Int) < ((o : Nat) : Int)))) rfl (decide_eq_true h1) ?_
    refine T_skip ?_
    refine T_seq ?_
    refine T_block ?_
    refine T_region [(1, .call [] [(.ssl (ints (dn l k)) 0 ((dn l k).length))] [] (.ssl (ints (dl (dn l k))) 0 ((dl (dn l k)).length)) [])] [ks 0, ks 1, ks 5] (fun _ => mixed) (l' := [ps 0 (.ssl (ints (dl (dn l k))) 0 ((dl (dn l k)).length)), ps 1 (iv ((o : Nat) : Int)), ps 5 (iv ((k : Nat) : Int))]) (obs := [PC Try.prog 32 [(.ssl (ints (dn l k)) 0 ((dn l k).length))] [] (.ssl (ints (dl (dn l k))) 0 ((dl (dn l k)).length)) [], [(.ssl (ints (dn l k)) 0 ((dn l k).length))] = renL (sigi [] 32) [(.ssl (ints (dn l k)) 0 ((dn l k).length))]]) (by kernel_rfl) (obs_cons (p := PC Try.prog 32 [(.ssl (ints (dn l k)) 0 ((dn l k).length))] [] (.ssl (ints (dl (dn l k))) 0 ((dl (dn l k)).length)) []) (diff_pc (dn l k) (by rw [dn_length]; omega) (fun i => dn_bd hs (by omega))) (obs_cons (p := [(.ssl (ints (dn l k)) 0 ((dn l k).length))] = renL (sigi [] 32) [(.ssl (ints (dn l k)) 0 ((dn l k).length))]) rfl (obs_nil))) ?_
    refine T_blk ?_
    refine T_region [] [ks 0, ks 1, ks 5] (fun _ => mixed) (l' := [ps 0 (.ssl (ints (dl (dn l k))) 0 ((dl (dn l k)).length)), ps 1 (iv ((o : Nat) : Int)), ps 5 (iv (((k : Nat) : Int) + 1))]) (obs := [InK .i64 (((k : Nat) : Int) + 1)]) (by kernel_rfl) (obs_cons (p := InK .i64 (((k : Nat) : Int) + 1)) (by simp only [InK]; omega) (obs_nil)) ?_
    exact T_back ⟨k + 1, by show k + 1 ≤ o; omega⟩ (Wk.trans (Wk.eq (show [ps 0 (.ssl (ints (dl (dn l k))) 0 ((dl (dn l k)).length)), ps 1 (iv ((o : Nat) : Int)), ps 5 (iv (((k : Nat) : Int) + 1))] = [ps 0 (.ssl (ints (dn l (k + 1))) 0 ((dn l (k + 1)).length)), ps 1 (iv ((o : Nat) : Int)), ps 5 (iv (((k : Nat) : Int) + 1))] from by rfl)) (Wk.ren2 [ps 0 (.ssl (ints (dn l (k + 1))) 0 ((dn l (k + 1)).length)), ps 1 (iv ((o : Nat) : Int)), ps 5 (iv (((k + 1) : Nat) : Int))] 0 hc0 [] rfl rfl (by kernel_rfl) (by kernel_rfl))) (show o - (k + 1) < o - k from by show o - (k + 1) < o - k; omega)
  · refine T_else (b := (decide (((k : Nat) : Int) < ((o : Nat) : Int)))) rfl (decide_eq_false h1) ?_
    refine T_break rfl rfl ?_
    refine T_seq ?_
    have hko : k = o := by omega
    have hdl := dn_length l o
    have hml := misses_length l o
    refine T_wk (Wk.eq (show [ps 0 (.ssl (ints (dn l k)) 0 ((dn l k).length)), ps 1 (iv ((o : Nat) : Int)), ps 5 (iv ((k : Nat) : Int)), ps 11 (bv (decide (((k : Nat) : Int) < ((o : Nat) : Int))))] = [ps 0 (.ssl (ints (dn l o)) 0 ((dn l o).length)), ps 1 (iv ((o : Nat) : Int)), ps 5 (iv ((k : Nat) : Int)), ps 11 (bv (decide (((k : Nat) : Int) < ((o : Nat) : Int))))] from by rw [hko])) ?_
    refine T_region [] [ks 0, ks 6] (fun _ => mixed) (l' := [ps 0 (.ssl (ints (dn l o)) 0 ((dn l o).length)), ps 6 (.av (.slice none 0 0))]) (obs := []) (by kernel_rfl) (obs_nil) ?_
    refine T_seq ?_
    refine T_seq ?_
    refine T_region [] [ks 6, ks 16, ks 17, ks 18] (fun _ => mixed) (l' := [ps 6 (.av (.slice none 0 0)), ps 16 (.ssl (ints (dn l o)) 0 ((dn l o).length)), ps 17 (iv (((dn l o).length : Nat) : Int)), ps 18 (iv 0)]) (obs := []) (by kernel_rfl) (obs_nil) ?_
    refine T_block ?_
    refine T_wk (Wk.nil (s := 6) 3 (by kernel_rfl)) ?_
    refine T_wk (Wk.less (l' := [ps 6 (.osl 56 0 0), ps 16 (.ssl (ints (dn l o)) 0 ((dn l o).length)), ps 17 (iv (((dn l o).length : Nat) : Int)), ps 18 (iv 0), pb 56 3 []]) 57 (by kernel_rfl) (by kernel_rfl)) ?_
    refine T_wk (Wk.eq (show [ps 6 (.osl 56 0 0), ps 16 (.ssl (ints (dn l o)) 0 ((dn l o).length)), ps 17 (iv (((dn l o).length : Nat) : Int)), ps 18 (iv 0), pb 56 3 []] = [ps 6 (.osl 56 0 0), ps 16 (.ssl (ints (dn l o)) 0 ((dn l o).length)), ps 17 (iv (((dn l o).length : Nat) : Int)), ps 18 (iv 0), pb 56 3 (ints ((misses l o).take 0))] from by rfl)) ?_
    refine T_loop (α := {x : Nat // x ≤ (dn l o).length}) (fun x => [ps 6 (.osl 0 0 x.1), ps 16 (.ssl (ints (dn l o)) 0 ((dn l o).length)), ps 17 (iv (((dn l o).length : Nat) : Int)), ps 18 (iv ((x.1 : Nat) : Int)), pb 0 3 (ints ((misses l o).take x.1))]) (fun x => (dn l o).length - x.1) 1 ⟨0, Nat.zero_le _⟩ (Wk.ren3 [ps 6 (.osl 0 0 0), ps 16 (.ssl (ints (dn l o)) 0 ((dn l o).length)), ps 17 (iv (((dn l o).length : Nat) : Int)), ps 18 (iv ((0 : Nat) : Int)), pb 0 3 (ints ((misses l o).take 0))] 0 hc0 [56] [(kb 0, (ints ((misses l o).take 0)))] (obs_cons (ints_shd _) (obs_nil)) (by kernel_rfl) rfl rfl (by kernel_rfl) (by kernel_rfl)) ?_
    rintro ⟨i, hi⟩
    refine T_seq ?_
    refine T_region [] [ks 6, ks 16, ks 17, ks 18, ks 19, kb 0] (fun _ => mixed) (l' := [ps 6 (.osl 0 0 i), ps 16 (.ssl (ints (dn l o)) 0 ((dn l o).length)), ps 17 (iv (((dn l o).length : Nat) : Int)), ps 18 (iv ((i : Nat) : Int)), ps 19 (bv (decide (((i : Nat) : Int) < (((dn l o).length : Nat) : Int)))), pb 0 3 (ints ((misses l o).take i))]) (obs := []) (by kernel_rfl) (obs_nil) ?_
    refine T_seq ?_
    by_cases h2 : ((i : Nat) : Int) < (((dn l o).length : Nat) : Int)
    · refine T_then (b := (decide (((i : Nat) : Int) < (((dn l o).length : Nat) : Int)))) rfl (decide_eq_true h2) ?_
      refine T_skip ?_
      refine T_seq ?_
      refine T_block ?_
      refine T_seq ?_
      refine T_region [(0, .nat i), (1, .val (iv ((dn l o).getD i 0)))] [ks 6, ks 8, ks 16, ks 17, ks 18, kb 0] (fun _ => mixed) (l' := [ps 6 (.osl 0 0 i), ps 8 (iv ((dn l o).getD i 0)), ps 16 (.ssl (ints (dn l o)) 0 ((dn l o).length)), ps 17 (iv (((dn l o).length : Nat) : Int)), ps 18 (iv ((i : Nat) : Int)), pb 0 3 (ints ((misses l o).take i))]) (obs := [(0 : Int) ≤ ((i : Nat) : Int) ∧ ((i : Nat) : Int) < (((dn l o).length : Nat) : Int), 0 + (((i : Nat) : Int) : Int).toNat * 1 = i, i + 1 ≤ ((ints (dn l o))).length ∧ (((ints (dn l o))).drop i).take 1 = [(iv ((dn l o).getD i 0))]]) (by kernel_rfl) (obs_cons (p := (0 : Int) ≤ ((i : Nat) : Int) ∧ ((i : Nat) : Int) < (((dn l o).length : Nat) : Int)) (by omega) (obs_cons (p := 0 + (((i : Nat) : Int) : Int).toNat * 1 = i) (by omega) (obs_cons (p := i + 1 ≤ ((ints (dn l o))).length ∧ (((ints (dn l o))).drop i).take 1 = [(iv ((dn l o).getD i 0))]) (ints_at (by rw [dn_length]; omega)) (obs_nil)))) ?_
      have hln : ((misses l o).take i).length = i := by rw [List.length_take]; omega
      refine T_region [(2, .call [] [(iv ((dn l o).getD i 0))] [] (iv (Co.fold ((dn l o).getD i 0))) []), (4, .app none (some (ints (((misses l o).take i) ++ [Co.fold ((dn l o).getD i 0)]))))] [ks 6, ks 16, ks 17, ks 18, kb 65] (fun _ => mixed) (l' := [ps 6 (.osl 65 0 (i + 1)), ps 16 (.ssl (ints (dn l o)) 0 ((dn l o).length)), ps 17 (iv (((dn l o).length : Nat) : Int)), ps 18 (iv ((i : Nat) : Int)), pb 65 3 (ints (((misses l o).take i) ++ [Co.fold ((dn l o).getD i 0)]))]) (obs := [PC Try.prog 33 [(iv ((dn l o).getD i 0))] [] (iv (Co.fold ((dn l o).getD i 0))) [], [(iv ((dn l o).getD i 0))] = renL (sigi [] 49) [(iv ((dn l o).getD i 0))], ((ints ((misses l o).take i))).length = i * 1, (i + 1) * 8 ≤ 140737488355328 ∧ i + 1 ≤ 9223372036854775807, (ints ((misses l o).take i)) ++ [(iv (Co.fold ((dn l o).getD i 0)))] = (ints (((misses l o).take i) ++ [Co.fold ((dn l o).getD i 0)]))]) (by kernel_rfl) (obs_cons (p := PC Try.prog 33 [(iv ((dn l o).getD i 0))] [] (iv (Co.fold ((dn l o).getD i 0))) []) (ref_fold_pc ((dn l o).getD i 0) (by have := dn_bd (i := i) hs ho; rw [← X_getD] at this; omega) (by have := dn_bd (i := i) hs ho; rw [← X_getD] at this; omega)) (obs_cons (p := [(iv ((dn l o).getD i 0))] = renL (sigi [] 49) [(iv ((dn l o).getD i 0))]) rfl (obs_cons (p := ((ints ((misses l o).take i))).length = i * 1) (by have h8 := ints_len ((misses l o).take i); omega) (obs_cons (p := (i + 1) * 8 ≤ 140737488355328 ∧ i + 1 ≤ 9223372036854775807) (by omega) (obs_cons (p := (ints ((misses l o).take i)) ++ [(iv (Co.fold ((dn l o).getD i 0)))] = (ints (((misses l o).take i) ++ [Co.fold ((dn l o).getD i 0)]))) (flat_app (fun n => [iv n]) ((misses l o).take i) [Co.fold ((dn l o).getD i 0)]).symm (obs_nil)))))) ?_
      refine T_blk ?_
      refine T_region [] [ks 6, ks 16, ks 17, ks 18, kb 65] (fun _ => mixed) (l' := [ps 6 (.osl 65 0 (i + 1)), ps 16 (.ssl (ints (dn l o)) 0 ((dn l o).length)), ps 17 (iv (((dn l o).length : Nat) : Int)), ps 18 (iv (((i : Nat) : Int) + 1)), pb 65 3 (ints (((misses l o).take i) ++ [Co.fold ((dn l o).getD i 0)]))]) (obs := [InK .i64 (((i : Nat) : Int) + 1)]) (by kernel_rfl) (obs_cons (p := InK .i64 (((i : Nat) : Int) + 1)) (by simp only [InK]; omega) (obs_nil)) ?_
      exact T_back ⟨i + 1, by show i + 1 ≤ (dn l o).length; omega⟩ (Wk.trans (Wk.eq (show [ps 6 (.osl 65 0 (i + 1)), ps 16 (.ssl (ints (dn l o)) 0 ((dn l o).length)), ps 17 (iv (((dn l o).length : Nat) : Int)), ps 18 (iv (((i : Nat) : Int) + 1)), pb 65 3 (ints (((misses l o).take i) ++ [Co.fold ((dn l o).getD i 0)]))] = [ps 6 (.osl 65 0 (i + 1)), ps 16 (.ssl (ints (dn l o)) 0 ((dn l o).length)), ps 17 (iv (((dn l o).length : Nat) : Int)), ps 18 (iv (((i : Nat) : Int) + 1)), pb 65 3 (ints ((misses l o).take (i + 1)))] from by rw [mis_next ho (by omega)])) (Wk.ren3 [ps 6 (.osl 0 0 (i + 1)), ps 16 (.ssl (ints (dn l o)) 0 ((dn l o).length)), ps 17 (iv (((dn l o).length : Nat) : Int)), ps 18 (iv (((i + 1) : Nat) : Int)), pb 0 3 (ints ((misses l o).take (i + 1)))] 0 hc0 [65] [(kb 0, (ints ((misses l o).take (i + 1))))] (obs_cons (ints_shd _) (obs_nil)) (by kernel_rfl) rfl rfl (by kernel_rfl) (by kernel_rfl))) (show (dn l o).length - (i + 1) < (dn l o).length - i from by show (dn l o).length - (i + 1) < (dn l o).length - i; omega)
    · refine T_else (b := (decide (((i : Nat) : Int) < (((dn l o).length : Nat) : Int)))) rfl (decide_eq_false h2) ?_
      refine T_break rfl rfl ?_
      refine T_seq ?_
      refine T_region [] [ks 4, kb 0] (fun _ => mixed) (l' := [ps 4 (.osl 0 0 i), pb 0 3 (ints ((misses l o).take i))]) (obs := []) (by kernel_rfl) (obs_nil) ?_
      have hT : (misses l o).take i = misses l o := List.take_of_length_le (by omega)
      have hT2 : i = (misses l o).length := by omega
      refine T_wk (Wk.eq (show [ps 4 (.osl 0 0 i), pb 0 3 (ints ((misses l o).take i))] = [ps 4 (.osl 0 0 ((misses l o).length)), pb 0 3 (ints (misses l o))] from by rw [hT, ← hT2])) ?_
      refine T_wk (Wk.frz (l' := [ps 4 (.ssl (ints (misses l o)) 0 ((misses l o).length)), (kb 0, none)]) 0 (T := 3) (cs := (ints (misses l o))) (by kernel_rfl) (ints_shd _) (by kernel_rfl)) ?_
      refine T_wk (Wk.less (l' := [ps 4 (.ssl (ints (misses l o)) 0 ((misses l o).length))]) 25 (by kernel_rfl) (by kernel_rfl)) ?_
      exact T_ret fun cx_ a_ hI_ => ret_ok (H' := []) (.inr rfl) (Wk.ren2 [ps 4 (.ssl (ints (misses l o)) 0 ((misses l o).length))] 0 hc0 [] rfl rfl (by kernel_rfl) (by kernel_rfl)) rfl (obs_nil) (fun cx_ a_ hI_ => ret_res (l' := [ps 4 (.ssl (ints (misses l o)) 0 ((misses l o).length))]) (by kernel_rfl) cx_ a_ hI_) hI_
theorem ref_long_pc (l : List Int) (hl : l.length ≤ 256) (hs : Small l) (o k : Nat) (ho : o ≤ 3) (hk : k ≤ 15) : PC Try.prog 8 [(.ssl (ints l) 0 l.length), (iv ((o : Nat) : Int)), (iv ((k : Nat) : Int))] [] (iv (6 + long l o k)) [] := by
  have hml := misses_length l o
  refine pc_intro Try.func8 rfl (by kernel_rfl) (Nat.le_of_ble_eq_true rfl) (by kernel_rfl) (l0 := [ps 0 (.ssl (ints l) 0 l.length), ps 1 (iv ((o : Nat) : Int)), ps 2 (iv ((k : Nat) : Int))]) rfl (fun c0 Bor hc0 => ?_)
  refine T_seq ?_
  refine T_region [] [ks 0, ks 1, ks 2] (fun _ => mixed) (l' := [ps 0 (.ssl (ints l) 0 l.length), ps 1 (iv ((o : Nat) : Int)), ps 2 (iv ((k : Nat) : Int))]) (obs := []) (by kernel_rfl) (obs_nil) ?_
  refine T_seq ?_
  refine T_region [] [ks 0, ks 1, ks 2, ks 7] (fun _ => mixed) (l' := [ps 0 (.ssl (ints l) 0 l.length), ps 1 (iv ((o : Nat) : Int)), ps 2 (iv ((k : Nat) : Int)), ps 7 (iv (6 + (16 * ((o : Nat) : Int))))]) (obs := [InK .i64 (16 * ((o : Nat) : Int)), InK .i64 (6 + (16 * ((o : Nat) : Int)))]) (by kernel_rfl) (obs_cons (p := InK .i64 (16 * ((o : Nat) : Int))) (by simp only [InK]; omega) (obs_cons (p := InK .i64 (6 + (16 * ((o : Nat) : Int)))) (by simp only [InK]; omega) (obs_nil))) ?_
  refine T_seq ?_
  refine T_seq ?_
  refine T_region [] [ks 0, ks 1, ks 2, ks 7, ks 16] (fun _ => mixed) (l' := [ps 0 (.ssl (ints l) 0 l.length), ps 1 (iv ((o : Nat) : Int)), ps 2 (iv ((k : Nat) : Int)), ps 7 (iv (6 + (16 * ((o : Nat) : Int)))), ps 16 (bv (decide (((l.length : Nat) : Int) < ((o : Nat) : Int))))]) (obs := []) (by kernel_rfl) (obs_nil) ?_
  by_cases h1 : ((l.length : Nat) : Int) < ((o : Nat) : Int)
  · refine T_then (b := (decide (((l.length : Nat) : Int) < ((o : Nat) : Int)))) rfl (decide_eq_true h1) ?_
    refine T_region [] [ks 0, ks 1, ks 2, ks 7] (fun _ => mixed) (l' := [ps 0 (.ssl (ints l) 0 l.length), ps 1 (iv ((o : Nat) : Int)), ps 2 (iv ((k : Nat) : Int)), ps 7 (iv (6 + (16 * ((l.length : Nat) : Int))))]) (obs := [InK .i64 (16 * ((l.length : Nat) : Int)), InK .i64 (6 + (16 * ((l.length : Nat) : Int)))]) (by kernel_rfl) (obs_cons (p := InK .i64 (16 * ((l.length : Nat) : Int))) (by simp only [InK]; omega) (obs_cons (p := InK .i64 (6 + (16 * ((l.length : Nat) : Int)))) (by simp only [InK]; omega) (obs_nil))) ?_
    refine T_seq ?_
    refine T_seq ?_
    refine T_region [(2, .call [] [(.ssl (ints l) 0 l.length), (iv ((o : Nat) : Int))] [] (.ssl (ints (misses l o)) 0 ((misses l o).length)) [])] [ks 2, ks 7, ks 23, ks 24, ks 25] (fun _ => mixed) (l' := [ps 2 (iv ((k : Nat) : Int)), ps 7 (iv (6 + (16 * ((l.length : Nat) : Int)))), ps 23 (.ssl (ints (misses l o)) 0 ((misses l o).length)), ps 24 (iv (((misses l o).length : Nat) : Int)), ps 25 (iv 0)]) (obs := [PC Try.prog 15 [(.ssl (ints l) 0 l.length), (iv ((o : Nat) : Int))] [] (.ssl (ints (misses l o)) 0 ((misses l o).length)) [], [(.ssl (ints l) 0 l.length), (iv ((o : Nat) : Int))] = renL (sigi [] 128) [(.ssl (ints l) 0 l.length), (iv ((o : Nat) : Int))]]) (by kernel_rfl) (obs_cons (p := PC Try.prog 15 [(.ssl (ints l) 0 l.length), (iv ((o : Nat) : Int))] [] (.ssl (ints (misses l o)) 0 ((misses l o).length)) []) (ref_misses_pc l hl hs o ho) (obs_cons (p := [(.ssl (ints l) 0 l.length), (iv ((o : Nat) : Int))] = renL (sigi [] 128) [(.ssl (ints l) 0 l.length), (iv ((o : Nat) : Int))]) rfl (obs_nil))) ?_
    refine T_block ?_
    refine T_loop (α := {x : Nat × Int // x.1 ≤ (misses l o).length ∧ 0 ≤ x.2 ∧ x.2 + costs k ((misses l o).drop x.1) = 6 + long l o k}) (fun x => [ps 2 (iv ((k : Nat) : Int)), ps 7 (iv x.1.2), ps 23 (.ssl (ints (misses l o)) 0 ((misses l o).length)), ps 24 (iv (((misses l o).length : Nat) : Int)), ps 25 (iv ((x.1.1 : Nat) : Int))]) (fun x => (misses l o).length - x.1.1) 0 ⟨(0, (6 + (16 * ((l.length : Nat) : Int)))), ⟨Nat.zero_le _, by show (0 : Int) ≤ (6 + (16 * ((l.length : Nat) : Int))); omega, by show (6 + (16 * ((l.length : Nat) : Int))) + costs k ((misses l o).drop 0) = 6 + long l o k; rw [List.drop_zero]; unfold long; omega⟩⟩ (Wk.ren2 [ps 2 (iv ((k : Nat) : Int)), ps 7 (iv (6 + (16 * ((l.length : Nat) : Int)))), ps 23 (.ssl (ints (misses l o)) 0 ((misses l o).length)), ps 24 (iv (((misses l o).length : Nat) : Int)), ps 25 (iv ((0 : Nat) : Int))] 0 hc0 [] rfl rfl (by kernel_rfl) (by kernel_rfl)) ?_
    rintro ⟨⟨i, s⟩, ⟨hi, h0, hr⟩⟩
    dsimp only at hi h0 hr
    refine T_seq ?_
    refine T_region [] [ks 2, ks 7, ks 23, ks 24, ks 25, ks 26] (fun _ => mixed) (l' := [ps 2 (iv ((k : Nat) : Int)), ps 7 (iv s), ps 23 (.ssl (ints (misses l o)) 0 ((misses l o).length)), ps 24 (iv (((misses l o).length : Nat) : Int)), ps 25 (iv ((i : Nat) : Int)), ps 26 (bv (decide (((i : Nat) : Int) < (((misses l o).length : Nat) : Int))))]) (obs := []) (by kernel_rfl) (obs_nil) ?_
    refine T_seq ?_
    by_cases h2 : ((i : Nat) : Int) < (((misses l o).length : Nat) : Int)
    · refine T_then (b := (decide (((i : Nat) : Int) < (((misses l o).length : Nat) : Int)))) rfl (decide_eq_true h2) ?_
      refine T_skip ?_
      refine T_seq ?_
      refine T_block ?_
      refine T_seq ?_
      refine T_region [(0, .nat i), (1, .val (iv ((misses l o).getD i 0)))] [ks 2, ks 7, ks 9, ks 23, ks 24, ks 25] (fun _ => mixed) (l' := [ps 2 (iv ((k : Nat) : Int)), ps 7 (iv s), ps 9 (iv ((misses l o).getD i 0)), ps 23 (.ssl (ints (misses l o)) 0 ((misses l o).length)), ps 24 (iv (((misses l o).length : Nat) : Int)), ps 25 (iv ((i : Nat) : Int))]) (obs := [(0 : Int) ≤ ((i : Nat) : Int) ∧ ((i : Nat) : Int) < (((misses l o).length : Nat) : Int), 0 + (((i : Nat) : Int) : Int).toNat * 1 = i, i + 1 ≤ ((ints (misses l o))).length ∧ (((ints (misses l o))).drop i).take 1 = [(iv ((misses l o).getD i 0))]]) (by kernel_rfl) (obs_cons (p := (0 : Int) ≤ ((i : Nat) : Int) ∧ ((i : Nat) : Int) < (((misses l o).length : Nat) : Int)) (by omega) (obs_cons (p := 0 + (((i : Nat) : Int) : Int).toNat * 1 = i) (by omega) (obs_cons (p := i + 1 ≤ ((ints (misses l o))).length ∧ (((ints (misses l o))).drop i).take 1 = [(iv ((misses l o).getD i 0))]) (ints_at (by omega)) (obs_nil)))) ?_
      have hq := long_next (by omega) hs hr
      have hc := costs_nn hk hs o i
      have hp := pow_small hk
      have hlb := long_bd hs o hk
      refine T_region [(3, .call [] [(iv ((k : Nat) : Int))] [] (iv (2 ^ k)) [])] [ks 2, ks 7, ks 23, ks 24, ks 25] (fun _ => mixed) (l' := [ps 2 (iv ((k : Nat) : Int)), ps 7 (iv (((s + ((((misses l o).getD i 0)).tdiv (2 ^ k))) + 1) + ((k : Nat) : Int))), ps 23 (.ssl (ints (misses l o)) 0 ((misses l o).length)), ps 24 (iv (((misses l o).length : Nat) : Int)), ps 25 (iv ((i : Nat) : Int))]) (obs := [PC Try.prog 16 [(iv ((k : Nat) : Int))] [] (iv (2 ^ k)) [], [(iv ((k : Nat) : Int))] = renL (sigi [] 56) [(iv ((k : Nat) : Int))], (2 ^ k) ≠ (0 : Int), InK .i64 ((((misses l o).getD i 0)).tdiv (2 ^ k)), InK .i64 (s + ((((misses l o).getD i 0)).tdiv (2 ^ k))), InK .i64 ((s + ((((misses l o).getD i 0)).tdiv (2 ^ k))) + 1), InK .i64 (((s + ((((misses l o).getD i 0)).tdiv (2 ^ k))) + 1) + ((k : Nat) : Int))]) (by kernel_rfl) (obs_cons (p := PC Try.prog 16 [(iv ((k : Nat) : Int))] [] (iv (2 ^ k)) []) (power_pc k hk) (obs_cons (p := [(iv ((k : Nat) : Int))] = renL (sigi [] 56) [(iv ((k : Nat) : Int))]) rfl (obs_cons (p := (2 ^ k) ≠ (0 : Int)) (by omega) (obs_cons (p := InK .i64 ((((misses l o).getD i 0)).tdiv (2 ^ k))) (by simp only [InK]; omega) (obs_cons (p := InK .i64 (s + ((((misses l o).getD i 0)).tdiv (2 ^ k)))) (by simp only [InK]; omega) (obs_cons (p := InK .i64 ((s + ((((misses l o).getD i 0)).tdiv (2 ^ k))) + 1)) (by simp only [InK]; omega) (obs_cons (p := InK .i64 (((s + ((((misses l o).getD i 0)).tdiv (2 ^ k))) + 1) + ((k : Nat) : Int))) (by simp only [InK]; omega) (obs_nil)))))))) ?_
      refine T_blk ?_
      refine T_region [] [ks 2, ks 7, ks 23, ks 24, ks 25] (fun _ => mixed) (l' := [ps 2 (iv ((k : Nat) : Int)), ps 7 (iv (((s + ((((misses l o).getD i 0)).tdiv (2 ^ k))) + 1) + ((k : Nat) : Int))), ps 23 (.ssl (ints (misses l o)) 0 ((misses l o).length)), ps 24 (iv (((misses l o).length : Nat) : Int)), ps 25 (iv (((i : Nat) : Int) + 1))]) (obs := [InK .i64 (((i : Nat) : Int) + 1)]) (by kernel_rfl) (obs_cons (p := InK .i64 (((i : Nat) : Int) + 1)) (by simp only [InK]; omega) (obs_nil)) ?_
      exact T_back ⟨(i + 1, (s + ((misses l o).getD i 0).tdiv (2 ^ k) + 1 + ((k : Nat) : Int))), ⟨by omega, by omega, hq.1⟩⟩ (Wk.ren2 [ps 2 (iv ((k : Nat) : Int)), ps 7 (iv (s + ((misses l o).getD i 0).tdiv (2 ^ k) + 1 + ((k : Nat) : Int))), ps 23 (.ssl (ints (misses l o)) 0 ((misses l o).length)), ps 24 (iv (((misses l o).length : Nat) : Int)), ps 25 (iv (((i + 1) : Nat) : Int))] 0 hc0 [] rfl rfl (by kernel_rfl) (by kernel_rfl)) (show (misses l o).length - (i + 1) < (misses l o).length - i from by show (misses l o).length - (i + 1) < (misses l o).length - i; omega)
    · refine T_else (b := (decide (((i : Nat) : Int) < (((misses l o).length : Nat) : Int)))) rfl (decide_eq_false h2) ?_
      refine T_break rfl rfl ?_
      refine T_seq ?_
      refine T_region [] [ks 6] (fun _ => mixed) (l' := [ps 6 (iv s)]) (obs := []) (by kernel_rfl) (obs_nil) ?_
      have hil : i = (misses l o).length := by omega
      rw [hil, List.drop_length] at hr
      rw [show 6 + long l o k = s from by rw [← hr]; unfold costs; omega]
      exact T_ret fun cx_ a_ hI_ => ret_ok (H' := []) (.inr rfl) (Wk.ren2 [ps 6 (iv s)] 0 hc0 [] rfl rfl (by kernel_rfl) (by kernel_rfl)) rfl (obs_nil) (fun cx_ a_ hI_ => ret_res (l' := [ps 6 (iv s)]) (by kernel_rfl) cx_ a_ hI_) hI_
  · refine T_else (b := (decide (((l.length : Nat) : Int) < ((o : Nat) : Int)))) rfl (decide_eq_false h1) ?_
    refine T_skip ?_
    refine T_seq ?_
    refine T_seq ?_
    refine T_region [(2, .call [] [(.ssl (ints l) 0 l.length), (iv ((o : Nat) : Int))] [] (.ssl (ints (misses l o)) 0 ((misses l o).length)) [])] [ks 2, ks 7, ks 23, ks 24, ks 25] (fun _ => mixed) (l' := [ps 2 (iv ((k : Nat) : Int)), ps 7 (iv (6 + (16 * ((o : Nat) : Int)))), ps 23 (.ssl (ints (misses l o)) 0 ((misses l o).length)), ps 24 (iv (((misses l o).length : Nat) : Int)), ps 25 (iv 0)]) (obs := [PC Try.prog 15 [(.ssl (ints l) 0 l.length), (iv ((o : Nat) : Int))] [] (.ssl (ints (misses l o)) 0 ((misses l o).length)) [], [(.ssl (ints l) 0 l.length), (iv ((o : Nat) : Int))] = renL (sigi [] 88) [(.ssl (ints l) 0 l.length), (iv ((o : Nat) : Int))]]) (by kernel_rfl) (obs_cons (p := PC Try.prog 15 [(.ssl (ints l) 0 l.length), (iv ((o : Nat) : Int))] [] (.ssl (ints (misses l o)) 0 ((misses l o).length)) []) (ref_misses_pc l hl hs o ho) (obs_cons (p := [(.ssl (ints l) 0 l.length), (iv ((o : Nat) : Int))] = renL (sigi [] 88) [(.ssl (ints l) 0 l.length), (iv ((o : Nat) : Int))]) rfl (obs_nil))) ?_
    refine T_block ?_
    refine T_loop (α := {x : Nat × Int // x.1 ≤ (misses l o).length ∧ 0 ≤ x.2 ∧ x.2 + costs k ((misses l o).drop x.1) = 6 + long l o k}) (fun x => [ps 2 (iv ((k : Nat) : Int)), ps 7 (iv x.1.2), ps 23 (.ssl (ints (misses l o)) 0 ((misses l o).length)), ps 24 (iv (((misses l o).length : Nat) : Int)), ps 25 (iv ((x.1.1 : Nat) : Int))]) (fun x => (misses l o).length - x.1.1) 0 ⟨(0, (6 + (16 * ((o : Nat) : Int)))), ⟨Nat.zero_le _, by show (0 : Int) ≤ (6 + (16 * ((o : Nat) : Int))); omega, by show (6 + (16 * ((o : Nat) : Int))) + costs k ((misses l o).drop 0) = 6 + long l o k; rw [List.drop_zero]; unfold long; omega⟩⟩ (Wk.ren2 [ps 2 (iv ((k : Nat) : Int)), ps 7 (iv (6 + (16 * ((o : Nat) : Int)))), ps 23 (.ssl (ints (misses l o)) 0 ((misses l o).length)), ps 24 (iv (((misses l o).length : Nat) : Int)), ps 25 (iv ((0 : Nat) : Int))] 0 hc0 [] rfl rfl (by kernel_rfl) (by kernel_rfl)) ?_
    rintro ⟨⟨i, s⟩, ⟨hi, h0, hr⟩⟩
    dsimp only at hi h0 hr
    refine T_seq ?_
    refine T_region [] [ks 2, ks 7, ks 23, ks 24, ks 25, ks 26] (fun _ => mixed) (l' := [ps 2 (iv ((k : Nat) : Int)), ps 7 (iv s), ps 23 (.ssl (ints (misses l o)) 0 ((misses l o).length)), ps 24 (iv (((misses l o).length : Nat) : Int)), ps 25 (iv ((i : Nat) : Int)), ps 26 (bv (decide (((i : Nat) : Int) < (((misses l o).length : Nat) : Int))))]) (obs := []) (by kernel_rfl) (obs_nil) ?_
    refine T_seq ?_
    by_cases h3 : ((i : Nat) : Int) < (((misses l o).length : Nat) : Int)
    · refine T_then (b := (decide (((i : Nat) : Int) < (((misses l o).length : Nat) : Int)))) rfl (decide_eq_true h3) ?_
      refine T_skip ?_
      refine T_seq ?_
      refine T_block ?_
      refine T_seq ?_
      refine T_region [(0, .nat i), (1, .val (iv ((misses l o).getD i 0)))] [ks 2, ks 7, ks 9, ks 23, ks 24, ks 25] (fun _ => mixed) (l' := [ps 2 (iv ((k : Nat) : Int)), ps 7 (iv s), ps 9 (iv ((misses l o).getD i 0)), ps 23 (.ssl (ints (misses l o)) 0 ((misses l o).length)), ps 24 (iv (((misses l o).length : Nat) : Int)), ps 25 (iv ((i : Nat) : Int))]) (obs := [(0 : Int) ≤ ((i : Nat) : Int) ∧ ((i : Nat) : Int) < (((misses l o).length : Nat) : Int), 0 + (((i : Nat) : Int) : Int).toNat * 1 = i, i + 1 ≤ ((ints (misses l o))).length ∧ (((ints (misses l o))).drop i).take 1 = [(iv ((misses l o).getD i 0))]]) (by kernel_rfl) (obs_cons (p := (0 : Int) ≤ ((i : Nat) : Int) ∧ ((i : Nat) : Int) < (((misses l o).length : Nat) : Int)) (by omega) (obs_cons (p := 0 + (((i : Nat) : Int) : Int).toNat * 1 = i) (by omega) (obs_cons (p := i + 1 ≤ ((ints (misses l o))).length ∧ (((ints (misses l o))).drop i).take 1 = [(iv ((misses l o).getD i 0))]) (ints_at (by omega)) (obs_nil)))) ?_
      have hq := long_next (by omega) hs hr
      have hc := costs_nn hk hs o i
      have hp := pow_small hk
      have hlb := long_bd hs o hk
      refine T_region [(3, .call [] [(iv ((k : Nat) : Int))] [] (iv (2 ^ k)) [])] [ks 2, ks 7, ks 23, ks 24, ks 25] (fun _ => mixed) (l' := [ps 2 (iv ((k : Nat) : Int)), ps 7 (iv (((s + ((((misses l o).getD i 0)).tdiv (2 ^ k))) + 1) + ((k : Nat) : Int))), ps 23 (.ssl (ints (misses l o)) 0 ((misses l o).length)), ps 24 (iv (((misses l o).length : Nat) : Int)), ps 25 (iv ((i : Nat) : Int))]) (obs := [PC Try.prog 16 [(iv ((k : Nat) : Int))] [] (iv (2 ^ k)) [], [(iv ((k : Nat) : Int))] = renL (sigi [] 56) [(iv ((k : Nat) : Int))], (2 ^ k) ≠ (0 : Int), InK .i64 ((((misses l o).getD i 0)).tdiv (2 ^ k)), InK .i64 (s + ((((misses l o).getD i 0)).tdiv (2 ^ k))), InK .i64 ((s + ((((misses l o).getD i 0)).tdiv (2 ^ k))) + 1), InK .i64 (((s + ((((misses l o).getD i 0)).tdiv (2 ^ k))) + 1) + ((k : Nat) : Int))]) (by kernel_rfl) (obs_cons (p := PC Try.prog 16 [(iv ((k : Nat) : Int))] [] (iv (2 ^ k)) []) (power_pc k hk) (obs_cons (p := [(iv ((k : Nat) : Int))] = renL (sigi [] 56) [(iv ((k : Nat) : Int))]) rfl (obs_cons (p := (2 ^ k) ≠ (0 : Int)) (by omega) (obs_cons (p := InK .i64 ((((misses l o).getD i 0)).tdiv (2 ^ k))) (by simp only [InK]; omega) (obs_cons (p := InK .i64 (s + ((((misses l o).getD i 0)).tdiv (2 ^ k)))) (by simp only [InK]; omega) (obs_cons (p := InK .i64 ((s + ((((misses l o).getD i 0)).tdiv (2 ^ k))) + 1)) (by simp only [InK]; omega) (obs_cons (p := InK .i64 (((s + ((((misses l o).getD i 0)).tdiv (2 ^ k))) + 1) + ((k : Nat) : Int))) (by simp only [InK]; omega) (obs_nil)))))))) ?_
      refine T_blk ?_
      refine T_region [] [ks 2, ks 7, ks 23, ks 24, ks 25] (fun _ => mixed) (l' := [ps 2 (iv ((k : Nat) : Int)), ps 7 (iv (((s + ((((misses l o).getD i 0)).tdiv (2 ^ k))) + 1) + ((k : Nat) : Int))), ps 23 (.ssl (ints (misses l o)) 0 ((misses l o).length)), ps 24 (iv (((misses l o).length : Nat) : Int)), ps 25 (iv (((i : Nat) : Int) + 1))]) (obs := [InK .i64 (((i : Nat) : Int) + 1)]) (by kernel_rfl) (obs_cons (p := InK .i64 (((i : Nat) : Int) + 1)) (by simp only [InK]; omega) (obs_nil)) ?_
      exact T_back ⟨(i + 1, (s + ((misses l o).getD i 0).tdiv (2 ^ k) + 1 + ((k : Nat) : Int))), ⟨by omega, by omega, hq.1⟩⟩ (Wk.ren2 [ps 2 (iv ((k : Nat) : Int)), ps 7 (iv (s + ((misses l o).getD i 0).tdiv (2 ^ k) + 1 + ((k : Nat) : Int))), ps 23 (.ssl (ints (misses l o)) 0 ((misses l o).length)), ps 24 (iv (((misses l o).length : Nat) : Int)), ps 25 (iv (((i + 1) : Nat) : Int))] 0 hc0 [] rfl rfl (by kernel_rfl) (by kernel_rfl)) (show (misses l o).length - (i + 1) < (misses l o).length - i from by show (misses l o).length - (i + 1) < (misses l o).length - i; omega)
    · refine T_else (b := (decide (((i : Nat) : Int) < (((misses l o).length : Nat) : Int)))) rfl (decide_eq_false h3) ?_
      refine T_break rfl rfl ?_
      refine T_seq ?_
      refine T_region [] [ks 6] (fun _ => mixed) (l' := [ps 6 (iv s)]) (obs := []) (by kernel_rfl) (obs_nil) ?_
      have hil : i = (misses l o).length := by omega
      rw [hil, List.drop_length] at hr
      rw [show 6 + long l o k = s from by rw [← hr]; unfold costs; omega]
      exact T_ret fun cx_ a_ hI_ => ret_ok (H' := []) (.inr rfl) (Wk.ren2 [ps 6 (iv s)] 0 hc0 [] rfl rfl (by kernel_rfl) (by kernel_rfl)) rfl (obs_nil) (fun cx_ a_ hI_ => ret_res (l' := [ps 6 (iv s)]) (by kernel_rfl) cx_ a_ hI_) hI_
end Go.Proofs.Ytfoiadlaekknpaa.Pm
namespace Go.Proofs.Ytfoiadlaekknpaa.Pm
open Go Co

theorem ints_renL2 (σ : Nat → Nat) (l : List Int) : renL σ (ints l) = ints l := renL_shd (ints_shd l)
/-- What stands there behind i misses. -/
def fb (l : List Int) (o k i : Nat) : List Bool := bitsOf o 2 ++ bitsOf k 4 ++ rawBits (l.take o) ++ riceAll k ((misses l o).take i)
def fr0 (l : List Int) (o k i : Nat) : List Bool := bitsOf o 2 ++ bitsOf k 4 ++ rawBits (l.take i)
theorem fr0_zero (l : List Int) (o k : Nat) : bI (bitsOf o 2 ++ bitsOf k 4) = bI (fr0 l o k 0) := by
  unfold fr0; rw [List.take_zero, rawBits, List.append_nil]
theorem fr0_next {l : List Int} {o k i : Nat} (hi : i < l.length) : bI (fr0 l o k i) ++ bI (bitsOf (l.getD i 0 + 32768) 16) = bI (fr0 l o k (i + 1)) := by
  unfold fr0
  rw [rawBits_snoc hi, ← bI_app, List.append_assoc, X_getD]
theorem fr0_len (l : List Int) (o k i : Nat) : (bI (fr0 l o k i)).length ≤ 6 + 16 * l.length := by
  unfold fr0
  rw [bI_len, List.length_append, List.length_append, bitsOf_length, bitsOf_length, rawBits_length, List.length_take]; omega
theorem fr0_end {l : List Int} {o k i : Nat} (hi : i ≤ o) (h : o ≤ i ∨ l.length ≤ i) : bI (fr0 l o k i) = bI (fb l o k 0) := by
  have : l.take i = l.take o := by
    rcases h with h | h
    · rw [show i = o by omega]
    · rw [List.take_of_length_le h, List.take_of_length_le (by omega)]
  unfold fr0 fb
  rw [this, List.take_zero, riceAll, List.append_nil]
theorem fb_len {l : List Int} {o k : Nat} (hk : k ≤ 15) (hs : Small l) (hl : l.length ≤ 256) (i : Nat) : (bI (fb l o k i)).length ≤ 200000000 := by
  have h1 := riceAll_take_bd hk (missFrom_bd hs o (l.length - o) o) i
  have h2 := misses_length l o
  unfold misses at h2
  unfold fb
  rw [bI_len, List.length_append, List.length_append, List.length_append, bitsOf_length, bitsOf_length, rawBits_length, List.length_take]
  unfold misses
  omega
theorem bitsOf_mod (x : Int) : ∀ (m k : Nat), m ≤ k → bitsOf (x % 2 ^ k) m = bitsOf x m
  | 0, _, _ => rfl
  | m + 1, k, h => by
    rw [bitsOf, bitsOf, bitsOf_mod x m k (by omega)]
    congr 1
    refine decide_eq_decide.2 ?_
    have h1 : x % 2 ^ k / 2 ^ m % 2 = x / 2 ^ m % 2 := by
      have e : (2 : Int) ^ k = 2 ^ m * 2 * 2 ^ (k - (m + 1)) := by rw [← Int.pow_succ, ← Int.pow_add, show m + 1 + (k - (m + 1)) = k by omega]
      have hp : (0 : Int) < 2 ^ m := Int.pow_pos (by omega)
      have h2 := Int.mul_ediv_add_emod x (2 ^ k)
      generalize hr : x % 2 ^ k = r at *
      generalize hq : x / 2 ^ k = q at *
      have h3 : x = r + 2 ^ m * (2 * (2 ^ (k - (m + 1)) * q)) := by
        rw [← h2, e, Int.add_comm, ← Int.mul_assoc, ← Int.mul_assoc]
      rw [h3, Int.add_mul_ediv_left _ _ (Int.ne_of_gt hp), Int.add_mul_emod_self_left]
    rw [h1]
theorem fb_next {l : List Int} {o k i j : Nat} (hs : Small l) (hi : i < (misses l o).length) (hj : ((j : Nat) : Int) = ((misses l o).getD i 0).tdiv (2 ^ k)) :
    bI (fb l o k i ++ List.replicate j true) ++ [0] ++ bI (bitsOf (((misses l o).getD i 0).tmod (2 ^ k)) k) = bI (fb l o k (i + 1)) := by
  have h0 := (misses_bd hs hi).1
  rw [X_getD] at hj ⊢
  rw [Int.tmod_eq_emod_of_nonneg h0, bitsOf_mod _ k k (Nat.le_refl _)]
  rw [Int.tdiv_eq_ediv_of_nonneg h0] at hj
  have e : bI (fb l o k (i + 1)) = bI (fb l o k i ++ riceBits k (X (misses l o) i)) := by
    unfold fb
    rw [riceAll_snoc hi, ← List.append_assoc]
  rw [e]
  unfold riceBits
  rw [show (X (misses l o) i / 2 ^ k).toNat = j by omega, show ([0] : List Int) = bI [false] from rfl, ← bI_app, ← bI_app]
  simp only [List.append_assoc]
theorem fb_end {l : List Int} {o k i : Nat} (hi : (misses l o).length ≤ i) : bI (fb l o k i) = bI (frameBits l o k) := by
  unfold fb frameBits; rw [List.take_of_length_le hi]
theorem rep_len (L : List Bool) (j : Nat) : (bI (L ++ List.replicate j true)).length = (bI L).length + j := by rw [bI_len, bI_len, List.length_append, List.length_replicate]
theorem rep_next (L : List Bool) (j : Nat) : bI (L ++ List.replicate j true) ++ [1] = bI (L ++ List.replicate (j + 1) true) := by
  rw [show ([1] : List Int) = bI [true] from rfl, ← bI_app, List.append_assoc, List.replicate_succ']
end Go.Proofs.Ytfoiadlaekknpaa.Pm
namespace Go.Proofs.Ytfoiadlaekknpaa.Pm
open Go Co

attribute [local irreducible] bitsOf fb fr0 riceAll rawBits misses frameBits
theorem len_of {A B C : List Int} (h : A ++ B = C) : A.length + B.length = C.length := by rw [← h, List.length_append]
theorem bits_len (n : Int) (k : Nat) : (bI (bitsOf n k)).length = k := by rw [bI_len, bitsOf_length]
theorem bits_as2 (n : Int) (hn : 0 ≤ n) (hn2 : n ≤ 9223372036854775807) (k : Nat) (hk : k ≤ 24) : PC Try.prog 17 [iv n, iv ((k : Nat) : Int)] [] (.osl 0 0 (bI (bitsOf n k)).length) [some (3, ints (bI (bitsOf n k)))] := by
  rw [bI_len, bitsOf_length]; exact bits_pc n hn hn2 k hk
set_option maxRecDepth 100000 in
theorem ref_frame_pc (l : List Int) (hl : l.length ≤ 256) (hs : Small l) (o k : Nat) (ho : o ≤ 3) (hk : k ≤ 15) : PC Try.prog 18 [(.ssl (ints l) 0 l.length), (iv ((o : Nat) : Int)), (iv ((k : Nat) : Int))] [] (.ssl (ints (bI (frameBits l o k))) 0 ((bI (frameBits l o k)).length)) [] := by
  have hml := misses_length l o
  refine pc_intro Try.func18 rfl (by kernel_rfl) (Nat.le_of_ble_eq_true rfl) (by kernel_rfl) (l0 := [ps 0 (.ssl (ints l) 0 l.length), ps 1 (iv ((o : Nat) : Int)), ps 2 (iv ((k : Nat) : Int))]) rfl (fun c0 Bor hc0 => ?_)
  refine T_seq ?_
  refine T_region [] [ks 0, ks 1, ks 2] (fun _ => mixed) (l' := [ps 0 (.ssl (ints l) 0 l.length), ps 1 (iv ((o : Nat) : Int)), ps 2 (iv ((k : Nat) : Int))]) (obs := []) (by kernel_rfl) (obs_nil) ?_
  refine T_seq ?_
  have hbl2 := bits_len ((o : Nat) : Int) 2
  have hbl4 := bits_len ((k : Nat) : Int) 4
  refine T_region [(1, .call [] [(iv ((o : Nat) : Int)), (iv 2)] [] (.osl 0 0 ((bI (bitsOf ((o : Nat) : Int) 2)).length)) [some (3, (ints (bI (bitsOf ((o : Nat) : Int) 2))))]), (3, .call [] [(iv ((k : Nat) : Int)), (iv 4)] [] (.osl 0 0 ((bI (bitsOf ((k : Nat) : Int) 4)).length)) [some (3, (ints (bI (bitsOf ((k : Nat) : Int) 4))))]), (4, .app (some (ints (bI (bitsOf ((k : Nat) : Int) 4)))) (some (ints (bI (fr0 l o k 0)))))] [ks 0, ks 1, ks 2, ks 7, kb 40] (fun _ => mixed) (l' := [ps 0 (.ssl (ints l) 0 l.length), ps 1 (iv ((o : Nat) : Int)), ps 2 (iv ((k : Nat) : Int)), ps 7 (.osl 40 0 (((bI (bitsOf ((o : Nat) : Int) 2)).length) + ((bI (bitsOf ((k : Nat) : Int) 4)).length))), pb 40 3 (ints (bI (fr0 l o k 0)))]) (obs := [PC Try.prog 17 [(iv ((o : Nat) : Int)), (iv 2)] [] (.osl 0 0 ((bI (bitsOf ((o : Nat) : Int) 2)).length)) [some (3, (ints (bI (bitsOf ((o : Nat) : Int) 2))))], [(iv ((o : Nat) : Int)), (iv 2)] = renL (sigi [] 16) [(iv ((o : Nat) : Int)), (iv 2)], PC Try.prog 17 [(iv ((k : Nat) : Int)), (iv 4)] [] (.osl 0 0 ((bI (bitsOf ((k : Nat) : Int) 4)).length)) [some (3, (ints (bI (bitsOf ((k : Nat) : Int) 4))))], [(iv ((k : Nat) : Int)), (iv 4)] = renL (sigi [] 32) [(iv ((k : Nat) : Int)), (iv 4)], 0 + ((bI (bitsOf ((k : Nat) : Int) 4)).length) * 1 ≤ ((renL (sigo [] 32) (ints (bI (bitsOf ((k : Nat) : Int) 4))))).length ∧ (((renL (sigo [] 32) (ints (bI (bitsOf ((k : Nat) : Int) 4))))).drop 0).take (((bI (bitsOf ((k : Nat) : Int) 4)).length) * 1) = (ints (bI (bitsOf ((k : Nat) : Int) 4))), ((renL (sigo [] 16) (ints (bI (bitsOf ((o : Nat) : Int) 2))))).length = ((bI (bitsOf ((o : Nat) : Int) 2)).length) * 1, (((bI (bitsOf ((o : Nat) : Int) 2)).length) + ((bI (bitsOf ((k : Nat) : Int) 4)).length)) * 8 ≤ 140737488355328 ∧ ((bI (bitsOf ((o : Nat) : Int) 2)).length) + ((bI (bitsOf ((k : Nat) : Int) 4)).length) ≤ 9223372036854775807, (renL (sigo [] 16) (ints (bI (bitsOf ((o : Nat) : Int) 2)))) ++ (ints (bI (bitsOf ((k : Nat) : Int) 4))) = (ints (bI (fr0 l o k 0)))]) (by kernel_rfl) (obs_cons (p := PC Try.prog 17 [(iv ((o : Nat) : Int)), (iv 2)] [] (.osl 0 0 ((bI (bitsOf ((o : Nat) : Int) 2)).length)) [some (3, (ints (bI (bitsOf ((o : Nat) : Int) 2))))]) (bits_as2 ((o : Nat) : Int) (by omega) (by omega) 2 (by omega)) (obs_cons (p := [(iv ((o : Nat) : Int)), (iv 2)] = renL (sigi [] 16) [(iv ((o : Nat) : Int)), (iv 2)]) rfl (obs_cons (p := PC Try.prog 17 [(iv ((k : Nat) : Int)), (iv 4)] [] (.osl 0 0 ((bI (bitsOf ((k : Nat) : Int) 4)).length)) [some (3, (ints (bI (bitsOf ((k : Nat) : Int) 4))))]) (bits_as2 ((k : Nat) : Int) (by omega) (by omega) 4 (by omega)) (obs_cons (p := [(iv ((k : Nat) : Int)), (iv 4)] = renL (sigi [] 32) [(iv ((k : Nat) : Int)), (iv 4)]) rfl (obs_cons (p := 0 + ((bI (bitsOf ((k : Nat) : Int) 4)).length) * 1 ≤ ((renL (sigo [] 32) (ints (bI (bitsOf ((k : Nat) : Int) 4))))).length ∧ (((renL (sigo [] 32) (ints (bI (bitsOf ((k : Nat) : Int) 4))))).drop 0).take (((bI (bitsOf ((k : Nat) : Int) 4)).length) * 1) = (ints (bI (bitsOf ((k : Nat) : Int) 4)))) (by have h9 := ints_len (bI (bitsOf ((k : Nat) : Int) 4)); rw [ints_renL2]; refine ⟨by rw [h9]; omega, ?_⟩; rw [List.drop_zero]; exact List.take_of_length_le (by omega)) (obs_cons (p := ((renL (sigo [] 16) (ints (bI (bitsOf ((o : Nat) : Int) 2))))).length = ((bI (bitsOf ((o : Nat) : Int) 2)).length) * 1) (by rw [ints_renL2, ints_len, Nat.mul_one]) (obs_cons (p := (((bI (bitsOf ((o : Nat) : Int) 2)).length) + ((bI (bitsOf ((k : Nat) : Int) 4)).length)) * 8 ≤ 140737488355328 ∧ ((bI (bitsOf ((o : Nat) : Int) 2)).length) + ((bI (bitsOf ((k : Nat) : Int) 4)).length) ≤ 9223372036854775807) (by omega) (obs_cons (p := (renL (sigo [] 16) (ints (bI (bitsOf ((o : Nat) : Int) 2)))) ++ (ints (bI (bitsOf ((k : Nat) : Int) 4))) = (ints (bI (fr0 l o k 0)))) (by rw [ints_renL2, ← fr0_zero, bI_app]; exact (flat_app _ _ _).symm) (obs_nil))))))))) ?_
  refine T_seq ?_
  refine T_seq ?_
  refine T_region [] [ks 0, ks 1, ks 2, ks 7, ks 8, kb 40] (fun _ => mixed) (l' := [ps 0 (.ssl (ints l) 0 l.length), ps 1 (iv ((o : Nat) : Int)), ps 2 (iv ((k : Nat) : Int)), ps 7 (.osl 40 0 (((bI (bitsOf ((o : Nat) : Int) 2)).length) + ((bI (bitsOf ((k : Nat) : Int) 4)).length))), ps 8 (iv 0), pb 40 3 (ints (bI (fr0 l o k 0)))]) (obs := []) (by kernel_rfl) (obs_nil) ?_
  refine T_block ?_
  refine T_wk (Wk.eq (show [ps 0 (.ssl (ints l) 0 l.length), ps 1 (iv ((o : Nat) : Int)), ps 2 (iv ((k : Nat) : Int)), ps 7 (.osl 40 0 (((bI (bitsOf ((o : Nat) : Int) 2)).length) + ((bI (bitsOf ((k : Nat) : Int) 4)).length))), ps 8 (iv 0), pb 40 3 (ints (bI (fr0 l o k 0)))] = [ps 0 (.ssl (ints l) 0 l.length), ps 1 (iv ((o : Nat) : Int)), ps 2 (iv ((k : Nat) : Int)), ps 7 (.osl 40 0 ((bI (fr0 l o k 0)).length)), ps 8 (iv 0), pb 40 3 (ints (bI (fr0 l o k 0)))] from by rw [← fr0_zero, bI_app, List.length_append])) ?_
  refine T_loop (α := {x : Nat // x ≤ o ∧ x ≤ l.length}) (fun x => [ps 0 (.ssl (ints l) 0 l.length), ps 1 (iv ((o : Nat) : Int)), ps 2 (iv ((k : Nat) : Int)), ps 7 (.osl 0 0 ((bI (fr0 l o k x.1)).length)), ps 8 (iv ((x.1 : Nat) : Int)), pb 0 3 (ints (bI (fr0 l o k x.1)))]) (fun x => o - x.1) 1 ⟨0, ⟨Nat.zero_le _, Nat.zero_le _⟩⟩ (Wk.ren3 [ps 0 (.ssl (ints l) 0 l.length), ps 1 (iv ((o : Nat) : Int)), ps 2 (iv ((k : Nat) : Int)), ps 7 (.osl 0 0 ((bI (fr0 l o k 0)).length)), ps 8 (iv ((0 : Nat) : Int)), pb 0 3 (ints (bI (fr0 l o k 0)))] 0 hc0 [40] [(kb 0, (ints (bI (fr0 l o k 0))))] (obs_cons (ints_shd _) (obs_nil)) (by kernel_rfl) rfl rfl (by kernel_rfl) (by kernel_rfl)) ?_
  rintro ⟨i, ⟨hi, hil⟩⟩
  refine T_seq ?_
  refine T_seq ?_
  by_cases h1 : ((i : Nat) : Int) < ((o : Nat) : Int)
  · refine T_region [(4, .gd true (.no)), (5, .gd true (.no)), (6, .gd true (.no)), (7, .gd true (.no)), (8, .yes true)] [ks 0, ks 1, ks 2, ks 7, ks 8, ks 25, kb 0] (fun _ => mixed) (l' := [ps 0 (.ssl (ints l) 0 l.length), ps 1 (iv ((o : Nat) : Int)), ps 2 (iv ((k : Nat) : Int)), ps 7 (.osl 0 0 ((bI (fr0 l o k i)).length)), ps 8 (iv ((i : Nat) : Int)), ps 25 (bv (decide (((i : Nat) : Int) < ((l.length : Nat) : Int)))), pb 0 3 (ints (bI (fr0 l o k i)))]) (obs := [(decide (((i : Nat) : Int) < ((o : Nat) : Int))) = true, (decide (((i : Nat) : Int) < ((o : Nat) : Int))) = true, (decide (((i : Nat) : Int) < ((o : Nat) : Int))) = true, (decide (((i : Nat) : Int) < ((o : Nat) : Int))) = true, (decide (((i : Nat) : Int) < ((o : Nat) : Int))) = true]) (by kernel_rfl) (obs_cons (p := (decide (((i : Nat) : Int) < ((o : Nat) : Int))) = true) (decide_eq_true h1) (obs_cons (p := (decide (((i : Nat) : Int) < ((o : Nat) : Int))) = true) (decide_eq_true h1) (obs_cons (p := (decide (((i : Nat) : Int) < ((o : Nat) : Int))) = true) (decide_eq_true h1) (obs_cons (p := (decide (((i : Nat) : Int) < ((o : Nat) : Int))) = true) (decide_eq_true h1) (obs_cons (p := (decide (((i : Nat) : Int) < ((o : Nat) : Int))) = true) (decide_eq_true h1) (obs_nil)))))) ?_
    by_cases h2 : ((i : Nat) : Int) < ((l.length : Nat) : Int)
    · refine T_then (b := (decide (((i : Nat) : Int) < ((l.length : Nat) : Int)))) rfl (decide_eq_true h2) ?_
      refine T_skip ?_
      refine T_seq ?_
      refine T_block ?_
      have hx := X_bd hs i
      rw [← X_getD] at hx
      have hln := fr0_len l o k i
      have hbl := bits_len (l.getD i 0 + 32768) 16
      refine T_region [(3, .nat i), (4, .val (iv (l.getD i 0))), (6, .call [] [(iv ((l.getD i 0) + 32768)), (iv 16)] [] (.osl 0 0 ((bI (bitsOf ((l.getD i 0) + 32768) 16)).length)) [some (3, (ints (bI (bitsOf ((l.getD i 0) + 32768) 16))))]), (7, .app (some (ints (bI (bitsOf ((l.getD i 0) + 32768) 16)))) (some (ints (bI (fr0 l o k (i + 1))))))] [ks 0, ks 1, ks 2, ks 7, ks 8, kb 129] (fun _ => mixed) (l' := [ps 0 (.ssl (ints l) 0 l.length), ps 1 (iv ((o : Nat) : Int)), ps 2 (iv ((k : Nat) : Int)), ps 7 (.osl 129 0 (((bI (fr0 l o k i)).length) + ((bI (bitsOf ((l.getD i 0) + 32768) 16)).length))), ps 8 (iv ((i : Nat) : Int)), pb 129 3 (ints (bI (fr0 l o k (i + 1))))]) (obs := [(0 : Int) ≤ ((i : Nat) : Int) ∧ ((i : Nat) : Int) < ((l.length : Nat) : Int), 0 + (((i : Nat) : Int) : Int).toNat * 1 = i, i + 1 ≤ ((ints l)).length ∧ (((ints l)).drop i).take 1 = [(iv (l.getD i 0))], InK .i64 ((l.getD i 0) + 32768), PC Try.prog 17 [(iv ((l.getD i 0) + 32768)), (iv 16)] [] (.osl 0 0 ((bI (bitsOf ((l.getD i 0) + 32768) 16)).length)) [some (3, (ints (bI (bitsOf ((l.getD i 0) + 32768) 16))))], [(iv ((l.getD i 0) + 32768)), (iv 16)] = renL (sigi [] 121) [(iv ((l.getD i 0) + 32768)), (iv 16)], 0 + ((bI (bitsOf ((l.getD i 0) + 32768) 16)).length) * 1 ≤ ((renL (sigo [] 121) (ints (bI (bitsOf ((l.getD i 0) + 32768) 16))))).length ∧ (((renL (sigo [] 121) (ints (bI (bitsOf ((l.getD i 0) + 32768) 16))))).drop 0).take (((bI (bitsOf ((l.getD i 0) + 32768) 16)).length) * 1) = (ints (bI (bitsOf ((l.getD i 0) + 32768) 16))), ((ints (bI (fr0 l o k i)))).length = ((bI (fr0 l o k i)).length) * 1, (((bI (fr0 l o k i)).length) + ((bI (bitsOf ((l.getD i 0) + 32768) 16)).length)) * 8 ≤ 140737488355328 ∧ ((bI (fr0 l o k i)).length) + ((bI (bitsOf ((l.getD i 0) + 32768) 16)).length) ≤ 9223372036854775807, (ints (bI (fr0 l o k i))) ++ (ints (bI (bitsOf ((l.getD i 0) + 32768) 16))) = (ints (bI (fr0 l o k (i + 1))))]) (by kernel_rfl) (obs_cons (p := (0 : Int) ≤ ((i : Nat) : Int) ∧ ((i : Nat) : Int) < ((l.length : Nat) : Int)) (by omega) (obs_cons (p := 0 + (((i : Nat) : Int) : Int).toNat * 1 = i) (by omega) (obs_cons (p := i + 1 ≤ ((ints l)).length ∧ (((ints l)).drop i).take 1 = [(iv (l.getD i 0))]) (ints_at (by omega)) (obs_cons (p := InK .i64 ((l.getD i 0) + 32768)) (by simp only [InK]; omega) (obs_cons (p := PC Try.prog 17 [(iv ((l.getD i 0) + 32768)), (iv 16)] [] (.osl 0 0 ((bI (bitsOf ((l.getD i 0) + 32768) 16)).length)) [some (3, (ints (bI (bitsOf ((l.getD i 0) + 32768) 16))))]) (bits_as2 ((l.getD i 0) + 32768) (by omega) (by omega) 16 (by omega)) (obs_cons (p := [(iv ((l.getD i 0) + 32768)), (iv 16)] = renL (sigi [] 121) [(iv ((l.getD i 0) + 32768)), (iv 16)]) rfl (obs_cons (p := 0 + ((bI (bitsOf ((l.getD i 0) + 32768) 16)).length) * 1 ≤ ((renL (sigo [] 121) (ints (bI (bitsOf ((l.getD i 0) + 32768) 16))))).length ∧ (((renL (sigo [] 121) (ints (bI (bitsOf ((l.getD i 0) + 32768) 16))))).drop 0).take (((bI (bitsOf ((l.getD i 0) + 32768) 16)).length) * 1) = (ints (bI (bitsOf ((l.getD i 0) + 32768) 16)))) (by have h9 := ints_len (bI (bitsOf ((l.getD i 0) + 32768) 16)); rw [ints_renL2]; refine ⟨by rw [h9]; omega, ?_⟩; rw [List.drop_zero]; exact List.take_of_length_le (by omega)) (obs_cons (p := ((ints (bI (fr0 l o k i)))).length = ((bI (fr0 l o k i)).length) * 1) (by simp [ints_len]) (obs_cons (p := (((bI (fr0 l o k i)).length) + ((bI (bitsOf ((l.getD i 0) + 32768) 16)).length)) * 8 ≤ 140737488355328 ∧ ((bI (fr0 l o k i)).length) + ((bI (bitsOf ((l.getD i 0) + 32768) 16)).length) ≤ 9223372036854775807) (by omega) (obs_cons (p := (ints (bI (fr0 l o k i))) ++ (ints (bI (bitsOf ((l.getD i 0) + 32768) 16))) = (ints (bI (fr0 l o k (i + 1))))) (by rw [← fr0_next (by omega)]; exact (flat_app _ _ _).symm) (obs_nil))))))))))) ?_
      refine T_blk ?_
      refine T_region [] [ks 0, ks 1, ks 2, ks 7, ks 8, kb 129] (fun _ => mixed) (l' := [ps 0 (.ssl (ints l) 0 l.length), ps 1 (iv ((o : Nat) : Int)), ps 2 (iv ((k : Nat) : Int)), ps 7 (.osl 129 0 (((bI (fr0 l o k i)).length) + ((bI (bitsOf ((l.getD i 0) + 32768) 16)).length))), ps 8 (iv (((i : Nat) : Int) + 1)), pb 129 3 (ints (bI (fr0 l o k (i + 1))))]) (obs := [InK .i64 (((i : Nat) : Int) + 1)]) (by kernel_rfl) (obs_cons (p := InK .i64 (((i : Nat) : Int) + 1)) (by simp only [InK]; omega) (obs_nil)) ?_
      exact T_back ⟨i + 1, ⟨by omega, by omega⟩⟩ (Wk.trans (Wk.eq (show [ps 0 (.ssl (ints l) 0 l.length), ps 1 (iv ((o : Nat) : Int)), ps 2 (iv ((k : Nat) : Int)), ps 7 (.osl 129 0 (((bI (fr0 l o k i)).length) + ((bI (bitsOf ((l.getD i 0) + 32768) 16)).length))), ps 8 (iv (((i : Nat) : Int) + 1)), pb 129 3 (ints (bI (fr0 l o k (i + 1))))] = [ps 0 (.ssl (ints l) 0 l.length), ps 1 (iv ((o : Nat) : Int)), ps 2 (iv ((k : Nat) : Int)), ps 7 (.osl 129 0 ((bI (fr0 l o k (i + 1))).length)), ps 8 (iv (((i : Nat) : Int) + 1)), pb 129 3 (ints (bI (fr0 l o k (i + 1))))] from by rw [len_of (fr0_next (k := k) (o := o) (show i < l.length by omega))])) (Wk.ren3 [ps 0 (.ssl (ints l) 0 l.length), ps 1 (iv ((o : Nat) : Int)), ps 2 (iv ((k : Nat) : Int)), ps 7 (.osl 0 0 ((bI (fr0 l o k (i + 1))).length)), ps 8 (iv (((i + 1) : Nat) : Int)), pb 0 3 (ints (bI (fr0 l o k (i + 1))))] 0 hc0 [129] [(kb 0, (ints (bI (fr0 l o k (i + 1)))))] (obs_cons (ints_shd _) (obs_nil)) (by kernel_rfl) rfl rfl (by kernel_rfl) (by kernel_rfl))) (show o - (i + 1) < o - i from by show o - (i + 1) < o - i; omega)
    · refine T_else (b := (decide (((i : Nat) : Int) < ((l.length : Nat) : Int)))) rfl (decide_eq_false h2) ?_
      refine T_break rfl rfl ?_
      refine T_seq ?_
      refine T_seq ?_
      have hfe := fr0_end (k := k) hi (show o ≤ i ∨ l.length ≤ i by omega)
      refine T_wk (Wk.eq (show [ps 0 (.ssl (ints l) 0 l.length), ps 1 (iv ((o : Nat) : Int)), ps 2 (iv ((k : Nat) : Int)), ps 7 (.osl 0 0 ((bI (fr0 l o k i)).length)), ps 8 (iv ((i : Nat) : Int)), ps 25 (bv (decide (((i : Nat) : Int) < ((l.length : Nat) : Int)))), pb 0 3 (ints (bI (fr0 l o k i)))] = [ps 0 (.ssl (ints l) 0 l.length), ps 1 (iv ((o : Nat) : Int)), ps 2 (iv ((k : Nat) : Int)), ps 7 (.osl 0 0 ((bI (fb l o k 0)).length)), ps 8 (iv ((i : Nat) : Int)), ps 25 (bv (decide (((i : Nat) : Int) < ((l.length : Nat) : Int)))), pb 0 3 (ints (bI (fb l o k 0)))] from by rw [hfe])) ?_
      refine T_region [(2, .call [] [(.ssl (ints l) 0 l.length), (iv ((o : Nat) : Int))] [] (.ssl (ints (misses l o)) 0 ((misses l o).length)) [])] [ks 2, ks 7, ks 38, ks 39, ks 40, kb 0] (fun _ => mixed) (l' := [ps 2 (iv ((k : Nat) : Int)), ps 7 (.osl 0 0 ((bI (fb l o k 0)).length)), ps 38 (.ssl (ints (misses l o)) 0 ((misses l o).length)), ps 39 (iv (((misses l o).length : Nat) : Int)), ps 40 (iv 0), pb 0 3 (ints (bI (fb l o k 0)))]) (obs := [PC Try.prog 15 [(.ssl (ints l) 0 l.length), (iv ((o : Nat) : Int))] [] (.ssl (ints (misses l o)) 0 ((misses l o).length)) [], [(.ssl (ints l) 0 l.length), (iv ((o : Nat) : Int))] = renL (sigi [] 89) [(.ssl (ints l) 0 l.length), (iv ((o : Nat) : Int))]]) (by kernel_rfl) (obs_cons (p := PC Try.prog 15 [(.ssl (ints l) 0 l.length), (iv ((o : Nat) : Int))] [] (.ssl (ints (misses l o)) 0 ((misses l o).length)) []) (ref_misses_pc l hl hs o ho) (obs_cons (p := [(.ssl (ints l) 0 l.length), (iv ((o : Nat) : Int))] = renL (sigi [] 89) [(.ssl (ints l) 0 l.length), (iv ((o : Nat) : Int))]) rfl (obs_nil))) ?_
      refine T_block ?_
      refine T_loop (α := {x : Nat // x ≤ (misses l o).length}) (fun x => [ps 2 (iv ((k : Nat) : Int)), ps 7 (.osl 0 0 ((bI (fb l o k x.1)).length)), ps 38 (.ssl (ints (misses l o)) 0 ((misses l o).length)), ps 39 (iv (((misses l o).length : Nat) : Int)), ps 40 (iv ((x.1 : Nat) : Int)), pb 0 3 (ints (bI (fb l o k x.1)))]) (fun x => (misses l o).length - x.1) 1 ⟨0, Nat.zero_le _⟩ (Wk.ren3 [ps 2 (iv ((k : Nat) : Int)), ps 7 (.osl 0 0 ((bI (fb l o k 0)).length)), ps 38 (.ssl (ints (misses l o)) 0 ((misses l o).length)), ps 39 (iv (((misses l o).length : Nat) : Int)), ps 40 (iv ((0 : Nat) : Int)), pb 0 3 (ints (bI (fb l o k 0)))] 0 hc0 [0] [(kb 0, (ints (bI (fb l o k 0))))] (obs_cons (ints_shd _) (obs_nil)) (by kernel_rfl) rfl rfl (by kernel_rfl) (by kernel_rfl)) ?_
      rintro ⟨i, hi⟩
      refine T_seq ?_
      refine T_region [] [ks 2, ks 7, ks 38, ks 39, ks 40, ks 41, kb 0] (fun _ => mixed) (l' := [ps 2 (iv ((k : Nat) : Int)), ps 7 (.osl 0 0 ((bI (fb l o k i)).length)), ps 38 (.ssl (ints (misses l o)) 0 ((misses l o).length)), ps 39 (iv (((misses l o).length : Nat) : Int)), ps 40 (iv ((i : Nat) : Int)), ps 41 (bv (decide (((i : Nat) : Int) < (((misses l o).length : Nat) : Int)))), pb 0 3 (ints (bI (fb l o k i)))]) (obs := []) (by kernel_rfl) (obs_nil) ?_
      refine T_seq ?_
      by_cases h3 : ((i : Nat) : Int) < (((misses l o).length : Nat) : Int)
      · refine T_then (b := (decide (((i : Nat) : Int) < (((misses l o).length : Nat) : Int)))) rfl (decide_eq_true h3) ?_
        refine T_skip ?_
        refine T_seq ?_
        refine T_block ?_
        refine T_seq ?_
        refine T_region [(0, .nat i), (1, .val (iv ((misses l o).getD i 0)))] [ks 2, ks 7, ks 10, ks 38, ks 39, ks 40, kb 0] (fun _ => mixed) (l' := [ps 2 (iv ((k : Nat) : Int)), ps 7 (.osl 0 0 ((bI (fb l o k i)).length)), ps 10 (iv ((misses l o).getD i 0)), ps 38 (.ssl (ints (misses l o)) 0 ((misses l o).length)), ps 39 (iv (((misses l o).length : Nat) : Int)), ps 40 (iv ((i : Nat) : Int)), pb 0 3 (ints (bI (fb l o k i)))]) (obs := [(0 : Int) ≤ ((i : Nat) : Int) ∧ ((i : Nat) : Int) < (((misses l o).length : Nat) : Int), 0 + (((i : Nat) : Int) : Int).toNat * 1 = i, i + 1 ≤ ((ints (misses l o))).length ∧ (((ints (misses l o))).drop i).take 1 = [(iv ((misses l o).getD i 0))]]) (by kernel_rfl) (obs_cons (p := (0 : Int) ≤ ((i : Nat) : Int) ∧ ((i : Nat) : Int) < (((misses l o).length : Nat) : Int)) (by omega) (obs_cons (p := 0 + (((i : Nat) : Int) : Int).toNat * 1 = i) (by omega) (obs_cons (p := i + 1 ≤ ((ints (misses l o))).length ∧ (((ints (misses l o))).drop i).take 1 = [(iv ((misses l o).getD i 0))]) (ints_at (by omega)) (obs_nil)))) ?_
        refine T_seq ?_
        refine T_seq ?_
        refine T_region [] [ks 2, ks 7, ks 10, ks 11, ks 38, ks 39, ks 40, kb 0] (fun _ => mixed) (l' := [ps 2 (iv ((k : Nat) : Int)), ps 7 (.osl 0 0 ((bI (fb l o k i)).length)), ps 10 (iv ((misses l o).getD i 0)), ps 11 (iv 0), ps 38 (.ssl (ints (misses l o)) 0 ((misses l o).length)), ps 39 (iv (((misses l o).length : Nat) : Int)), ps 40 (iv ((i : Nat) : Int)), pb 0 3 (ints (bI (fb l o k i)))]) (obs := []) (by kernel_rfl) (obs_nil) ?_
        refine T_block ?_
        have hxb := misses_bd hs (show i < (misses l o).length by omega)
        rw [← X_getD] at hxb
        have hp := pow_small hk
        have htd : ((misses l o).getD i 0).tdiv (2 ^ k) = (misses l o).getD i 0 / 2 ^ k := Int.tdiv_eq_ediv_of_nonneg hxb.1
        have htm : ((misses l o).getD i 0).tmod (2 ^ k) = (misses l o).getD i 0 % 2 ^ k := Int.tmod_eq_emod_of_nonneg hxb.1
        have htd0 : 0 ≤ (misses l o).getD i 0 / 2 ^ k := Int.ediv_nonneg hxb.1 (by omega)
        have htd1 : (misses l o).getD i 0 / 2 ^ k ≤ (misses l o).getD i 0 := Int.ediv_le_self _ hxb.1
        have htm0 := Int.emod_nonneg ((misses l o).getD i 0) (show (2 : Int) ^ k ≠ 0 by omega)
        have htm1 := Int.emod_lt_of_pos ((misses l o).getD i 0) (show (0 : Int) < 2 ^ k by omega)
        have hln := fb_len (o := o) hk hs hl i
        refine T_wk (Wk.eq (show [ps 2 (iv ((k : Nat) : Int)), ps 7 (.osl 0 0 ((bI (fb l o k i)).length)), ps 10 (iv ((misses l o).getD i 0)), ps 11 (iv 0), ps 38 (.ssl (ints (misses l o)) 0 ((misses l o).length)), ps 39 (iv (((misses l o).length : Nat) : Int)), ps 40 (iv ((i : Nat) : Int)), pb 0 3 (ints (bI (fb l o k i)))] = [ps 2 (iv ((k : Nat) : Int)), ps 7 (.osl 0 0 ((bI (fb l o k i ++ List.replicate 0 true)).length)), ps 10 (iv ((misses l o).getD i 0)), ps 11 (iv 0), ps 38 (.ssl (ints (misses l o)) 0 ((misses l o).length)), ps 39 (iv (((misses l o).length : Nat) : Int)), ps 40 (iv ((i : Nat) : Int)), pb 0 3 (ints (bI (fb l o k i ++ List.replicate 0 true)))] from by rw [List.replicate_zero, List.append_nil])) ?_
        refine T_loop (α := {x : Nat // ((x : Nat) : Int) ≤ ((misses l o).getD i 0).tdiv (2 ^ k)}) (fun x => [ps 2 (iv ((k : Nat) : Int)), ps 7 (.osl 0 0 ((bI (fb l o k i ++ List.replicate x.1 true)).length)), ps 10 (iv ((misses l o).getD i 0)), ps 11 (iv ((x.1 : Nat) : Int)), ps 38 (.ssl (ints (misses l o)) 0 ((misses l o).length)), ps 39 (iv (((misses l o).length : Nat) : Int)), ps 40 (iv ((i : Nat) : Int)), pb 0 3 (ints (bI (fb l o k i ++ List.replicate x.1 true)))]) (fun x => (((misses l o).getD i 0).tdiv (2 ^ k)).toNat - x.1) 1 ⟨0, by show ((0 : Nat) : Int) ≤ ((misses l o).getD i 0).tdiv (2 ^ k); omega⟩ (Wk.ren3 [ps 2 (iv ((k : Nat) : Int)), ps 7 (.osl 0 0 ((bI (fb l o k i ++ List.replicate 0 true)).length)), ps 10 (iv ((misses l o).getD i 0)), ps 11 (iv ((0 : Nat) : Int)), ps 38 (.ssl (ints (misses l o)) 0 ((misses l o).length)), ps 39 (iv (((misses l o).length : Nat) : Int)), ps 40 (iv ((i : Nat) : Int)), pb 0 3 (ints (bI (fb l o k i ++ List.replicate 0 true)))] 0 hc0 [0] [(kb 0, (ints (bI (fb l o k i ++ List.replicate 0 true))))] (obs_cons (ints_shd _) (obs_nil)) (by kernel_rfl) rfl rfl (by kernel_rfl) (by kernel_rfl)) ?_
        rintro ⟨j, hj⟩
        refine T_seq ?_
        refine T_seq ?_
        refine T_region [(3, .call [] [(iv ((k : Nat) : Int))] [] (iv (2 ^ k)) [])] [ks 2, ks 7, ks 10, ks 11, ks 38, ks 39, ks 40, ks 49, kb 0] (fun _ => mixed) (l' := [ps 2 (iv ((k : Nat) : Int)), ps 7 (.osl 0 0 ((bI (fb l o k i ++ List.replicate j true)).length)), ps 10 (iv ((misses l o).getD i 0)), ps 11 (iv ((j : Nat) : Int)), ps 38 (.ssl (ints (misses l o)) 0 ((misses l o).length)), ps 39 (iv (((misses l o).length : Nat) : Int)), ps 40 (iv ((i : Nat) : Int)), ps 49 (bv (decide (((j : Nat) : Int) < ((((misses l o).getD i 0)).tdiv (2 ^ k))))), pb 0 3 (ints (bI (fb l o k i ++ List.replicate j true)))]) (obs := [PC Try.prog 16 [(iv ((k : Nat) : Int))] [] (iv (2 ^ k)) [], [(iv ((k : Nat) : Int))] = renL (sigi [] 25) [(iv ((k : Nat) : Int))], (2 ^ k) ≠ (0 : Int), InK .i64 ((((misses l o).getD i 0)).tdiv (2 ^ k))]) (by kernel_rfl) (obs_cons (p := PC Try.prog 16 [(iv ((k : Nat) : Int))] [] (iv (2 ^ k)) []) (power_pc k hk) (obs_cons (p := [(iv ((k : Nat) : Int))] = renL (sigi [] 25) [(iv ((k : Nat) : Int))]) rfl (obs_cons (p := (2 ^ k) ≠ (0 : Int)) (by omega) (obs_cons (p := InK .i64 ((((misses l o).getD i 0)).tdiv (2 ^ k))) (by simp only [InK]; omega) (obs_nil))))) ?_
        by_cases h4 : ((j : Nat) : Int) < ((((misses l o).getD i 0)).tdiv (2 ^ k))
        · refine T_then (b := (decide (((j : Nat) : Int) < ((((misses l o).getD i 0)).tdiv (2 ^ k))))) rfl (decide_eq_true h4) ?_
          refine T_skip ?_
          refine T_seq ?_
          refine T_block ?_
          have hrl := rep_len (fb l o k i) j
          refine T_region [(2, .app none (some (ints (bI (fb l o k i ++ List.replicate (j + 1) true)))))] [ks 2, ks 7, ks 10, ks 11, ks 38, ks 39, ks 40, kb 65] (fun _ => mixed) (l' := [ps 2 (iv ((k : Nat) : Int)), ps 7 (.osl 65 0 (((bI (fb l o k i ++ List.replicate j true)).length) + 1)), ps 10 (iv ((misses l o).getD i 0)), ps 11 (iv ((j : Nat) : Int)), ps 38 (.ssl (ints (misses l o)) 0 ((misses l o).length)), ps 39 (iv (((misses l o).length : Nat) : Int)), ps 40 (iv ((i : Nat) : Int)), pb 65 3 (ints (bI (fb l o k i ++ List.replicate (j + 1) true)))]) (obs := [((ints (bI (fb l o k i ++ List.replicate j true)))).length = ((bI (fb l o k i ++ List.replicate j true)).length) * 1, (((bI (fb l o k i ++ List.replicate j true)).length) + 1) * 8 ≤ 140737488355328 ∧ ((bI (fb l o k i ++ List.replicate j true)).length) + 1 ≤ 9223372036854775807, (ints (bI (fb l o k i ++ List.replicate j true))) ++ [(iv 1)] = (ints (bI (fb l o k i ++ List.replicate (j + 1) true)))]) (by kernel_rfl) (obs_cons (p := ((ints (bI (fb l o k i ++ List.replicate j true)))).length = ((bI (fb l o k i ++ List.replicate j true)).length) * 1) (by simp [ints_len]) (obs_cons (p := (((bI (fb l o k i ++ List.replicate j true)).length) + 1) * 8 ≤ 140737488355328 ∧ ((bI (fb l o k i ++ List.replicate j true)).length) + 1 ≤ 9223372036854775807) (by omega) (obs_cons (p := (ints (bI (fb l o k i ++ List.replicate j true))) ++ [(iv 1)] = (ints (bI (fb l o k i ++ List.replicate (j + 1) true)))) (by rw [← rep_next]; exact (flat_app (fun n => [iv n]) (bI (fb l o k i ++ List.replicate j true)) [1]).symm) (obs_nil)))) ?_
          refine T_blk ?_
          refine T_region [] [ks 2, ks 7, ks 10, ks 11, ks 38, ks 39, ks 40, kb 65] (fun _ => mixed) (l' := [ps 2 (iv ((k : Nat) : Int)), ps 7 (.osl 65 0 (((bI (fb l o k i ++ List.replicate j true)).length) + 1)), ps 10 (iv ((misses l o).getD i 0)), ps 11 (iv (((j : Nat) : Int) + 1)), ps 38 (.ssl (ints (misses l o)) 0 ((misses l o).length)), ps 39 (iv (((misses l o).length : Nat) : Int)), ps 40 (iv ((i : Nat) : Int)), pb 65 3 (ints (bI (fb l o k i ++ List.replicate (j + 1) true)))]) (obs := [InK .i64 (((j : Nat) : Int) + 1)]) (by kernel_rfl) (obs_cons (p := InK .i64 (((j : Nat) : Int) + 1)) (by simp only [InK]; omega) (obs_nil)) ?_
          exact T_back ⟨j + 1, by show ((j + 1 : Nat) : Int) ≤ ((misses l o).getD i 0).tdiv (2 ^ k); omega⟩ (Wk.trans (Wk.eq (show [ps 2 (iv ((k : Nat) : Int)), ps 7 (.osl 65 0 (((bI (fb l o k i ++ List.replicate j true)).length) + 1)), ps 10 (iv ((misses l o).getD i 0)), ps 11 (iv (((j : Nat) : Int) + 1)), ps 38 (.ssl (ints (misses l o)) 0 ((misses l o).length)), ps 39 (iv (((misses l o).length : Nat) : Int)), ps 40 (iv ((i : Nat) : Int)), pb 65 3 (ints (bI (fb l o k i ++ List.replicate (j + 1) true)))] = [ps 2 (iv ((k : Nat) : Int)), ps 7 (.osl 65 0 ((bI (fb l o k i ++ List.replicate (j + 1) true)).length)), ps 10 (iv ((misses l o).getD i 0)), ps 11 (iv (((j : Nat) : Int) + 1)), ps 38 (.ssl (ints (misses l o)) 0 ((misses l o).length)), ps 39 (iv (((misses l o).length : Nat) : Int)), ps 40 (iv ((i : Nat) : Int)), pb 65 3 (ints (bI (fb l o k i ++ List.replicate (j + 1) true)))] from by rw [rep_len, rep_len]; rfl)) (Wk.ren3 [ps 2 (iv ((k : Nat) : Int)), ps 7 (.osl 0 0 ((bI (fb l o k i ++ List.replicate (j + 1) true)).length)), ps 10 (iv ((misses l o).getD i 0)), ps 11 (iv (((j + 1) : Nat) : Int)), ps 38 (.ssl (ints (misses l o)) 0 ((misses l o).length)), ps 39 (iv (((misses l o).length : Nat) : Int)), ps 40 (iv ((i : Nat) : Int)), pb 0 3 (ints (bI (fb l o k i ++ List.replicate (j + 1) true)))] 0 hc0 [65] [(kb 0, (ints (bI (fb l o k i ++ List.replicate (j + 1) true))))] (obs_cons (ints_shd _) (obs_nil)) (by kernel_rfl) rfl rfl (by kernel_rfl) (by kernel_rfl))) (show (((misses l o).getD i 0).tdiv (2 ^ k)).toNat - (j + 1) < (((misses l o).getD i 0).tdiv (2 ^ k)).toNat - j from by show (((misses l o).getD i 0).tdiv (2 ^ k)).toNat - (j + 1) < (((misses l o).getD i 0).tdiv (2 ^ k)).toNat - j; omega)
        · refine T_else (b := (decide (((j : Nat) : Int) < ((((misses l o).getD i 0)).tdiv (2 ^ k))))) rfl (decide_eq_false h4) ?_
          refine T_break rfl rfl ?_
          refine T_seq ?_
          have hrl := rep_len (fb l o k i) j
          have hfn := fb_next (k := k) hs (show i < (misses l o).length by omega) (show ((j : Nat) : Int) = ((misses l o).getD i 0).tdiv (2 ^ k) by omega)
          have hbl := bits_len (((misses l o).getD i 0).tmod (2 ^ k)) k
          have hl0 : (bI (fb l o k i ++ List.replicate j true) ++ [0]).length = (bI (fb l o k i ++ List.replicate j true)).length + 1 := by rw [List.length_append]; rfl
          refine T_region [(2, .app none (some (ints (bI (fb l o k i ++ List.replicate j true) ++ [0]))))] [ks 2, ks 7, ks 10, ks 38, ks 39, ks 40, kb 65] (fun _ => mixed) (l' := [ps 2 (iv ((k : Nat) : Int)), ps 7 (.osl 65 0 (((bI (fb l o k i ++ List.replicate j true)).length) + 1)), ps 10 (iv ((misses l o).getD i 0)), ps 38 (.ssl (ints (misses l o)) 0 ((misses l o).length)), ps 39 (iv (((misses l o).length : Nat) : Int)), ps 40 (iv ((i : Nat) : Int)), pb 65 3 (ints (bI (fb l o k i ++ List.replicate j true) ++ [0]))]) (obs := [((ints (bI (fb l o k i ++ List.replicate j true)))).length = ((bI (fb l o k i ++ List.replicate j true)).length) * 1, (((bI (fb l o k i ++ List.replicate j true)).length) + 1) * 8 ≤ 140737488355328 ∧ ((bI (fb l o k i ++ List.replicate j true)).length) + 1 ≤ 9223372036854775807, (ints (bI (fb l o k i ++ List.replicate j true))) ++ [(iv 0)] = (ints (bI (fb l o k i ++ List.replicate j true) ++ [0]))]) (by kernel_rfl) (obs_cons (p := ((ints (bI (fb l o k i ++ List.replicate j true)))).length = ((bI (fb l o k i ++ List.replicate j true)).length) * 1) (by simp [ints_len]) (obs_cons (p := (((bI (fb l o k i ++ List.replicate j true)).length) + 1) * 8 ≤ 140737488355328 ∧ ((bI (fb l o k i ++ List.replicate j true)).length) + 1 ≤ 9223372036854775807) (by omega) (obs_cons (p := (ints (bI (fb l o k i ++ List.replicate j true))) ++ [(iv 0)] = (ints (bI (fb l o k i ++ List.replicate j true) ++ [0]))) (flat_app (fun n => [iv n]) (bI (fb l o k i ++ List.replicate j true)) [0]).symm (obs_nil)))) ?_
          refine T_region [(3, .call [] [(iv ((k : Nat) : Int))] [] (iv (2 ^ k)) []), (6, .call [] [(iv ((((misses l o).getD i 0)).tmod (2 ^ k))), (iv ((k : Nat) : Int))] [] (.osl 0 0 ((bI (bitsOf ((((misses l o).getD i 0)).tmod (2 ^ k)) k)).length)) [some (3, (ints (bI (bitsOf ((((misses l o).getD i 0)).tmod (2 ^ k)) k))))]), (7, .app (some (ints (bI (bitsOf ((((misses l o).getD i 0)).tmod (2 ^ k)) k)))) (some (ints (bI (fb l o k (i + 1))))))] [ks 2, ks 7, ks 38, ks 39, ks 40, kb 137] (fun _ => mixed) (l' := [ps 2 (iv ((k : Nat) : Int)), ps 7 (.osl 137 0 ((((bI (fb l o k i ++ List.replicate j true)).length) + 1) + ((bI (bitsOf ((((misses l o).getD i 0)).tmod (2 ^ k)) k)).length))), ps 38 (.ssl (ints (misses l o)) 0 ((misses l o).length)), ps 39 (iv (((misses l o).length : Nat) : Int)), ps 40 (iv ((i : Nat) : Int)), pb 137 3 (ints (bI (fb l o k (i + 1))))]) (obs := [PC Try.prog 16 [(iv ((k : Nat) : Int))] [] (iv (2 ^ k)) [], [(iv ((k : Nat) : Int))] = renL (sigi [] 105) [(iv ((k : Nat) : Int))], (2 ^ k) ≠ (0 : Int), PC Try.prog 17 [(iv ((((misses l o).getD i 0)).tmod (2 ^ k))), (iv ((k : Nat) : Int))] [] (.osl 0 0 ((bI (bitsOf ((((misses l o).getD i 0)).tmod (2 ^ k)) k)).length)) [some (3, (ints (bI (bitsOf ((((misses l o).getD i 0)).tmod (2 ^ k)) k))))], [(iv ((((misses l o).getD i 0)).tmod (2 ^ k))), (iv ((k : Nat) : Int))] = renL (sigi [] 129) [(iv ((((misses l o).getD i 0)).tmod (2 ^ k))), (iv ((k : Nat) : Int))], 0 + ((bI (bitsOf ((((misses l o).getD i 0)).tmod (2 ^ k)) k)).length) * 1 ≤ ((renL (sigo [] 129) (ints (bI (bitsOf ((((misses l o).getD i 0)).tmod (2 ^ k)) k))))).length ∧ (((renL (sigo [] 129) (ints (bI (bitsOf ((((misses l o).getD i 0)).tmod (2 ^ k)) k))))).drop 0).take (((bI (bitsOf ((((misses l o).getD i 0)).tmod (2 ^ k)) k)).length) * 1) = (ints (bI (bitsOf ((((misses l o).getD i 0)).tmod (2 ^ k)) k))), ((ints (bI (fb l o k i ++ List.replicate j true) ++ [0]))).length = (((bI (fb l o k i ++ List.replicate j true)).length) + 1) * 1, ((((bI (fb l o k i ++ List.replicate j true)).length) + 1) + ((bI (bitsOf ((((misses l o).getD i 0)).tmod (2 ^ k)) k)).length)) * 8 ≤ 140737488355328 ∧ (((bI (fb l o k i ++ List.replicate j true)).length) + 1) + ((bI (bitsOf ((((misses l o).getD i 0)).tmod (2 ^ k)) k)).length) ≤ 9223372036854775807, (ints (bI (fb l o k i ++ List.replicate j true) ++ [0])) ++ (ints (bI (bitsOf ((((misses l o).getD i 0)).tmod (2 ^ k)) k))) = (ints (bI (fb l o k (i + 1))))]) (by kernel_rfl) (obs_cons (p := PC Try.prog 16 [(iv ((k : Nat) : Int))] [] (iv (2 ^ k)) []) (power_pc k hk) (obs_cons (p := [(iv ((k : Nat) : Int))] = renL (sigi [] 105) [(iv ((k : Nat) : Int))]) rfl (obs_cons (p := (2 ^ k) ≠ (0 : Int)) (by omega) (obs_cons (p := PC Try.prog 17 [(iv ((((misses l o).getD i 0)).tmod (2 ^ k))), (iv ((k : Nat) : Int))] [] (.osl 0 0 ((bI (bitsOf ((((misses l o).getD i 0)).tmod (2 ^ k)) k)).length)) [some (3, (ints (bI (bitsOf ((((misses l o).getD i 0)).tmod (2 ^ k)) k))))]) (bits_as2 ((((misses l o).getD i 0)).tmod (2 ^ k)) (by omega) (by omega) k (by omega)) (obs_cons (p := [(iv ((((misses l o).getD i 0)).tmod (2 ^ k))), (iv ((k : Nat) : Int))] = renL (sigi [] 129) [(iv ((((misses l o).getD i 0)).tmod (2 ^ k))), (iv ((k : Nat) : Int))]) rfl (obs_cons (p := 0 + ((bI (bitsOf ((((misses l o).getD i 0)).tmod (2 ^ k)) k)).length) * 1 ≤ ((renL (sigo [] 129) (ints (bI (bitsOf ((((misses l o).getD i 0)).tmod (2 ^ k)) k))))).length ∧ (((renL (sigo [] 129) (ints (bI (bitsOf ((((misses l o).getD i 0)).tmod (2 ^ k)) k))))).drop 0).take (((bI (bitsOf ((((misses l o).getD i 0)).tmod (2 ^ k)) k)).length) * 1) = (ints (bI (bitsOf ((((misses l o).getD i 0)).tmod (2 ^ k)) k)))) (by have h9 := ints_len (bI (bitsOf ((((misses l o).getD i 0)).tmod (2 ^ k)) k)); rw [ints_renL2]; refine ⟨by rw [h9]; omega, ?_⟩; rw [List.drop_zero]; exact List.take_of_length_le (by omega)) (obs_cons (p := ((ints (bI (fb l o k i ++ List.replicate j true) ++ [0]))).length = (((bI (fb l o k i ++ List.replicate j true)).length) + 1) * 1) (by have h8 := ints_len (bI (fb l o k i ++ List.replicate j true) ++ [0]); omega) (obs_cons (p := ((((bI (fb l o k i ++ List.replicate j true)).length) + 1) + ((bI (bitsOf ((((misses l o).getD i 0)).tmod (2 ^ k)) k)).length)) * 8 ≤ 140737488355328 ∧ (((bI (fb l o k i ++ List.replicate j true)).length) + 1) + ((bI (bitsOf ((((misses l o).getD i 0)).tmod (2 ^ k)) k)).length) ≤ 9223372036854775807) (by omega) (obs_cons (p := (ints (bI (fb l o k i ++ List.replicate j true) ++ [0])) ++ (ints (bI (bitsOf ((((misses l o).getD i 0)).tmod (2 ^ k)) k))) = (ints (bI (fb l o k (i + 1))))) (by rw [← hfn]; exact (flat_app _ _ _).symm) (obs_nil)))))))))) ?_
          refine T_blk ?_
          refine T_region [] [ks 2, ks 7, ks 38, ks 39, ks 40, kb 137] (fun _ => mixed) (l' := [ps 2 (iv ((k : Nat) : Int)), ps 7 (.osl 137 0 ((((bI (fb l o k i ++ List.replicate j true)).length) + 1) + ((bI (bitsOf ((((misses l o).getD i 0)).tmod (2 ^ k)) k)).length))), ps 38 (.ssl (ints (misses l o)) 0 ((misses l o).length)), ps 39 (iv (((misses l o).length : Nat) : Int)), ps 40 (iv (((i : Nat) : Int) + 1)), pb 137 3 (ints (bI (fb l o k (i + 1))))]) (obs := [InK .i64 (((i : Nat) : Int) + 1)]) (by kernel_rfl) (obs_cons (p := InK .i64 (((i : Nat) : Int) + 1)) (by simp only [InK]; omega) (obs_nil)) ?_
          exact T_back ⟨i + 1, by show i + 1 ≤ (misses l o).length; omega⟩ (Wk.trans (Wk.eq (show [ps 2 (iv ((k : Nat) : Int)), ps 7 (.osl 137 0 ((((bI (fb l o k i ++ List.replicate j true)).length) + 1) + ((bI (bitsOf ((((misses l o).getD i 0)).tmod (2 ^ k)) k)).length))), ps 38 (.ssl (ints (misses l o)) 0 ((misses l o).length)), ps 39 (iv (((misses l o).length : Nat) : Int)), ps 40 (iv (((i : Nat) : Int) + 1)), pb 137 3 (ints (bI (fb l o k (i + 1))))] = [ps 2 (iv ((k : Nat) : Int)), ps 7 (.osl 137 0 ((bI (fb l o k (i + 1))).length)), ps 38 (.ssl (ints (misses l o)) 0 ((misses l o).length)), ps 39 (iv (((misses l o).length : Nat) : Int)), ps 40 (iv (((i : Nat) : Int) + 1)), pb 137 3 (ints (bI (fb l o k (i + 1))))] from by rw [show (bI (fb l o k i ++ List.replicate j true)).length + 1 = (bI (fb l o k i ++ List.replicate j true) ++ [0]).length from by rw [List.length_append]; rfl, len_of hfn])) (Wk.ren3 [ps 2 (iv ((k : Nat) : Int)), ps 7 (.osl 0 0 ((bI (fb l o k (i + 1))).length)), ps 38 (.ssl (ints (misses l o)) 0 ((misses l o).length)), ps 39 (iv (((misses l o).length : Nat) : Int)), ps 40 (iv (((i + 1) : Nat) : Int)), pb 0 3 (ints (bI (fb l o k (i + 1))))] 0 hc0 [137] [(kb 0, (ints (bI (fb l o k (i + 1)))))] (obs_cons (ints_shd _) (obs_nil)) (by kernel_rfl) rfl rfl (by kernel_rfl) (by kernel_rfl))) (show (misses l o).length - (i + 1) < (misses l o).length - i from by show (misses l o).length - (i + 1) < (misses l o).length - i; omega)
      · refine T_else (b := (decide (((i : Nat) : Int) < (((misses l o).length : Nat) : Int)))) rfl (decide_eq_false h3) ?_
        refine T_break rfl rfl ?_
        refine T_seq ?_
        refine T_region [] [ks 6, kb 0] (fun _ => mixed) (l' := [ps 6 (.osl 0 0 ((bI (fb l o k i)).length)), pb 0 3 (ints (bI (fb l o k i)))]) (obs := []) (by kernel_rfl) (obs_nil) ?_
        have hfe := fb_end (k := k) (show (misses l o).length ≤ i by omega)
        refine T_wk (Wk.eq (show [ps 6 (.osl 0 0 ((bI (fb l o k i)).length)), pb 0 3 (ints (bI (fb l o k i)))] = [ps 6 (.osl 0 0 ((bI (frameBits l o k)).length)), pb 0 3 (ints (bI (frameBits l o k)))] from by rw [hfe])) ?_
        refine T_wk (Wk.frz (l' := [ps 6 (.ssl (ints (bI (frameBits l o k))) 0 ((bI (frameBits l o k)).length)), (kb 0, none)]) 0 (T := 3) (cs := (ints (bI (frameBits l o k)))) (by kernel_rfl) (ints_shd _) (by kernel_rfl)) ?_
        refine T_wk (Wk.less (l' := [ps 6 (.ssl (ints (bI (frameBits l o k))) 0 ((bI (frameBits l o k)).length))]) 25 (by kernel_rfl) (by kernel_rfl)) ?_
        exact T_ret fun cx_ a_ hI_ => ret_ok (H' := []) (.inr rfl) (Wk.ren2 [ps 6 (.ssl (ints (bI (frameBits l o k))) 0 ((bI (frameBits l o k)).length))] 0 hc0 [] rfl rfl (by kernel_rfl) (by kernel_rfl)) rfl (obs_nil) (fun cx_ a_ hI_ => ret_res (l' := [ps 6 (.ssl (ints (bI (frameBits l o k))) 0 ((bI (frameBits l o k)).length))]) (by kernel_rfl) cx_ a_ hI_) hI_
  · refine T_region [(4, .gd false .no), (5, .gd false .no), (6, .gd false .no), (7, .gd false .no), (8, .yes false)] [ks 0, ks 1, ks 2, ks 7, ks 8, ks 25, kb 0] (fun _ => mixed) (l' := [ps 0 (.ssl (ints l) 0 l.length), ps 1 (iv ((o : Nat) : Int)), ps 2 (iv ((k : Nat) : Int)), ps 7 (.osl 0 0 ((bI (fr0 l o k i)).length)), ps 8 (iv ((i : Nat) : Int)), ps 25 (bv false), pb 0 3 (ints (bI (fr0 l o k i)))]) (obs := [(decide (((i : Nat) : Int) < ((o : Nat) : Int))) = false, (decide (((i : Nat) : Int) < ((o : Nat) : Int))) = false, (decide (((i : Nat) : Int) < ((o : Nat) : Int))) = false, (decide (((i : Nat) : Int) < ((o : Nat) : Int))) = false, (decide (((i : Nat) : Int) < ((o : Nat) : Int))) = false]) (by kernel_rfl) (obs_cons (p := (decide (((i : Nat) : Int) < ((o : Nat) : Int))) = false) (decide_eq_false h1) (obs_cons (p := (decide (((i : Nat) : Int) < ((o : Nat) : Int))) = false) (decide_eq_false h1) (obs_cons (p := (decide (((i : Nat) : Int) < ((o : Nat) : Int))) = false) (decide_eq_false h1) (obs_cons (p := (decide (((i : Nat) : Int) < ((o : Nat) : Int))) = false) (decide_eq_false h1) (obs_cons (p := (decide (((i : Nat) : Int) < ((o : Nat) : Int))) = false) (decide_eq_false h1) (obs_nil)))))) ?_
    refine T_else (b := false) rfl rfl ?_
    refine T_break rfl rfl ?_
    refine T_seq ?_
    refine T_seq ?_
    have hfe := fr0_end (k := k) hi (show o ≤ i ∨ l.length ≤ i by omega)
    refine T_wk (Wk.eq (show [ps 0 (.ssl (ints l) 0 l.length), ps 1 (iv ((o : Nat) : Int)), ps 2 (iv ((k : Nat) : Int)), ps 7 (.osl 0 0 ((bI (fr0 l o k i)).length)), ps 8 (iv ((i : Nat) : Int)), ps 25 (bv false), pb 0 3 (ints (bI (fr0 l o k i)))] = [ps 0 (.ssl (ints l) 0 l.length), ps 1 (iv ((o : Nat) : Int)), ps 2 (iv ((k : Nat) : Int)), ps 7 (.osl 0 0 ((bI (fb l o k 0)).length)), ps 8 (iv ((i : Nat) : Int)), ps 25 (bv false), pb 0 3 (ints (bI (fb l o k 0)))] from by rw [hfe])) ?_
    refine T_region [(2, .call [] [(.ssl (ints l) 0 l.length), (iv ((o : Nat) : Int))] [] (.ssl (ints (misses l o)) 0 ((misses l o).length)) [])] [ks 2, ks 7, ks 38, ks 39, ks 40, kb 0] (fun _ => mixed) (l' := [ps 2 (iv ((k : Nat) : Int)), ps 7 (.osl 0 0 ((bI (fb l o k 0)).length)), ps 38 (.ssl (ints (misses l o)) 0 ((misses l o).length)), ps 39 (iv (((misses l o).length : Nat) : Int)), ps 40 (iv 0), pb 0 3 (ints (bI (fb l o k 0)))]) (obs := [PC Try.prog 15 [(.ssl (ints l) 0 l.length), (iv ((o : Nat) : Int))] [] (.ssl (ints (misses l o)) 0 ((misses l o).length)) [], [(.ssl (ints l) 0 l.length), (iv ((o : Nat) : Int))] = renL (sigi [] 89) [(.ssl (ints l) 0 l.length), (iv ((o : Nat) : Int))]]) (by kernel_rfl) (obs_cons (p := PC Try.prog 15 [(.ssl (ints l) 0 l.length), (iv ((o : Nat) : Int))] [] (.ssl (ints (misses l o)) 0 ((misses l o).length)) []) (ref_misses_pc l hl hs o ho) (obs_cons (p := [(.ssl (ints l) 0 l.length), (iv ((o : Nat) : Int))] = renL (sigi [] 89) [(.ssl (ints l) 0 l.length), (iv ((o : Nat) : Int))]) rfl (obs_nil))) ?_
    refine T_block ?_
    refine T_loop (α := {x : Nat // x ≤ (misses l o).length}) (fun x => [ps 2 (iv ((k : Nat) : Int)), ps 7 (.osl 0 0 ((bI (fb l o k x.1)).length)), ps 38 (.ssl (ints (misses l o)) 0 ((misses l o).length)), ps 39 (iv (((misses l o).length : Nat) : Int)), ps 40 (iv ((x.1 : Nat) : Int)), pb 0 3 (ints (bI (fb l o k x.1)))]) (fun x => (misses l o).length - x.1) 1 ⟨0, Nat.zero_le _⟩ (Wk.ren3 [ps 2 (iv ((k : Nat) : Int)), ps 7 (.osl 0 0 ((bI (fb l o k 0)).length)), ps 38 (.ssl (ints (misses l o)) 0 ((misses l o).length)), ps 39 (iv (((misses l o).length : Nat) : Int)), ps 40 (iv ((0 : Nat) : Int)), pb 0 3 (ints (bI (fb l o k 0)))] 0 hc0 [0] [(kb 0, (ints (bI (fb l o k 0))))] (obs_cons (ints_shd _) (obs_nil)) (by kernel_rfl) rfl rfl (by kernel_rfl) (by kernel_rfl)) ?_
    rintro ⟨i, hi⟩
    refine T_seq ?_
    refine T_region [] [ks 2, ks 7, ks 38, ks 39, ks 40, ks 41, kb 0] (fun _ => mixed) (l' := [ps 2 (iv ((k : Nat) : Int)), ps 7 (.osl 0 0 ((bI (fb l o k i)).length)), ps 38 (.ssl (ints (misses l o)) 0 ((misses l o).length)), ps 39 (iv (((misses l o).length : Nat) : Int)), ps 40 (iv ((i : Nat) : Int)), ps 41 (bv (decide (((i : Nat) : Int) < (((misses l o).length : Nat) : Int)))), pb 0 3 (ints (bI (fb l o k i)))]) (obs := []) (by kernel_rfl) (obs_nil) ?_
    refine T_seq ?_
    by_cases h5 : ((i : Nat) : Int) < (((misses l o).length : Nat) : Int)
    · refine T_then (b := (decide (((i : Nat) : Int) < (((misses l o).length : Nat) : Int)))) rfl (decide_eq_true h5) ?_
      refine T_skip ?_
      refine T_seq ?_
      refine T_block ?_
      refine T_seq ?_
      refine T_region [(0, .nat i), (1, .val (iv ((misses l o).getD i 0)))] [ks 2, ks 7, ks 10, ks 38, ks 39, ks 40, kb 0] (fun _ => mixed) (l' := [ps 2 (iv ((k : Nat) : Int)), ps 7 (.osl 0 0 ((bI (fb l o k i)).length)), ps 10 (iv ((misses l o).getD i 0)), ps 38 (.ssl (ints (misses l o)) 0 ((misses l o).length)), ps 39 (iv (((misses l o).length : Nat) : Int)), ps 40 (iv ((i : Nat) : Int)), pb 0 3 (ints (bI (fb l o k i)))]) (obs := [(0 : Int) ≤ ((i : Nat) : Int) ∧ ((i : Nat) : Int) < (((misses l o).length : Nat) : Int), 0 + (((i : Nat) : Int) : Int).toNat * 1 = i, i + 1 ≤ ((ints (misses l o))).length ∧ (((ints (misses l o))).drop i).take 1 = [(iv ((misses l o).getD i 0))]]) (by kernel_rfl) (obs_cons (p := (0 : Int) ≤ ((i : Nat) : Int) ∧ ((i : Nat) : Int) < (((misses l o).length : Nat) : Int)) (by omega) (obs_cons (p := 0 + (((i : Nat) : Int) : Int).toNat * 1 = i) (by omega) (obs_cons (p := i + 1 ≤ ((ints (misses l o))).length ∧ (((ints (misses l o))).drop i).take 1 = [(iv ((misses l o).getD i 0))]) (ints_at (by omega)) (obs_nil)))) ?_
      refine T_seq ?_
      refine T_seq ?_
      refine T_region [] [ks 2, ks 7, ks 10, ks 11, ks 38, ks 39, ks 40, kb 0] (fun _ => mixed) (l' := [ps 2 (iv ((k : Nat) : Int)), ps 7 (.osl 0 0 ((bI (fb l o k i)).length)), ps 10 (iv ((misses l o).getD i 0)), ps 11 (iv 0), ps 38 (.ssl (ints (misses l o)) 0 ((misses l o).length)), ps 39 (iv (((misses l o).length : Nat) : Int)), ps 40 (iv ((i : Nat) : Int)), pb 0 3 (ints (bI (fb l o k i)))]) (obs := []) (by kernel_rfl) (obs_nil) ?_
      refine T_block ?_
      have hxb := misses_bd hs (show i < (misses l o).length by omega)
      rw [← X_getD] at hxb
      have hp := pow_small hk
      have htd : ((misses l o).getD i 0).tdiv (2 ^ k) = (misses l o).getD i 0 / 2 ^ k := Int.tdiv_eq_ediv_of_nonneg hxb.1
      have htm : ((misses l o).getD i 0).tmod (2 ^ k) = (misses l o).getD i 0 % 2 ^ k := Int.tmod_eq_emod_of_nonneg hxb.1
      have htd0 : 0 ≤ (misses l o).getD i 0 / 2 ^ k := Int.ediv_nonneg hxb.1 (by omega)
      have htd1 : (misses l o).getD i 0 / 2 ^ k ≤ (misses l o).getD i 0 := Int.ediv_le_self _ hxb.1
      have htm0 := Int.emod_nonneg ((misses l o).getD i 0) (show (2 : Int) ^ k ≠ 0 by omega)
      have htm1 := Int.emod_lt_of_pos ((misses l o).getD i 0) (show (0 : Int) < 2 ^ k by omega)
      have hln := fb_len (o := o) hk hs hl i
      refine T_wk (Wk.eq (show [ps 2 (iv ((k : Nat) : Int)), ps 7 (.osl 0 0 ((bI (fb l o k i)).length)), ps 10 (iv ((misses l o).getD i 0)), ps 11 (iv 0), ps 38 (.ssl (ints (misses l o)) 0 ((misses l o).length)), ps 39 (iv (((misses l o).length : Nat) : Int)), ps 40 (iv ((i : Nat) : Int)), pb 0 3 (ints (bI (fb l o k i)))] = [ps 2 (iv ((k : Nat) : Int)), ps 7 (.osl 0 0 ((bI (fb l o k i ++ List.replicate 0 true)).length)), ps 10 (iv ((misses l o).getD i 0)), ps 11 (iv 0), ps 38 (.ssl (ints (misses l o)) 0 ((misses l o).length)), ps 39 (iv (((misses l o).length : Nat) : Int)), ps 40 (iv ((i : Nat) : Int)), pb 0 3 (ints (bI (fb l o k i ++ List.replicate 0 true)))] from by rw [List.replicate_zero, List.append_nil])) ?_
      refine T_loop (α := {x : Nat // ((x : Nat) : Int) ≤ ((misses l o).getD i 0).tdiv (2 ^ k)}) (fun x => [ps 2 (iv ((k : Nat) : Int)), ps 7 (.osl 0 0 ((bI (fb l o k i ++ List.replicate x.1 true)).length)), ps 10 (iv ((misses l o).getD i 0)), ps 11 (iv ((x.1 : Nat) : Int)), ps 38 (.ssl (ints (misses l o)) 0 ((misses l o).length)), ps 39 (iv (((misses l o).length : Nat) : Int)), ps 40 (iv ((i : Nat) : Int)), pb 0 3 (ints (bI (fb l o k i ++ List.replicate x.1 true)))]) (fun x => (((misses l o).getD i 0).tdiv (2 ^ k)).toNat - x.1) 1 ⟨0, by show ((0 : Nat) : Int) ≤ ((misses l o).getD i 0).tdiv (2 ^ k); omega⟩ (Wk.ren3 [ps 2 (iv ((k : Nat) : Int)), ps 7 (.osl 0 0 ((bI (fb l o k i ++ List.replicate 0 true)).length)), ps 10 (iv ((misses l o).getD i 0)), ps 11 (iv ((0 : Nat) : Int)), ps 38 (.ssl (ints (misses l o)) 0 ((misses l o).length)), ps 39 (iv (((misses l o).length : Nat) : Int)), ps 40 (iv ((i : Nat) : Int)), pb 0 3 (ints (bI (fb l o k i ++ List.replicate 0 true)))] 0 hc0 [0] [(kb 0, (ints (bI (fb l o k i ++ List.replicate 0 true))))] (obs_cons (ints_shd _) (obs_nil)) (by kernel_rfl) rfl rfl (by kernel_rfl) (by kernel_rfl)) ?_
      rintro ⟨j, hj⟩
      refine T_seq ?_
      refine T_seq ?_
      refine T_region [(3, .call [] [(iv ((k : Nat) : Int))] [] (iv (2 ^ k)) [])] [ks 2, ks 7, ks 10, ks 11, ks 38, ks 39, ks 40, ks 49, kb 0] (fun _ => mixed) (l' := [ps 2 (iv ((k : Nat) : Int)), ps 7 (.osl 0 0 ((bI (fb l o k i ++ List.replicate j true)).length)), ps 10 (iv ((misses l o).getD i 0)), ps 11 (iv ((j : Nat) : Int)), ps 38 (.ssl (ints (misses l o)) 0 ((misses l o).length)), ps 39 (iv (((misses l o).length : Nat) : Int)), ps 40 (iv ((i : Nat) : Int)), ps 49 (bv (decide (((j : Nat) : Int) < ((((misses l o).getD i 0)).tdiv (2 ^ k))))), pb 0 3 (ints (bI (fb l o k i ++ List.replicate j true)))]) (obs := [PC Try.prog 16 [(iv ((k : Nat) : Int))] [] (iv (2 ^ k)) [], [(iv ((k : Nat) : Int))] = renL (sigi [] 25) [(iv ((k : Nat) : Int))], (2 ^ k) ≠ (0 : Int), InK .i64 ((((misses l o).getD i 0)).tdiv (2 ^ k))]) (by kernel_rfl) (obs_cons (p := PC Try.prog 16 [(iv ((k : Nat) : Int))] [] (iv (2 ^ k)) []) (power_pc k hk) (obs_cons (p := [(iv ((k : Nat) : Int))] = renL (sigi [] 25) [(iv ((k : Nat) : Int))]) rfl (obs_cons (p := (2 ^ k) ≠ (0 : Int)) (by omega) (obs_cons (p := InK .i64 ((((misses l o).getD i 0)).tdiv (2 ^ k))) (by simp only [InK]; omega) (obs_nil))))) ?_
      by_cases h6 : ((j : Nat) : Int) < ((((misses l o).getD i 0)).tdiv (2 ^ k))
      · refine T_then (b := (decide (((j : Nat) : Int) < ((((misses l o).getD i 0)).tdiv (2 ^ k))))) rfl (decide_eq_true h6) ?_
        refine T_skip ?_
        refine T_seq ?_
        refine T_block ?_
        have hrl := rep_len (fb l o k i) j
        refine T_region [(2, .app none (some (ints (bI (fb l o k i ++ List.replicate (j + 1) true)))))] [ks 2, ks 7, ks 10, ks 11, ks 38, ks 39, ks 40, kb 65] (fun _ => mixed) (l' := [ps 2 (iv ((k : Nat) : Int)), ps 7 (.osl 65 0 (((bI (fb l o k i ++ List.replicate j true)).length) + 1)), ps 10 (iv ((misses l o).getD i 0)), ps 11 (iv ((j : Nat) : Int)), ps 38 (.ssl (ints (misses l o)) 0 ((misses l o).length)), ps 39 (iv (((misses l o).length : Nat) : Int)), ps 40 (iv ((i : Nat) : Int)), pb 65 3 (ints (bI (fb l o k i ++ List.replicate (j + 1) true)))]) (obs := [((ints (bI (fb l o k i ++ List.replicate j true)))).length = ((bI (fb l o k i ++ List.replicate j true)).length) * 1, (((bI (fb l o k i ++ List.replicate j true)).length) + 1) * 8 ≤ 140737488355328 ∧ ((bI (fb l o k i ++ List.replicate j true)).length) + 1 ≤ 9223372036854775807, (ints (bI (fb l o k i ++ List.replicate j true))) ++ [(iv 1)] = (ints (bI (fb l o k i ++ List.replicate (j + 1) true)))]) (by kernel_rfl) (obs_cons (p := ((ints (bI (fb l o k i ++ List.replicate j true)))).length = ((bI (fb l o k i ++ List.replicate j true)).length) * 1) (by simp [ints_len]) (obs_cons (p := (((bI (fb l o k i ++ List.replicate j true)).length) + 1) * 8 ≤ 140737488355328 ∧ ((bI (fb l o k i ++ List.replicate j true)).length) + 1 ≤ 9223372036854775807) (by omega) (obs_cons (p := (ints (bI (fb l o k i ++ List.replicate j true))) ++ [(iv 1)] = (ints (bI (fb l o k i ++ List.replicate (j + 1) true)))) (by rw [← rep_next]; exact (flat_app (fun n => [iv n]) (bI (fb l o k i ++ List.replicate j true)) [1]).symm) (obs_nil)))) ?_
        refine T_blk ?_
        refine T_region [] [ks 2, ks 7, ks 10, ks 11, ks 38, ks 39, ks 40, kb 65] (fun _ => mixed) (l' := [ps 2 (iv ((k : Nat) : Int)), ps 7 (.osl 65 0 (((bI (fb l o k i ++ List.replicate j true)).length) + 1)), ps 10 (iv ((misses l o).getD i 0)), ps 11 (iv (((j : Nat) : Int) + 1)), ps 38 (.ssl (ints (misses l o)) 0 ((misses l o).length)), ps 39 (iv (((misses l o).length : Nat) : Int)), ps 40 (iv ((i : Nat) : Int)), pb 65 3 (ints (bI (fb l o k i ++ List.replicate (j + 1) true)))]) (obs := [InK .i64 (((j : Nat) : Int) + 1)]) (by kernel_rfl) (obs_cons (p := InK .i64 (((j : Nat) : Int) + 1)) (by simp only [InK]; omega) (obs_nil)) ?_
        exact T_back ⟨j + 1, by show ((j + 1 : Nat) : Int) ≤ ((misses l o).getD i 0).tdiv (2 ^ k); omega⟩ (Wk.trans (Wk.eq (show [ps 2 (iv ((k : Nat) : Int)), ps 7 (.osl 65 0 (((bI (fb l o k i ++ List.replicate j true)).length) + 1)), ps 10 (iv ((misses l o).getD i 0)), ps 11 (iv (((j : Nat) : Int) + 1)), ps 38 (.ssl (ints (misses l o)) 0 ((misses l o).length)), ps 39 (iv (((misses l o).length : Nat) : Int)), ps 40 (iv ((i : Nat) : Int)), pb 65 3 (ints (bI (fb l o k i ++ List.replicate (j + 1) true)))] = [ps 2 (iv ((k : Nat) : Int)), ps 7 (.osl 65 0 ((bI (fb l o k i ++ List.replicate (j + 1) true)).length)), ps 10 (iv ((misses l o).getD i 0)), ps 11 (iv (((j : Nat) : Int) + 1)), ps 38 (.ssl (ints (misses l o)) 0 ((misses l o).length)), ps 39 (iv (((misses l o).length : Nat) : Int)), ps 40 (iv ((i : Nat) : Int)), pb 65 3 (ints (bI (fb l o k i ++ List.replicate (j + 1) true)))] from by rw [rep_len, rep_len]; rfl)) (Wk.ren3 [ps 2 (iv ((k : Nat) : Int)), ps 7 (.osl 0 0 ((bI (fb l o k i ++ List.replicate (j + 1) true)).length)), ps 10 (iv ((misses l o).getD i 0)), ps 11 (iv (((j + 1) : Nat) : Int)), ps 38 (.ssl (ints (misses l o)) 0 ((misses l o).length)), ps 39 (iv (((misses l o).length : Nat) : Int)), ps 40 (iv ((i : Nat) : Int)), pb 0 3 (ints (bI (fb l o k i ++ List.replicate (j + 1) true)))] 0 hc0 [65] [(kb 0, (ints (bI (fb l o k i ++ List.replicate (j + 1) true))))] (obs_cons (ints_shd _) (obs_nil)) (by kernel_rfl) rfl rfl (by kernel_rfl) (by kernel_rfl))) (show (((misses l o).getD i 0).tdiv (2 ^ k)).toNat - (j + 1) < (((misses l o).getD i 0).tdiv (2 ^ k)).toNat - j from by show (((misses l o).getD i 0).tdiv (2 ^ k)).toNat - (j + 1) < (((misses l o).getD i 0).tdiv (2 ^ k)).toNat - j; omega)
      · refine T_else (b := (decide (((j : Nat) : Int) < ((((misses l o).getD i 0)).tdiv (2 ^ k))))) rfl (decide_eq_false h6) ?_
        refine T_break rfl rfl ?_
        refine T_seq ?_
        have hrl := rep_len (fb l o k i) j
        have hfn := fb_next (k := k) hs (show i < (misses l o).length by omega) (show ((j : Nat) : Int) = ((misses l o).getD i 0).tdiv (2 ^ k) by omega)
        have hbl := bits_len (((misses l o).getD i 0).tmod (2 ^ k)) k
        have hl0 : (bI (fb l o k i ++ List.replicate j true) ++ [0]).length = (bI (fb l o k i ++ List.replicate j true)).length + 1 := by rw [List.length_append]; rfl
        refine T_region [(2, .app none (some (ints (bI (fb l o k i ++ List.replicate j true) ++ [0]))))] [ks 2, ks 7, ks 10, ks 38, ks 39, ks 40, kb 65] (fun _ => mixed) (l' := [ps 2 (iv ((k : Nat) : Int)), ps 7 (.osl 65 0 (((bI (fb l o k i ++ List.replicate j true)).length) + 1)), ps 10 (iv ((misses l o).getD i 0)), ps 38 (.ssl (ints (misses l o)) 0 ((misses l o).length)), ps 39 (iv (((misses l o).length : Nat) : Int)), ps 40 (iv ((i : Nat) : Int)), pb 65 3 (ints (bI (fb l o k i ++ List.replicate j true) ++ [0]))]) (obs := [((ints (bI (fb l o k i ++ List.replicate j true)))).length = ((bI (fb l o k i ++ List.replicate j true)).length) * 1, (((bI (fb l o k i ++ List.replicate j true)).length) + 1) * 8 ≤ 140737488355328 ∧ ((bI (fb l o k i ++ List.replicate j true)).length) + 1 ≤ 9223372036854775807, (ints (bI (fb l o k i ++ List.replicate j true))) ++ [(iv 0)] = (ints (bI (fb l o k i ++ List.replicate j true) ++ [0]))]) (by kernel_rfl) (obs_cons (p := ((ints (bI (fb l o k i ++ List.replicate j true)))).length = ((bI (fb l o k i ++ List.replicate j true)).length) * 1) (by simp [ints_len]) (obs_cons (p := (((bI (fb l o k i ++ List.replicate j true)).length) + 1) * 8 ≤ 140737488355328 ∧ ((bI (fb l o k i ++ List.replicate j true)).length) + 1 ≤ 9223372036854775807) (by omega) (obs_cons (p := (ints (bI (fb l o k i ++ List.replicate j true))) ++ [(iv 0)] = (ints (bI (fb l o k i ++ List.replicate j true) ++ [0]))) (flat_app (fun n => [iv n]) (bI (fb l o k i ++ List.replicate j true)) [0]).symm (obs_nil)))) ?_
        refine T_region [(3, .call [] [(iv ((k : Nat) : Int))] [] (iv (2 ^ k)) []), (6, .call [] [(iv ((((misses l o).getD i 0)).tmod (2 ^ k))), (iv ((k : Nat) : Int))] [] (.osl 0 0 ((bI (bitsOf ((((misses l o).getD i 0)).tmod (2 ^ k)) k)).length)) [some (3, (ints (bI (bitsOf ((((misses l o).getD i 0)).tmod (2 ^ k)) k))))]), (7, .app (some (ints (bI (bitsOf ((((misses l o).getD i 0)).tmod (2 ^ k)) k)))) (some (ints (bI (fb l o k (i + 1))))))] [ks 2, ks 7, ks 38, ks 39, ks 40, kb 137] (fun _ => mixed) (l' := [ps 2 (iv ((k : Nat) : Int)), ps 7 (.osl 137 0 ((((bI (fb l o k i ++ List.replicate j true)).length) + 1) + ((bI (bitsOf ((((misses l o).getD i 0)).tmod (2 ^ k)) k)).length))), ps 38 (.ssl (ints (misses l o)) 0 ((misses l o).length)), ps 39 (iv (((misses l o).length : Nat) : Int)), ps 40 (iv ((i : Nat) : Int)), pb 137 3 (ints (bI (fb l o k (i + 1))))]) (obs := [PC Try.prog 16 [(iv ((k : Nat) : Int))] [] (iv (2 ^ k)) [], [(iv ((k : Nat) : Int))] = renL (sigi [] 105) [(iv ((k : Nat) : Int))], (2 ^ k) ≠ (0 : Int), PC Try.prog 17 [(iv ((((misses l o).getD i 0)).tmod (2 ^ k))), (iv ((k : Nat) : Int))] [] (.osl 0 0 ((bI (bitsOf ((((misses l o).getD i 0)).tmod (2 ^ k)) k)).length)) [some (3, (ints (bI (bitsOf ((((misses l o).getD i 0)).tmod (2 ^ k)) k))))], [(iv ((((misses l o).getD i 0)).tmod (2 ^ k))), (iv ((k : Nat) : Int))] = renL (sigi [] 129) [(iv ((((misses l o).getD i 0)).tmod (2 ^ k))), (iv ((k : Nat) : Int))], 0 + ((bI (bitsOf ((((misses l o).getD i 0)).tmod (2 ^ k)) k)).length) * 1 ≤ ((renL (sigo [] 129) (ints (bI (bitsOf ((((misses l o).getD i 0)).tmod (2 ^ k)) k))))).length ∧ (((renL (sigo [] 129) (ints (bI (bitsOf ((((misses l o).getD i 0)).tmod (2 ^ k)) k))))).drop 0).take (((bI (bitsOf ((((misses l o).getD i 0)).tmod (2 ^ k)) k)).length) * 1) = (ints (bI (bitsOf ((((misses l o).getD i 0)).tmod (2 ^ k)) k))), ((ints (bI (fb l o k i ++ List.replicate j true) ++ [0]))).length = (((bI (fb l o k i ++ List.replicate j true)).length) + 1) * 1, ((((bI (fb l o k i ++ List.replicate j true)).length) + 1) + ((bI (bitsOf ((((misses l o).getD i 0)).tmod (2 ^ k)) k)).length)) * 8 ≤ 140737488355328 ∧ (((bI (fb l o k i ++ List.replicate j true)).length) + 1) + ((bI (bitsOf ((((misses l o).getD i 0)).tmod (2 ^ k)) k)).length) ≤ 9223372036854775807, (ints (bI (fb l o k i ++ List.replicate j true) ++ [0])) ++ (ints (bI (bitsOf ((((misses l o).getD i 0)).tmod (2 ^ k)) k))) = (ints (bI (fb l o k (i + 1))))]) (by kernel_rfl) (obs_cons (p := PC Try.prog 16 [(iv ((k : Nat) : Int))] [] (iv (2 ^ k)) []) (power_pc k hk) (obs_cons (p := [(iv ((k : Nat) : Int))] = renL (sigi [] 105) [(iv ((k : Nat) : Int))]) rfl (obs_cons (p := (2 ^ k) ≠ (0 : Int)) (by omega) (obs_cons (p := PC Try.prog 17 [(iv ((((misses l o).getD i 0)).tmod (2 ^ k))), (iv ((k : Nat) : Int))] [] (.osl 0 0 ((bI (bitsOf ((((misses l o).getD i 0)).tmod (2 ^ k)) k)).length)) [some (3, (ints (bI (bitsOf ((((misses l o).getD i 0)).tmod (2 ^ k)) k))))]) (bits_as2 ((((misses l o).getD i 0)).tmod (2 ^ k)) (by omega) (by omega) k (by omega)) (obs_cons (p := [(iv ((((misses l o).getD i 0)).tmod (2 ^ k))), (iv ((k : Nat) : Int))] = renL (sigi [] 129) [(iv ((((misses l o).getD i 0)).tmod (2 ^ k))), (iv ((k : Nat) : Int))]) rfl (obs_cons (p := 0 + ((bI (bitsOf ((((misses l o).getD i 0)).tmod (2 ^ k)) k)).length) * 1 ≤ ((renL (sigo [] 129) (ints (bI (bitsOf ((((misses l o).getD i 0)).tmod (2 ^ k)) k))))).length ∧ (((renL (sigo [] 129) (ints (bI (bitsOf ((((misses l o).getD i 0)).tmod (2 ^ k)) k))))).drop 0).take (((bI (bitsOf ((((misses l o).getD i 0)).tmod (2 ^ k)) k)).length) * 1) = (ints (bI (bitsOf ((((misses l o).getD i 0)).tmod (2 ^ k)) k)))) (by have h9 := ints_len (bI (bitsOf ((((misses l o).getD i 0)).tmod (2 ^ k)) k)); rw [ints_renL2]; refine ⟨by rw [h9]; omega, ?_⟩; rw [List.drop_zero]; exact List.take_of_length_le (by omega)) (obs_cons (p := ((ints (bI (fb l o k i ++ List.replicate j true) ++ [0]))).length = (((bI (fb l o k i ++ List.replicate j true)).length) + 1) * 1) (by have h8 := ints_len (bI (fb l o k i ++ List.replicate j true) ++ [0]); omega) (obs_cons (p := ((((bI (fb l o k i ++ List.replicate j true)).length) + 1) + ((bI (bitsOf ((((misses l o).getD i 0)).tmod (2 ^ k)) k)).length)) * 8 ≤ 140737488355328 ∧ (((bI (fb l o k i ++ List.replicate j true)).length) + 1) + ((bI (bitsOf ((((misses l o).getD i 0)).tmod (2 ^ k)) k)).length) ≤ 9223372036854775807) (by omega) (obs_cons (p := (ints (bI (fb l o k i ++ List.replicate j true) ++ [0])) ++ (ints (bI (bitsOf ((((misses l o).getD i 0)).tmod (2 ^ k)) k))) = (ints (bI (fb l o k (i + 1))))) (by rw [← hfn]; exact (flat_app _ _ _).symm) (obs_nil)))))))))) ?_
        refine T_blk ?_
        refine T_region [] [ks 2, ks 7, ks 38, ks 39, ks 40, kb 137] (fun _ => mixed) (l' := [ps 2 (iv ((k : Nat) : Int)), ps 7 (.osl 137 0 ((((bI (fb l o k i ++ List.replicate j true)).length) + 1) + ((bI (bitsOf ((((misses l o).getD i 0)).tmod (2 ^ k)) k)).length))), ps 38 (.ssl (ints (misses l o)) 0 ((misses l o).length)), ps 39 (iv (((misses l o).length : Nat) : Int)), ps 40 (iv (((i : Nat) : Int) + 1)), pb 137 3 (ints (bI (fb l o k (i + 1))))]) (obs := [InK .i64 (((i : Nat) : Int) + 1)]) (by kernel_rfl) (obs_cons (p := InK .i64 (((i : Nat) : Int) + 1)) (by simp only [InK]; omega) (obs_nil)) ?_
        exact T_back ⟨i + 1, by show i + 1 ≤ (misses l o).length; omega⟩ (Wk.trans (Wk.eq (show [ps 2 (iv ((k : Nat) : Int)), ps 7 (.osl 137 0 ((((bI (fb l o k i ++ List.replicate j true)).length) + 1) + ((bI (bitsOf ((((misses l o).getD i 0)).tmod (2 ^ k)) k)).length))), ps 38 (.ssl (ints (misses l o)) 0 ((misses l o).length)), ps 39 (iv (((misses l o).length : Nat) : Int)), ps 40 (iv (((i : Nat) : Int) + 1)), pb 137 3 (ints (bI (fb l o k (i + 1))))] = [ps 2 (iv ((k : Nat) : Int)), ps 7 (.osl 137 0 ((bI (fb l o k (i + 1))).length)), ps 38 (.ssl (ints (misses l o)) 0 ((misses l o).length)), ps 39 (iv (((misses l o).length : Nat) : Int)), ps 40 (iv (((i : Nat) : Int) + 1)), pb 137 3 (ints (bI (fb l o k (i + 1))))] from by rw [show (bI (fb l o k i ++ List.replicate j true)).length + 1 = (bI (fb l o k i ++ List.replicate j true) ++ [0]).length from by rw [List.length_append]; rfl, len_of hfn])) (Wk.ren3 [ps 2 (iv ((k : Nat) : Int)), ps 7 (.osl 0 0 ((bI (fb l o k (i + 1))).length)), ps 38 (.ssl (ints (misses l o)) 0 ((misses l o).length)), ps 39 (iv (((misses l o).length : Nat) : Int)), ps 40 (iv (((i + 1) : Nat) : Int)), pb 0 3 (ints (bI (fb l o k (i + 1))))] 0 hc0 [137] [(kb 0, (ints (bI (fb l o k (i + 1)))))] (obs_cons (ints_shd _) (obs_nil)) (by kernel_rfl) rfl rfl (by kernel_rfl) (by kernel_rfl))) (show (misses l o).length - (i + 1) < (misses l o).length - i from by show (misses l o).length - (i + 1) < (misses l o).length - i; omega)
    · refine T_else (b := (decide (((i : Nat) : Int) < (((misses l o).length : Nat) : Int)))) rfl (decide_eq_false h5) ?_
      refine T_break rfl rfl ?_
      refine T_seq ?_
      refine T_region [] [ks 6, kb 0] (fun _ => mixed) (l' := [ps 6 (.osl 0 0 ((bI (fb l o k i)).length)), pb 0 3 (ints (bI (fb l o k i)))]) (obs := []) (by kernel_rfl) (obs_nil) ?_
      have hfe := fb_end (k := k) (show (misses l o).length ≤ i by omega)
      refine T_wk (Wk.eq (show [ps 6 (.osl 0 0 ((bI (fb l o k i)).length)), pb 0 3 (ints (bI (fb l o k i)))] = [ps 6 (.osl 0 0 ((bI (frameBits l o k)).length)), pb 0 3 (ints (bI (frameBits l o k)))] from by rw [hfe])) ?_
      refine T_wk (Wk.frz (l' := [ps 6 (.ssl (ints (bI (frameBits l o k))) 0 ((bI (frameBits l o k)).length)), (kb 0, none)]) 0 (T := 3) (cs := (ints (bI (frameBits l o k)))) (by kernel_rfl) (ints_shd _) (by kernel_rfl)) ?_
      refine T_wk (Wk.less (l' := [ps 6 (.ssl (ints (bI (frameBits l o k))) 0 ((bI (frameBits l o k)).length))]) 25 (by kernel_rfl) (by kernel_rfl)) ?_
      exact T_ret fun cx_ a_ hI_ => ret_ok (H' := []) (.inr rfl) (Wk.ren2 [ps 6 (.ssl (ints (bI (frameBits l o k))) 0 ((bI (frameBits l o k)).length))] 0 hc0 [] rfl rfl (by kernel_rfl) (by kernel_rfl)) rfl (obs_nil) (fun cx_ a_ hI_ => ret_res (l' := [ps 6 (.ssl (ints (bI (frameBits l o k))) 0 ((bI (frameBits l o k)).length))]) (by kernel_rfl) cx_ a_ hI_) hI_
end Go.Proofs.Ytfoiadlaekknpaa.Pm
namespace Go.Proofs.Ytfoiadlaekknpaa.Pm
open Go Co

def u8C (n : Int) : List PV := [.av (.int .u8 n)]
def u8s (l : List Int) : List PV := l.flatMap u8C
theorem u8s_shd (l : List Int) : shds (u8s l) := flat_shd u8C (fun _ => rfl) l
theorem u8s_len (l : List Int) : (u8s l).length = l.length := by rw [u8s, flat_len _ 1 (fun _ => rfl), Nat.mul_one]
theorem u8_pack (L : List Bool) : u8s (packN L) = bytesPV (packS L) := by
  unfold bytesPV packS
  rw [strOfNums_data, List.map_map]
  have : ∀ l : List Int, u8s l = l.map fun n => PV.av (.int .u8 n) := fun l => by
    unfold u8s
    induction l with
    | nil => rfl
    | cons x r ih => rw [List.flatMap_cons, ih]; rfl
  rw [this]
  unfold packN
  rw [List.map_map, List.map_map]
  refine List.map_congr_left fun i _ => ?_
  have := Co.byteOf_lt L i
  show PV.av (.int .u8 ((Co.byteOf L i : Nat) : Int)) = PV.av (.int .u8 (((UInt8.ofNat ((Co.byteOf L i : Nat) : Int).toNat).toNat : Nat) : Int))
  rw [Int.toNat_natCast, UInt8.toNat_ofNat']
  rw [Nat.mod_eq_of_lt (by omega)]
theorem hor_next {L : List Bool} {m t : Nat} {n : Int} (ht : t < 8) (h : n * 2 ^ (8 - t) = ((byteP L m t : Nat) : Int)) (hn0 : 0 ≤ n) (hn : n < 2 ^ t) :
    (2 * n + bi (L.getD (8 * m + t) false)) * 2 ^ (8 - (t + 1)) = ((byteP L m (t + 1) : Nat) : Int) ∧ 0 ≤ 2 * n + bi (L.getD (8 * m + t) false) ∧ 2 * n + bi (L.getD (8 * m + t) false) < 2 ^ (t + 1) ∧ (2 : Int) ^ (t + 1) ≤ 256 := by
  rw [byteP]
  unfold bi
  have h8 : t = 0 ∨ t = 1 ∨ t = 2 ∨ t = 3 ∨ t = 4 ∨ t = 5 ∨ t = 6 ∨ t = 7 := by omega
  rcases h8 with rfl | rfl | rfl | rfl | rfl | rfl | rfl | rfl <;> (simp only [Nat.reduceSub, Nat.reduceAdd] at h hn ⊢; split <;> omega)
theorem hor_in {L : List Bool} {m t : Nat} {n : Int} (h1 : 8 * m + t < L.length) : 2 * n + (bI L).getD (8 * m + t) 0 = 2 * n + bi (L.getD (8 * m + t) false) := by rw [bI_get L _ h1]
theorem hor_out {L : List Bool} {m t : Nat} {n : Int} (h1 : L.length ≤ 8 * m + t) : 2 * n = 2 * n + bi (L.getD (8 * m + t) false) := by
  rw [List.getD_eq_getElem?_getD, List.getElem?_eq_none h1]; simp [bi]
theorem hor_end {L : List Bool} {m : Nat} {n : Int} (h : n * 2 ^ (8 - 8) = ((byteP L m 8 : Nat) : Int)) (hm : m < nb L) : (packN L).take m ++ [n] = (packN L).take (m + 1) := by
  have e : n = X (packN L) m := by
    unfold X packN
    rw [List.getD_eq_getElem?_getD, List.getElem?_map, List.getElem?_range hm]
    show n = ((Co.byteOf L m : Nat) : Int)
    unfold Co.byteOf
    rw [← h]; simp
  rw [e, take_snoc (by unfold packN; simpa using hm)]
theorem packN_len (L : List Bool) : (packN L).length = nb L := by unfold packN; simp
end Go.Proofs.Ytfoiadlaekknpaa.Pm
namespace Go.Proofs.Ytfoiadlaekknpaa.Pm
open Go Co

attribute [local irreducible] packN byteP packS
theorem bi_01 (b : Bool) : 0 ≤ bi b ∧ bi b ≤ 1 := by cases b <;> decide
set_option maxRecDepth 100000 in
theorem ref_bytes_pc (L : List Bool) (hL0 : 0 < L.length) (hL : L.length ≤ 1000000000) : PC Try.prog 19 [(.ssl (ints (bI L)) 0 L.length)] [] (sv (packS L)) [] := by
  have hnb : nb L = (L.length + 7) / 8 := rfl
  refine pc_intro Try.func19 rfl (by kernel_rfl) (Nat.le_of_ble_eq_true rfl) (by kernel_rfl) (l0 := [ps 0 (.ssl (ints (bI L)) 0 L.length)]) rfl (fun c0 Bor hc0 => ?_)
  refine T_seq ?_
  refine T_region [] [ks 0] (fun _ => mixed) (l' := [ps 0 (.ssl (ints (bI L)) 0 L.length)]) (obs := []) (by kernel_rfl) (obs_nil) ?_
  refine T_seq ?_
  refine T_region [] [ks 0, ks 3] (fun _ => mixed) (l' := [ps 0 (.ssl (ints (bI L)) 0 L.length), ps 3 (.av (.slice none 0 0))]) (obs := []) (by kernel_rfl) (obs_nil) ?_
  refine T_seq ?_
  refine T_seq ?_
  refine T_region [] [ks 0, ks 3, ks 4] (fun _ => mixed) (l' := [ps 0 (.ssl (ints (bI L)) 0 L.length), ps 3 (.av (.slice none 0 0)), ps 4 (iv 0)]) (obs := []) (by kernel_rfl) (obs_nil) ?_
  refine T_block ?_
  refine T_wk (Wk.nil (s := 3) 5 (by kernel_rfl)) ?_
  refine T_wk (Wk.less (l' := [ps 0 (.ssl (ints (bI L)) 0 L.length), ps 3 (.osl 24 0 0), ps 4 (iv 0), pb 24 5 []]) 25 (by kernel_rfl) (by kernel_rfl)) ?_
  refine T_wk (Wk.eq (show [ps 0 (.ssl (ints (bI L)) 0 L.length), ps 3 (.osl 24 0 0), ps 4 (iv 0), pb 24 5 []] = [ps 0 (.ssl (ints (bI L)) 0 L.length), ps 3 (.osl 24 0 0), ps 4 (iv ((8 * 0 : Nat) : Int)), pb 24 5 (u8s ((packN L).take 0))] from by rfl)) ?_
  refine T_loop (α := {x : Nat // x ≤ nb L}) (fun x => [ps 0 (.ssl (ints (bI L)) 0 L.length), ps 3 (.osl 0 0 x.1), ps 4 (iv ((8 * x.1 : Nat) : Int)), pb 0 5 (u8s ((packN L).take x.1))]) (fun x => nb L - x.1) 1 ⟨0, Nat.zero_le _⟩ (Wk.ren3 [ps 0 (.ssl (ints (bI L)) 0 L.length), ps 3 (.osl 0 0 0), ps 4 (iv ((8 * 0 : Nat) : Int)), pb 0 5 (u8s ((packN L).take 0))] 0 hc0 [24] [(kb 0, (u8s ((packN L).take 0)))] (obs_cons (u8s_shd _) (obs_nil)) (by kernel_rfl) rfl rfl (by kernel_rfl) (by kernel_rfl)) ?_
  rintro ⟨m, hm⟩
  refine T_seq ?_
  refine T_seq ?_
  refine T_region [] [ks 0, ks 3, ks 4, ks 10, kb 0] (fun _ => mixed) (l' := [ps 0 (.ssl (ints (bI L)) 0 L.length), ps 3 (.osl 0 0 m), ps 4 (iv ((8 * m : Nat) : Int)), ps 10 (bv (decide (((8 * m : Nat) : Int) < ((L.length : Nat) : Int)))), pb 0 5 (u8s ((packN L).take m))]) (obs := []) (by kernel_rfl) (obs_nil) ?_
  by_cases h1 : ((8 * m : Nat) : Int) < ((L.length : Nat) : Int)
  · refine T_then (b := (decide (((8 * m : Nat) : Int) < ((L.length : Nat) : Int)))) rfl (decide_eq_true h1) ?_
    refine T_skip ?_
    refine T_seq ?_
    refine T_block ?_
    refine T_seq ?_
    refine T_region [] [ks 0, ks 3, ks 4, ks 5, kb 0] (fun _ => mixed) (l' := [ps 0 (.ssl (ints (bI L)) 0 L.length), ps 3 (.osl 0 0 m), ps 4 (iv ((8 * m : Nat) : Int)), ps 5 (iv 0), pb 0 5 (u8s ((packN L).take m))]) (obs := []) (by kernel_rfl) (obs_nil) ?_
    refine T_seq ?_
    refine T_seq ?_
    refine T_region [] [ks 0, ks 3, ks 4, ks 5, ks 6, kb 0] (fun _ => mixed) (l' := [ps 0 (.ssl (ints (bI L)) 0 L.length), ps 3 (.osl 0 0 m), ps 4 (iv ((8 * m : Nat) : Int)), ps 5 (iv 0), ps 6 (iv ((8 * m : Nat) : Int)), pb 0 5 (u8s ((packN L).take m))]) (obs := []) (by kernel_rfl) (obs_nil) ?_
    refine T_block ?_
    refine T_wk (Wk.eq (show [ps 0 (.ssl (ints (bI L)) 0 L.length), ps 3 (.osl 0 0 m), ps 4 (iv ((8 * m : Nat) : Int)), ps 5 (iv 0), ps 6 (iv ((8 * m : Nat) : Int)), pb 0 5 (u8s ((packN L).take m))] = [ps 0 (.ssl (ints (bI L)) 0 L.length), ps 3 (.osl 0 0 m), ps 4 (iv ((8 * m : Nat) : Int)), ps 5 (iv 0), ps 6 (iv ((8 * m + 0 : Nat) : Int)), pb 0 5 (u8s ((packN L).take m))] from by rfl)) ?_
    refine T_loop (α := {x : Nat × Int // x.1 ≤ 8 ∧ x.2 * 2 ^ (8 - x.1) = ((byteP L m x.1 : Nat) : Int) ∧ 0 ≤ x.2 ∧ x.2 < 2 ^ x.1}) (fun x => [ps 0 (.ssl (ints (bI L)) 0 L.length), ps 3 (.osl 0 0 m), ps 4 (iv ((8 * m : Nat) : Int)), ps 5 (iv x.1.2), ps 6 (iv ((8 * m + x.1.1 : Nat) : Int)), pb 0 5 (u8s ((packN L).take m))]) (fun x => 8 - x.1.1) 1 ⟨(0, 0), ⟨Nat.zero_le _, by show (0 : Int) * 2 ^ (8 - 0) = ((byteP L m 0 : Nat) : Int); unfold byteP; simp, Int.le_refl _, by show (0 : Int) < 2 ^ 0; omega⟩⟩ (Wk.ren3 [ps 0 (.ssl (ints (bI L)) 0 L.length), ps 3 (.osl 0 0 m), ps 4 (iv ((8 * m : Nat) : Int)), ps 5 (iv (0 : Int)), ps 6 (iv ((8 * m + 0 : Nat) : Int)), pb 0 5 (u8s ((packN L).take m))] 0 hc0 [0] [(kb 0, (u8s ((packN L).take m)))] (obs_cons (u8s_shd _) (obs_nil)) (by kernel_rfl) rfl rfl (by kernel_rfl) (by kernel_rfl)) ?_
    rintro ⟨⟨t, v⟩, ⟨ht, hv, h0, hvt⟩⟩
    dsimp only at ht hv h0 hvt
    refine T_seq ?_
    refine T_seq ?_
    refine T_region [] [ks 0, ks 3, ks 4, ks 5, ks 6, ks 17, kb 0] (fun _ => mixed) (l' := [ps 0 (.ssl (ints (bI L)) 0 L.length), ps 3 (.osl 0 0 m), ps 4 (iv ((8 * m : Nat) : Int)), ps 5 (iv v), ps 6 (iv ((8 * m + t : Nat) : Int)), ps 17 (bv (decide (((8 * m + t : Nat) : Int) < (((8 * m : Nat) : Int) + 8)))), pb 0 5 (u8s ((packN L).take m))]) (obs := [InK .i64 (((8 * m : Nat) : Int) + 8)]) (by kernel_rfl) (obs_cons (p := InK .i64 (((8 * m : Nat) : Int) + 8)) (by simp only [InK]; omega) (obs_nil)) ?_
    by_cases h2 : ((8 * m + t : Nat) : Int) < (((8 * m : Nat) : Int) + 8)
    · refine T_then (b := (decide (((8 * m + t : Nat) : Int) < (((8 * m : Nat) : Int) + 8)))) rfl (decide_eq_true h2) ?_
      refine T_skip ?_
      refine T_seq ?_
      refine T_block ?_
      refine T_seq ?_
      have hvb := pow_small (i := t) (by omega)
      have hb1 := bi_01 (L.getD (8 * m + t) false)
      have hq0 := hor_in (L := L) (m := m) (t := t) (n := v)
      refine T_region [] [ks 0, ks 3, ks 4, ks 5, ks 6, kb 0] (fun _ => mixed) (l' := [ps 0 (.ssl (ints (bI L)) 0 L.length), ps 3 (.osl 0 0 m), ps 4 (iv ((8 * m : Nat) : Int)), ps 5 (iv (2 * v)), ps 6 (iv ((8 * m + t : Nat) : Int)), pb 0 5 (u8s ((packN L).take m))]) (obs := [InK .i64 (2 * v)]) (by kernel_rfl) (obs_cons (p := InK .i64 (2 * v)) (by simp only [InK]; omega) (obs_nil)) ?_
      refine T_seq ?_
      refine T_region [] [ks 0, ks 3, ks 4, ks 5, ks 6, ks 25, kb 0] (fun _ => mixed) (l' := [ps 0 (.ssl (ints (bI L)) 0 L.length), ps 3 (.osl 0 0 m), ps 4 (iv ((8 * m : Nat) : Int)), ps 5 (iv (2 * v)), ps 6 (iv ((8 * m + t : Nat) : Int)), ps 25 (bv (decide (((8 * m + t : Nat) : Int) < ((L.length : Nat) : Int)))), pb 0 5 (u8s ((packN L).take m))]) (obs := []) (by kernel_rfl) (obs_nil) ?_
      by_cases h3 : ((8 * m + t : Nat) : Int) < ((L.length : Nat) : Int)
      · refine T_then (b := (decide (((8 * m + t : Nat) : Int) < ((L.length : Nat) : Int)))) rfl (decide_eq_true h3) ?_
        refine T_region [(3, .nat (8 * m + t)), (4, .val (iv ((bI L).getD (8 * m + t) 0)))] [ks 0, ks 3, ks 4, ks 5, ks 6, kb 0] (fun _ => mixed) (l' := [ps 0 (.ssl (ints (bI L)) 0 L.length), ps 3 (.osl 0 0 m), ps 4 (iv ((8 * m : Nat) : Int)), ps 5 (iv ((2 * v) + ((bI L).getD (8 * m + t) 0))), ps 6 (iv ((8 * m + t : Nat) : Int)), pb 0 5 (u8s ((packN L).take m))]) (obs := [(0 : Int) ≤ ((8 * m + t : Nat) : Int) ∧ ((8 * m + t : Nat) : Int) < ((L.length : Nat) : Int), 0 + (((8 * m + t : Nat) : Int) : Int).toNat * 1 = (8 * m + t), (8 * m + t) + 1 ≤ ((ints (bI L))).length ∧ (((ints (bI L))).drop (8 * m + t)).take 1 = [(iv ((bI L).getD (8 * m + t) 0))], InK .i64 ((2 * v) + ((bI L).getD (8 * m + t) 0))]) (by kernel_rfl) (obs_cons (p := (0 : Int) ≤ ((8 * m + t : Nat) : Int) ∧ ((8 * m + t : Nat) : Int) < ((L.length : Nat) : Int)) (by omega) (obs_cons (p := 0 + (((8 * m + t : Nat) : Int) : Int).toNat * 1 = (8 * m + t)) (by omega) (obs_cons (p := (8 * m + t) + 1 ≤ ((ints (bI L))).length ∧ (((ints (bI L))).drop (8 * m + t)).take 1 = [(iv ((bI L).getD (8 * m + t) 0))]) (ints_at (by rw [bI_len]; omega)) (obs_cons (p := InK .i64 ((2 * v) + ((bI L).getD (8 * m + t) 0))) (by simp only [InK]; omega) (obs_nil))))) ?_
        refine T_blk ?_
        refine T_region [] [ks 0, ks 3, ks 4, ks 5, ks 6, kb 0] (fun _ => mixed) (l' := [ps 0 (.ssl (ints (bI L)) 0 L.length), ps 3 (.osl 0 0 m), ps 4 (iv ((8 * m : Nat) : Int)), ps 5 (iv ((2 * v) + ((bI L).getD (8 * m + t) 0))), ps 6 (iv (((8 * m + t : Nat) : Int) + 1)), pb 0 5 (u8s ((packN L).take m))]) (obs := [InK .i64 (((8 * m + t : Nat) : Int) + 1)]) (by kernel_rfl) (obs_cons (p := InK .i64 (((8 * m + t : Nat) : Int) + 1)) (by simp only [InK]; omega) (obs_nil)) ?_
        have hq := hor_next (by omega) hv h0 hvt
        have he : ((2 * v) + ((bI L).getD (8 * m + t) 0)) = (2 * v + bi (L.getD (8 * m + t) false)) := hor_in (by omega)
        exact T_back ⟨(t + 1, (2 * v + bi (L.getD (8 * m + t) false))), ⟨by omega, hq.1, hq.2.1, hq.2.2.1⟩⟩ (Wk.trans (Wk.eq (show [ps 0 (.ssl (ints (bI L)) 0 L.length), ps 3 (.osl 0 0 m), ps 4 (iv ((8 * m : Nat) : Int)), ps 5 (iv ((2 * v) + ((bI L).getD (8 * m + t) 0))), ps 6 (iv (((8 * m + t : Nat) : Int) + 1)), pb 0 5 (u8s ((packN L).take m))] = [ps 0 (.ssl (ints (bI L)) 0 L.length), ps 3 (.osl 0 0 m), ps 4 (iv ((8 * m : Nat) : Int)), ps 5 (iv (2 * v + bi (L.getD (8 * m + t) false))), ps 6 (iv ((8 * m + (t + 1) : Nat) : Int)), pb 0 5 (u8s ((packN L).take m))] from by rw [← he, show ((8 * m + t : Nat) : Int) + 1 = ((8 * m + (t + 1) : Nat) : Int) from by omega])) (Wk.ren3 [ps 0 (.ssl (ints (bI L)) 0 L.length), ps 3 (.osl 0 0 m), ps 4 (iv ((8 * m : Nat) : Int)), ps 5 (iv (2 * v + bi (L.getD (8 * m + t) false))), ps 6 (iv ((8 * m + (t + 1) : Nat) : Int)), pb 0 5 (u8s ((packN L).take m))] 0 hc0 [0] [(kb 0, (u8s ((packN L).take m)))] (obs_cons (u8s_shd _) (obs_nil)) (by kernel_rfl) rfl rfl (by kernel_rfl) (by kernel_rfl))) (show 8 - (t + 1) < 8 - t from by show 8 - (t + 1) < 8 - t; omega)
      · refine T_else (b := (decide (((8 * m + t : Nat) : Int) < ((L.length : Nat) : Int)))) rfl (decide_eq_false h3) ?_
        refine T_skip ?_
        refine T_blk ?_
        refine T_region [] [ks 0, ks 3, ks 4, ks 5, ks 6, kb 0] (fun _ => mixed) (l' := [ps 0 (.ssl (ints (bI L)) 0 L.length), ps 3 (.osl 0 0 m), ps 4 (iv ((8 * m : Nat) : Int)), ps 5 (iv (2 * v)), ps 6 (iv (((8 * m + t : Nat) : Int) + 1)), pb 0 5 (u8s ((packN L).take m))]) (obs := [InK .i64 (((8 * m + t : Nat) : Int) + 1)]) (by kernel_rfl) (obs_cons (p := InK .i64 (((8 * m + t : Nat) : Int) + 1)) (by simp only [InK]; omega) (obs_nil)) ?_
        have hq := hor_next (by omega) hv h0 hvt
        have he : (2 * v) = (2 * v + bi (L.getD (8 * m + t) false)) := hor_out (by omega)
        exact T_back ⟨(t + 1, (2 * v + bi (L.getD (8 * m + t) false))), ⟨by omega, hq.1, hq.2.1, hq.2.2.1⟩⟩ (Wk.trans (Wk.eq (show [ps 0 (.ssl (ints (bI L)) 0 L.length), ps 3 (.osl 0 0 m), ps 4 (iv ((8 * m : Nat) : Int)), ps 5 (iv (2 * v)), ps 6 (iv (((8 * m + t : Nat) : Int) + 1)), pb 0 5 (u8s ((packN L).take m))] = [ps 0 (.ssl (ints (bI L)) 0 L.length), ps 3 (.osl 0 0 m), ps 4 (iv ((8 * m : Nat) : Int)), ps 5 (iv (2 * v + bi (L.getD (8 * m + t) false))), ps 6 (iv ((8 * m + (t + 1) : Nat) : Int)), pb 0 5 (u8s ((packN L).take m))] from by rw [← he, show ((8 * m + t : Nat) : Int) + 1 = ((8 * m + (t + 1) : Nat) : Int) from by omega])) (Wk.ren3 [ps 0 (.ssl (ints (bI L)) 0 L.length), ps 3 (.osl 0 0 m), ps 4 (iv ((8 * m : Nat) : Int)), ps 5 (iv (2 * v + bi (L.getD (8 * m + t) false))), ps 6 (iv ((8 * m + (t + 1) : Nat) : Int)), pb 0 5 (u8s ((packN L).take m))] 0 hc0 [0] [(kb 0, (u8s ((packN L).take m)))] (obs_cons (u8s_shd _) (obs_nil)) (by kernel_rfl) rfl rfl (by kernel_rfl) (by kernel_rfl))) (show 8 - (t + 1) < 8 - t from by show 8 - (t + 1) < 8 - t; omega)
    · refine T_else (b := (decide (((8 * m + t : Nat) : Int) < (((8 * m : Nat) : Int) + 8)))) rfl (decide_eq_false h2) ?_
      refine T_break rfl rfl ?_
      have h8 : t = 8 := by omega
      have hv8 : v < 256 := by rw [h8] at hvt; exact hvt
      have hln : ((packN L).take m).length = m := by rw [List.length_take, packN_len]; omega
      refine T_region [(4, .app none (some (u8s ((packN L).take m ++ [v]))))] [ks 0, ks 3, ks 4, kb 65] (fun _ => mixed) (l' := [ps 0 (.ssl (ints (bI L)) 0 L.length), ps 3 (.osl 65 0 (m + 1)), ps 4 (iv ((8 * m : Nat) : Int)), pb 65 5 (u8s ((packN L).take m ++ [v]))]) (obs := [InK .u8 v, ((u8s ((packN L).take m))).length = m * 1, (m + 1) * 1 ≤ 140737488355328 ∧ m + 1 ≤ 9223372036854775807, (u8s ((packN L).take m)) ++ [(.av (.int .u8 v))] = (u8s ((packN L).take m ++ [v]))]) (by kernel_rfl) (obs_cons (p := InK .u8 v) (by simp only [InK]; omega) (obs_cons (p := ((u8s ((packN L).take m))).length = m * 1) (by have h9 := u8s_len ((packN L).take m); omega) (obs_cons (p := (m + 1) * 1 ≤ 140737488355328 ∧ m + 1 ≤ 9223372036854775807) (by omega) (obs_cons (p := (u8s ((packN L).take m)) ++ [(.av (.int .u8 v))] = (u8s ((packN L).take m ++ [v]))) (flat_app u8C ((packN L).take m) [v]).symm (obs_nil))))) ?_
      refine T_blk ?_
      refine T_region [] [ks 0, ks 3, ks 4, kb 65] (fun _ => mixed) (l' := [ps 0 (.ssl (ints (bI L)) 0 L.length), ps 3 (.osl 65 0 (m + 1)), ps 4 (iv (((8 * m : Nat) : Int) + 8)), pb 65 5 (u8s ((packN L).take m ++ [v]))]) (obs := [InK .i64 (((8 * m : Nat) : Int) + 8)]) (by kernel_rfl) (obs_cons (p := InK .i64 (((8 * m : Nat) : Int) + 8)) (by simp only [InK]; omega) (obs_nil)) ?_
      exact T_back ⟨m + 1, by show m + 1 ≤ nb L; omega⟩ (Wk.trans (Wk.eq (show [ps 0 (.ssl (ints (bI L)) 0 L.length), ps 3 (.osl 65 0 (m + 1)), ps 4 (iv (((8 * m : Nat) : Int) + 8)), pb 65 5 (u8s ((packN L).take m ++ [v]))] = [ps 0 (.ssl (ints (bI L)) 0 L.length), ps 3 (.osl 65 0 (m + 1)), ps 4 (iv ((8 * (m + 1) : Nat) : Int)), pb 65 5 (u8s ((packN L).take (m + 1)))] from by rw [hor_end (h8 ▸ hv) (by omega), show ((8 * m : Nat) : Int) + 8 = ((8 * (m + 1) : Nat) : Int) from by omega])) (Wk.ren3 [ps 0 (.ssl (ints (bI L)) 0 L.length), ps 3 (.osl 0 0 (m + 1)), ps 4 (iv ((8 * (m + 1) : Nat) : Int)), pb 0 5 (u8s ((packN L).take (m + 1)))] 0 hc0 [65] [(kb 0, (u8s ((packN L).take (m + 1))))] (obs_cons (u8s_shd _) (obs_nil)) (by kernel_rfl) rfl rfl (by kernel_rfl) (by kernel_rfl))) (show nb L - (m + 1) < nb L - m from by show nb L - (m + 1) < nb L - m; omega)
  · refine T_else (b := (decide (((8 * m : Nat) : Int) < ((L.length : Nat) : Int)))) rfl (decide_eq_false h1) ?_
    refine T_break rfl rfl ?_
    refine T_seq ?_
    have hmn : m = nb L := by unfold nb at *; omega
    have hpl := packN_len L
    have hT : (packN L).take m = packN L := List.take_of_length_le (by omega)
    refine T_wk (Wk.eq (show [ps 0 (.ssl (ints (bI L)) 0 L.length), ps 3 (.osl 0 0 m), ps 4 (iv ((8 * m : Nat) : Int)), ps 10 (bv (decide (((8 * m : Nat) : Int) < ((L.length : Nat) : Int)))), pb 0 5 (u8s ((packN L).take m))] = [ps 0 (.ssl (ints (bI L)) 0 L.length), ps 3 (.osl 0 0 ((packN L).length)), ps 4 (iv ((8 * m : Nat) : Int)), ps 10 (bv (decide (((8 * m : Nat) : Int) < ((L.length : Nat) : Int)))), pb 0 5 (u8s (packN L))] from by rw [hT, hpl, hmn])) ?_
    refine T_wk (Wk.frz (l' := [ps 0 (.ssl (ints (bI L)) 0 L.length), ps 3 (.ssl (u8s (packN L)) 0 ((packN L).length)), ps 4 (iv ((8 * m : Nat) : Int)), ps 10 (bv (decide (((8 * m : Nat) : Int) < ((L.length : Nat) : Int)))), (kb 0, none)]) 0 (T := 5) (cs := (u8s (packN L))) (by kernel_rfl) (u8s_shd _) (by kernel_rfl)) ?_
    refine T_wk (Wk.less (l' := [ps 0 (.ssl (ints (bI L)) 0 L.length), ps 3 (.ssl (u8s (packN L)) 0 ((packN L).length)), ps 4 (iv ((8 * m : Nat) : Int)), ps 10 (bv (decide (((8 * m : Nat) : Int) < ((L.length : Nat) : Int))))]) 33 (by kernel_rfl) (by kernel_rfl)) ?_
    refine T_region [(1, .val (.av (.string (packS L))))] [ks 2] (fun _ => mixed) (l' := [ps 2 (sv (packS L))]) (obs := [0 < ((packN L).length) ∧ 0 + ((packN L).length) ≤ ((u8s (packN L))).length ∧ (((u8s (packN L))).drop 0).take ((packN L).length) = bytesPV (packS L)]) (by kernel_rfl) (obs_cons (p := 0 < ((packN L).length) ∧ 0 + ((packN L).length) ≤ ((u8s (packN L))).length ∧ (((u8s (packN L))).drop 0).take ((packN L).length) = bytesPV (packS L)) (by have h9 := u8s_len (packN L); refine ⟨by unfold nb at hpl; omega, by omega, ?_⟩; rw [List.drop_zero, List.take_of_length_le (by omega), u8_pack]) (obs_nil)) ?_
    exact T_ret fun cx_ a_ hI_ => ret_ok (H' := []) (.inr rfl) (Wk.ren2 [ps 2 (sv (packS L))] 0 hc0 [] rfl rfl (by kernel_rfl) (by kernel_rfl)) rfl (obs_nil) (fun cx_ a_ hI_ => ret_res (l' := [ps 2 (sv (packS L))]) (by kernel_rfl) cx_ a_ hI_) hI_
end Go.Proofs.Ytfoiadlaekknpaa.Pm
namespace Go.Proofs.Ytfoiadlaekknpaa.Pm
open Go Co

theorem best_bd {g : List Int} (hs : Small g) {u : Nat} (hu : u ≤ 64) : (bestTo g u).2.1 ≤ 3 ∧ (bestTo g u).2.2 ≤ 15 := by
  rcases Nat.eq_zero_or_pos u with h | h
  · subst h; exact ⟨Nat.zero_le _, Nat.zero_le _⟩
  · have := bestTo_spec hs u h
    omega
theorem best_next {g : List Int} (hs : Small g) {a c : Nat} (hc : c < 16) (ha : a ≤ 3) :
    (6 + long g a c < 6 + long g (bestTo g (16 * a + c)).2.1 (bestTo g (16 * a + c)).2.2 → (bestTo g (16 * a + (c + 1))).2.1 = a ∧ (bestTo g (16 * a + (c + 1))).2.2 = c) ∧
    (¬ 6 + long g a c < 6 + long g (bestTo g (16 * a + c)).2.1 (bestTo g (16 * a + c)).2.2 → (bestTo g (16 * a + (c + 1))).2.1 = (bestTo g (16 * a + c)).2.1 ∧ (bestTo g (16 * a + (c + 1))).2.2 = (bestTo g (16 * a + c)).2.2) := by
  rw [show 16 * a + (c + 1) = (16 * a + c) + 1 by omega, bestTo, show (16 * a + c) / 16 = a by omega, show (16 * a + c) % 16 = c by omega]
  rcases Nat.eq_zero_or_pos (16 * a + c) with h | h
  · have h1 : a = 0 := by omega
    have h2 : c = 0 := by omega
    subst h1; subst h2
    rw [if_pos (.inl (show (-1 : Int) < 0 by decide))]
    exact ⟨fun _ => ⟨rfl, rfl⟩, fun _ => ⟨rfl, rfl⟩⟩
  · have h1 := bestTo_neg hs h
    have h2 := (bestTo_spec hs _ h).2.2.1
    refine ⟨fun k => ?_, fun k => ?_⟩
    · rw [if_pos (.inr (by omega))]; exact ⟨rfl, rfl⟩
    · rw [if_neg (by rintro (q | q) <;> omega)]; exact ⟨rfl, rfl⟩
theorem cut_fr {P : Program} {l : List Int} {t n : Nat} (h : 256 * t + n ≤ l.length) (hn : n = (fr l t).length) (c : Cx) (v : Value) (hr : Rep P c (.ssl (ints l) (256 * t) n) v) : Rep P c (.ssl (ints (fr l t)) 0 (fr l t).length) v := by
  rw [← hn]
  refine ssl_cut (m := n) (by rw [ints_len]; omega) ?_ c v hr
  have h1 : ints (fr l t) = (((ints l).drop (256 * t)).take n) := by
    rw [ints_map, ints_map, ← List.map_drop, ← List.map_take]
    refine congrArg _ ?_
    unfold fr
    rw [fr_length] at hn
    rcases Nat.lt_or_ge 256 (l.length - 256 * t) with h3 | h3
    · rw [show n = 256 by omega]
    · rw [List.take_of_length_le (by rw [List.length_drop]; omega), List.take_of_length_le (by rw [List.length_drop]; omega)]
  rw [h1]
theorem enc_bad {l : List Int} (hl : l.length ≤ 1048576) {i : Nat} (_hi : i < l.length) (h : l.getD i 0 < -32768 ∨ 32767 < l.getD i 0) : enc l = (⟨#[]⟩, 3) := by
  unfold enc
  rw [if_neg (by omega), if_neg]
  intro hs
  have := X_bd (smallB_iff.1 hs) i
  rw [← X_getD] at this
  omega
theorem enc_good {l : List Int} (hl : l.length ≤ 1048576) (hs : Small l) : enc l = (packS (encBits l), 0) := by
  unfold enc; rw [if_neg (by omega), if_pos (smallB_iff.2 hs)]
theorem small_of {l : List Int} (h : ∀ j, j < l.length → -32768 ≤ l.getD j 0 ∧ l.getD j 0 ≤ 32767) : Small l := small_X.2 h
def eb (l : List Int) (t : Nat) : List Bool := bitsOf l.length 24 ++ encTo l t
theorem eb_zero (l : List Int) : bI (bitsOf l.length 24) = bI (eb l 0) := by unfold eb; rw [encTo, List.append_nil]
theorem eb_next (l : List Int) (t : Nat) : bI (eb l t) ++ bI (frameBits (fr l t) (bestTo (fr l t) 64).2.1 (bestTo (fr l t) 64).2.2) = bI (eb l (t + 1)) := by
  unfold eb; rw [encTo, ← bI_app, List.append_assoc]; rfl
theorem eb_len {l : List Int} (hs : Small l) (t : Nat) : (bI (eb l t)).length ≤ 24 + 5000 * t := by
  unfold eb
  have := encTo_le hs t
  rw [bI_len, List.length_append, bitsOf_length]; omega
theorem eb_pos (l : List Int) (t : Nat) : 24 ≤ (eb l t).length := by unfold eb; rw [List.length_append, bitsOf_length]; omega
theorem eb_end {l : List Int} {t : Nat} (h1 : 256 * t ≤ l.length + 255) (h2 : l.length ≤ 256 * t) : eb l t = encBits l := by
  unfold eb encBits; rw [show (l.length + 255) / 256 = t by omega]
theorem frb_len {l : List Int} (hs : Small l) (t : Nat) : (bI (frameBits (fr l t) (bestTo (fr l t) 64).2.1 (bestTo (fr l t) 64).2.2)).length ≤ 5000 := by
  rw [bI_len]; exact bestBits_le (hs.frame t) (by rw [fr_length]; omega)
end Go.Proofs.Ytfoiadlaekknpaa.Pm
