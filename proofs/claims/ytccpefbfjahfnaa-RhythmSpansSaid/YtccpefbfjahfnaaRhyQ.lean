/-
  VALUES IN ROWS; a product by one. Plain.
-/
import Derived.Test.YtccpefbfjahfnaaRhyP
namespace Go.Proofs.Ytccpefbfjahfnaa.Pm
open Go Fr

theorem and_mask (c : Nat) (h : c < 4294967296) : IntKind.wrap .u64 ((BitVec.ofInt (IntKind.bits .u64) ((c : Nat) : Int)) &&& (BitVec.ofInt (IntKind.bits .u64) 4294967295)).toNat = ((c : Nat) : Int) := by
  have h1 : ((BitVec.ofInt (IntKind.bits .u64) ((c : Nat) : Int)) &&& (BitVec.ofInt (IntKind.bits .u64) 4294967295)).toNat = c := by
    rw [BitVec.toNat_and, show (BitVec.ofInt (IntKind.bits .u64) 4294967295).toNat = 2 ^ 32 - 1 from by decide +kernel, show (BitVec.ofInt (IntKind.bits .u64) ((c : Nat) : Int)).toNat = c from by
      rw [BitVec.toNat_ofInt]; simp only [IntKind.bits]; omega, Nat.and_two_pow_sub_one_eq_mod, Nat.mod_eq_of_lt (by simpa using h)]
  rw [h1]
  exact wrap_in (by simp only [InK]; omega)
theorem fdiv_small (c : Nat) (h : c < 4294967296) : ((c : Nat) : Int).fdiv (2 ^ (32 : Int).toNat) = 0 := by
  rw [Int.fdiv_eq_ediv_of_nonneg _ (by decide)]
  exact Int.ediv_eq_zero_of_lt (by omega) (by have : (2 : Int) ^ (32 : Int).toNat = 4294967296 := by decide +kernel
                                              omega)
abbrev valC (v : Int × Int) : List PV := [iv v.1, iv v.2]
abbrev vals (l : List (Int × Int)) : List PV := l.flatMap valC
theorem vals_len (l : List (Int × Int)) : (vals l).length = l.length * 2 := flat_len _ 2 (fun _ => rfl) l
theorem vals_rep (n : Nat) (v : Int × Int) : vals (List.replicate n v) = (List.replicate n v).flatMap valC := rfl
theorem zeros_vals : ∀ n, zeros [iv 0, iv 0] n = vals (List.replicate n (0, 0))
  | 0 => rfl
  | n + 1 => by rw [zeros, zeros_vals n, List.replicate_succ]; rfl
theorem rep_zero (n : Nat) : vals (List.replicate n (0, 0)) = List.replicate (n * 2) (iv 0) := by
  induction n with
  | zero => rfl
  | succ n ih => unfold vals at ih ⊢; rw [List.replicate_succ, List.flatMap_cons, ih, show (n + 1) * 2 = n * 2 + 1 + 1 from by omega, List.replicate_succ, List.replicate_succ]; rfl
theorem rep_take (n m k : Nat) (h : k * 2 + m * 2 ≤ n * 2) : ((vals (List.replicate n (0, 0))).drop (k * 2)).take (m * 2) = vals (List.replicate m (0, 0)) := by
  rw [rep_zero, rep_zero, List.drop_replicate, List.take_replicate]
  congr 1
  omega
theorem rep_splice (n m k : Nat) (h : k * 2 + m * 2 ≤ n * 2) : k * 2 + (vals (List.replicate m (0, 0))).length ≤ (vals (List.replicate n (0, 0))).length ∧ splice (vals (List.replicate n (0, 0))) (k * 2) (vals (List.replicate m (0, 0))) = vals (List.replicate n (0, 0)) := by
  rw [rep_zero, rep_zero]
  refine ⟨by simp; omega, ?_⟩
  unfold splice
  rw [List.take_replicate, List.drop_replicate, List.replicate_append_replicate, List.replicate_append_replicate, List.length_replicate]
  congr 1
  omega
theorem copy_one (c : Nat) : Nat.min 1 c = min 1 c ∧ 0 + min 1 c * 2 ≤ ([iv 0, iv 0] : List PV).length ∧ (([iv 0, iv 0] : List PV).drop 0).take (min 1 c * 2) = vals (List.replicate (min 1 c) (0, 0)) := by
  refine ⟨rfl, by simp; omega, ?_⟩
  rcases Nat.eq_zero_or_pos c with rfl | h
  · rfl
  · rw [Nat.min_eq_left h]; rfl
end Go.Proofs.Ytccpefbfjahfnaa.Pm
