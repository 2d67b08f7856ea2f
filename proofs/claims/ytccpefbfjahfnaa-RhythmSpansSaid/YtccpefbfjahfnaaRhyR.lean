/-
  HOW A LENGTH IS WRITTEN: plain.
-/
import Derived.Test.YtccpefbfjahfnaaRhyC
namespace Go.Proofs.Ytccpefbfjahfnaa.Pm
open Go Fr

theorem and_one (n : Int) : Go.bits .and .i64 n 1 = n % 2 := by
  have h1 : (BitVec.ofInt 64 1).toNat = 2 ^ 1 - 1 := by decide
  have key : (BitVec.ofInt 64 n &&& BitVec.ofInt 64 1).toNat = (n % ((2 ^ 64 : Nat) : Int)).toNat % 2 ^ 1 := by
    rw [BitVec.toNat_and, BitVec.toNat_ofInt, h1, Nat.and_two_pow_sub_one_eq_mod]
  show IntKind.i64.wrap ((BitVec.ofInt 64 n &&& BitVec.ofInt 64 1).toNat : Nat) = n % 2
  rw [key, IntKind.wrap_i64]
  omega
def bitB (n : Nat) (k : Int) : Bool := decide (0 ≤ k) && decide (n / 2 ^ k.toNat % 2 = 1)
def bitN (n k : Nat) : Bool := decide (n / 2 ^ k % 2 = 1)
theorem bitB_nat (n k : Nat) : bitB n (k : Int) = bitN n k := by simp [bitB, bitN]
/-- How many bits below this one stand, three at most. -/
def dotsN (n : Nat) : Nat → Nat
  | 0 => 0
  | 1 => if bitN n 0 then 1 else 0
  | 2 => if bitN n 1 then (if bitN n 0 then 2 else 1) else 0
  | r + 3 => if bitN n (r + 2) then (if bitN n (r + 1) then (if bitN n r then 3 else 2) else 1) else 0
def pt (n : Nat) : Nat → Nat → List (Int × Int)
  | 0, _ => []
  | r + 1, s + 1 => pt n r s
  | r + 1, 0 => if bitN n r then (((10 - r : Nat) : Int), ((dotsN n r : Nat) : Int)) :: pt n r (dotsN n r) else pt n r 0
def valsS (n : Nat) : List (Int × Int) := List.replicate (n / 1024) (0, 0) ++ pt n 10 0
theorem dots_le (n : Nat) : ∀ r, dotsN n r ≤ r ∧ dotsN n r ≤ 3
  | 0 => by simp [dotsN]
  | 1 => by simp only [dotsN]; split <;> omega
  | 2 => by simp only [dotsN]; split <;> (try split) <;> omega
  | r + 3 => by simp only [dotsN]; split <;> (try split) <;> (try split) <;> omega
theorem dots_more {n r j : Nat} (h : j ≤ dotsN n r) (hj : j < 3) (hb : bitB n ((r : Int) - 1 - (j : Int)) = true) : j + 1 ≤ dotsN n r := by
  have h0 : j + 1 ≤ r := by
    simp only [bitB, Bool.and_eq_true, decide_eq_true_eq] at hb
    omega
  obtain ⟨k, rfl⟩ : ∃ k, r = j + 1 + k := ⟨r - (j + 1), by omega⟩
  rw [show ((j + 1 + k : Nat) : Int) - 1 - (j : Int) = (k : Int) from by omega, bitB_nat] at hb
  match j, k, h, hj, hb with
  | 0, 0, h, _, hb => simp [dotsN, hb]
  | 0, 1, h, _, hb => simp only [dotsN, Nat.zero_add] ; simp [hb]; split <;> omega
  | 0, k + 2, h, _, hb => 
    rw [show 0 + 1 + (k + 2) = k + 3 from by omega]; simp only [dotsN, hb, if_true]; repeat' split
    all_goals omega
  | 1, 0, h, _, hb =>
    rw [show 1 + 1 + 0 = 2 from rfl] at h ⊢; simp only [dotsN] at h ⊢
    split at h
    · rename_i e; rw [if_pos e, if_pos hb]; exact Nat.le_refl _
    · omega
  | 1, k + 1, h, _, hb =>
    rw [show 1 + 1 + (k + 1) = k + 3 from by omega] at h ⊢; simp only [dotsN] at h ⊢
    split at h
    · rename_i e; rw [if_pos e, if_pos hb]; split <;> omega
    · omega
  | 2, k, h, _, hb =>
    rw [show 2 + 1 + k = k + 3 from by omega] at h ⊢; simp only [dotsN] at h ⊢
    split at h
    · rename_i e; rw [if_pos e]
      split at h
      · rename_i e2; rw [if_pos e2, if_pos hb]; exact Nat.le_refl _
      · omega
    · omega
  | j + 3, k, h, hj, hb => omega
theorem dots_end {n r j : Nat} (h : j ≤ dotsN n r) (hb : ¬ bitB n ((r : Int) - 1 - (j : Int)) = true) : j = dotsN n r := by
  by_cases h0 : j + 1 ≤ r
  · obtain ⟨k, rfl⟩ : ∃ k, r = j + 1 + k := ⟨r - (j + 1), by omega⟩
    rw [show ((j + 1 + k : Nat) : Int) - 1 - (j : Int) = (k : Int) from by omega, bitB_nat] at hb
    match j, k, h, hb with
    | 0, 0, h, hb => simp [dotsN, hb]
    | 0, 1, h, hb => simp [dotsN, hb]
    | 0, k + 2, h, hb => rw [show 0 + 1 + (k + 2) = k + 3 from by omega]; simp [dotsN, hb]
    | 1, 0, h, hb =>
      rw [show 1 + 1 + 0 = 2 from rfl] at h ⊢; simp only [dotsN] at h ⊢
      split at h
      · rename_i e; rw [if_pos e, if_neg hb]
      · omega
    | 1, k + 1, h, hb =>
      rw [show 1 + 1 + (k + 1) = k + 3 from by omega] at h ⊢; simp only [dotsN] at h ⊢
      split at h
      · rename_i e; rw [if_pos e, if_neg hb]
      · omega
    | 2, k, h, hb =>
      rw [show 2 + 1 + k = k + 3 from by omega] at h ⊢; simp only [dotsN] at h ⊢
      split at h
      · rename_i e; rw [if_pos e]
        split at h
        · rename_i e2; rw [if_pos e2, if_neg hb]
        · omega
      · omega
    | j + 3, k, h, hb => have := (dots_le n (j + 3 + 1 + k)).2; omega
  · have := (dots_le n r).1
    omega
theorem dots_three {n r j : Nat} (h : j ≤ dotsN n r) (hj : ¬ ((j : Nat) : Int) < 3) : j = dotsN n r := by
  have := (dots_le n r).2
  omega
theorem pt_skip (n : Nat) : ∀ r d, d ≤ r → pt n r d = pt n (r - d) 0
  | 0, 0, _ => rfl
  | r + 1, 0, _ => rfl
  | r + 1, d + 1, h => by rw [pt, pt_skip n r d (by omega), Nat.add_sub_add_right]
theorem pt_no {n r : Nat} (h : ¬ bitB n (r : Int) = true) : pt n (r + 1) 0 = pt n r 0 := by
  rw [bitB_nat] at h
  rw [pt, if_neg h]
theorem pt_yes {n r : Nat} (h : bitB n (r : Int) = true) : pt n (r + 1) 0 = (((10 - r : Nat) : Int), ((dotsN n r : Nat) : Int)) :: pt n (r - dotsN n r) 0 := by
  rw [bitB_nat] at h
  rw [pt, if_pos h, pt_skip n r _ (dots_le n r).1]
theorem bitN_mod (n r : Nat) (h : r < 10) : bitN (n % 1024) r = bitN n r := by
  unfold bitN
  congr 1
  rw [show (1024 : Nat) = 2 ^ r * 2 ^ (10 - r) from by rw [← Nat.pow_add]; simp [Nat.add_sub_cancel' (Nat.le_of_lt h)], Nat.mod_mul_right_div_self, show 10 - r = (9 - r) + 1 from by omega, Nat.pow_succ, Nat.mod_mul_left_mod]
theorem dots_mod (n : Nat) : ∀ r, r ≤ 10 → dotsN (n % 1024) r = dotsN n r
  | 0, _ => rfl
  | 1, _ => by simp only [dotsN, bitN_mod n 0 (by omega)]
  | 2, _ => by simp only [dotsN, bitN_mod n 0 (by omega), bitN_mod n 1 (by omega)]
  | r + 3, h => by simp only [dotsN, bitN_mod n r (by omega), bitN_mod n (r + 1) (by omega), bitN_mod n (r + 2) (by omega)]
theorem pt_mod (n : Nat) : ∀ r d, r ≤ 10 → pt (n % 1024) r d = pt n r d
  | 0, _, _ => rfl
  | r + 1, d + 1, h => by rw [pt, pt, pt_mod n r d (by omega)]
  | r + 1, 0, h => by rw [pt, pt, bitN_mod n r (by omega), dots_mod n r (by omega), pt_mod n r _ (by omega), pt_mod n r _ (by omega)]

theorem snoc_len {α : Type} (L : List α) (x : α) : (L ++ [x]).length = L.length + 1 := by simp
theorem bitB_yes {n : Nat} {k : Int} (h : 0 ≤ k) : bitB n k = decide (IntKind.wrap .i64 ((BitVec.ofInt (IntKind.bits .i64) (((n : Nat) : Int).fdiv (2 ^ (k : Int).toNat))) &&& (BitVec.ofInt (IntKind.bits .i64) 1)).toNat = 1) := by
  rw [and_bits, and_one, Int.fdiv_eq_ediv_of_nonneg _ (Int.le_of_lt (Int.pow_pos (by decide)))]
  unfold bitB
  rw [decide_eq_true h, Bool.true_and]
  have : ((n : Nat) : Int) / (2 : Int) ^ k.toNat % 2 = ((n / 2 ^ k.toNat % 2 : Nat) : Int) := by
    rw [Int.natCast_emod, Int.natCast_ediv]; simp
  rw [this]
  congr 1
  exact propext ⟨fun h => by rw [h]; rfl, fun h => by exact_mod_cast h⟩
theorem bitB_no {n : Nat} {k : Int} (h : ¬ 0 ≤ k) : bitB n k = false := by simp [bitB, h]
theorem count_eq (n : Nat) : ((n : Nat) : Int).fdiv (2 ^ (10 : Int).toNat) = ((n / 1024 : Nat) : Int) := by
  rw [Int.fdiv_eq_ediv_of_nonneg _ (by decide)]
  rw [show (2 : Int) ^ (10 : Int).toNat = 1024 from by decide +kernel]
  omega
/-! ### what is wrong -/
def writeE (u d : Int) : Int := if rightB u d = false then 2 else if u < 1 ∨ 65536 * d < u then 3 else if 1024 % d ≠ 0 then 6 else 0
def writeN (u d : Int) : Nat := (u * (1024 : Int).tdiv d).toNat
def writeP (u d : Int) : PV := if writeE u d = 0 then .tup [.ssl (vals (valsS (writeN u d))) 0 (valsS (writeN u d)).length, iv 0] else .tup [.ssl [] 0 0, iv (writeE u d)]
theorem writeP_no {u d e : Int} (h : writeE u d = e) (h0 : ¬ e = 0) : writeP u d = .tup [.ssl [] 0 0, iv e] := by
  unfold writeP
  rw [h, if_neg h0]
theorem writeP_yes {u d : Int} (h : writeE u d = 0) : writeP u d = .tup [.ssl (vals (valsS (writeN u d))) 0 (valsS (writeN u d)).length, iv 0] := if_pos h
theorem write_num {u d : Int} (h : writeE u d = 0) : (0 ≤ (1024 : Int).tdiv d ∧ (1024 : Int).tdiv d ≤ 1024) ∧ u * (1024 : Int).tdiv d = ((writeN u d : Nat) : Int) ∧ writeN u d ≤ 67108864 := by
  unfold writeE at h
  split at h
  · cases h
  rename_i h1
  split at h
  · cases h
  rename_i h2
  split at h
  · cases h
  rename_i h3
  have h1' : rightB u d = true := by simpa using h1
  have hR := rightB_iff.1 h1'
  have hm : (1024 : Int) % d = 0 := by omega
  have hq : (1024 : Int).tdiv d = 1024 / d := Int.tdiv_eq_ediv_of_nonneg (by decide)
  have hdq : d * (1024 / d) = 1024 := Int.mul_ediv_cancel' (Int.dvd_of_emod_eq_zero hm)
  have hq0 : 0 ≤ (1024 : Int) / d := Int.ediv_nonneg (by decide) (by omega)
  have hq1 : (1024 : Int) / d ≤ 1024 := Int.ediv_le_self _ (by decide)
  have hu : u * (1024 / d) ≤ 65536 * d * (1024 / d) := Int.mul_le_mul_of_nonneg_right (by omega) hq0
  rw [Int.mul_assoc, hdq] at hu
  have hu0 : 0 ≤ u * (1024 / d) := Int.mul_nonneg (by omega) hq0
  unfold writeN
  rw [hq]
  refine ⟨⟨hq0, hq1⟩, ?_, ?_⟩ <;> omega
theorem and_two : ∀ n : Nat, n < 1025 → 0 < n → (IntKind.wrap .i64 ((BitVec.ofInt (IntKind.bits .i64) ((n : Nat) : Int)) &&& (BitVec.ofInt (IntKind.bits .i64) (((n : Nat) : Int) - 1))).toNat = 0 ↔ (1024 : Int) % ((n : Nat) : Int) = 0) := by decide +kernel
end Go.Proofs.Ytccpefbfjahfnaa.Pm
