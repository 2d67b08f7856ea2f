/-
  LENGTHS AND VALUES: plain.
-/
import Derived.Test.YtccpefbfjahfnaaRhyA
import Derived.Test.YtccpefbfjahfnaaPmS
namespace Go.Proofs.Ytccpefbfjahfnaa.Pm
open Go Fr

theorem pow_succ2 (i : Nat) : (2 : Int) ^ (i + 1) = 2 * (2 : Int) ^ i := by rw [Int.pow_succ, Int.mul_comm]
theorem pow_bd (i m : Nat) (h : i ≤ m) : 1 ≤ (2 : Int) ^ i ∧ (2 : Int) ^ i ≤ 2 ^ m := by
  have h1 : 2 ^ i ≤ 2 ^ m := Nat.pow_le_pow_right (by decide) h
  have h2 : 1 ≤ 2 ^ i := Nat.one_le_two_pow
  constructor
  · exact_mod_cast h2
  · exact_mod_cast h1
/-- The sum of so many parts, each a half of the one ahead. -/
def sumS (h i : Nat) : Int × Int := if i = 0 then (0, 1) else (2 ^ i - 1, 2 ^ (h + i - 1))
theorem sumS_next : ∀ h, h < 11 → ∀ i, i < 4 → Fr.plus (sumS h i).1 (sumS h i).2 1 (2 ^ (h + i)) = ((sumS h (i + 1)).1, (sumS h (i + 1)).2, 0) := by decide +kernel
theorem sumS_len : ∀ h : Nat, h < 11 → ∀ d : Nat, d < 4 → lenS h d = ((sumS h (d + 1)).1, (sumS h (d + 1)).2, 0) := by decide +kernel
theorem sumS_bd (h i : Nat) (hh : h ≤ 10) (hi : i ≤ 4) : (0 ≤ (sumS h i).1 ∧ (sumS h i).1 ≤ 16) ∧ 0 ≤ (sumS h i).2 ∧ (sumS h i).2 ≤ 16384 := by
  unfold sumS
  have h1 := pow_bd i 4 hi
  have h2 := pow_bd (h + i - 1) 14 (by omega)
  split <;> simp only <;> omega
end Go.Proofs.Ytccpefbfjahfnaa.Pm
