/-
  THE DOCUMENT'S WAY TO WRITE A LENGTH: plain.
-/
import Derived.Test.YtccpefbfjahfnaaRhyD
namespace Go.Proofs.Ytccpefbfjahfnaa.Pm
open Go Fr

/-- Of what is left: the halves, the dots, the part and what is left behind so many dots. -/
def hM (m : Nat) : Nat := 10 - Nat.log2 m
def dM (m : Nat) : Nat := dotsN m (10 - hM m)
def partM (m j : Nat) : Nat := 2 ^ (10 - hM m - j)
def leftM (m j : Nat) : Nat := m - (2 ^ (11 - hM m) - 2 ^ (10 - hM m - j))
theorem pt_left : ∀ m : Nat, m < 1024 → 0 < m → pt m 10 0 = (((hM m : Nat) : Int), ((dM m : Nat) : Int)) :: pt (leftM m (dM m)) 10 0 ∧ leftM m (dM m) < m ∧ 1 ≤ hM m ∧ hM m ≤ 10 ∧ dM m ≤ 3 ∧ leftM m 0 = m - partM m 0 ∧ partM m 0 ≤ m := by decide +kernel
theorem half_more : ∀ m : Nat, m < 1024 → ∀ h : Nat, h < 11 → (0 < m ∧ 1 ≤ h ∧ h ≤ hM m) → (m < 2 ^ (10 - h) ↔ h < hM m) := by decide +kernel
theorem dot_iff : ∀ m : Nat, m < 1024 → ∀ j : Nat, j < 4 → (0 < m ∧ j ≤ dM m) → ((j < 3 ∧ 1 < partM m j ∧ partM m j / 2 ≤ leftM m j) ↔ j < dM m) := by decide +kernel
theorem dot_step : ∀ m : Nat, m < 1024 → ∀ j : Nat, j < 4 → (0 < m ∧ j < dM m) → (partM m j / 2 = partM m (j + 1) ∧ leftM m j - partM m (j + 1) = leftM m (j + 1) ∧ partM m (j + 1) ≤ leftM m j) := by decide +kernel
theorem part_bd (m j : Nat) : 1 ≤ partM m j ∧ partM m j ≤ 1024 := ⟨Nat.one_le_two_pow, Nat.pow_le_pow_right (n := 2) (by decide) (show 10 - hM m - j ≤ 10 by omega)⟩
theorem left_bd (m j : Nat) : leftM m j ≤ m := Nat.sub_le _ _
theorem rep_snoc (i : Nat) : vals (List.replicate i (0, 0)) ++ [iv 0, iv 0] = vals (List.replicate (i + 1) (0, 0)) := by
  rw [List.replicate_succ', vals, vals, flat_app]; rfl
theorem pow_nat (n : Nat) : (2 : Int) ^ n = ((2 ^ n : Nat) : Int) := by simp
end Go.Proofs.Ytccpefbfjahfnaa.Pm
