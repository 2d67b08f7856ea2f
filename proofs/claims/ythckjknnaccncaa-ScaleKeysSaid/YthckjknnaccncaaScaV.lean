/-
  KEYS, THE DOCUMENT'S STEPS: plain.
-/
import Derived.Test.YthckjknnaccncaaScaH
namespace Go.Proofs.Ythckjknnaccncaa.Pm
open Go

def refV (l n : Int) (k : Nat) : List (Int × Int) := (List.range k).map fun (i : Nat) => ((l + (i : Int)).tmod 7, (majorL n).getD ((l + (i : Int)).tmod 7).toNat 0)
theorem refV_len (l n : Int) (k : Nat) : (refV l n k).length = k := by simp [refV]
theorem refV_app (l n : Int) (k : Nat) : vals (refV l n k) ++ [iv ((l + (k : Int)).tmod 7), iv ((majorL n).getD ((l + (k : Int)).tmod 7).toNat 0)] = vals (refV l n (k + 1)) := by
  unfold refV
  rw [List.range_succ, List.map_append, vals, vals, flat_app]
  rfl
def keyOk (l a m : Int) : Bool := decide (refV l (signsS l a m).1 7 = keyV l a m)
theorem ref_tab : ∀ l : Nat, l < 7 → ∀ a : Nat, a < 7 → ∀ m : Nat, m < 7 → (signsS (l : Int) ((a : Int) - 3) (m : Int)).2 = 0 → keyOk (l : Int) ((a : Int) - 3) (m : Int) = true := by decide +kernel
theorem refV_key {l a m : Int} (h : (signsS l a m).2 = 0) : refV l (signsS l a m).1 7 = keyV l a m := by
  obtain ⟨x, y, z, hx, hy, hz, rfl, rfl, rfl⟩ := as_nat h
  exact of_decide_eq_true (ref_tab x hx y hy z hz h)
theorem tmod7 {x : Int} (h : 0 ≤ x) : 0 ≤ x.tmod 7 ∧ x.tmod 7 < 7 := ⟨Int.tmod_nonneg 7 h, Int.tmod_lt_of_pos x (by decide)⟩
end Go.Proofs.Ythckjknnaccncaa.Pm
