/-
  DEGREES, THE DOCUMENT'S WAY: plain.
-/
import Derived.Test.YthckjknnaccncaaScaI
namespace Go.Proofs.Ythckjknnaccncaa.Pm
open Go

theorem degC_ref {l a m n : Int} (h : (signsS l a m).2 = 0) : degC l a m n = ((l + n % 7) % 7, (majorL (signsS l a m).1).getD ((l + n % 7) % 7).toNat 0) := by
  have hR := rightQ_iff.1 (signs_ok h).2.1
  have e : (l + (((n % 7).toNat : Nat) : Int)).tmod 7 = (l + n % 7) % 7 := by
    rw [Int.tmod_eq_emod_of_nonneg (by omega)]
    congr 1
    omega
  unfold degC
  rw [← refV_key h]
  unfold refV
  rw [List.getD_eq_getElem?_getD, List.getElem?_map, List.getElem?_range (by omega)]
  simp only [Option.map_some, Option.getD_some, e]
theorem deg_at {l a o m n L O : Int} (h : (signsS l a m).2 = 0) (hL : 0 ≤ L ∧ L < 7) (hs : 7 * O + L = 7 * o + l + n) : L = (degC l a m n).1 ∧ (majorL (signsS l a m).1).getD L.toNat 0 = (degC l a m n).2 ∧ O = degO l a o m n := by
  have e : (l + n % 7) % 7 = L := by omega
  have hc := degC_ref (n := n) h
  rw [e] at hc
  have h1 := tdiv_eq (7 * o + l + n - L)
  have h2 : (7 * o + l + n - L).tmod 7 = 0 := Int.tmod_eq_zero_of_dvd (Int.dvd_of_emod_eq_zero (by omega))
  unfold degO
  rw [hc]
  exact ⟨rfl, rfl, by simp only; omega⟩
end Go.Proofs.Ythckjknnaccncaa.Pm
