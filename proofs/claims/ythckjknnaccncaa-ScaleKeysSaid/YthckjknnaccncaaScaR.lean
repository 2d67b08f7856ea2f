/-
  PITCHES AND INTERVALS of a key: plain.
-/
import Derived.Test.YthckjknnaccncaaScaB
namespace Go.Proofs.Ythckjknnaccncaa.Pm
open Go

def natL : List Int := [0, 2, 4, 5, 7, 9, 11]
def stepsS (l o : Int) : Int := 7 * o + l
def halvesS (l a o : Int) : Int := 12 * o + natL.getD l.toNat 0 + a
theorem nat_bd (k : Nat) : 0 ≤ natL.getD k 0 ∧ natL.getD k 0 ≤ 11 := by
  match k with
  | 0 => decide
  | 1 => decide
  | 2 => decide
  | 3 => decide
  | 4 => decide
  | 5 => decide
  | 6 => decide
  | k + 7 => rw [List.getD_eq_getElem?_getD, List.getElem?_eq_none (by simp [natL])]; decide
theorem halves_bd (l a o : Int) (ha : -1000 ≤ a ∧ a ≤ 1000) (ho : -1000 ≤ o ∧ o ≤ 1000) : -13000 ≤ halvesS l a o ∧ halvesS l a o ≤ 13011 := by
  have := nat_bd l.toNat
  unfold halvesS
  omega
end Go.Proofs.Ythckjknnaccncaa.Pm
