/-
  KEYS: plain.
-/
import Derived.Test.YthckjknnaccncaaPmS
import Derived.Test.YthckjknnaccncaaKit
namespace Go.Proofs.Ythckjknnaccncaa.Pm
open Go

theorem mixed : Try.prog.follows .mixedOrders = true := by kernel_rfl
def I64 (n : Int) : Prop := -9223372036854775808 ≤ n ∧ n ≤ 9223372036854775807
def rightQ (l a o : Int) : Bool := decide (0 ≤ l ∧ l < 7 ∧ -3 ≤ a ∧ a ≤ 3 ∧ -12 ≤ o ∧ o ≤ 12)
theorem rightQ_iff {l a o : Int} : rightQ l a o = true ↔ 0 ≤ l ∧ l < 7 ∧ -3 ≤ a ∧ a ≤ 3 ∧ -12 ≤ o ∧ o ≤ 12 := by simp [rightQ]
theorem rightQ_no {l a o : Int} (h : ¬ (0 ≤ l ∧ l < 7 ∧ -3 ≤ a ∧ a ≤ 3 ∧ -12 ≤ o ∧ o ≤ 12)) : rightQ l a o = false := by simp only [rightQ, decide_eq_false h]
def lineL : List Int := [0, 2, 4, -1, 1, 3, 5]
/-- Where a class stands on the line of fifths; the class at a place. -/
def fifthS (l a : Int) : Int := lineL.getD l.toNat 0 + 7 * a
def atL (n : Int) : Int := ((4 * n).tmod 7 + 7).tmod 7
def atA (n : Int) : Int := (n - fifthS (atL n) 0).tdiv 7
def signsS (l a m : Int) : Int × Int := if m < 0 ∨ 6 < m then (0, 1) else if rightQ l a 0 = false then (0, 2) else if fifthS l a - lineL.getD m.toNat 0 < -7 ∨ 7 < fifthS l a - lineL.getD m.toNat 0 then (0, 3) else (fifthS l a - lineL.getD m.toNat 0, 0)
theorem line_bd (k : Nat) : -1 ≤ lineL.getD k 0 ∧ lineL.getD k 0 ≤ 5 := by
  match k with
  | 0 => decide
  | 1 => decide
  | 2 => decide
  | 3 => decide
  | 4 => decide
  | 5 => decide
  | 6 => decide
  | k + 7 => rw [List.getD_eq_getElem?_getD, List.getElem?_eq_none (by simp [lineL])]; decide
theorem tmod_bd (n : Int) : -7 < n.tmod 7 ∧ n.tmod 7 < 7 := ⟨Int.lt_tmod_of_pos n (by decide), Int.tmod_lt_of_pos n (by decide)⟩
theorem tdiv_eq (n : Int) : 7 * n.tdiv 7 + n.tmod 7 = n := Int.mul_tdiv_add_tmod n 7
theorem atL_bd (n : Int) : 0 ≤ atL n ∧ atL n ≤ 6 := by
  unfold atL
  have h1 := tmod_bd (4 * n)
  have h2 := tmod_bd ((4 * n).tmod 7 + 7)
  have h3 := Int.tmod_nonneg (a := (4 * n).tmod 7 + 7) 7 (by omega)
  omega
theorem fifth_bd (l a : Int) (h : -1000000 ≤ a ∧ a ≤ 1000000) : -7000001 ≤ fifthS l a ∧ fifthS l a ≤ 7000005 := by
  have := line_bd l.toNat
  unfold fifthS
  omega
end Go.Proofs.Ythckjknnaccncaa.Pm
