/-
  KEYS, THE DOCUMENT'S WAY: plain.
-/
import Derived.Test.YthckjknnaccncaaScaD
namespace Go.Proofs.Ythckjknnaccncaa.Pm
open Go

def sharpL : List Int := [3, 0, 4, 1, 5, 2, 6]
theorem sharp_bd : ∀ k : Nat, k < 7 → 0 ≤ sharpL.getD k 0 ∧ sharpL.getD k 0 < 7 := by decide +kernel
def majUp : Nat → List Int
  | 0 => [0, 0, 0, 0, 0, 0, 0]
  | k + 1 => (majUp k).set (sharpL.getD k 0).toNat 1
def majDn : Nat → List Int
  | 0 => [0, 0, 0, 0, 0, 0, 0]
  | k + 1 => (majDn k).set (sharpL.getD (6 - k) 0).toNat (-1)
theorem majUp_len : ∀ k, (majUp k).length = 7
  | 0 => rfl
  | k + 1 => by rw [majUp, List.length_set, majUp_len k]
theorem majDn_len : ∀ k, (majDn k).length = 7
  | 0 => rfl
  | k + 1 => by rw [majDn, List.length_set, majDn_len k]
def majorL (n : Int) : List Int := if 0 ≤ n then majUp n.toNat else majDn (-n).toNat
theorem maj_base {n : Int} {k : Nat} (h : k = n.toNat) : majUp k = if 0 ≤ n then majUp n.toNat else majDn 0 := by
  split
  · rw [h]
  · rw [show k = 0 from by omega]; rfl
theorem maj_end {n : Int} {k : Nat} (h : n < 0 → k = (-n).toNat) : (if 0 ≤ n then majUp n.toNat else majDn k) = majorL n := by
  unfold majorL
  split
  · rfl
  · rw [h (by omega)]
theorem majorL_len (n : Int) : (majorL n).length = 7 := by unfold majorL; split <;> simp only [majUp_len, majDn_len]
def firUp : Nat → Int
  | 0 => 0
  | k + 1 => (firUp k + 4).tmod 7
def firDn : Nat → Int
  | 0 => 0
  | k + 1 => (firDn k + 3).tmod 7
def firstS (n : Int) : Int := if 0 ≤ n then firUp n.toNat else firDn (-n).toNat
theorem firUp_bd : ∀ k, 0 ≤ firUp k ∧ firUp k < 7
  | 0 => by decide
  | k + 1 => by
    have ih := firUp_bd k
    rw [firUp]
    have h2 := tmod_bd (firUp k + 4)
    have h3 := Int.tmod_nonneg (a := firUp k + 4) 7 (by omega)
    omega
theorem firDn_bd : ∀ k, 0 ≤ firDn k ∧ firDn k < 7
  | 0 => by decide
  | k + 1 => by
    have ih := firDn_bd k
    rw [firDn]
    have h2 := tmod_bd (firDn k + 3)
    have h3 := Int.tmod_nonneg (a := firDn k + 3) 7 (by omega)
    omega
theorem fir_base {n : Int} {k : Nat} (h : k = n.toNat) : firUp k = if 0 ≤ n then firUp n.toNat else firDn 0 := by
  split
  · rw [h]
  · rw [show k = 0 from by omega]; rfl
theorem fir_end {n : Int} {k : Nat} (h : n < 0 → k = (-n).toNat) : (if 0 ≤ n then firUp n.toNat else firDn k) = firstS n := by
  unfold firstS
  split
  · rfl
  · rw [h (by omega)]
theorem firstS_bd (n : Int) : 0 ≤ firstS n ∧ firstS n < 7 := by
  unfold firstS; split
  · exact firUp_bd _
  · exact firDn_bd _
def absS (n : Int) : Int := if n < 0 then IntKind.wrap .i64 (0 - n) else n
theorem abs_three {n : Int} (h : -3 ≤ n) : absS n ≤ 3 ↔ n ≤ 3 := by
  unfold absS
  split
  · rw [wrap_in (by simp only [InK]; omega)]; omega
  · exact Iff.rfl
/-- The sign's test at a place. -/
def hitS (l a m n : Int) : Bool := decide ((firstS n + m).tmod 7 = l) && decide ((majorL n).getD l.toNat 0 = a)
def sigOk (l a m : Int) : Bool := ((List.range 15).all fun j => !hitS l a m (-7 + (j : Int)) || decide (signsS l a m = (-7 + (j : Int), 0))) && ((List.range 15).any (fun j => hitS l a m (-7 + (j : Int))) || decide (signsS l a m = (0, 3)))
theorem sig_tab : ∀ l : Nat, l < 7 → ∀ a : Nat, a < 7 → ∀ m : Nat, m < 7 → sigOk (l : Int) ((a : Int) - 3) (m : Int) = true := by decide +kernel
theorem sig_hit {l a m : Int} (hm : 0 ≤ m ∧ m ≤ 6) (hR : rightQ l a 0 = true) : (∀ j : Nat, j < 15 → hitS l a m (-7 + (j : Int)) = true → signsS l a m = (-7 + (j : Int), 0)) ∧ ((∀ j : Nat, j < 15 → hitS l a m (-7 + (j : Int)) = false) → signsS l a m = (0, 3)) := by
  have hR := rightQ_iff.1 hR
  obtain ⟨x, rfl⟩ : ∃ x : Nat, l = (x : Int) := ⟨l.toNat, by omega⟩
  obtain ⟨y, rfl⟩ : ∃ y : Nat, a = (y : Int) - 3 := ⟨(a + 3).toNat, by omega⟩
  obtain ⟨z, rfl⟩ : ∃ z : Nat, m = (z : Int) := ⟨m.toNat, by omega⟩
  have h := sig_tab x (by omega) y (by omega) z (by omega)
  simp only [sigOk, Bool.and_eq_true, List.all_eq_true, List.mem_range, Bool.or_eq_true, Bool.not_eq_true', decide_eq_true_eq, List.any_eq_true] at h
  refine ⟨fun j hj hh => (h.1 j hj).resolve_left (by rw [hh]; decide), fun hn => h.2.resolve_left ?_⟩
  rintro ⟨j, hj, hh⟩
  rw [hn j hj] at hh
  cases hh
end Go.Proofs.Ythckjknnaccncaa.Pm
