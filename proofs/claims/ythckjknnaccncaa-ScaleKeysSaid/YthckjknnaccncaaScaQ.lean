/-
  THE STEPS OF A KEY: plain.
-/
import Derived.Test.YthckjknnaccncaaScaA
namespace Go.Proofs.Ythckjknnaccncaa.Pm
open Go

abbrev valC (v : Int × Int) : List PV := [iv v.1, iv v.2]
abbrev vals (l : List (Int × Int)) : List PV := l.flatMap valC
theorem vals_len (l : List (Int × Int)) : (vals l).length = l.length * 2 := flat_len _ 2 (fun _ => rfl) l
theorem snoc_len {α : Type} (L : List α) (x : α) : (L ++ [x]).length = L.length + 1 := by simp
def inS (l n : Int) (k : Nat) : Nat → List (Int × Int)
  | 0 => []
  | t + 1 => if atL (n - 1 + (t : Int)) = (l + (k : Int)).tmod 7 then inS l n k t ++ [(atL (n - 1 + (t : Int)), atA (n - 1 + (t : Int)))] else inS l n k t
def preS (l n : Int) : Nat → List (Int × Int)
  | 0 => []
  | k + 1 => preS l n k ++ inS l n k 7
def outS (l n : Int) (k t : Nat) : List (Int × Int) := preS l n k ++ inS l n k t
theorem outS_yes {l n : Int} {k t : Nat} (h : atL (n - 1 + (t : Int)) = (l + (k : Int)).tmod 7) : outS l n k (t + 1) = outS l n k t ++ [(atL (n - 1 + (t : Int)), atA (n - 1 + (t : Int)))] := by
  unfold outS
  rw [inS, if_pos h, List.append_assoc]
theorem outS_no {l n : Int} {k t : Nat} (h : ¬ atL (n - 1 + (t : Int)) = (l + (k : Int)).tmod 7) : outS l n k (t + 1) = outS l n k t := by
  unfold outS
  rw [inS, if_neg h]
theorem outS_next (l n : Int) (k : Nat) : outS l n k 7 = outS l n (k + 1) 0 := by
  unfold outS
  rw [preS, show inS l n (k + 1) 0 = [] from rfl, List.append_nil]
theorem inS_len (l n : Int) (k : Nat) : ∀ t, (inS l n k t).length ≤ t
  | 0 => Nat.le_refl _
  | t + 1 => by
    rw [inS]
    have := inS_len l n k t
    split
    · rw [snoc_len]; omega
    · omega
theorem outS_len (l n : Int) (k t : Nat) : (outS l n k t).length ≤ 7 * k + t := by
  have h1 : ∀ k, (preS l n k).length ≤ 7 * k := fun k => by
    induction k with
    | zero => exact Nat.le_refl _
    | succ k ih => rw [preS, List.length_append]; have := inS_len l n k 7; omega
  have := inS_len l n k t
  have := h1 k
  unfold outS
  rw [List.length_append]
  omega
def scaleS (l n : Int) : List (Int × Int) := outS l n 7 0
def scaleP (l a m : Int) : PV := if (signsS l a m).2 = 0 then .tup [.ssl (vals (scaleS l (signsS l a m).1)) 0 (scaleS l (signsS l a m).1).length, iv 0] else .tup [.ssl [] 0 0, iv (signsS l a m).2]
theorem scaleP_yes {l a m : Int} (h : (signsS l a m).2 = 0) : scaleP l a m = .tup [.ssl (vals (scaleS l (signsS l a m).1)) 0 (scaleS l (signsS l a m).1).length, iv 0] := if_pos h
theorem scaleP_no {l a m : Int} (h : ¬ (signsS l a m).2 = 0) : scaleP l a m = .tup [.ssl [] 0 0, iv (signsS l a m).2] := if_neg h
theorem signs_ok {l a m : Int} (h : (signsS l a m).2 = 0) : (0 ≤ m ∧ m ≤ 6) ∧ rightQ l a 0 = true ∧ (signsS l a m).1 = fifthS l a - lineL.getD m.toNat 0 ∧ -7 ≤ (signsS l a m).1 ∧ (signsS l a m).1 ≤ 7 := by
  unfold signsS at h ⊢
  split at h
  · exact absurd h (by decide)
  · split at h
    · exact absurd h (by decide)
    · split at h
      · exact absurd h (by decide)
      · rename_i h1 h2 h3
        rw [if_neg h1, if_neg h2, if_neg h3]
        exact ⟨by omega, by simpa using h2, rfl, by simp only; omega, by simp only; omega⟩
end Go.Proofs.Ythckjknnaccncaa.Pm
