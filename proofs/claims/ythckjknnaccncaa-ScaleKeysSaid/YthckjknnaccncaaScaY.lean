/-
  HOW A KEY OF THE KEYBOARD IS WRITTEN: plain.
-/
import Derived.Test.YthckjknnaccncaaScaL
namespace Go.Proofs.Ythckjknnaccncaa.Pm
open Go

def byL : List Int := [0, 1, -1, 2, -2]
def byS (sg : Int) (k : Nat) : Int := if sg < 0 then -byL.getD k 0 else byL.getD k 0
theorem byL_bd : ∀ k : Nat, k < 5 → -2 ≤ byL.getD k 0 ∧ byL.getD k 0 ≤ 2 := by decide +kernel
theorem byS_bd (sg : Int) (k : Nat) (h : k < 5) : -2 ≤ byS sg k ∧ byS sg k ≤ 2 := by
  have := byL_bd k h
  unfold byS
  split <;> omega
/-- What is left of a key, and whether it is written so. -/
def hitK (key L A : Int) : Bool := decide ((key - 12 - halvesS L A 0) % 12 = 0) && rightQ L A ((key - 12 - halvesS L A 0) / 12)
def hitT (key : Int) (V : List (Int × Int)) (sg : Int) (t : Nat) : Bool := hitK key (V.getD (t % 7) (0, 0)).1 ((V.getD (t % 7) (0, 0)).2 + byS sg (t / 7))
def spellV (key : Int) (V : List (Int × Int)) (sg : Int) : Int × Int × Int × Int := match (List.range 35).find? (hitT key V sg) with
  | some t => ((V.getD (t % 7) (0, 0)).1, (V.getD (t % 7) (0, 0)).2 + byS sg (t / 7), (key - 12 - halvesS (V.getD (t % 7) (0, 0)).1 ((V.getD (t % 7) (0, 0)).2 + byS sg (t / 7)) 0) / 12, 0)
  | none => (0, 0, 0, 3)
theorem spell_hit {key : Int} {V : List (Int × Int)} {sg : Int} {k i : Nat} (hk : k < 5) (hi : i < 7) (h : hitK key (V.getD i (0, 0)).1 ((V.getD i (0, 0)).2 + byS sg k) = true) (hn : ∀ t, t < 7 * k + i → hitT key V sg t = false) :
    spellV key V sg = ((V.getD i (0, 0)).1, (V.getD i (0, 0)).2 + byS sg k, (key - 12 - halvesS (V.getD i (0, 0)).1 ((V.getD i (0, 0)).2 + byS sg k) 0) / 12, 0) := by
  have e1 : (7 * k + i) % 7 = i := by omega
  have e2 : (7 * k + i) / 7 = k := by omega
  have hh : hitT key V sg (7 * k + i) = true := by unfold hitT; rw [e1, e2]; exact h
  have : (List.range 35).find? (hitT key V sg) = some (7 * k + i) := by
    rw [List.find?_range_eq_some]
    exact ⟨hh, List.mem_range.2 (by omega), fun j hj => by rw [hn j hj]; rfl⟩
  unfold spellV
  rw [this]
  simp only [e1, e2]
theorem spell_none {key : Int} {V : List (Int × Int)} {sg : Int} (hn : ∀ t, t < 35 → hitT key V sg t = false) : spellV key V sg = (0, 0, 0, 3) := by
  have : (List.range 35).find? (hitT key V sg) = none := by
    rw [List.find?_eq_none]
    intro t ht
    rw [hn t (List.mem_range.1 ht)]
    decide
  unfold spellV
  rw [this]
theorem hit_next {key : Int} {V : List (Int × Int)} {sg : Int} {k i : Nat} (hi : i < 7) (h : hitK key (V.getD i (0, 0)).1 ((V.getD i (0, 0)).2 + byS sg k) = false) (hn : ∀ t, t < 7 * k + i → hitT key V sg t = false) : ∀ t, t < 7 * k + (i + 1) → hitT key V sg t = false := fun t ht => by
  by_cases e : t = 7 * k + i
  · subst e
    unfold hitT
    rw [show (7 * k + i) % 7 = i from by omega, show (7 * k + i) / 7 = k from by omega]
    exact h
  · exact hn t (by omega)
theorem halves_oct (l a o : Int) : halvesS l a o = 12 * o + halvesS l a 0 := by unfold halvesS; omega
def spellS (key l a m : Int) : Int × Int × Int × Int := if (signsS l a m).2 = 0 then spellV key (keyV l a m) (signsS l a m).1 else (0, 0, 0, (signsS l a m).2)
end Go.Proofs.Ythckjknnaccncaa.Pm
