/-
  The plain arithmetic of the white keys, step by step. No program in sight.
-/
import Derived.Test.YtkhdpepcpmjhcaaPitch
namespace Go.Proofs.Ytkhdpepcpmjhcaa.Pi

/-- Half tones from C0 to so many steps above it. -/
def white (t : Int) : Int := 12 * (t / 7) + nat7 (t % 7)
/-- Half tones from a letter to the next one. -/
def up (l : Int) : Int := if l = 2 ∨ l = 6 then 1 else 2
theorem up_range (l : Int) : 1 ≤ up l ∧ up l ≤ 2 := by unfold up; split <;> omega
theorem white_succ (t : Int) : white (t + 1) = white t + up (t % 7) := by
  have h : t % 7 = 0 ∨ t % 7 = 1 ∨ t % 7 = 2 ∨ t % 7 = 3 ∨ t % 7 = 4 ∨ t % 7 = 5 ∨ t % 7 = 6 := by omega
  unfold white
  rcases h with h | h | h | h | h | h | h
  · rw [show (t + 1) % 7 = 1 by omega, show (t + 1) / 7 = t / 7 by omega, h]; (have e0 : nat7 0 = 0 := rfl); (have e1 : nat7 1 = 2 := rfl); (have e2 : nat7 2 = 4 := rfl); (have e3 : nat7 3 = 5 := rfl); (have e4 : nat7 4 = 7 := rfl); (have e5 : nat7 5 = 9 := rfl); (have e6 : nat7 6 = 11 := rfl); (have u : up 0 = 2 ∧ up 1 = 2 ∧ up 2 = 1 ∧ up 3 = 2 ∧ up 4 = 2 ∧ up 5 = 2 ∧ up 6 = 1 := by decide); omega
  · rw [show (t + 1) % 7 = 2 by omega, show (t + 1) / 7 = t / 7 by omega, h]; (have e0 : nat7 0 = 0 := rfl); (have e1 : nat7 1 = 2 := rfl); (have e2 : nat7 2 = 4 := rfl); (have e3 : nat7 3 = 5 := rfl); (have e4 : nat7 4 = 7 := rfl); (have e5 : nat7 5 = 9 := rfl); (have e6 : nat7 6 = 11 := rfl); (have u : up 0 = 2 ∧ up 1 = 2 ∧ up 2 = 1 ∧ up 3 = 2 ∧ up 4 = 2 ∧ up 5 = 2 ∧ up 6 = 1 := by decide); omega
  · rw [show (t + 1) % 7 = 3 by omega, show (t + 1) / 7 = t / 7 by omega, h]; (have e0 : nat7 0 = 0 := rfl); (have e1 : nat7 1 = 2 := rfl); (have e2 : nat7 2 = 4 := rfl); (have e3 : nat7 3 = 5 := rfl); (have e4 : nat7 4 = 7 := rfl); (have e5 : nat7 5 = 9 := rfl); (have e6 : nat7 6 = 11 := rfl); (have u : up 0 = 2 ∧ up 1 = 2 ∧ up 2 = 1 ∧ up 3 = 2 ∧ up 4 = 2 ∧ up 5 = 2 ∧ up 6 = 1 := by decide); omega
  · rw [show (t + 1) % 7 = 4 by omega, show (t + 1) / 7 = t / 7 by omega, h]; (have e0 : nat7 0 = 0 := rfl); (have e1 : nat7 1 = 2 := rfl); (have e2 : nat7 2 = 4 := rfl); (have e3 : nat7 3 = 5 := rfl); (have e4 : nat7 4 = 7 := rfl); (have e5 : nat7 5 = 9 := rfl); (have e6 : nat7 6 = 11 := rfl); (have u : up 0 = 2 ∧ up 1 = 2 ∧ up 2 = 1 ∧ up 3 = 2 ∧ up 4 = 2 ∧ up 5 = 2 ∧ up 6 = 1 := by decide); omega
  · rw [show (t + 1) % 7 = 5 by omega, show (t + 1) / 7 = t / 7 by omega, h]; (have e0 : nat7 0 = 0 := rfl); (have e1 : nat7 1 = 2 := rfl); (have e2 : nat7 2 = 4 := rfl); (have e3 : nat7 3 = 5 := rfl); (have e4 : nat7 4 = 7 := rfl); (have e5 : nat7 5 = 9 := rfl); (have e6 : nat7 6 = 11 := rfl); (have u : up 0 = 2 ∧ up 1 = 2 ∧ up 2 = 1 ∧ up 3 = 2 ∧ up 4 = 2 ∧ up 5 = 2 ∧ up 6 = 1 := by decide); omega
  · rw [show (t + 1) % 7 = 6 by omega, show (t + 1) / 7 = t / 7 by omega, h]; (have e0 : nat7 0 = 0 := rfl); (have e1 : nat7 1 = 2 := rfl); (have e2 : nat7 2 = 4 := rfl); (have e3 : nat7 3 = 5 := rfl); (have e4 : nat7 4 = 7 := rfl); (have e5 : nat7 5 = 9 := rfl); (have e6 : nat7 6 = 11 := rfl); (have u : up 0 = 2 ∧ up 1 = 2 ∧ up 2 = 1 ∧ up 3 = 2 ∧ up 4 = 2 ∧ up 5 = 2 ∧ up 6 = 1 := by decide); omega
  · rw [show (t + 1) % 7 = 0 by omega, show (t + 1) / 7 = t / 7 + 1 by omega, h]; (have e0 : nat7 0 = 0 := rfl); (have e1 : nat7 1 = 2 := rfl); (have e2 : nat7 2 = 4 := rfl); (have e3 : nat7 3 = 5 := rfl); (have e4 : nat7 4 = 7 := rfl); (have e5 : nat7 5 = 9 := rfl); (have e6 : nat7 6 = 11 := rfl); (have u : up 0 = 2 ∧ up 1 = 2 ∧ up 2 = 1 ∧ up 3 = 2 ∧ up 4 = 2 ∧ up 5 = 2 ∧ up 6 = 1 := by decide); omega
theorem white_pred (t : Int) : white (t - 1) = white t - up ((t - 1) % 7) := by
  have h := white_succ (t - 1)
  rw [show t - 1 + 1 = t by omega] at h
  omega
theorem white_bd (t : Int) (h : -1000 ≤ t ∧ t ≤ 1000) : -2000 ≤ white t ∧ white t ≤ 2000 := by
  have := nat7_range (t % 7)
  unfold white
  omega
theorem white_steps {l o : Int} (h1 : 0 ≤ l) (h2 : l ≤ 6) : white (steps l o) = 12 * o + nat7 l := by
  unfold white steps
  rw [show (7 * o + l) / 7 = o by omega, show (7 * o + l) % 7 = l by omega]
theorem white_halves {l a o : Int} (h : rightB l a o = true) : white (steps l o) + a = halves l a o := by
  have := rightB_iff.1 h
  rw [white_steps this.1 this.2.1]; unfold halves; omega
/-- What the reference's At tells. -/
theorem at_white (s h : Int) : at_ s h = if rightB (s % 7) (h - white s) (s / 7) then (s % 7, h - white s, s / 7, 0) else (0, 0, 0, 3) := rfl
end Go.Proofs.Ytkhdpepcpmjhcaa.Pi
