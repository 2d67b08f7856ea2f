/-
  HALF TONES BY STEPPING: plain.
-/
import Derived.Test.YthckjknnaccncaaScaJ
namespace Go.Proofs.Ythckjknnaccncaa.Pm
open Go

def upS (x : Int) : Int := if x = 2 ∨ x = 6 then 1 else 2
theorem upS_bd (x : Int) : 1 ≤ upS x ∧ upS x ≤ 2 := by unfold upS; split <;> omega
def whiteW (t : Int) : Int := 12 * (t / 7) + natL.getD (t % 7).toNat 0
theorem white_next (t : Int) : whiteW (t + 1) = whiteW t + upS (t % 7) := by
  unfold whiteW
  have h : t % 7 = 0 ∨ t % 7 = 1 ∨ t % 7 = 2 ∨ t % 7 = 3 ∨ t % 7 = 4 ∨ t % 7 = 5 ∨ t % 7 = 6 := by omega
  rcases h with h | h | h | h | h | h | h
  · rw [h, show (t + 1) % 7 = 1 from by omega, show (t + 1) / 7 = t / 7 from by omega]; simp [natL, upS] <;> omega
  · rw [h, show (t + 1) % 7 = 2 from by omega, show (t + 1) / 7 = t / 7 from by omega]; simp [natL, upS] <;> omega
  · rw [h, show (t + 1) % 7 = 3 from by omega, show (t + 1) / 7 = t / 7 from by omega]; simp [natL, upS] <;> omega
  · rw [h, show (t + 1) % 7 = 4 from by omega, show (t + 1) / 7 = t / 7 from by omega]; simp [natL, upS] <;> omega
  · rw [h, show (t + 1) % 7 = 5 from by omega, show (t + 1) / 7 = t / 7 from by omega]; simp [natL, upS] <;> omega
  · rw [h, show (t + 1) % 7 = 6 from by omega, show (t + 1) / 7 = t / 7 from by omega]; simp [natL, upS] <;> omega
  · rw [h, show (t + 1) % 7 = 0 from by omega, show (t + 1) / 7 = t / 7 + 1 from by omega]; simp [natL, upS] <;> omega
theorem white_bd (t : Int) (h : -100000 ≤ t ∧ t ≤ 100000) : -200000 ≤ whiteW t ∧ whiteW t ≤ 200000 := by
  have := nat_bd (t % 7).toNat
  unfold whiteW
  omega
theorem white_halves {l a o : Int} (hl : 0 ≤ l ∧ l < 7) : whiteW (stepsS l o) + a = halvesS l a o := by
  unfold whiteW stepsS halvesS
  rw [show (7 * o + l) / 7 = o from by omega, show (7 * o + l) % 7 = l from by omega]
def keyS (l a o : Int) : Int × Int := if rightQ l a o = true then (halvesS l a o + 12, 0) else (0, 2)
end Go.Proofs.Ythckjknnaccncaa.Pm
