/-
  HOW A KEY OF THE KEYBOARD IS WRITTEN: what may wrap. Plain.
-/
import Derived.Test.YthckjknnaccncaaScaY
namespace Go.Proofs.Ythckjknnaccncaa.Pm
open Go

def leftW (key L A : Int) : Int := IntKind.wrap .i64 (key - (halvesS L A 0 + 12))
theorem left_range (key L A : Int) : -9223372036854775808 ≤ leftW key L A ∧ leftW key L A ≤ 9223372036854775807 := by
  unfold leftW
  rw [IntKind.wrap_i64]
  omega
theorem tdiv12 (n : Int) : 12 * n.tdiv 12 + n.tmod 12 = n ∧ -12 < n.tmod 12 ∧ n.tmod 12 < 12 := ⟨Int.mul_tdiv_add_tmod n 12, Int.lt_tmod_of_pos n (by decide), Int.tmod_lt_of_pos n (by decide)⟩
theorem right_zero {L A o : Int} (h : rightQ L A o = true) : rightQ L A 0 = true := by
  have := rightQ_iff.1 h
  exact rightQ_iff.2 (by omega)
theorem hit_yes {key L A : Int} (hk : -9223372036854775808 ≤ key ∧ key ≤ 9223372036854775807) (h0 : rightQ L A 0 = true) (h1 : (leftW key L A).tmod 12 = 0) (h2 : rightQ L A ((leftW key L A).tdiv 12) = true) :
    hitK key L A = true ∧ (key - 12 - halvesS L A 0) / 12 = (leftW key L A).tdiv 12 := by
  have g0 := rightQ_iff.1 h0
  have g2 := rightQ_iff.1 h2
  have g1 := tdiv12 (leftW key L A)
  have g3 := halves_bd L A 0 (by omega) (by omega)
  have e : leftW key L A = key - (halvesS L A 0 + 12) := by
    have : leftW key L A = 12 * (leftW key L A).tdiv 12 := by omega
    unfold leftW at this g2 ⊢
    rw [IntKind.wrap_i64] at this g2 ⊢
    omega
  have e2 : (key - 12 - halvesS L A 0) / 12 = (leftW key L A).tdiv 12 := by omega
  refine ⟨?_, e2⟩
  unfold hitK
  rw [e2, h2, Bool.and_true]
  exact decide_eq_true (by omega)
theorem hit_back {key L A : Int} (h : hitK key L A = true) : rightQ L A 0 = true ∧ (leftW key L A).tmod 12 = 0 ∧ rightQ L A ((leftW key L A).tdiv 12) = true := by
  unfold hitK at h
  simp only [Bool.and_eq_true, decide_eq_true_eq] at h
  have h0 := right_zero h.2
  have g2 := rightQ_iff.1 h.2
  have g3 := halves_bd L A 0 (by omega) (by omega)
  have e : leftW key L A = key - (halvesS L A 0 + 12) := by
    unfold leftW
    rw [IntKind.wrap_i64]
    omega
  have g1 := tdiv12 (leftW key L A)
  have hd : (leftW key L A).tmod 12 = 0 := Int.tmod_eq_zero_of_dvd (Int.dvd_of_emod_eq_zero (by omega))
  have e2 : (leftW key L A).tdiv 12 = (key - 12 - halvesS L A 0) / 12 := by omega
  exact ⟨h0, hd, by rw [e2]; exact h.2⟩
end Go.Proofs.Ythckjknnaccncaa.Pm
