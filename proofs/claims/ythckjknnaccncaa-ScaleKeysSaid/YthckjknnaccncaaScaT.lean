/-
  WHAT A KEY IS: plain, by tables.
-/
import Derived.Test.YthckjknnaccncaaScaC
namespace Go.Proofs.Ythckjknnaccncaa.Pm
open Go

def keyV (l a m : Int) : List (Int × Int) := scaleS l (signsS l a m).1
theorem key_tab : ∀ l : Nat, l < 7 → ∀ a : Nat, a < 7 → ∀ m : Nat, m < 7 → (signsS (l : Int) ((a : Int) - 3) (m : Int)).2 = 0 →
    (keyV (l : Int) ((a : Int) - 3) (m : Int)).length = 7 ∧ (keyV (l : Int) ((a : Int) - 3) (m : Int)).getD 0 (0, 0) = ((l : Int), (a : Int) - 3) := by decide +kernel
theorem key_let : ∀ l : Nat, l < 7 → ∀ a : Nat, a < 7 → ∀ m : Nat, m < 7 → (signsS (l : Int) ((a : Int) - 3) (m : Int)).2 = 0 → ∀ i : Nat, i < 7 →
    ((keyV (l : Int) ((a : Int) - 3) (m : Int)).getD i (0, 0)).1 = ((l : Int) + (i : Int)) % 7 := by decide +kernel
def altOk (V : List (Int × Int)) : Bool := (List.range 7).all fun i => decide (-10 ≤ (V.getD i (0, 0)).2) && decide ((V.getD i (0, 0)).2 ≤ 10)
theorem key_alt : ∀ l : Nat, l < 7 → ∀ a : Nat, a < 7 → ∀ m : Nat, m < 7 → (signsS (l : Int) ((a : Int) - 3) (m : Int)).2 = 0 → altOk (keyV (l : Int) ((a : Int) - 3) (m : Int)) = true := by decide +kernel
def fifthOk (l a m : Int) : Bool := !decide ((fifthP l a).2.2.2 = 0) || ((decide ((signsS (fifthP l a).1 (fifthP l a).2.1 m).2 = 0) || decide ((signsS l a m).1 = 7)) && (!decide ((signsS (fifthP l a).1 (fifthP l a).2.1 m).2 = 0) || decide ((signsS (fifthP l a).1 (fifthP l a).2.1 m).1 = (signsS l a m).1 + 1)))
theorem key_fifth : ∀ l : Nat, l < 7 → ∀ a : Nat, a < 7 → ∀ m : Nat, m < 7 → (signsS (l : Int) ((a : Int) - 3) (m : Int)).2 = 0 → fifthOk (l : Int) ((a : Int) - 3) (m : Int) = true := by decide +kernel
theorem as_nat {l a m : Int} (h : (signsS l a m).2 = 0) : ∃ x y z : Nat, x < 7 ∧ y < 7 ∧ z < 7 ∧ l = (x : Int) ∧ a = (y : Int) - 3 ∧ m = (z : Int) := by
  obtain ⟨h1, h2, _⟩ := signs_ok h
  have hR := rightQ_iff.1 h2
  exact ⟨l.toNat, (a + 3).toNat, m.toNat, by omega, by omega, by omega, by omega, by omega, by omega⟩
theorem key_ok {l a m : Int} (h : (signsS l a m).2 = 0) : (keyV l a m).length = 7 ∧ (keyV l a m).getD 0 (0, 0) = (l, a) ∧ ∀ i : Nat, i < 7 → ((keyV l a m).getD i (0, 0)).1 = (l + (i : Int)) % 7 ∧ -10 ≤ ((keyV l a m).getD i (0, 0)).2 ∧ ((keyV l a m).getD i (0, 0)).2 ≤ 10 := by
  obtain ⟨x, y, z, hx, hy, hz, rfl, rfl, rfl⟩ := as_nat h
  exact ⟨(key_tab x hx y hy z hz h).1, (key_tab x hx y hy z hz h).2, fun i hi => ⟨key_let x hx y hy z hz h i hi, by have := List.all_eq_true.1 (key_alt x hx y hy z hz h) i (List.mem_range.2 hi); simpa using this⟩⟩
theorem key_up {l a m : Int} (h : (signsS l a m).2 = 0) (hf : (fifthP l a).2.2.2 = 0) : ((signsS (fifthP l a).1 (fifthP l a).2.1 m).2 = 0 ∨ (signsS l a m).1 = 7) ∧ ((signsS (fifthP l a).1 (fifthP l a).2.1 m).2 = 0 → (signsS (fifthP l a).1 (fifthP l a).2.1 m).1 = (signsS l a m).1 + 1) := by
  obtain ⟨x, y, z, hx, hy, hz, rfl, rfl, rfl⟩ := as_nat h
  have := key_fifth x hx y hy z hz h
  simp only [fifthOk, hf, decide_true, Bool.not_true, Bool.false_or, Bool.and_eq_true, Bool.or_eq_true, decide_eq_true_eq, Bool.not_eq_true', decide_eq_false_iff_not] at this
  exact ⟨this.1, fun h2 => this.2.resolve_left fun h3 => h3 h2⟩
/-- So many steps of a key above its first one. -/
def kS (n : Int) : Int := (n.tmod 7 + 7).tmod 7
theorem kS_eq (n : Int) : kS n = n % 7 := by
  unfold kS
  have h1 := tdiv_eq n
  have h2 := tmod_bd n
  have h3 := tdiv_eq (n.tmod 7 + 7)
  have h4 := tmod_bd (n.tmod 7 + 7)
  have h5 := Int.tmod_nonneg (a := n.tmod 7 + 7) 7 (by omega)
  omega
def degC (l a m n : Int) : Int × Int := (keyV l a m).getD (n % 7).toNat (0, 0)
def degO (l a o m n : Int) : Int := (7 * o + l + n - (degC l a m n).1).tdiv 7
def degS (l a o m n : Int) : Int × Int × Int × Int :=
  if ¬ (signsS l a m).2 = 0 then (0, 0, 0, (signsS l a m).2) else if rightQ l a o = false then (0, 0, 0, 2) else if n < -200 ∨ 200 < n then (0, 0, 0, 3)
  else if rightQ (degC l a m n).1 (degC l a m n).2 (degO l a o m n) = true then ((degC l a m n).1, (degC l a m n).2, degO l a o m n, 0) else (0, 0, 0, 3)
theorem deg_ok {l a o m n : Int} (h : (degS l a o m n).2.2.2 = 0) : (signsS l a m).2 = 0 ∧ rightQ l a o = true ∧ (-200 ≤ n ∧ n ≤ 200) ∧ degS l a o m n = ((degC l a m n).1, (degC l a m n).2, degO l a o m n, 0) ∧ rightQ (degC l a m n).1 (degC l a m n).2 (degO l a o m n) = true ∧
    (degC l a m n).1 = (l + n % 7) % 7 ∧ 7 * degO l a o m n + (degC l a m n).1 = 7 * o + l + n := by
  unfold degS at h ⊢
  split at h
  · rename_i h1; exact absurd h h1
  rename_i h1
  split at h
  · exact absurd h (by decide)
  rename_i h2
  split at h
  · exact absurd h (by decide)
  rename_i h3
  split at h
  · rename_i h4
    have h1' : (signsS l a m).2 = 0 := by omega
    have hk := ((key_ok h1').2.2 (n % 7).toNat (by omega)).1
    have hc : (degC l a m n).1 = (l + n % 7) % 7 := by unfold degC; rw [hk]; congr 1; omega
    refine ⟨h1', by simpa using h2, by omega, by rw [if_neg h1, if_neg h2, if_neg h3, if_pos h4], h4, hc, ?_⟩
    unfold degO
    have h5 := tdiv_eq (7 * o + l + n - (degC l a m n).1)
    have h6 : (7 * o + l + n - (degC l a m n).1).tmod 7 = 0 := Int.tmod_eq_zero_of_dvd (Int.dvd_of_emod_eq_zero (by omega))
    omega
  · exact absurd h (by decide)
theorem deg_up {l a o m n : Int} (h : (degS l a o m n).2.2.2 = 0) (h2 : (degS l a o m (n + 7)).2.2.2 = 0) : (degS l a o m (n + 7)).1 = (degS l a o m n).1 ∧ (degS l a o m (n + 7)).2.1 = (degS l a o m n).2.1 ∧ (degS l a o m (n + 7)).2.2.1 = (degS l a o m n).2.2.1 + 1 := by
  obtain ⟨_, _, _, e1, _, c1, s1⟩ := deg_ok h
  obtain ⟨_, _, _, e2, _, c2, s2⟩ := deg_ok h2
  have hc : degC l a m (n + 7) = degC l a m n := by unfold degC; rw [show (n + 7) % 7 = n % 7 from by omega]
  rw [e1, e2, hc]
  rw [hc] at s2
  exact ⟨rfl, rfl, by simp only; omega⟩
end Go.Proofs.Ythckjknnaccncaa.Pm
