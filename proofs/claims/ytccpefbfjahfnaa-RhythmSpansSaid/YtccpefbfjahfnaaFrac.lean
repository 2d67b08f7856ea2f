/-
  The plain law of fractions: what Make, Plus, Minus, Times, Over, Order, Floor answer, and that they go together. No program in sight.
-/
import Derived.Test.YtccpefbfjahfnaaGcd
namespace Go.Proofs.Ytccpefbfjahfnaa.Fr
open Gcd

/-- A part of a fraction isn't large. -/
def smallB (n : Int) : Bool := decide (-1073741824 ≤ n ∧ n ≤ 1073741824)
/-- Written as it must be. -/
def rightB (u d : Int) : Bool := decide (0 < d ∧ d ≤ 1073741824 ∧ -1073741824 ≤ u ∧ u ≤ 1073741824 ∧ g u d = 1)
theorem rightB_iff {u d : Int} : rightB u d = true ↔ 0 < d ∧ d ≤ 1073741824 ∧ -1073741824 ≤ u ∧ u ≤ 1073741824 ∧ g u d = 1 := by simp [rightB]
theorem smallB_iff {u : Int} : smallB u = true ↔ -1073741824 ≤ u ∧ u ≤ 1073741824 := by simp [smallB]
/-- up, down, what is wrong. -/
def make (u d : Int) : Int × Int × Int :=
  if d < 1 then (0, 0, 3) else if smallB (u / g u d) && smallB (d / g u d) then (u / g u d, d / g u d, 0) else (0, 0, 4)
def plus (a b c d : Int) : Int × Int × Int := if rightB a b && rightB c d then make (a * d + c * b) (b * d) else (0, 0, 2)
def minus (a b c d : Int) : Int × Int × Int := if rightB a b && rightB c d then make (a * d - c * b) (b * d) else (0, 0, 2)
def times (a b c d : Int) : Int × Int × Int := if rightB a b && rightB c d then make (a * c) (b * d) else (0, 0, 2)
def over (a b c d : Int) : Int × Int × Int := if rightB a b && rightB c d then (if c < 0 then make (-a * d) (-b * c) else make (a * d) (b * c)) else (0, 0, 2)
def signI (n : Int) : Int := if n < 0 then -1 else if 0 < n then 1 else 0
def order (a b c d : Int) : Int × Int := if rightB a b && rightB c d then (signI (a * d - c * b), 0) else (0, 2)
def floor (a b : Int) : Int × Int := if rightB a b then (a / b, 0) else (0, 2)

theorem mul_cancel {x y z : Int} (hz : 0 < z) (h : x * z = y * z) : x = y := Int.eq_of_mul_eq_mul_right (by omega) h

theorem dvd_of {p q q' p' : Int} (h1 : g p q = 1) (h : p * q' = p' * q) : q ∣ q' := by
  have hc : Nat.Coprime q.natAbs p.natAbs := by
    have : Int.gcd p q = 1 := by unfold g at h1; omega
    rw [Nat.coprime_iff_gcd_eq_one, Nat.gcd_comm]; exact this
  have hd : q.natAbs ∣ p.natAbs * q'.natAbs := by
    rw [← Int.natAbs_mul, h, Int.natAbs_mul]; exact Nat.dvd_mul_left _ _
  exact Int.natAbs_dvd_natAbs.1 (hc.dvd_of_dvd_mul_left hd)

/-- Lowest terms are one. -/
theorem lowest {p q p' q' : Int} (hq : 0 < q) (hq' : 0 < q') (h1 : g p q = 1) (h2 : g p' q' = 1) (h : p * q' = p' * q) : p = p' ∧ q = q' := by
  have e : q = q' := Int.dvd_antisymm (by omega) (by omega) (dvd_of h1 h) (dvd_of h2 h.symm)
  subst e
  exact ⟨mul_cancel hq h, rfl⟩

/-- A fraction brought down to its lowest terms. -/
theorem down {u d : Int} (hd : 1 ≤ d) : 0 < d / g u d ∧ g (u / g u d) (d / g u d) = 1 ∧ u * (d / g u d) = u / g u d * d := by
  have hp := g_pos (a := u) (b := d) (by omega)
  have h1 := Int.ediv_mul_cancel (g_dvd_left u d)
  have h2 := Int.ediv_mul_cancel (g_dvd_right u d)
  have hpos : 0 < d / g u d := Int.ediv_pos_of_pos_of_dvd (by omega) (by omega) (g_dvd_right u d)
  refine ⟨hpos, ?_, ?_⟩
  · have := Int.gcd_ediv_gcd_ediv_gcd (i := u) (j := d) (by unfold g at hp; omega)
    unfold g
    omega
  · generalize hG : g u d = G at *
    generalize u / G = a at *
    generalize d / G = b at *
    grind

/-- What comes out is right, and as much. -/
theorem make_ok {u d p q : Int} (h : make u d = (p, q, 0)) : 1 ≤ d ∧ rightB p q = true ∧ u * q = p * d := by
  unfold make at h
  split at h
  · simp at h
  · rename_i hd
    have hd' : 1 ≤ d := by omega
    obtain ⟨k1, k2, k3⟩ := down (u := u) hd'
    split at h
    · rename_i hs
      simp only [Bool.and_eq_true, smallB_iff] at hs
      simp only [Prod.mk.injEq, and_true] at h
      obtain ⟨rfl, rfl⟩ := h
      exact ⟨hd', rightB_iff.2 ⟨k1, hs.2.2, hs.1.1, hs.1.2, k2⟩, k3⟩
    · simp at h

/-- And what is right comes out. -/
theorem make_of {u d p q : Int} (hd : 1 ≤ d) (hr : rightB p q = true) (h : u * q = p * d) : make u d = (p, q, 0) := by
  obtain ⟨k1, k2, k3⟩ := down (u := u) hd
  obtain ⟨r1, r2, r3, r4, r5⟩ := rightB_iff.1 hr
  have e : u / g u d = p ∧ d / g u d = q := by
    refine lowest k1 r1 k2 r5 (mul_cancel (z := d) (by omega) ?_)
    generalize d / g u d = b at *
    generalize u / g u d = a at *
    grind
  unfold make
  rw [e.1, e.2, if_neg (by omega), if_pos]
  simp [smallB_iff]; omega

/-- As much comes out alike. -/
theorem make_congr {u d u' d' : Int} (hd : 1 ≤ d) (hd' : 1 ≤ d') (h : u * d' = u' * d) : make u d = make u' d' := by
  obtain ⟨k1, k2, k3⟩ := down (u := u) hd
  obtain ⟨l1, l2, l3⟩ := down (u := u') hd'
  have e : u / g u d = u' / g u' d' ∧ d / g u d = d' / g u' d' := by
    refine lowest k1 l1 k2 l2 (mul_cancel (z := d * d') (Int.mul_pos (by omega) (by omega)) ?_)
    generalize d / g u d = b at *
    generalize u / g u d = a at *
    generalize d' / g u' d' = b' at *
    generalize u' / g u' d' = a' at *
    grind
  unfold make
  rw [e.1, e.2, if_neg (show ¬ d < 1 by omega), if_neg (show ¬ d' < 1 by omega)]

theorem make_err {u d p q e : Int} (h : make u d = (p, q, e)) (he : e ≠ 0) : p = 0 ∧ q = 0 := by
  unfold make at h
  split at h
  · simp at h; omega
  · split at h <;> simp at h <;> omega
theorem make_range (u d : Int) : (-1073741824 ≤ (make u d).1 ∧ (make u d).1 ≤ 1073741824) ∧ (-1073741824 ≤ (make u d).2.1 ∧ (make u d).2.1 ≤ 1073741824) ∧ (0 ≤ (make u d).2.2 ∧ (make u d).2.2 ≤ 4) := by
  unfold make
  split
  · simp
  · split
    · rename_i h
      simp only [Bool.and_eq_true, smallB_iff] at h
      simp only
      omega
    · simp

theorem plus_comm (a b c d : Int) : plus a b c d = plus c d a b := by
  unfold plus
  rw [Bool.and_comm, Int.add_comm, Int.mul_comm b d]
theorem times_comm (a b c d : Int) : times a b c d = times c d a b := by
  unfold times
  rw [Bool.and_comm, Int.mul_comm a, Int.mul_comm b d]

theorem plus_ok {a b c d p q : Int} (h : plus a b c d = (p, q, 0)) : rightB a b = true ∧ rightB c d = true ∧ rightB p q = true ∧ (a * d + c * b) * q = p * (b * d) := by
  unfold plus at h
  split at h
  · rename_i hr
    simp only [Bool.and_eq_true] at hr
    have := make_ok h
    exact ⟨hr.1, hr.2, this.2.1, this.2.2⟩
  · simp at h
theorem minus_ok {a b c d p q : Int} (h : minus a b c d = (p, q, 0)) : rightB a b = true ∧ rightB c d = true ∧ rightB p q = true ∧ (a * d - c * b) * q = p * (b * d) := by
  unfold minus at h
  split at h
  · rename_i hr
    simp only [Bool.and_eq_true] at hr
    have := make_ok h
    exact ⟨hr.1, hr.2, this.2.1, this.2.2⟩
  · simp at h
theorem times_ok {a b c d p q : Int} (h : times a b c d = (p, q, 0)) : rightB a b = true ∧ rightB c d = true ∧ rightB p q = true ∧ (a * c) * q = p * (b * d) := by
  unfold times at h
  split at h
  · rename_i hr
    simp only [Bool.and_eq_true] at hr
    have := make_ok h
    exact ⟨hr.1, hr.2, this.2.1, this.2.2⟩
  · simp at h
theorem over_ok {a b c d p q : Int} (h : over a b c d = (p, q, 0)) : rightB a b = true ∧ rightB c d = true ∧ rightB p q = true ∧ (a * d) * q = p * (b * c) := by
  unfold over at h
  split at h
  · rename_i hr
    simp only [Bool.and_eq_true] at hr
    split at h
    · have := make_ok h
      exact ⟨hr.1, hr.2, this.2.1, by have := this.2.2; grind⟩
    · have := make_ok h
      exact ⟨hr.1, hr.2, this.2.1, this.2.2⟩
  · simp at h
theorem plus_of {a b c d : Int} (h1 : rightB a b = true) (h2 : rightB c d = true) : plus a b c d = make (a * d + c * b) (b * d) := by simp [plus, h1, h2]
theorem times_of {a b c d : Int} (h1 : rightB a b = true) (h2 : rightB c d = true) : times a b c d = make (a * c) (b * d) := by simp [times, h1, h2]

theorem pos_of {a b : Int} (h : rightB a b = true) : 1 ≤ b := by have := (rightB_iff.1 h).1; omega
theorem mul_one_le {a b : Int} (h : 1 ≤ a) (k : 1 ≤ b) : 1 ≤ a * b := by have := Int.mul_pos (a := a) (b := b) (by omega) (by omega); omega

theorem plus_assoc {a b c d e f p q r s : Int} (h1 : plus a b c d = (p, q, 0)) (h2 : plus c d e f = (r, s, 0)) : plus p q e f = plus a b r s := by
  obtain ⟨x1, x2, x3, x4⟩ := plus_ok h1
  obtain ⟨y1, y2, y3, y4⟩ := plus_ok h2
  rw [plus_of x3 y2, plus_of x1 y3]
  have p1 := pos_of x1; have p2 := pos_of x2; have p3 := pos_of y2; have p4 := pos_of x3; have p5 := pos_of y3
  refine make_congr (mul_one_le p4 p3) (mul_one_le p1 p5) (mul_cancel (z := d) (by omega) ?_)
  grind
theorem times_assoc {a b c d e f p q r s : Int} (h1 : times a b c d = (p, q, 0)) (h2 : times c d e f = (r, s, 0)) : times p q e f = times a b r s := by
  obtain ⟨x1, x2, x3, x4⟩ := times_ok h1
  obtain ⟨y1, y2, y3, y4⟩ := times_ok h2
  rw [times_of x3 y2, times_of x1 y3]
  have p1 := pos_of x1; have p2 := pos_of x2; have p3 := pos_of y2; have p4 := pos_of x3; have p5 := pos_of y3
  refine make_congr (mul_one_le p4 p3) (mul_one_le p1 p5) (mul_cancel (z := d) (by omega) ?_)
  grind
theorem times_plus {a b c d e f p q r s u v : Int} (h1 : plus c d e f = (p, q, 0)) (h2 : times a b c d = (r, s, 0)) (h3 : times a b e f = (u, v, 0)) :
    times a b p q = plus r s u v := by
  obtain ⟨x1, x2, x3, x4⟩ := plus_ok h1
  obtain ⟨y1, y2, y3, y4⟩ := times_ok h2
  obtain ⟨z1, z2, z3, z4⟩ := times_ok h3
  rw [times_of y1 x3, plus_of y3 z3]
  have p1 := pos_of y1; have p2 := pos_of x1; have p3 := pos_of x2; have p4 := pos_of x3; have p5 := pos_of y3; have p6 := pos_of z3
  refine make_congr (mul_one_le p1 p4) (mul_one_le p5 p6) (mul_cancel (z := b * d * f) (Int.mul_pos (Int.mul_pos (by omega) (by omega)) (by omega)) ?_)
  grind
theorem over_back {a b c d p q : Int} (h : over a b c d = (p, q, 0)) : times p q c d = (a, b, 0) := by
  obtain ⟨x1, x2, x3, x4⟩ := over_ok h
  rw [times_of x3 x2]
  exact make_of (mul_one_le (pos_of x3) (pos_of x2)) x1 (by grind)
theorem minus_back {a b c d p q : Int} (h : minus a b c d = (p, q, 0)) : plus p q c d = (a, b, 0) := by
  obtain ⟨x1, x2, x3, x4⟩ := minus_ok h
  rw [plus_of x3 x2]
  have p2 := pos_of x2
  refine make_of (mul_one_le (pos_of x3) (pos_of x2)) x1 (mul_cancel (z := d) (by omega) ?_)
  grind

/-! The floor and the order. -/
theorem signI_lt {n : Int} (h : n < 0) : signI n = -1 := by unfold signI; rw [if_pos h]
theorem signI_gt {n : Int} (h : 0 < n) : signI n = 1 := by unfold signI; rw [if_neg (by omega), if_pos h]
theorem signI_eq {n : Int} (h : n = 0) : signI n = 0 := by subst h; rfl
theorem tmod_neg {a b : Int} (hb : 1 ≤ b) (h : a.tmod b < 0) : a.tdiv b - 1 = a / b := by
  have h1 := Int.tdiv_eq_ediv (a := a) (b := b)
  have h2 := Int.tmod_eq_emod (a := a) (b := b)
  have h3 := Int.emod_nonneg a (show b ≠ 0 by omega)
  have h4 : b.sign = 1 := Int.sign_eq_one_of_pos (by omega)
  split at h1
  · rename_i c; rw [if_pos c] at h2; omega
  · omega
theorem tmod_nonneg {a b : Int} (hb : 1 ≤ b) (h : 0 ≤ a.tmod b) : a.tdiv b = a / b := by
  have h1 := Int.tdiv_eq_ediv (a := a) (b := b)
  have h2 := Int.tmod_eq_emod (a := a) (b := b)
  have h3 := Int.emod_lt_of_pos a (show 0 < b by omega)
  split at h1
  · omega
  · rename_i c; rw [if_neg c] at h2; omega
theorem signI_neg (n : Int) : signI (-n) = -signI n := by unfold signI; grind
theorem signI_range (n : Int) : -1 ≤ signI n ∧ signI n ≤ 1 := by unfold signI; grind
theorem signI_zero {n : Int} : signI n = 0 ↔ n = 0 := by unfold signI; grind
theorem signI_mul {n k : Int} (hk : 0 < k) : signI (n * k) = signI n := by
  unfold signI
  rcases Int.lt_trichotomy n 0 with h | h | h
  · have := Int.mul_neg_of_neg_of_pos h hk; grind
  · subst h; simp
  · have := Int.mul_pos h hk; grind
theorem order_of {a b c d : Int} (h1 : rightB a b = true) (h2 : rightB c d = true) : order a b c d = (signI (a * d - c * b), 0) := by simp [order, h1, h2]
theorem order_ok {a b c d o : Int} (h : order a b c d = (o, 0)) : rightB a b = true ∧ rightB c d = true ∧ o = signI (a * d - c * b) := by
  unfold order at h
  split at h
  · rename_i hr
    simp only [Bool.and_eq_true] at hr
    simp at h
    exact ⟨hr.1, hr.2, h.symm⟩
  · simp at h
theorem order_flip (a b c d : Int) : order c d a b = (-(order a b c d).1, (order a b c d).2) := by
  unfold order
  rw [Bool.and_comm]
  split
  · rw [← signI_neg]; simp; congr 1; omega
  · simp
theorem order_zero {a b c d : Int} (h : order a b c d = (0, 0)) : a = c ∧ b = d := by
  obtain ⟨h1, h2, h3⟩ := order_ok h
  have h4 := signI_zero.1 h3.symm
  obtain ⟨r1, r2, r3, r4, r5⟩ := rightB_iff.1 h1
  obtain ⟨s1, s2, s3, s4, s5⟩ := rightB_iff.1 h2
  exact lowest r1 s1 r5 s5 (by omega)
theorem order_self {a b : Int} (h : rightB a b = true) : order a b a b = (0, 0) := by simp [order, h, signI]
theorem order_plus {a b c d e f p q r s o : Int} (h : order a b c d = (o, 0)) (h1 : plus a b e f = (p, q, 0)) (h2 : plus c d e f = (r, s, 0)) : order p q r s = (o, 0) := by
  obtain ⟨k1, k2, rfl⟩ := order_ok h
  obtain ⟨x1, x2, x3, x4⟩ := plus_ok h1
  obtain ⟨y1, y2, y3, y4⟩ := plus_ok h2
  rw [order_of x3 y3]
  have p1 := pos_of x1; have p2 := pos_of x2; have p3 := pos_of y1; have p4 := pos_of x3; have p5 := pos_of y3
  have hA : 0 < b * f * (d * f) := Int.mul_pos (Int.mul_pos (by omega) (by omega)) (Int.mul_pos (by omega) (by omega))
  have hB : 0 < q * s * (f * f) := Int.mul_pos (Int.mul_pos (by omega) (by omega)) (Int.mul_pos (by omega) (by omega))
  rw [← signI_mul (n := p * s - r * q) hA, ← signI_mul (n := a * d - c * b) hB]
  have : (p * s - r * q) * (b * f * (d * f)) = (a * d - c * b) * (q * s * (f * f)) := by grind
  rw [this]
theorem one_right {n : Int} (h1 : -1073741824 ≤ n) (h2 : n ≤ 1073741824) : rightB n 1 = true := rightB_iff.2 ⟨by omega, by omega, h1, h2, by simp [g]⟩
theorem floor_range {a b : Int} (h : rightB a b = true) : -1073741824 ≤ a / b ∧ a / b ≤ 1073741824 := by
  obtain ⟨r1, r2, r3, r4, r5⟩ := rightB_iff.1 h
  constructor
  · rw [Int.le_ediv_iff_mul_le r1]; omega
  · refine Int.le_trans (Int.ediv_le_ediv r1 r4) (Int.ediv_le_self _ (by omega))
theorem floor_le {a b : Int} (h : rightB a b = true) : ∃ o, order (a / b) 1 a b = (o, 0) ∧ o ≤ 0 := by
  obtain ⟨f1, f2⟩ := floor_range h
  obtain ⟨r1, r2, r3, r4, r5⟩ := rightB_iff.1 h
  refine ⟨_, order_of (one_right f1 f2) h, ?_⟩
  have := Int.ediv_mul_le a (b := b) (by omega)
  unfold signI
  grind
theorem floor_lt {a b : Int} (h : rightB a b = true) (hk : a / b + 1 ≤ 1073741824) : order (a / b + 1) 1 a b = (1, 0) := by
  obtain ⟨f1, f2⟩ := floor_range h
  obtain ⟨r1, r2, r3, r4, r5⟩ := rightB_iff.1 h
  rw [order_of (one_right (by omega) hk) h]
  have := Int.lt_ediv_add_one_mul_self a (b := b) (by omega)
  unfold signI
  grind
end Go.Proofs.Ytccpefbfjahfnaa.Fr
