/-
  PLAIN: ratios of powers of three and two. No program in sight.
-/
import Derived.Test.YtdboencinnlebaaFrac
import Derived.Test.YtdboencinnlebaaPitch
import Derived.Lib.Hide
namespace Go.Proofs.Ytdboencinnlebaa.Tu
open Go

def num (f t : Int) : Int := 3 ^ f.toNat * 2 ^ t.toNat
def ratio (s h : Int) : Int × Int × Int :=
  if Pi.withinB s h then Fr.make (num (7 * h - 12 * s) (19 * s - 11 * h)) (num (-(7 * h - 12 * s)) (-(19 * s - 11 * h))) else (0, 0, 3)

theorem num_pos (f t : Int) : 1 ≤ num f t := by
  have h1 : (0 : Int) < 3 ^ f.toNat := Int.pow_pos (by omega)
  have h2 : (0 : Int) < 2 ^ t.toNat := Int.pow_pos (by omega)
  have := Int.mul_pos h1 h2
  unfold num; omega

/-- 'm' of 'n' factors b are still to come; u0 times those that have come is u. -/
def Part (b u0 : Int) (n : Nat) (u : Int) (m : Nat) : Prop := ∃ k : Nat, u = u0 * b ^ k ∧ k + m = n ∧ 1 ≤ u ∧ u ≤ 3221225472
theorem Part.start {b u0 : Int} {n : Nat} (h : 1 ≤ u0 ∧ u0 ≤ 3221225472) : Part b u0 n u0 n := ⟨0, by simp, by omega, h.1, h.2⟩
theorem Part.step {b u0 u : Int} {n m : Nat} (hb : b = 2 ∨ b = 3) (h : Part b u0 n u (m + 1)) (hu : u ≤ 1073741824) : Part b u0 n (u * b) m := by
  obtain ⟨k, h1, h2, h3, h4⟩ := h
  refine ⟨k + 1, by rw [h1, Int.pow_succ, Int.mul_assoc], by omega, ?_, ?_⟩
  · rcases hb with rfl | rfl <;> omega
  · rcases hb with rfl | rfl <;> omega
theorem Part.bd {b u0 u : Int} {n m : Nat} (h : Part b u0 n u m) : 1 ≤ u ∧ u ≤ 3221225472 := by obtain ⟨_, _, _, h⟩ := h; exact h
theorem le_mul_pow {u b : Int} (hu : 1 ≤ u) (hb : 1 ≤ b) (k : Nat) : u ≤ u * b ^ k := by
  have : (0 : Int) < b ^ k := Int.pow_pos (by omega)
  have h := Int.mul_le_mul_of_nonneg_left (show (1 : Int) ≤ b ^ k by omega) (show 0 ≤ u by omega)
  omega

theorem part_one {f f1 t : Int} {u : Int} (h : Part 3 1 f.toNat u f1.toNat) : 3 ^ f.toNat * 2 ^ t.toNat = u * 3 ^ f1.toNat * 2 ^ t.toNat := by
  obtain ⟨k, h1, h2, _⟩ := h
  rw [h1, Int.one_mul, ← Int.pow_add, h2]
/-- What the loops leave of a part: the exact one, or too much. -/
theorem part_end {f f1 t t1 u1 u : Int} (h1 : Part 3 1 f.toNat u1 f1.toNat) (h2 : Part 2 u1 t.toNat u t1.toNat) (e1 : ¬ (0 < f1 ∧ u1 ≤ 1073741824)) (e2 : ¬ (0 < t1 ∧ u ≤ 1073741824)) :
    u = num f t ∨ (1073741824 < u ∧ u ≤ num f t) := by
  have hN := part_one (t := t) h1
  obtain ⟨k2, g1, g2, g3, g4⟩ := h2
  have b1 := h1.bd
  by_cases c1 : u1 ≤ 1073741824
  · have z1 : f1.toNat = 0 := by omega
    rw [z1, Int.pow_zero, Int.mul_one] at hN
    by_cases c2 : u ≤ 1073741824
    · left
      have z2 : t1.toNat = 0 := by omega
      rw [num, hN, g1, show t.toNat = k2 by omega]
    · right
      refine ⟨by omega, ?_⟩
      rw [num, hN, show t.toNat = k2 + t1.toNat by omega, Int.pow_add, ← Int.mul_assoc, ← g1]
      exact le_mul_pow g3 (by omega) _
  · right
    have hu : u1 ≤ u := by rw [g1]; exact le_mul_pow b1.1 (by omega) _
    refine ⟨by omega, ?_⟩
    rw [num, hN, show t.toNat = k2 + t1.toNat by omega, Int.pow_add, ← Int.mul_assoc, Int.mul_right_comm u1, ← g1]
    have a1 := le_mul_pow g3 (b := 3) (by omega) f1.toNat
    have a2 := le_mul_pow (u := u * 3 ^ f1.toNat) (b := 2) (by omega) (by omega) t1.toNat
    omega

/-- Whatever factors have come: a part with threes has none below it, and so with twos. -/
theorem cop {a b c d : Nat} (h1 : a = 0 ∨ c = 0) (h2 : b = 0 ∨ d = 0) : Gcd.g (3 ^ a * 2 ^ b) (3 ^ c * 2 ^ d) = 1 := by
  have hn : Nat.Coprime (3 ^ a * 2 ^ b) (3 ^ c * 2 ^ d) := by
    have h32 : Nat.Coprime 3 2 := by decide
    refine Nat.Coprime.mul_left (Nat.Coprime.mul_right ?_ (Nat.Coprime.pow _ _ h32)) (Nat.Coprime.mul_right (Nat.Coprime.pow _ _ h32.symm) ?_)
    · rcases h1 with rfl | rfl <;> simp
    · rcases h2 with rfl | rfl <;> simp
  unfold Gcd.g
  rw [show ((3 : Int) ^ a * 2 ^ b) = ((3 ^ a * 2 ^ b : Nat) : Int) by simp, show ((3 : Int) ^ c * 2 ^ d) = ((3 ^ c * 2 ^ d : Nat) : Int) by simp, Int.gcd_natCast_natCast, hn]
  rfl
theorem part_form {f f1 t t1 u1 u : Int} (h1 : Part 3 1 f.toNat u1 f1.toNat) (h2 : Part 2 u1 t.toNat u t1.toNat) : ∃ a b : Nat, u = 3 ^ a * 2 ^ b ∧ a ≤ f.toNat ∧ b ≤ t.toNat := by
  obtain ⟨k1, p1, p2, _⟩ := h1
  obtain ⟨k2, q1, q2, _⟩ := h2
  exact ⟨k1, k2, by rw [q1, p1, Int.one_mul], by omega, by omega⟩

theorem make_cop {u d : Int} (hd : 1 ≤ d) (c : Gcd.g u d = 1) : Fr.make u d = if Fr.smallB u && Fr.smallB d then (u, d, 0) else (0, 0, 4) := by
  unfold Fr.make
  rw [if_neg (show ¬ d < 1 by omega), c, Int.ediv_one, Int.ediv_one]
theorem make_same {f t u d : Int} (hu : u = num f t ∨ (1073741824 < u ∧ u ≤ num f t)) (hd : d = num (-f) (-t) ∨ (1073741824 < d ∧ d ≤ num (-f) (-t)))
    (fu : ∃ a b : Nat, u = 3 ^ a * 2 ^ b ∧ a ≤ f.toNat ∧ b ≤ t.toNat) (fd : ∃ a b : Nat, d = 3 ^ a * 2 ^ b ∧ a ≤ (-f).toNat ∧ b ≤ (-t).toNat) : Fr.make u d = Fr.make (num f t) (num (-f) (-t)) := by
  obtain ⟨a, b, eu, ha, hb⟩ := fu
  obtain ⟨a', b', ed, ha', hb'⟩ := fd
  have c1 : Gcd.g u d = 1 := by rw [eu, ed]; exact cop (by omega) (by omega)
  have c2 : Gcd.g (num f t) (num (-f) (-t)) = 1 := cop (by omega) (by omega)
  have hd1 : 1 ≤ d := by
    have := num_pos (-f) (-t)
    omega
  rcases hu with hu | hu
  · rcases hd with hd | hd
    · rw [hu, hd]
    · have n1 : Fr.smallB d = false := by rw [← Bool.not_eq_true, Fr.smallB_iff]; omega
      have n2 : Fr.smallB (num (-f) (-t)) = false := by rw [← Bool.not_eq_true, Fr.smallB_iff]; omega
      rw [make_cop hd1 c1, make_cop (num_pos _ _) c2]
      simp [n1, n2]
  · have n1 : Fr.smallB u = false := by rw [← Bool.not_eq_true, Fr.smallB_iff]; omega
    have n2 : Fr.smallB (num f t) = false := by rw [← Bool.not_eq_true, Fr.smallB_iff]; omega
    rw [make_cop hd1 c1, make_cop (num_pos _ _) c2]
    simp [n1, n2]

/-! ### the law -/
theorem ratio_one : ratio 4 7 = (3, 2, 0) := by
  unfold ratio
  rw [if_pos (by decide)]
  exact Fr.make_of (by decide) (by decide) (by decide)
theorem ratio_octave : ratio 7 12 = (2, 1, 0) := by
  unfold ratio
  rw [if_pos (by decide)]
  exact Fr.make_of (by decide) (by decide) (by decide)
theorem within_neg {s h : Int} : Pi.withinB (-s) (-h) = Pi.withinB s h := by
  rw [Bool.eq_iff_iff, Pi.withinB_iff, Pi.withinB_iff]; omega
theorem pow_same {A a a' B b b' C c c' D d d' : Nat} (h1 : A + (a + a') = (b + b') + B) (h2 : C + (c + c') = (d + d') + D) :
    ((3 : Int) ^ A * 2 ^ C) * ((3 ^ a * 2 ^ c) * (3 ^ a' * 2 ^ c')) = ((3 ^ b * 2 ^ d) * (3 ^ b' * 2 ^ d')) * (3 ^ B * 2 ^ D) := by
  have e1 : ((3 : Int) ^ A * 2 ^ C) * ((3 ^ a * 2 ^ c) * (3 ^ a' * 2 ^ c')) = 3 ^ (A + (a + a')) * 2 ^ (C + (c + c')) := by
    rw [Int.pow_add, Int.pow_add, Int.pow_add, Int.pow_add]; ac_rfl
  have e2 : (((3 : Int) ^ b * 2 ^ d) * (3 ^ b' * 2 ^ d')) * (3 ^ B * 2 ^ D) = 3 ^ ((b + b') + B) * 2 ^ ((d + d') + D) := by
    rw [Int.pow_add, Int.pow_add, Int.pow_add, Int.pow_add]; ac_rfl
  rw [e1, e2, h1, h2]
theorem ratio_ok {s h u d : Int} (k : ratio s h = (u, d, 0)) : Pi.withinB s h = true ∧ Fr.make (num (7 * h - 12 * s) (19 * s - 11 * h)) (num (-(7 * h - 12 * s)) (-(19 * s - 11 * h))) = (u, d, 0) := by
  unfold ratio at k
  split at k
  · exact ⟨by assumption, k⟩
  · simp at k
/-- In lowest terms just the two parts. -/
theorem ratio_parts {s h u d : Int} (k : ratio s h = (u, d, 0)) : u = num (7 * h - 12 * s) (19 * s - 11 * h) ∧ d = num (-(7 * h - 12 * s)) (-(19 * s - 11 * h)) := by
  obtain ⟨_, k2⟩ := ratio_ok k
  obtain ⟨hd, hr, hx⟩ := Fr.make_ok k2
  have c2 : Gcd.g (num (7 * h - 12 * s) (19 * s - 11 * h)) (num (-(7 * h - 12 * s)) (-(19 * s - 11 * h))) = 1 := cop (by omega) (by omega)
  have hr' := Fr.rightB_iff.1 hr
  have := Fr.lowest (by omega) hr'.1 c2 hr'.2.2.2.2 hx
  exact ⟨this.1.symm, this.2.symm⟩
theorem ratio_neg {s h u d : Int} (k : ratio s h = (u, d, 0)) : ratio (-s) (-h) = (d, u, 0) := by
  obtain ⟨k1, k2⟩ := ratio_ok k
  obtain ⟨hu, hd⟩ := ratio_parts k
  obtain ⟨_, hr, _⟩ := Fr.make_ok k2
  have hr' := Fr.rightB_iff.1 hr
  have hup := num_pos (7 * h - 12 * s) (19 * s - 11 * h)
  unfold ratio
  rw [within_neg, if_pos k1, show 7 * -h - 12 * -s = -(7 * h - 12 * s) by omega, show 19 * -s - 11 * -h = -(19 * s - 11 * h) by omega, Int.neg_neg, Int.neg_neg, ← hu, ← hd]
  exact Fr.make_of (by omega) (Fr.rightB_iff.2 ⟨by omega, by omega, by omega, by omega, by rw [Gcd.g_comm]; exact hr'.2.2.2.2⟩) rfl
theorem ratio_sum {s h s' h' S H u d u' d' : Int} (k1 : ratio s h = (u, d, 0)) (k2 : ratio s' h' = (u', d', 0)) (k3 : Pi.sum s h s' h' = (S, H, 0)) : ratio S H = Fr.times u d u' d' := by
  obtain ⟨a1, a2⟩ := ratio_ok k1
  obtain ⟨b1, b2⟩ := ratio_ok k2
  obtain ⟨hu, hd⟩ := ratio_parts k1
  obtain ⟨hu', hd'⟩ := ratio_parts k2
  obtain ⟨_, hr, _⟩ := Fr.make_ok a2
  obtain ⟨_, hr', _⟩ := Fr.make_ok b2
  unfold Pi.sum at k3
  split at k3
  · rename_i hw
    simp only [Bool.and_eq_true] at hw
    simp only [Prod.mk.injEq, and_true] at k3
    obtain ⟨rfl, rfl⟩ := k3
    rw [Fr.times_of hr hr']
    unfold ratio
    rw [if_pos hw.2]
    refine Fr.make_congr (num_pos _ _) (Fr.mul_one_le (by rw [hd]; exact num_pos _ _) (by rw [hd']; exact num_pos _ _)) ?_
    rw [hu, hd, hu', hd']
    unfold num
    generalize hA : 7 * (h + h') - 12 * (s + s') = F
    generalize hB : 19 * (s + s') - 11 * (h + h') = T
    generalize hC : 7 * h - 12 * s = F1
    generalize hD : 19 * s - 11 * h = T1
    generalize hE : 7 * h' - 12 * s' = F2
    generalize hG : 19 * s' - 11 * h' = T2
    rw [pow_same (B := (-F).toNat) (b := F1.toNat) (b' := F2.toNat) (D := (-T).toNat) (d := T1.toNat) (d' := T2.toNat) (by omega) (by omega)]
  · simp at k3

end Go.Proofs.Ytdboencinnlebaa.Tu
