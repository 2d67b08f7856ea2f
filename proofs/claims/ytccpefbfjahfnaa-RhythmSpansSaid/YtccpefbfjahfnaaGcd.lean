/-
  The plain arithmetic of greatest common divisors: Euclid's way, the binary way. No program in sight.
-/
namespace Go.Proofs.Ytccpefbfjahfnaa.Gcd

/-- The greatest common divisor, as an integer. -/
def g (a b : Int) : Int := (Int.gcd a b : Int)

theorem g_pos {a b : Int} (h : 0 < b) : 1 ≤ g a b := by
  unfold g
  have : 0 < Int.gcd a b := Int.gcd_pos_of_ne_zero_right a (by omega)
  omega
theorem g_le {a b : Int} (h : 0 < b) : g a b ≤ b := by
  unfold g
  exact Int.le_of_dvd h (Int.gcd_dvd_right a b)
theorem g_dvd_left (a b : Int) : g a b ∣ a := Int.gcd_dvd_left a b
theorem g_dvd_right (a b : Int) : g a b ∣ b := Int.gcd_dvd_right a b
theorem g_zero {a b : Int} (h : b = 0) : g a b = a.natAbs := by subst h; simp [g]
theorem g_tmod (a b : Int) : g b (a.tmod b) = g a b := by
  unfold g
  congr 1
  simp only [Int.gcd, Int.natAbs_tmod]
  rw [Nat.gcd_comm b.natAbs, ← Nat.gcd_rec, Nat.gcd_comm]
theorem g_comm (a b : Int) : g a b = g b a := by unfold g; rw [Int.gcd_comm]
theorem g_neg_left (a b : Int) : g (-a) b = g a b := by unfold g; rw [Int.neg_gcd]
theorem g_abs_left (a b : Int) : g (if a < 0 then -a else a) b = g a b := by split <;> simp [g_neg_left]
theorem g_sub_left (a b : Int) : g (a - b) b = g a b := by unfold g; rw [Int.gcd_sub_self_left]
theorem g_sub_right (a b : Int) : g a (b - a) = g a b := by rw [g_comm, g_sub_left, g_comm]
theorem g_self {a : Int} (h : 0 ≤ a) : g a a = a := by unfold g; simp; omega
theorem g_two (a b : Int) : g (2 * a) (2 * b) = 2 * g a b := by unfold g; rw [Int.gcd_mul_left]; simp
theorem g_even_even {a b : Int} (ha : a % 2 = 0) (hb : b % 2 = 0) : 2 * g (a / 2) (b / 2) = g a b := by
  rw [← g_two, Int.mul_ediv_cancel' (by omega), Int.mul_ediv_cancel' (by omega)]
theorem g_even_odd {a b : Int} (ha : a % 2 = 0) (hb : b % 2 ≠ 0) : g (a / 2) b = g a b := by
  have h1 : a = 2 * (a / 2) := by omega
  have h2 : Nat.Coprime b.natAbs 2 := by
    have : b.natAbs % 2 = 1 := by omega
    rw [Nat.coprime_iff_gcd_eq_one, Nat.gcd_comm, Nat.gcd_rec, this, Nat.gcd_one_left]
  unfold g
  congr 1
  conv => rhs; rw [h1]
  simp only [Int.gcd, Int.natAbs_mul]
  rw [show (2 : Int).natAbs = 2 from rfl]
  exact (Nat.Coprime.gcd_mul_left_cancel _ h2.symm).symm
theorem g_odd_even {a b : Int} (ha : a % 2 ≠ 0) (hb : b % 2 = 0) : g a (b / 2) = g a b := by
  rw [g_comm, g_even_odd hb ha, g_comm]

/-- One loop's relation of the binary way: the pairs are halved together. -/
def twin (a b : Int) (t : Nat) (G : Int) : Prop := 0 < a ∧ 0 < b ∧ 2 ^ t * g a b = G
theorem twin_half {a b : Int} {t : Nat} {G : Int} (h : twin a b t G) (ha : a % 2 = 0) (hb : b % 2 = 0) : twin (a / 2) (b / 2) (t + 1) G :=
  ⟨by have := h.1; omega, by have := h.2.1; omega, by
    have := h.2.2
    rw [← g_even_even ha hb, ← Int.mul_assoc] at this
    rw [Int.pow_succ]; exact this⟩
theorem g_one_le_pow (t : Nat) : (1 : Int) ≤ 2 ^ t := by
  have h : 1 ≤ 2 ^ t := Nat.one_le_two_pow
  calc (1 : Int) ≤ ((2 ^ t : Nat) : Int) := by omega
    _ = 2 ^ t := by simp
theorem twin_k {a b : Int} {t : Nat} {G : Int} (h : twin a b t G) : (t : Int) < G ∧ g a b ≤ G := by
  obtain ⟨h1, h2, h3⟩ := h
  have hg := g_pos (a := a) h2
  have h4 : t < 2 ^ t := Nat.lt_two_pow_self
  have h5 : (t : Int) < 2 ^ t := by
    have : ((t : Nat) : Int) < ((2 ^ t : Nat) : Int) := by omega
    simpa using this
  have h6 : (2 : Int) ^ t * 1 ≤ 2 ^ t * g a b := Int.mul_le_mul_of_nonneg_left hg (by omega)
  have h7 : (1 : Int) * g a b ≤ 2 ^ t * g a b := Int.mul_le_mul_of_nonneg_right (by omega) (by omega)
  omega

/-- The second loop's: pairs that are not both even. -/
def single (G : Int) (x y : Int) : Prop := 0 < x ∧ 0 < y ∧ g x y = G ∧ ¬ (x % 2 = 0 ∧ y % 2 = 0)
theorem single_left {G x y : Int} (h : single G x y) (hx : x % 2 = 0) : single G (x / 2) y := by
  obtain ⟨h1, h2, h3, h4⟩ := h
  exact ⟨by omega, h2, by rw [g_even_odd hx (by omega)]; exact h3, by omega⟩
theorem single_right {G x y : Int} (h : single G x y) (hx : x % 2 ≠ 0) (hy : y % 2 = 0) : single G x (y / 2) := by
  obtain ⟨h1, h2, h3, h4⟩ := h
  exact ⟨h1, by omega, by rw [g_odd_even hx hy]; exact h3, by omega⟩
theorem single_less {G x y : Int} (h : single G x y) (_hx : x % 2 ≠ 0) (_hy : y % 2 ≠ 0) (hl : y < x) : single G (x - y) y := by
  obtain ⟨h1, h2, h3, h4⟩ := h
  exact ⟨by omega, h2, by rw [g_sub_left]; exact h3, by omega⟩
theorem single_more {G x y : Int} (h : single G x y) (_hx : x % 2 ≠ 0) (_hy : y % 2 ≠ 0) (hl : x < y) : single G x (y - x) := by
  obtain ⟨h1, h2, h3, h4⟩ := h
  exact ⟨h1, by omega, by rw [g_sub_right]; exact h3, by omega⟩
theorem single_end {G x : Int} (h : single G x x) : x = G := by
  obtain ⟨h1, h2, h3, h4⟩ := h
  rw [← h3, g_self (by omega)]

/-- The third loop's: what is doubled. -/
def doubled (G : Int) (x : Int) (t : Nat) : Prop := 0 < x ∧ 2 ^ t * x = G
theorem doubled_le {G x : Int} {t : Nat} (h : doubled G x t) : x ≤ G ∧ (0 < t → 2 * x ≤ G) := by
  obtain ⟨h1, h2⟩ := h
  have h6 : (1 : Int) * x ≤ 2 ^ t * x := Int.mul_le_mul_of_nonneg_right (g_one_le_pow t) (by omega)
  refine ⟨by omega, fun ht => ?_⟩
  obtain ⟨s, rfl⟩ : ∃ s, t = s + 1 := ⟨t - 1, by omega⟩
  have h7 : (1 : Int) * (2 * x) ≤ 2 ^ s * (2 * x) := Int.mul_le_mul_of_nonneg_right (g_one_le_pow s) (by omega)
  rw [Int.pow_succ, Int.mul_assoc] at h2
  omega
theorem doubled_step {G x : Int} {t : Nat} (h : doubled G x (t + 1)) : doubled G (2 * x) t := by
  obtain ⟨h1, h2⟩ := h
  exact ⟨by omega, by rw [Int.pow_succ, Int.mul_assoc] at h2; exact h2⟩
theorem doubled_end {G x : Int} (h : doubled G x 0) : x = G := by
  obtain ⟨h1, h2⟩ := h
  simpa using h2
theorem doubled_of {a b : Int} {t : Nat} {G x : Int} (h : twin a b t G) (hx : x = g a b) : doubled G x t := by
  have := g_pos (a := a) h.2.1
  exact ⟨by omega, by rw [hx]; exact h.2.2⟩

/-- What the loop of Euclid keeps. -/
def euclid (G : Int) (x y : Int) : Prop :=
  -9223372036854775807 ≤ y ∧ y ≤ 9223372036854775807 ∧ -9223372036854775808 ≤ x ∧ x ≤ 9223372036854775807 ∧ g x y = G ∧ (y = 0 → -9223372036854775808 < x)
theorem tmod_abs (x y : Int) (hy : y ≠ 0) : (x.tmod y).natAbs < y.natAbs := by
  rw [Int.natAbs_tmod]; exact Nat.mod_lt _ (by omega)
theorem euclid_step {G x y : Int} (h : euclid G x y) (hy : y ≠ 0) : euclid G y (x.tmod y) := by
  obtain ⟨h1, h2, h3, h4, h5, h6⟩ := h
  have := tmod_abs x y hy
  exact ⟨by omega, by omega, by omega, by omega, by rw [g_tmod]; exact h5, by omega⟩
theorem euclid_end {G x y : Int} (h : euclid G x y) (hy : y = 0) : max x (-x) = G ∧ -9223372036854775808 < x := by
  obtain ⟨h1, h2, h3, h4, h5, h6⟩ := h
  rw [g_zero hy] at h5
  exact ⟨by omega, h6 hy⟩

end Go.Proofs.Ytccpefbfjahfnaa.Gcd
