/-
  PLAIN: marks: when they are wrong; twice the time of a tick. No program in sight.
-/
import Derived.Lib.Hide
namespace Go.Proofs.Ytinpnjiinadaeaa.Cl
open Go

/-- What is wrong with mark i. -/
def bad (A P : Nat → Int) (i : Nat) : Int :=
  if P i < 1 ∨ 65536 < P i ∨ A i < 0 ∨ 1048576 < A i then 3 else if (i = 0 ∧ A 0 ≠ 0) ∨ (0 < i ∧ A i ≤ A (i - 1)) then 8 else 0
def wrongFrom (A P : Nat → Int) : Nat → Nat → Int
  | 0, _ => 0
  | m + 1, i => if bad A P i = 0 then wrongFrom A P m (i + 1) else bad A P i
def wrong (n : Nat) (A P : Nat → Int) : Int := if n = 0 ∨ 256 < n then 5 else wrongFrom A P n 0

theorem wrongFrom_ok {A P : Nat → Int} : ∀ {m i : Nat}, wrongFrom A P m i = 0 ↔ ∀ k, k < m → bad A P (i + k) = 0
  | 0, i => by simp [wrongFrom]
  | m + 1, i => by
    unfold wrongFrom
    by_cases h : bad A P i = 0
    · rw [if_pos h, wrongFrom_ok]
      constructor
      · intro h1 k hk
        match k with
        | 0 => exact h
        | k + 1 => have := h1 k (by omega); rwa [show i + 1 + k = i + (k + 1) by omega] at this
      · intro h1 k hk
        have := h1 (k + 1) (by omega)
        rwa [show i + (k + 1) = i + 1 + k by omega] at this
    · rw [if_neg h]
      constructor
      · intro h1; exact absurd h1 h
      · intro h1; exact absurd (h1 0 (by omega)) h
theorem wrongFrom_on {A P : Nat → Int} {m i : Nat} (h : bad A P i = 0) : wrongFrom A P (m + 1) i = wrongFrom A P m (i + 1) := by rw [wrongFrom, if_pos h]
theorem wrongFrom_at {A P : Nat → Int} {m i : Nat} (h : bad A P i ≠ 0) : wrongFrom A P (m + 1) i = bad A P i := by rw [wrongFrom, if_neg h]
theorem bad_range {A P : Nat → Int} {i : Nat} (h : P i < 1 ∨ 65536 < P i ∨ A i < 0 ∨ 1048576 < A i) : bad A P i = 3 := by unfold bad; rw [if_pos h]
theorem bad_zero {A P : Nat → Int} (h : ¬ (P 0 < 1 ∨ 65536 < P 0 ∨ A 0 < 0 ∨ 1048576 < A 0)) : bad A P 0 = if A 0 = 0 then 0 else 8 := by
  unfold bad; rw [if_neg h]; by_cases h0 : A 0 = 0 <;> simp [h0]
theorem bad_pos {A P : Nat → Int} {i : Nat} (h : ¬ (P i < 1 ∨ 65536 < P i ∨ A i < 0 ∨ 1048576 < A i)) (hi : 0 < i) : bad A P i = if A i ≤ A (i - 1) then 8 else 0 := by
  unfold bad; rw [if_neg h]; have : ¬ i = 0 := by omega
  by_cases h0 : A i ≤ A (i - 1) <;> simp [h0, this, hi]
/-- Right marks. -/
structure Ok (n : Nat) (A P : Nat → Int) : Prop where
  pos : 1 ≤ n
  le : n ≤ 256
  pace : ∀ i, i < n → 1 ≤ P i ∧ P i ≤ 65536
  at_ : ∀ i, i < n → 0 ≤ A i ∧ A i ≤ 1048576
  zero : A 0 = 0
  rises : ∀ i, i + 1 < n → A i < A (i + 1)
theorem ok_of {n : Nat} {A P : Nat → Int} (h : wrong n A P = 0) : Ok n A P := by
  unfold wrong at h
  split at h
  · omega
  · rename_i hn
    have hb : ∀ i, i < n → bad A P i = 0 := fun i hi => by have := wrongFrom_ok.1 h i hi; rwa [Nat.zero_add] at this
    have hr : ∀ i, i < n → ¬ (P i < 1 ∨ 65536 < P i ∨ A i < 0 ∨ 1048576 < A i) ∧ ¬ ((i = 0 ∧ A 0 ≠ 0) ∨ (0 < i ∧ A i ≤ A (i - 1))) := fun i hi => by
      have := hb i hi
      unfold bad at this
      split at this
      · omega
      · split at this
        · omega
        · exact ⟨by assumption, by assumption⟩
    refine ⟨by omega, by omega, fun i hi => ?_, fun i hi => ?_, ?_, fun i hi => ?_⟩
    · have := (hr i hi).1; omega
    · have := (hr i hi).1; omega
    · have := (hr 0 (by omega)).2
      by_cases h0 : A 0 = 0
      · exact h0
      · exact absurd (Or.inl ⟨rfl, h0⟩) this
    · have := (hr (i + 1) hi).2
      have h1 : ¬ A (i + 1) ≤ A (i + 1 - 1) := fun h => this (Or.inr ⟨by omega, h⟩)
      rw [show i + 1 - 1 = i by omega] at h1
      omega
theorem wrong_of {n : Nat} {A P : Nat → Int} (h : Ok n A P) : wrong n A P = 0 := by
  have := h.pos; have := h.le
  unfold wrong
  rw [if_neg (by omega), wrongFrom_ok]
  intro k hk
  rw [Nat.zero_add]
  have hp := h.pace k hk
  have ha := h.at_ k hk
  unfold bad
  rw [if_neg (by omega), if_neg]
  rintro (⟨_, h0⟩ | ⟨h0, h1⟩)
  · exact h0 h.zero
  · have := h.rises (k - 1) (by omega)
    rw [show k - 1 + 1 = k by omega] at this
    omega

/-- Twice the time of so many ticks behind mark i. -/
def rs (n : Nat) (A P : Nat → Int) (R : Nat → Bool) (i : Nat) (t : Int) : Int :=
  if R i && decide (i + 1 < n) then (2 * P i * t * (A (i + 1) - A i) + (P (i + 1) - P i) * t * t) / (A (i + 1) - A i) else 2 * P i * t
/-- .. from mark i on, m marks being left behind it. -/
def twFrom (n : Nat) (A P : Nat → Int) (R : Nat → Bool) (x : Int) : Nat → Nat → Int
  | 0, i => rs n A P R i (x - A i)
  | m + 1, i => if x ≤ A (i + 1) then rs n A P R i (x - A i) else rs n A P R i (A (i + 1) - A i) + twFrom n A P R x m (i + 1)
def tw (n : Nat) (A P : Nat → Int) (R : Nat → Bool) (x : Int) : Int := twFrom n A P R x (n - 1) 0

theorem twFrom_on {n : Nat} {A P : Nat → Int} {R : Nat → Bool} {x : Int} {m i : Nat} (h : ¬ x ≤ A (i + 1)) : twFrom n A P R x (m + 1) i = rs n A P R i (A (i + 1) - A i) + twFrom n A P R x m (i + 1) := by
  rw [twFrom, if_neg h]
theorem twFrom_in {n : Nat} {A P : Nat → Int} {R : Nat → Bool} {x : Int} {m i : Nat} (h : x ≤ A (i + 1)) : twFrom n A P R x (m + 1) i = rs n A P R i (x - A i) := by
  rw [twFrom, if_pos h]
theorem mul_mono {a b c : Int} (h : a ≤ b) (hc : 0 ≤ c) : a * c ≤ b * c := Int.mul_le_mul_of_nonneg_right h hc
/-- In a piece, two units a tick at least. -/
theorem piece_rises {p q L s t : Int} (hp : 1 ≤ p) (hq : 1 ≤ q) (hL : 1 ≤ L) (h0 : 0 ≤ s) (h1 : s ≤ t) (h2 : t ≤ L) :
    (2 * p * s * L + (q - p) * s * s) / L + 2 * (t - s) ≤ (2 * p * t * L + (q - p) * t * t) / L := by
  rw [Int.le_ediv_iff_mul_le (by omega), Int.add_mul]
  have hx : (2 * p * s * L + (q - p) * s * s) / L * L ≤ 2 * p * s * L + (q - p) * s * s := Int.ediv_mul_le _ (by omega)
  -- the difference is (t - s) times something that is at least 2 L
  have hd : 2 * p * t * L + (q - p) * t * t - (2 * p * s * L + (q - p) * s * s) = (t - s) * (p * (2 * L - (s + t)) + q * (s + t)) := by grind
  have h3 : 1 * (2 * L - (s + t)) ≤ p * (2 * L - (s + t)) := mul_mono hp (by omega)
  have h4 : 1 * (s + t) ≤ q * (s + t) := mul_mono hq (by omega)
  have h5 : (2 * L) * (t - s) ≤ (p * (2 * L - (s + t)) + q * (s + t)) * (t - s) := mul_mono (by omega) (by omega)
  have h6 : (2 * L) * (t - s) = 2 * (t - s) * L := by grind
  rw [Int.mul_comm (p * _ + _) _] at h5
  omega
theorem rs_rises {n : Nat} {A P : Nat → Int} {R : Nat → Bool} (h : Ok n A P) {i : Nat} (hi : i < n) {s t : Int} (h0 : 0 ≤ s) (h1 : s ≤ t) (h2 : i + 1 < n → t ≤ A (i + 1) - A i) :
    rs n A P R i s + 2 * (t - s) ≤ rs n A P R i t := by
  have hp := h.pace i hi
  unfold rs
  split
  · rename_i hr
    simp only [Bool.and_eq_true, decide_eq_true_eq] at hr
    have hq := h.pace (i + 1) hr.2
    have hL := h.rises i hr.2
    exact piece_rises hp.1 hq.1 (by omega) h0 h1 (h2 hr.2)
  · have : 1 * (t - s) ≤ P i * (t - s) := mul_mono hp.1 (by omega)
    have e : 2 * P i * t - 2 * P i * s = 2 * (P i * (t - s)) := by grind
    omega
theorem rs_zero {n : Nat} {A P : Nat → Int} {R : Nat → Bool} (i : Nat) : rs n A P R i 0 = 0 := by unfold rs; split <;> simp
theorem rs_lo {n : Nat} {A P : Nat → Int} {R : Nat → Bool} (h : Ok n A P) {i : Nat} (hi : i < n) {t : Int} (h0 : 0 ≤ t) (h2 : i + 1 < n → t ≤ A (i + 1) - A i) : 2 * t ≤ rs n A P R i t := by
  have := rs_rises (R := R) h hi (s := 0) (Int.le_refl 0) h0 h2
  rw [rs_zero] at this
  omega
/-- Later is later. -/
theorem twFrom_rises {n : Nat} {A P : Nat → Int} {R : Nat → Bool} (h : Ok n A P) {x y : Int} (hxy : x ≤ y) : ∀ (m i : Nat), i + m + 1 = n → A i ≤ x → twFrom n A P R x m i + 2 * (y - x) ≤ twFrom n A P R y m i
  | 0, i, hi, hx => by
    unfold twFrom
    have := rs_rises (R := R) h (i := i) (by omega) (s := x - A i) (t := y - A i) (by omega) (by omega) (by omega)
    omega
  | m + 1, i, hi, hx => by
    unfold twFrom
    have hr := h.rises i (by omega)
    by_cases h1 : x ≤ A (i + 1)
    · rw [if_pos h1]
      by_cases h2 : y ≤ A (i + 1)
      · rw [if_pos h2]
        have := rs_rises (R := R) h (i := i) (by omega) (s := x - A i) (t := y - A i) (by omega) (by omega) (by omega)
        omega
      · rw [if_neg h2]
        have a := rs_rises (R := R) h (i := i) (by omega) (s := x - A i) (t := A (i + 1) - A i) (by omega) (by omega) (by omega)
        have b := twFrom_rises (R := R) h (x := A (i + 1)) (y := y) (by omega) m (i + 1) (by omega) (Int.le_refl _)
        have c : 0 ≤ twFrom n A P R (A (i + 1)) m (i + 1) := by
          unfold twFrom
          cases m with
          | zero => simp [rs_zero]
          | succ m => have := h.rises (i + 1) (by omega); simp only; rw [if_pos (by omega), Int.sub_self, rs_zero]; omega
        omega
    · rw [if_neg h1, if_neg (by omega)]
      have := twFrom_rises (R := R) h hxy m (i + 1) (by omega) (by omega)
      omega
theorem tw_rises {n : Nat} {A P : Nat → Int} {R : Nat → Bool} (h : Ok n A P) {x y : Int} (hx : 0 ≤ x) (hxy : x ≤ y) : tw n A P R x + 2 * (y - x) ≤ tw n A P R y := by
  have := h.pos
  exact twFrom_rises h hxy (n - 1) 0 (by omega) (by rw [h.zero]; exact hx)
theorem tw_zero {n : Nat} {A P : Nat → Int} {R : Nat → Bool} (h : Ok n A P) : tw n A P R 0 = 0 := by
  have hz := h.zero
  unfold tw twFrom
  cases hn : n - 1 with
  | zero => simp only [hz, Int.sub_self, rs_zero]
  | succ m =>
    have := h.rises 0 (by omega)
    simp only
    rw [if_pos (by rw [Nat.zero_add] at *; omega), hz, Int.sub_self, rs_zero]
theorem tw_lo {n : Nat} {A P : Nat → Int} {R : Nat → Bool} (h : Ok n A P) {x : Int} (hx : 0 ≤ x) : 2 * x ≤ tw n A P R x := by
  have := tw_rises (R := R) h (Int.le_refl 0) hx
  rw [tw_zero h] at this
  omega

/-! ### bounds -/
theorem piece_hi {p q L t : Int} (hp : 1 ≤ p ∧ p ≤ 65536) (hq : 1 ≤ q ∧ q ≤ 65536) (hL : 1 ≤ L) (h0 : 0 ≤ t) (h2 : t ≤ L) : (2 * p * t * L + (q - p) * t * t) / L ≤ 131072 * t := by
  have h1 : (2 * p * t * L + (q - p) * t * t) ≤ 131072 * t * L := by
    have e : 131072 * t * L - (2 * p * t * L + (q - p) * t * t) = t * ((65536 - p) * (2 * L - t) + (65536 - q) * t) := by grind
    have a : 0 ≤ (65536 - p) * (2 * L - t) := Int.mul_nonneg (by omega) (by omega)
    have b : 0 ≤ (65536 - q) * t := Int.mul_nonneg (by omega) (by omega)
    have c : 0 ≤ t * ((65536 - p) * (2 * L - t) + (65536 - q) * t) := Int.mul_nonneg h0 (by omega)
    omega
  have := Int.ediv_le_ediv (by omega) h1 (c := L)
  rwa [Int.mul_ediv_cancel _ (by omega)] at this
theorem rs_hi {n : Nat} {A P : Nat → Int} {R : Nat → Bool} (h : Ok n A P) {i : Nat} (hi : i < n) {t : Int} (h0 : 0 ≤ t) (h2 : i + 1 < n → t ≤ A (i + 1) - A i) : rs n A P R i t ≤ 131072 * t := by
  have hp := h.pace i hi
  unfold rs
  split
  · rename_i hr
    simp only [Bool.and_eq_true, decide_eq_true_eq] at hr
    have hq := h.pace (i + 1) hr.2
    have hL := h.rises i hr.2
    exact piece_hi hp hq (by omega) h0 (h2 hr.2)
  · have : P i * t ≤ 65536 * t := mul_mono hp.2 h0
    rw [Int.mul_assoc]; omega
theorem twFrom_bd {n : Nat} {A P : Nat → Int} {R : Nat → Bool} (h : Ok n A P) {x : Int} : ∀ (m i : Nat), i + m + 1 = n → A i ≤ x → 0 ≤ twFrom n A P R x m i ∧ twFrom n A P R x m i ≤ 131072 * (x - A i)
  | 0, i, hi, hx => by
    unfold twFrom
    have a := rs_lo (R := R) h (i := i) (by omega) (t := x - A i) (by omega) (by omega)
    have b := rs_hi (R := R) h (i := i) (by omega) (t := x - A i) (by omega) (by omega)
    omega
  | m + 1, i, hi, hx => by
    unfold twFrom
    have hr := h.rises i (by omega)
    split
    · have a := rs_lo (R := R) h (i := i) (by omega) (t := x - A i) (by omega) (by omega)
      have b := rs_hi (R := R) h (i := i) (by omega) (t := x - A i) (by omega) (by omega)
      omega
    · have a := rs_lo (R := R) h (i := i) (by omega) (t := A (i + 1) - A i) (by omega) (by omega)
      have b := rs_hi (R := R) h (i := i) (by omega) (t := A (i + 1) - A i) (by omega) (by omega)
      have c := twFrom_bd (R := R) h (x := x) m (i + 1) (by omega) (by omega)
      omega
theorem tw_bd {n : Nat} {A P : Nat → Int} {R : Nat → Bool} (h : Ok n A P) {x : Int} (hx : 0 ≤ x) : 0 ≤ tw n A P R x ∧ tw n A P R x ≤ 131072 * x := by
  have := h.pos
  have := twFrom_bd (R := R) h (x := x) (n - 1) 0 (by omega) (by rw [h.zero]; exact hx)
  rw [h.zero, Int.sub_zero] at this
  exact this

end Go.Proofs.Ytinpnjiinadaeaa.Cl
