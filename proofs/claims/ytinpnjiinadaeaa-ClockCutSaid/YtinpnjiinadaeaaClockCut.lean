/-
  PLAIN: a mark of the same pace put into a piece that is even changes nothing. No program in sight.
-/
import Derived.Test.YtinpnjiinadaeaaClock
namespace Go.Proofs.Ytinpnjiinadaeaa.Cl
open Go

theorem twFrom_succ {n : Nat} {A P : Nat → Int} {R : Nat → Bool} {x : Int} {m i : Nat} : twFrom n A P R x (m + 1) i = if x ≤ A (i + 1) then rs n A P R i (x - A i) else rs n A P R i (A (i + 1) - A i) + twFrom n A P R x m (i + 1) := by
  rw [twFrom]
theorem twFrom_zero {n : Nat} {A P : Nat → Int} {R : Nat → Bool} {x : Int} {i : Nat} : twFrom n A P R x 0 i = rs n A P R i (x - A i) := by rw [twFrom]
/-- The ramps that are left. -/
def R1 (n : Nat) (P : Nat → Int) (R : Nat → Bool) (i : Nat) : Bool := R i && decide (i + 1 < n) && !(decide (P (i + 1) = P i))
theorem rs_R1 {n : Nat} {A P : Nat → Int} {R : Nat → Bool} (h : Ok n A P) (i : Nat) (t : Int) : rs n A P (R1 n P R) i t = rs n A P R i t := by
  unfold rs R1
  by_cases hi : i + 1 < n
  · by_cases hR : R i = true
    · by_cases hp : P (i + 1) = P i
      · have hr := h.rises i hi
        simp only [hi, hR, hp, decide_true, Bool.and_true, Bool.not_true, Bool.and_false, Bool.false_eq_true, if_false, if_true, Int.sub_self, Int.zero_mul, Int.add_zero]
        rw [Int.mul_ediv_cancel _ (by omega)]
      · simp [hi, hR, hp]
    · simp [hR]
  · simp [hi]
theorem twFrom_R1 {n : Nat} {A P : Nat → Int} {R : Nat → Bool} (h : Ok n A P) (x : Int) : ∀ (m i : Nat), twFrom n A P (R1 n P R) x m i = twFrom n A P R x m i
  | 0, i => by unfold twFrom; exact rs_R1 h i _
  | m + 1, i => by unfold twFrom; rw [rs_R1 h, rs_R1 h, twFrom_R1 h x m (i + 1)]

/-- A value put in behind element K. -/
def ins {α : Type} (K : Nat) (a : α) (f : Nat → α) (i : Nat) : α := if i ≤ K then f i else if i = K + 1 then a else f (i - 1)
theorem ins_lo {α : Type} {K i : Nat} {a : α} {f : Nat → α} (h : i ≤ K) : ins K a f i = f i := by unfold ins; rw [if_pos h]
theorem ins_at {α : Type} {K : Nat} {a : α} {f : Nat → α} : ins K a f (K + 1) = a := by unfold ins; rw [if_neg (by omega), if_pos rfl]
theorem ins_hi {α : Type} {K i : Nat} {a : α} {f : Nat → α} (h : K < i) : ins K a f (i + 1) = f i := by unfold ins; rw [if_neg (by omega), if_neg (by omega), show i + 1 - 1 = i by omega]

section
variable {n K : Nat} {A P : Nat → Int} {R : Nat → Bool} {cut x : Int}
theorem rs_shift (i : Nat) (hi : K < i) (t : Int) : rs (n + 1) (ins K cut A) (ins K (P K) P) (ins K false R) (i + 1) t = rs n A P R i t := by
  unfold rs
  rw [ins_hi hi, ins_hi hi, ins_hi hi, ins_hi (show K < i + 1 by omega), ins_hi (show K < i + 1 by omega)]
  simp only [Nat.add_lt_add_iff_right]
theorem twFrom_shift : ∀ (m i : Nat), K < i → twFrom (n + 1) (ins K cut A) (ins K (P K) P) (ins K false R) x m (i + 1) = twFrom n A P R x m i
  | 0, i, hi => by unfold twFrom; rw [rs_shift i hi, ins_hi hi]
  | m + 1, i, hi => by
    unfold twFrom
    rw [ins_hi (show K < i + 1 by omega), rs_shift i hi, rs_shift i hi, ins_hi hi, twFrom_shift m (i + 1) (by omega)]
theorem rs_even (hR : R K = false) (t : Int) : rs n A P R K t = 2 * P K * t := by unfold rs; rw [if_neg (by simp [hR])]
theorem rs_even' (hR : R K = false) (t : Int) : rs (n + 1) (ins K cut A) (ins K (P K) P) (ins K false R) K t = 2 * P K * t := by
  unfold rs; rw [ins_lo (Nat.le_refl K), ins_lo (f := P) (Nat.le_refl K), if_neg (by simp [hR])]
theorem rs_new (t : Int) : rs (n + 1) (ins K cut A) (ins K (P K) P) (ins K false R) (K + 1) t = 2 * P K * t := by
  unfold rs; rw [ins_at, ins_at, if_neg (by simp)]
theorem lin (p a b c : Int) : 2 * p * (b - a) + 2 * p * (c - b) = 2 * p * (c - a) := by grind
theorem twFrom_at (hR : R K = false) : ∀ m, K + m + 1 = n → (K + 1 < n → cut < A (K + 1)) → twFrom (n + 1) (ins K cut A) (ins K (P K) P) (ins K false R) x (m + 1) K = twFrom n A P R x m K
  | 0, hm, _ => by
    rw [twFrom_succ, twFrom_zero, twFrom_zero, ins_at, ins_lo (Nat.le_refl K)]
    rw [rs_even' hR, rs_even' hR, rs_new, rs_even hR]
    split
    · rfl
    · rw [lin]
  | m + 1, hm, hc => by
    have hc := hc (by omega)
    rw [twFrom_succ, twFrom_succ, twFrom_succ, ins_at, ins_lo (Nat.le_refl K), rs_even' hR, rs_even' hR, ins_hi (show K < K + 1 by omega), rs_new, rs_new, rs_even hR, rs_even hR]
    rw [twFrom_shift m (K + 1) (by omega)]
    by_cases h1 : x ≤ cut
    · rw [if_pos h1, if_pos (by omega)]
    · rw [if_neg h1]
      by_cases h2 : x ≤ A (K + 1)
      · rw [if_pos h2, if_pos h2, lin]
      · rw [if_neg h2, if_neg h2, ← Int.add_assoc, lin]
theorem rs_low (i : Nat) (hi : i < K) (hK : K < n) (t : Int) : rs (n + 1) (ins K cut A) (ins K (P K) P) (ins K false R) i t = rs n A P R i t := by
  unfold rs
  rw [ins_lo (show i ≤ K by omega), ins_lo (show i ≤ K by omega), ins_lo (show i ≤ K by omega), ins_lo (show i + 1 ≤ K by omega), ins_lo (show i + 1 ≤ K by omega)]
  simp only [show i + 1 < n + 1 by omega, show i + 1 < n by omega]
theorem twFrom_cut (hR : R K = false) (hK : K < n) (hc : K + 1 < n → cut < A (K + 1)) : ∀ (d i : Nat), i + d = K → twFrom (n + 1) (ins K cut A) (ins K (P K) P) (ins K false R) x (n - i) i = twFrom n A P R x (n - 1 - i) i
  | 0, i, hi => by
    obtain rfl : i = K := by omega
    rw [show n - i = (n - 1 - i) + 1 by omega]
    exact twFrom_at hR _ (by omega) hc
  | d + 1, i, hi => by
    rw [show n - i = (n - (i + 1)) + 1 by omega, twFrom_succ, ins_lo (show i + 1 ≤ K by omega), rs_low i (by omega) hK, rs_low i (by omega) hK, ins_lo (show i ≤ K by omega), twFrom_cut hR hK hc d (i + 1) (by omega)]
    rw [show n - 1 - i = (n - 1 - (i + 1)) + 1 by omega]
    rw [twFrom_succ]
theorem tw_cut (hR : R K = false) (hK : K < n) (h : Ok (n + 1) (ins K cut A) (ins K (P K) P)) : tw (n + 1) (ins K cut A) (ins K (P K) P) (ins K false R) x = tw n A P R x := by
  unfold tw
  have := twFrom_cut (P := P) (x := x) (cut := cut) (A := A) hR hK (fun hk => by
    have := h.rises (K + 1) (by omega)
    rwa [ins_at, ins_hi (show K < K + 1 by omega)] at this) K 0 (by omega)
  simpa using this
end
end Go.Proofs.Ytinpnjiinadaeaa.Cl
