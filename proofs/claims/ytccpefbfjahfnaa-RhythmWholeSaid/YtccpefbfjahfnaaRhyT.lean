/-
  WHAT IS WRITTEN LASTS AS LONG: plain.
-/
import Derived.Test.YtccpefbfjahfnaaRhyF
namespace Go.Proofs.Ytccpefbfjahfnaa.Pm
open Go Fr Gcd

/-- How long a value is, in parts of 1/1024. -/
def wV (v : Int × Int) : Int := (2 ^ (v.2.toNat + 1) - 1) * 2 ^ (10 - v.1.toNat - v.2.toNat)
def okV (v : Int × Int) : Bool := decide (0 ≤ v.1) && decide (0 ≤ v.2) && decide (v.2 ≤ 3) && decide (v.1 + v.2 ≤ 10)
def lowV : Int → List (Int × Int) → Bool
  | _, [] => true
  | b, v :: l => okV v && decide (wV v ≤ b) && decide (0 ≤ wV v) && lowV (wV v) l
theorem pt_low : ∀ m : Nat, m < 1024 → lowV 1024 (pt m 10 0) = true ∧ ((pt m 10 0).map wV).sum = ((m : Nat) : Int) := by decide +kernel
theorem low_mono : ∀ {l : List (Int × Int)} {b c : Int}, lowV b l = true → b ≤ c → lowV c l = true
  | [], _, _, _, _ => rfl
  | v :: l, b, c, h, hb => by
    simp only [lowV, Bool.and_eq_true, decide_eq_true_eq] at h ⊢
    exact ⟨⟨⟨h.1.1.1, by omega⟩, h.1.2⟩, h.2⟩
theorem low_rep (l : List (Int × Int)) (h : lowV 1024 l = true) : ∀ q, lowV 1024 (List.replicate q (0, 0) ++ l) = true
  | 0 => h
  | q + 1 => by
    rw [List.replicate_succ, List.cons_append, lowV, show wV (0, 0) = 1024 from by decide +kernel, low_rep l h q]
    decide
theorem vals_low (n : Nat) : lowV 2048 (valsS n) = true := by
  refine low_mono (b := 1024) ?_ (by decide)
  unfold valsS
  rw [← pt_mod n 10 0 (Nat.le_refl _)]
  exact low_rep _ (pt_low _ (Nat.mod_lt _ (by decide))).1 _
theorem rep_sum : ∀ q : Nat, ((List.replicate q ((0, 0) : Int × Int)).map wV).sum = 1024 * ((q : Nat) : Int)
  | 0 => rfl
  | q + 1 => by
    rw [List.replicate_succ, List.map_cons, List.sum_cons, rep_sum q, show wV (0, 0) = 1024 from by decide +kernel]
    omega
theorem vals_sum (n : Nat) : ((valsS n).map wV).sum = ((n : Nat) : Int) := by
  unfold valsS
  rw [← pt_mod n 10 0 (Nat.le_refl _), List.map_append, List.sum_append, rep_sum, (pt_low _ (Nat.mod_lt _ (by decide))).2]
  omega
def wsum (V : List (Int × Int)) (i : Nat) : Int := ((V.take i).map wV).sum
def lastW (V : List (Int × Int)) : Nat → Int
  | 0 => 2048
  | i + 1 => wV (V.getD i (0, 0))
theorem wsum_next {V : List (Int × Int)} {i : Nat} (h : i < V.length) : wsum V (i + 1) = wsum V i + wV (V.getD i (0, 0)) := by
  unfold wsum
  rw [List.take_add_one, List.map_append, List.sum_append, List.getD_eq_getElem?_getD, List.getElem?_eq_getElem h]
  simp
theorem low_at : ∀ {V : List (Int × Int)} {b : Int}, lowV b V = true → ∀ i, i < V.length → okV (V.getD i (0, 0)) = true ∧ 0 ≤ wV (V.getD i (0, 0)) ∧ wV (V.getD i (0, 0)) ≤ (match i with | 0 => b | i + 1 => wV (V.getD i (0, 0)))
  | v :: l, b, h, 0, _ => by
    simp only [lowV, Bool.and_eq_true, decide_eq_true_eq] at h
    exact ⟨h.1.1.1, h.1.2, h.1.1.2⟩
  | v :: l, b, h, i + 1, hi => by
    simp only [lowV, Bool.and_eq_true, decide_eq_true_eq] at h
    have ih := low_at h.2 i (by simpa using hi)
    refine ⟨ih.1, ih.2.1, ?_⟩
    cases i with
    | zero => exact ih.2.2
    | succ i => exact ih.2.2
theorem low_last {V : List (Int × Int)} (h : lowV 2048 V = true) {i : Nat} (hi : i < V.length) : okV (V.getD i (0, 0)) = true ∧ 0 ≤ wV (V.getD i (0, 0)) ∧ wV (V.getD i (0, 0)) ≤ lastW V i := by
  have := low_at h i hi
  refine ⟨this.1, this.2.1, ?_⟩
  cases i <;> exact this.2.2
theorem wsum_bd {V : List (Int × Int)} (h : lowV 2048 V = true) : ∀ i, i ≤ V.length → 0 ≤ wsum V i ∧ wsum V i ≤ wsum V V.length := by
  have h1 : ∀ i, i ≤ V.length → 0 ≤ wsum V i := fun i => by
    induction i with
    | zero => intro _; exact Int.le_refl 0
    | succ i ih => intro hi; rw [wsum_next (by omega)]; have := ih (by omega); have := (low_last h (i := i) (by omega)).2.1; omega
  have h2 : ∀ k i, i + k = V.length → wsum V i ≤ wsum V V.length := fun k => by
    induction k with
    | zero => intro i hi; rw [← hi]; exact Int.le_refl _
    | succ k ih => intro i hi; have := ih (i + 1) (by omega); rw [wsum_next (by omega)] at this; have := (low_last h (i := i) (by omega)).2.1; omega
  exact fun i hi => ⟨h1 i hi, h2 (V.length - i) i (by omega)⟩
theorem wsum_all (n : Nat) : wsum (valsS n) (valsS n).length = ((n : Nat) : Int) := by
  unfold wsum
  rw [List.take_length]
  exact vals_sum n
theorem len_tab : ∀ h : Nat, h < 11 → ∀ d : Nat, d < 4 → h + d ≤ 10 → lenS h d = (2 ^ (d + 1) - 1, 2 ^ (h + d), 0) ∧ rightB (2 ^ (d + 1) - 1) (2 ^ (h + d)) = true ∧ ((2 : Int) ^ (d + 1) - 1) * 1024 = wV ((h : Int), (d : Int)) * 2 ^ (h + d) := by decide +kernel
theorem len_of {v : Int × Int} (h : okV v = true) : ∃ p q : Int, lenS v.1 v.2 = (p, q, 0) ∧ rightB p q = true ∧ p * 1024 = wV v * q := by
  obtain ⟨x, y⟩ := v
  simp only [okV, Bool.and_eq_true, decide_eq_true_eq] at h
  obtain ⟨a, rfl⟩ : ∃ a : Nat, x = (a : Int) := ⟨x.toNat, by omega⟩
  obtain ⟨b, rfl⟩ : ∃ b : Nat, y = (b : Int) := ⟨y.toNat, by omega⟩
  exact ⟨_, _, len_tab a (by omega) b (by omega) (by omega)⟩
theorem sum_step {a b p q W w : Int} (h1 : rightB a b = true) (h2 : rightB p q = true) (ha : a * 1024 = W * b) (hp : p * 1024 = w * q) (hW : 0 ≤ W + w) (hW2 : W + w ≤ 67108864) :
    ∃ x y : Int, Fr.plus a b p q = (x, y, 0) ∧ rightB x y = true ∧ x * 1024 = (W + w) * y := by
  have hb := pos_of h1
  have hq := pos_of h2
  obtain ⟨d1, d2, d3⟩ := down (u := W + w) (d := 1024) (by decide)
  have hx : (W + w) / g (W + w) 1024 * 1024 = (W + w) * (1024 / g (W + w) 1024) := d3.symm
  have hy1 : (1024 : Int) / g (W + w) 1024 ≤ 1024 := Int.ediv_le_self _ (by decide)
  have hxb : 0 ≤ (W + w) / g (W + w) 1024 ∧ (W + w) / g (W + w) 1024 ≤ 67108864 := by
    have h3 : 0 ≤ (W + w) * (1024 / g (W + w) 1024) := Int.mul_nonneg hW (by omega)
    have h4 : (W + w) * (1024 / g (W + w) 1024) ≤ (W + w) * 1024 := Int.mul_le_mul_of_nonneg_left hy1 hW
    omega
  refine ⟨(W + w) / g (W + w) 1024, 1024 / g (W + w) 1024, ?_, rightB_iff.2 ⟨d1, by omega, by omega, by omega, d2⟩, hx⟩
  rw [plus_of h1 h2]
  refine make_of (mul_one_le hb hq) (rightB_iff.2 ⟨d1, by omega, by omega, by omega, d2⟩) ?_
  generalize (W + w) / g (W + w) 1024 = x at *
  generalize 1024 / g (W + w) 1024 = y at *
  have h5 : (a * q + p * b) * 1024 = (W + w) * (b * q) := by grind
  have h6 : ((a * q + p * b) * y) * 1024 = (x * (b * q)) * 1024 := by grind
  exact mul_cancel (z := 1024) (by decide) h6
theorem sign_le {p q c e w l : Int} (hp : p * 1024 = w * q) (hc : c * 1024 = l * e) (h1 : rightB p q = true) (h2 : rightB c e = true) (hw : w ≤ l) : ¬ 0 < signI (p * e - c * q) := by
  have hq := pos_of h1
  have he := pos_of h2
  have h3 : 1 ≤ q * e := mul_one_le hq he
  have h4 : (p * e - c * q) * 1024 = (w - l) * (q * e) := by grind
  have h5 : (w - l) * (q * e) ≤ 0 := Int.mul_nonpos_of_nonpos_of_nonneg (by omega) (by omega)
  have h6 : p * e - c * q ≤ 0 := by omega
  unfold signI
  split
  · decide
  · rw [if_neg (by omega)]; decide
theorem whole_end {a b u d : Int} (h1 : rightB a b = true) (hE : writeE u d = 0) (hr : rightB u d = true) (ha : a * 1024 = ((writeN u d : Nat) : Int) * b) : a = u ∧ b = d := by
  have hn := (write_num hE).2.1
  have hb := pos_of h1
  have hd := pos_of hr
  have hm : (1024 : Int) % d = 0 := by
    unfold writeE at hE
    rw [if_neg (by rw [hr]; decide)] at hE
    split at hE
    · cases hE
    · split at hE
      · cases hE
      · omega
  have hq : (1024 : Int).tdiv d = 1024 / d := Int.tdiv_eq_ediv_of_nonneg (by decide)
  have hdq : d * (1024 / d) = 1024 := Int.mul_ediv_cancel' (Int.dvd_of_emod_eq_zero hm)
  rw [hq] at hn
  generalize (1024 : Int) / d = k at *
  rw [← hn] at ha
  have h3 : (a * d) * 1024 = (u * b) * 1024 := by grind
  exact lowest (by omega) (by omega) (rightB_iff.1 h1).2.2.2.2 (rightB_iff.1 hr).2.2.2.2 (mul_cancel (z := 1024) (by decide) h3)
theorem writeE_right {u d : Int} (h : writeE u d = 0) : rightB u d = true := by
  unfold writeE at h
  split at h
  · cases h
  · rename_i h1; simpa using h1
theorem sign_pc (a b c d : Int) (h1 : rightB a b = true) (h2 : rightB c d = true) : PC Try.prog 13 [fracP a b, fracP c d] [] (iv (signI (a * d - c * b))) [] :=
  pc_flat (fn_ok Try.func13 (by kernel_rfl) (by kernel_rfl)) rfl rfl fun w => sign_any a b c d w h1 h2
end Go.Proofs.Ytccpefbfjahfnaa.Pm
