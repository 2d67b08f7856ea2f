/-
  THE WALKS of fractions, Make: of the package and of the reference.
-/
import Derived.Test.YtccpefbfjahfnaaFracW
namespace Go.Proofs.Ytccpefbfjahfnaa.Fr
open Go.RowKit Gcd

theorem quo_in (x k : Int) (hk : 1 ≤ k) (hx : I64 x) : I64 (x / k) := by
  unfold I64 at *
  constructor
  · rw [Int.le_ediv_iff_mul_le (by omega)]
    rcases Int.lt_or_le x 0 with h | h <;> omega
  · rcases Int.lt_or_le x 0 with h | h
    · have := Int.ediv_neg_of_neg_of_pos h (show 0 < k by omega); omega
    · have := Int.ediv_le_self (a := x) k h; omega
theorem quo_wrap (x k : Int) (hk : 1 ≤ k) (hd : k ∣ x) (hx : I64 x) : IntKind.i64.wrap (x.tdiv k) = x / k := by
  rw [Int.tdiv_eq_ediv_of_dvd hd]; exact IntWalk.i64_in _ (quo_in x k hk hx)
theorem make_body (u d : Int) (h : ¬ d < 1) : make u d = if smallB (u / g u d) && smallB (d / g u d) then (u / g u d, d / g u d, 0) else (0, 0, 4) := by
  unfold make; rw [if_neg h]

/-- What Make answers, as a value. -/
def makeV (u d : Int) : Value := .tuple #[.agg #[.int .i64 (make u d).1, .int .i64 (make u d).2.1], .int .i64 (make u d).2.2]

set_option maxHeartbeats 1000000 in
theorem make_any (u d : Int) (w : World) (hu : I64 u) (hd : I64 d) :
    Calls Try.prog 21 #[.int .i64 u, .int .i64 d] w fun e w' => e = .returned (makeV u d) ∧ Below w.heap.size w w' := by
  by_cases h1 : d < 1
  · go_enter Try.func21, Try.ntmps21
    go_wp2
    refine bodyPost_ret (v := .tuple #[.agg #[.int .i64 0, .int .i64 0], .int .i64 3]) (by simp [results, Try.results21, go_sem]) rfl ⟨by simp [makeV, make, h1], (by repeat (first | exact Below.refl _ _ | assumption | refine below_drewN ?_ _ | refine Below.drew ?_ | refine below_new ?_ _ | refine Below.setCell ?_ (by first | omega | (simp <;> omega)) _ | refine below_then (by assumption) ?_))⟩
  · have hg := g_pos (a := u) (b := d) (by omega)
    have hw1 := quo_wrap u (g u d) hg (g_dvd_left u d) hu
    have hw2 := quo_wrap d (g u d) hg (g_dvd_right u d) hd
    have hg0 : g u d ≠ 0 := by omega
    unfold I64 at hu hd
    have HM := Lib.hid (make_body u d h1)
    by_cases h2 : smallB (u / g u d) = true
    · by_cases h3 : smallB (d / g u d) = true
      · go_enter Try.func21, Try.ntmps21
        go_wp2_with (go_at_call 32; refine (gcd_any _ _ _ (by omega) hd.2 hu.1 hu.2).mono ?_; rintro e w' ⟨rfl, n, rfl⟩)
        go_region
        all_goals
          go_wp2_with (go_at_call 33; refine (small_any' _ _).mono ?_; rintro e w' ⟨rfl, rfl⟩)
          exact bodyPost_ret (v := .tuple #[.agg #[.int .i64 (u / g u d), .int .i64 (d / g u d)], .int .i64 0]) (by simp [results, Try.results21, go_sem]) rfl ⟨by rw [makeV, HM.out, h2, h3]; rfl, (by repeat (first | exact Below.refl _ _ | assumption | refine below_drewN ?_ _ | refine Below.drew ?_ | refine below_new ?_ _ | refine Below.setCell ?_ (by first | omega | (simp <;> omega)) _ | refine below_then (by assumption) ?_))⟩
      · simp only [Bool.not_eq_true] at h3
        go_enter Try.func21, Try.ntmps21
        go_wp2_with (go_at_call 32; refine (gcd_any _ _ _ (by omega) hd.2 hu.1 hu.2).mono ?_; rintro e w' ⟨rfl, n, rfl⟩)
        go_region
        all_goals
          go_wp2_with (go_at_call 33; refine (small_any' _ _).mono ?_; rintro e w' ⟨rfl, rfl⟩)
          exact bodyPost_ret (v := .tuple #[.agg #[.int .i64 0, .int .i64 0], .int .i64 4]) (by simp [results, Try.results21, go_sem]) rfl ⟨by rw [makeV, HM.out, h2, h3]; rfl, (by repeat (first | exact Below.refl _ _ | assumption | refine below_drewN ?_ _ | refine Below.drew ?_ | refine below_new ?_ _ | refine Below.setCell ?_ (by first | omega | (simp <;> omega)) _ | refine below_then (by assumption) ?_))⟩
    · simp only [Bool.not_eq_true] at h2
      go_enter Try.func21, Try.ntmps21
      go_wp2_with (go_at_call 32; refine (gcd_any _ _ _ (by omega) hd.2 hu.1 hu.2).mono ?_; rintro e w' ⟨rfl, n, rfl⟩)
      go_region
      all_goals
        go_wp2_with (go_at_call 33; refine (small_any' _ _).mono ?_; rintro e w' ⟨rfl, rfl⟩)
        exact bodyPost_ret (v := .tuple #[.agg #[.int .i64 0, .int .i64 0], .int .i64 4]) (by simp [results, Try.results21, go_sem]) rfl ⟨by rw [makeV, HM.out, h2]; rfl, (by repeat (first | exact Below.refl _ _ | assumption | refine below_drewN ?_ _ | refine Below.drew ?_ | refine below_new ?_ _ | refine Below.setCell ?_ (by first | omega | (simp <;> omega)) _ | refine below_then (by assumption) ?_))⟩

/-! The least number: its odd part is 1. -/
theorem g_pow_odd (j : Nat) {q : Int} (hq : q % 2 ≠ 0) : g (2 ^ j) q = 1 := by
  induction j with
  | zero => simp [g]
  | succ j ih =>
    have h := g_even_odd (a := 2 ^ (j + 1)) (b := q) (by rw [Int.pow_succ]; omega) hq
    rw [← h, Int.pow_succ, Int.mul_ediv_cancel _ (by omega)]; exact ih
/-- The loop's: both halved k times. -/
def least (d p q : Int) : Prop := ∃ k : Nat, k ≤ 63 ∧ p = -(2 ^ (63 - k)) ∧ q * 2 ^ k = d ∧ 0 < q
theorem least_bd {d p q : Int} (h : least d p q) (hd : d ≤ 9223372036854775807) : -9223372036854775808 ≤ p ∧ p < 0 ∧ 0 < q ∧ q ≤ d := by
  obtain ⟨k, hk, rfl, rfl, hq⟩ := h
  have h1 : (2 : Int) ^ (63 - k) ≤ 2 ^ 63 := by
    have : 2 ^ (63 - k) ≤ 2 ^ 63 := Nat.pow_le_pow_right (by omega) (by omega)
    have e := Int.ofNat_le.2 this
    simpa using e
  have h2 := g_one_le_pow (63 - k)
  have h3 : q * 1 ≤ q * 2 ^ k := Int.mul_le_mul_of_nonneg_left (g_one_le_pow k) (by omega)
  omega
theorem least_step {d p q : Int} (h : least d p q) (hd : d ≤ 9223372036854775807) (hq2 : q % 2 = 0) : least d (p / 2) (q / 2) ∧ p.tdiv 2 = p / 2 := by
  obtain ⟨k, hk, rfl, rfl, hq⟩ := h
  have hk2 : k < 63 := by
    rcases Nat.lt_or_ge k 63 with h | h
    · exact h
    · have : k = 63 := by omega
      subst this
      omega
  have e : (2 : Int) ^ (63 - k) = 2 ^ (63 - (k + 1)) * 2 := by rw [← Int.pow_succ]; congr 1; omega
  refine ⟨⟨k + 1, by omega, ?_, ?_, by omega⟩, ?_⟩
  · rw [e]; omega
  · rw [Int.pow_succ, Int.mul_comm (2 ^ k) 2, ← Int.mul_assoc, Int.ediv_mul_cancel (by omega)]
  · rw [e]; generalize (2 : Int) ^ (63 - (k + 1)) = t; rw [Int.tdiv_eq_ediv_of_dvd ⟨-t, by omega⟩]
theorem least_end {d p q : Int} (h : least d p q) (hq2 : q % 2 ≠ 0) : -9223372036854775808 / g (-9223372036854775808) d = p ∧ d / g (-9223372036854775808) d = q := by
  obtain ⟨k, hk, rfl, rfl, hq⟩ := h
  have e : (-9223372036854775808 : Int) = 2 ^ k * -(2 ^ (63 - k)) := by
    rw [Int.mul_neg, ← Int.pow_add, show k + (63 - k) = 63 by omega]; rfl
  have hp := g_one_le_pow k
  have hg : g (-9223372036854775808) (q * 2 ^ k) = 2 ^ k := by
    rw [e, Int.mul_comm q]
    unfold g
    rw [Int.gcd_mul_left]
    have h1 := g_pow_odd (63 - k) hq2
    rw [← g_neg_left] at h1
    unfold g at h1
    rw [show (-(2 : Int) ^ (63 - k)).gcd q = 1 by omega]
    have : ((2 : Int) ^ k).natAbs = 2 ^ k := by rw [Int.natAbs_pow]; rfl
    rw [this]; simp
  rw [hg]
  constructor
  · rw [e, Int.mul_ediv_cancel_left _ (by omega)]
  · rw [Int.mul_ediv_cancel _ (by omega)]

set_option maxHeartbeats 1000000 in
theorem ref_make_least (d : Int) (w : World) (hd : I64 d) :
    Calls Try.prog 27 #[.int .i64 (-9223372036854775808), .int .i64 d] w fun e w' => e = .returned (makeV (-9223372036854775808) d) ∧ Below w.heap.size w w' := by
  unfold I64 at hd
  by_cases h1 : d < 1
  · go_enter Try.func27, Try.ntmps27
    go_wp2
    refine bodyPost_ret (v := .tuple #[.agg #[.int .i64 0, .int .i64 0], .int .i64 3]) (by simp [results, Try.results27, go_sem]) rfl ⟨by simp [makeV, make, h1], (by repeat (first | exact Below.refl _ _ | assumption | refine below_drewN ?_ _ | refine Below.drew ?_ | refine below_new ?_ _ | refine Below.setCell ?_ (by first | omega | (simp <;> omega)) _ | refine below_then (by assumption) ?_))⟩
  · have HM := Lib.hid (make_body (-9223372036854775808) d h1)
    have hw : wrap64 9223372036854775808 = -9223372036854775808 := by unfold wrap64; decide
    go_enter Try.func27, Try.ntmps27
    go_wp2
    go_loop [0, 1] (fun x y => ∃ p q : Int, x = .int .i64 p ∧ y = .int .i64 q ∧ least d p q) (fun _ y => (intOf y).toNat)
    case atStart => exact ⟨_, _, rfl, rfl, 0, by omega, rfl, by simp, by omega⟩
    case round =>
      obtain ⟨p, q, rfl, rfl, hL⟩ := hrel
      obtain ⟨b1, b2, b3, b4⟩ := least_bd hL hd.2
      have HL := Lib.hid hL
      clear hL
      by_cases hq : q % 2 = 0
      · have hs := least_step HL.out hd.2 hq
        have HS := Lib.hid hs.1
        have ht := hs.2
        clear hs
        go_wp2
        go_round
        case rel => exact ⟨p / 2, q / 2, rfl, rfl, HS.out⟩
        case measure => (simp [intOf] <;> omega)
      · have he := least_end HL.out hq
        have HE := Lib.hid he
        clear he
        by_cases c : -1073741824 ≤ p ∧ q ≤ 1073741824
        · obtain ⟨c1, c2⟩ := c
          go_wp2
          exact bodyPost_ret (v := .tuple #[.agg #[.int .i64 p, .int .i64 q], .int .i64 0]) (by simp [results, Try.results27, go_sem]) rfl
            ⟨by rw [makeV, HM.out, HE.out.1, HE.out.2, if_pos (by simp [smallB_iff]; omega)], (by repeat (first | exact Below.refl _ _ | assumption | refine below_drewN ?_ _ | refine Below.drew ?_ | refine below_new ?_ _ | refine Below.setCell ?_ (by first | omega | (simp <;> omega)) _ | refine below_then (by assumption) ?_))⟩
        · have HN := Lib.hid c
          have c' : -1073741824 ≤ p → 1073741824 < q := by omega
          clear c
          go_wp2
          all_goals
            exact bodyPost_ret (v := .tuple #[.agg #[.int .i64 0, .int .i64 0], .int .i64 4]) (by simp [results, Try.results27, go_sem]) rfl
              ⟨by rw [makeV, HM.out, HE.out.1, HE.out.2, if_neg (by have := HN.out; simp [smallB_iff]; omega)], (by repeat (first | exact Below.refl _ _ | assumption | refine below_drewN ?_ _ | refine Below.drew ?_ | refine below_new ?_ _ | refine Below.setCell ?_ (by first | omega | (simp <;> omega)) _ | refine below_then (by assumption) ?_))⟩

set_option maxHeartbeats 1000000 in
theorem ref_make_zero (d : Int) (w : World) (hd : I64 d) (h1 : ¬ d < 1) :
    Calls Try.prog 27 #[.int .i64 0, .int .i64 d] w fun e w' => e = .returned (makeV 0 d) ∧ Below w.heap.size w w' := by
  have e0 : g 0 d = d := by rw [g_comm, g_zero rfl]; omega
  have e1 : d / d = 1 := Int.ediv_self (by omega)
  have HM := Lib.hid (show make 0 d = (0, 1, 0) by rw [make_body 0 d h1, e0, e1, Int.zero_ediv]; rfl)
  have hw1 : IntKind.i64.wrap (Int.tdiv 0 d) = 0 := by rw [Int.zero_tdiv]; rfl
  have hw2 : IntKind.i64.wrap (d.tdiv d) = 1 := by rw [Int.tdiv_self (by omega)]; rfl
  have hd0 : d ≠ 0 := by omega
  unfold I64 at hd
  go_enter Try.func27, Try.ntmps27
  go_wp2_with (first
    | (go_at_call 36; refine (abs_any _ _ (by omega) (by omega)).mono ?_; rintro e w' ⟨rfl, rfl⟩)
    | (go_at_call 35; refine (divisor_any _ _ _ (by omega) (by omega) (by omega) (by omega)).mono ?_; rintro e w' ⟨rfl, rfl⟩))
  go_region
  all_goals
    go_wp2
    exact bodyPost_ret (v := .tuple #[.agg #[.int .i64 0, .int .i64 1], .int .i64 0]) (by simp [results, Try.results27, go_sem]) rfl ⟨by rw [makeV, HM.out], (by repeat (first | exact Below.refl _ _ | assumption | refine below_drewN ?_ _ | refine Below.drew ?_ | refine below_new ?_ _ | refine Below.setCell ?_ (by first | omega | (simp <;> omega)) _ | refine below_then (by assumption) ?_))⟩

set_option maxHeartbeats 1000000 in
theorem ref_make_any (u d : Int) (w : World) (hu : I64 u) (hd : I64 d) (hl : -9223372036854775808 < u) :
    Calls Try.prog 27 #[.int .i64 u, .int .i64 d] w fun e w' => e = .returned (makeV u d) ∧ Below w.heap.size w w' := by
  by_cases h1 : d < 1
  · go_enter Try.func27, Try.ntmps27
    go_wp2
    refine bodyPost_ret (v := .tuple #[.agg #[.int .i64 0, .int .i64 0], .int .i64 3]) (by simp [results, Try.results27, go_sem]) rfl ⟨by simp [makeV, make, h1], (by repeat (first | exact Below.refl _ _ | assumption | refine below_drewN ?_ _ | refine Below.drew ?_ | refine below_new ?_ _ | refine Below.setCell ?_ (by first | omega | (simp <;> omega)) _ | refine below_then (by assumption) ?_))⟩
  · have hg := g_pos (a := u) (b := d) (by omega)
    have hw1 := quo_wrap u (g u d) hg (g_dvd_left u d) hu
    have hw2 := quo_wrap d (g u d) hg (g_dvd_right u d) hd
    have hq1 := quo_in u (g u d) hg hu
    have hg0 : g u d ≠ 0 := by omega
    have hag := abs_g u d
    have hlow : -9223372036854775808 < u / g u d := by
      rcases Int.lt_or_le u 0 with h | h
      · have := Int.lt_ediv_iff_mul_lt (a := -9223372036854775808) (b := u) (c := g u d) (by omega) (g_dvd_left u d)
        rw [this]; omega
      · have := Int.ediv_nonneg h (show 0 ≤ g u d by omega); omega
    unfold I64 at hu hd hq1
    have HM := Lib.hid (make_body u d h1)
    by_cases hu0 : u = 0
    · subst hu0
      exact ref_make_zero d w hd h1
    · have he : (u == -u) = false := by simp; omega
      by_cases c : smallB (u / g u d) = true
      · have HC := Lib.hid c
        rw [smallB_iff] at c
        by_cases c2 : smallB (d / g u d) = true
        · have HC2 := Lib.hid c2
          rw [smallB_iff] at c2
          go_enter Try.func27, Try.ntmps27
          go_wp2_with (first
          | (go_at_call 36; refine (abs_any _ _ (by omega) (by omega)).mono ?_; rintro e w' ⟨rfl, rfl⟩)
          | (go_at_call 35; refine (divisor_any _ _ _ (by omega) (by omega) (by omega) (by omega)).mono ?_; rintro e w' ⟨rfl, rfl⟩))
          go_region
          all_goals
            go_wp2
            exact bodyPost_ret (v := .tuple #[.agg #[.int .i64 (u / g u d), .int .i64 (d / g u d)], .int .i64 0]) (by simp [results, Try.results27, go_sem]) rfl ⟨by rw [makeV, HM.out, HC.out, HC2.out]; rfl, (by repeat (first | exact Below.refl _ _ | assumption | refine below_drewN ?_ _ | refine Below.drew ?_ | refine below_new ?_ _ | refine Below.setCell ?_ (by first | omega | (simp <;> omega)) _ | refine below_then (by assumption) ?_))⟩
        · simp only [Bool.not_eq_true] at c2
          have HC2 := Lib.hid c2
          have c3 : 1073741824 < d / g u d := by
            have := Int.ediv_pos_of_pos_of_dvd (a := d) (b := g u d) (by omega) (by omega) (g_dvd_right u d)
            rw [← Bool.not_eq_true, smallB_iff] at c2; omega
          clear c2
          go_enter Try.func27, Try.ntmps27
          go_wp2_with (first
          | (go_at_call 36; refine (abs_any _ _ (by omega) (by omega)).mono ?_; rintro e w' ⟨rfl, rfl⟩)
          | (go_at_call 35; refine (divisor_any _ _ _ (by omega) (by omega) (by omega) (by omega)).mono ?_; rintro e w' ⟨rfl, rfl⟩))
          exact bodyPost_ret (v := .tuple #[.agg #[.int .i64 0, .int .i64 0], .int .i64 4]) (by simp [results, Try.results27, go_sem]) rfl ⟨by rw [makeV, HM.out, HC.out, HC2.out]; rfl, (by repeat (first | exact Below.refl _ _ | assumption | refine below_drewN ?_ _ | refine Below.drew ?_ | refine below_new ?_ _ | refine Below.setCell ?_ (by first | omega | (simp <;> omega)) _ | refine below_then (by assumption) ?_))⟩
      · simp only [Bool.not_eq_true] at c
        have HC := Lib.hid c
        have c3 : 1073741824 < ((u / g u d).natAbs : Int) := by
          rw [← Bool.not_eq_true, smallB_iff] at c; omega
        clear c
        go_enter Try.func27, Try.ntmps27
        go_wp2_with (first
          | (go_at_call 36; refine (abs_any _ _ (by omega) (by omega)).mono ?_; rintro e w' ⟨rfl, rfl⟩)
          | (go_at_call 35; refine (divisor_any _ _ _ (by omega) (by omega) (by omega) (by omega)).mono ?_; rintro e w' ⟨rfl, rfl⟩))
        all_goals
          exact bodyPost_ret (v := .tuple #[.agg #[.int .i64 0, .int .i64 0], .int .i64 4]) (by simp [results, Try.results27, go_sem]) rfl ⟨by rw [makeV, HM.out, HC.out]; rfl, (by repeat (first | exact Below.refl _ _ | assumption | refine below_drewN ?_ _ | refine Below.drew ?_ | refine below_new ?_ _ | refine Below.setCell ?_ (by first | omega | (simp <;> omega)) _ | refine below_then (by assumption) ?_))⟩

end Go.Proofs.Ytccpefbfjahfnaa.Fr
