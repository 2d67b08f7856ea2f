/-
  THE WALKS of fractions: Order, Floor, Sign: of the package and of the reference.
-/
import Derived.Test.YtkcbbnphhiiaiaaReckW
namespace Go.Proofs.Ytkcbbnphhiiaiaa.Fr
open Go.RowKit Gcd

/-- What Order, Floor answer, as a value. -/
def R2 (r : Int × Int) : Value := .tuple #[.int .i64 r.1, .int .i64 r.2]
theorem ret_R2 {r : Int × Int} {a b : Int} (h : r = (a, b)) : Ending.returned (.tuple #[.int .i64 a, .int .i64 b]) = .returned (R2 r) := by rw [h]; rfl

set_option maxHeartbeats 1000000 in
theorem order_any (a b c d : Int) (w : World) (ha : I64 a) (hb : I64 b) (hc : I64 c) (hd : I64 d) :
    Calls Try.prog 17 #[.agg #[.int .i64 a, .int .i64 b], .agg #[.int .i64 c, .int .i64 d]] w fun e w' =>
      e = .returned (R2 (order a b c d)) ∧ Below w.heap.size w w' := by
  by_cases h1 : (rightB a b && rightB c d) = true
  · have HR := Lib.hid (show order a b c d = (signI (a * d - c * b), 0) by simp [order, h1])
    have h1' := h1
    rw [Bool.and_eq_true] at h1'
    have k1 := right_bd h1'.1
    have k2 := right_bd h1'.2
    have p1 := prod_bd k1.1 (y := d) (by omega)
    have p2 := prod_bd k2.1 (y := b) (by omega)
    clear h1'
    go_enter Try.func17, Try.ntmps17
    go_wp2_with (go_at_call 29; refine (both_any a b c d _ ha hb hc hd).mono ?_; rintro e w1 ⟨rfl, hb1⟩; obtain ⟨hcc, hff⟩ := bcell hb1; have hz := hb1.size; simp at hz)
    all_goals
      go_ret2
      refine ⟨ret_R2 ?_, (by repeat (first | exact Below.refl _ _ | assumption | refine below_drewN ?_ _ | refine Below.drew ?_ | refine below_new ?_ _ | refine Below.setCell ?_ (by first | omega | (simp <;> omega)) _ | refine below_then (by assumption) ?_))⟩
      rw [HR.out]
      first
        | rw [signI_lt (by omega)]
        | rw [signI_gt (by omega)]
        | rw [signI_eq (by omega)]
  · simp only [Bool.not_eq_true] at h1
    have HR := Lib.hid (show order a b c d = (0, 2) by simp [order, h1])
    go_enter Try.func17, Try.ntmps17
    go_wp2_with (go_at_call 29; refine (both_any a b c d _ ha hb hc hd).mono ?_; rintro e w1 ⟨rfl, hb1⟩; obtain ⟨hcc, hff⟩ := bcell hb1; have hz := hb1.size; simp at hz)
    go_ret2
    exact ⟨ret_R2 HR.out, (by repeat (first | exact Below.refl _ _ | assumption | refine below_drewN ?_ _ | refine Below.drew ?_ | refine below_new ?_ _ | refine Below.setCell ?_ (by first | omega | (simp <;> omega)) _ | refine below_then (by assumption) ?_))⟩

set_option maxHeartbeats 1000000 in
theorem sign_any (a b c d : Int) (w : World) (h1 : rightB a b = true) (h2 : rightB c d = true) :
    Calls Try.prog 30 #[.agg #[.int .i64 a, .int .i64 b], .agg #[.int .i64 c, .int .i64 d]] w fun e w' =>
      e = .returned (.int .i64 (signI (a * d - c * b))) ∧ Below w.heap.size w w' := by
  have k1 := right_bd h1
  have k2 := right_bd h2
  have p1 := prod_bd k1.1 (y := d) (by omega)
  have p2 := prod_bd k2.1 (y := b) (by omega)
  clear h1 h2
  go_enter Try.func30, Try.ntmps30
  go_wp2
  all_goals
    go_ret
    refine ⟨ret_int ?_, (by repeat (first | exact Below.refl _ _ | assumption | refine below_drewN ?_ _ | refine Below.drew ?_ | refine below_new ?_ _ | refine Below.setCell ?_ (by first | omega | (simp <;> omega)) _ | refine below_then (by assumption) ?_))⟩
    first
      | rw [signI_lt (by omega)]
      | rw [signI_gt (by omega)]
      | rw [signI_eq (by omega)]

set_option maxHeartbeats 1000000 in
theorem ref_order_any (a b c d : Int) (w : World) (ha : I64 a) (hb : I64 b) (hc : I64 c) (hd : I64 d) :
    Calls Try.prog 24 #[.agg #[.int .i64 a, .int .i64 b], .agg #[.int .i64 c, .int .i64 d]] w fun e w' =>
      e = .returned (R2 (order a b c d)) ∧ Below w.heap.size w w' := by
  by_cases h1 : rightB a b = true
  · by_cases h2 : rightB c d = true
    · have HR := Lib.hid (show order a b c d = (signI (a * d - c * b), 0) by simp [order, h1, h2])
      go_enter Try.func24, Try.ntmps24
      go_wp2_with (first
        | (go_at_call 10; with_reducible refine (ref_right_any a b _ ha hb).mono ?_; rintro e w0 ⟨rfl, hb0⟩; obtain ⟨hcc0, hff0⟩ := bcell hb0; have hz0 := hb0.size; simp at hz0; obtain ⟨y1, y2⟩ := two_ hz0)
        | (go_at_call 10; with_reducible refine (ref_right_any c d _ hc hd).mono ?_; rintro e w1 ⟨rfl, hb1⟩; obtain ⟨hcc, hff⟩ := bcell hb1)
        | (go_at_call 30; refine (sign_any a b c d _ h1 h2).mono ?_; rintro e w2 ⟨rfl, hb2⟩))
      go_ret2
      exact ⟨ret_R2 HR.out, (by repeat (first | exact Below.refl _ _ | assumption | refine below_drewN ?_ _ | refine Below.drew ?_ | refine below_new ?_ _ | refine Below.setCell ?_ (by first | omega | (simp <;> omega)) _ | refine below_then (by assumption) ?_))⟩
    · simp only [Bool.not_eq_true] at h2
      have HR := Lib.hid (show order a b c d = (0, 2) by simp [order, h1, h2])
      go_enter Try.func24, Try.ntmps24
      go_wp2_with (first
        | (go_at_call 10; with_reducible refine (ref_right_any a b _ ha hb).mono ?_; rintro e w0 ⟨rfl, hb0⟩; obtain ⟨hcc0, hff0⟩ := bcell hb0; have hz0 := hb0.size; simp at hz0; obtain ⟨y1, y2⟩ := two_ hz0)
        | (go_at_call 10; with_reducible refine (ref_right_any c d _ hc hd).mono ?_; rintro e w1 ⟨rfl, hb1⟩; obtain ⟨hcc, hff⟩ := bcell hb1))
      go_ret2
      exact ⟨ret_R2 HR.out, (by repeat (first | exact Below.refl _ _ | assumption | refine below_drewN ?_ _ | refine Below.drew ?_ | refine below_new ?_ _ | refine Below.setCell ?_ (by first | omega | (simp <;> omega)) _ | refine below_then (by assumption) ?_))⟩
  · simp only [Bool.not_eq_true] at h1
    have HR := Lib.hid (show order a b c d = (0, 2) by simp [order, h1])
    go_enter Try.func24, Try.ntmps24
    go_wp2_with (go_at_call 10; with_reducible refine (ref_right_any a b _ ha hb).mono ?_; rintro e w0 ⟨rfl, hb0⟩; obtain ⟨hcc0, hff0⟩ := bcell hb0; have hz0 := hb0.size; simp at hz0; obtain ⟨y1, y2⟩ := two_ hz0)
    go_ret2
    exact ⟨ret_R2 HR.out, (by repeat (first | exact Below.refl _ _ | assumption | refine below_drewN ?_ _ | refine Below.drew ?_ | refine below_new ?_ _ | refine Below.setCell ?_ (by first | omega | (simp <;> omega)) _ | refine below_then (by assumption) ?_))⟩

theorem tdiv_bd (a b : Int) (ha : -1073741824 ≤ a ∧ a ≤ 1073741824) (_hb : 1 ≤ b) : -1073741824 ≤ a.tdiv b ∧ a.tdiv b ≤ 1073741824 := by
  have h : (a.tdiv b).natAbs ≤ a.natAbs := by rw [Int.natAbs_tdiv]; exact Nat.div_le_self _ _
  omega
theorem one_ {n m : Nat} (h : n + 1 ≤ m) : n < m := h

set_option maxHeartbeats 1000000 in
theorem floor_any (a b : Int) (w : World) (ha : I64 a) (hb : I64 b) :
    Calls Try.prog 11 #[.agg #[.int .i64 a, .int .i64 b]] w fun e w' => e = .returned (R2 (floor a b)) ∧ Below w.heap.size w w' := by
  by_cases h1 : rightB a b = true
  · have HR := Lib.hid (show floor a b = (a / b, 0) by simp [floor, h1])
    have k1 := right_bd h1
    obtain ⟨k1, k2⟩ := k1
    have hq : b ≠ 0 := by omega
    have hA := floor_range h1
    have hT := tdiv_bd a b k1 k2.1
    go_enter Try.func11, Try.ntmps11
    go_wp2_with (go_at_call 9; refine (right_any a b _ ha hb).mono ?_; rintro e w1 ⟨rfl, hb1⟩; obtain ⟨hcc, hff⟩ := bcell hb1; have hz := hb1.size; simp at hz; have y1 := one_ hz)
    · have hm : a.tmod b < 0 := by assumption
      go_ret2
      exact ⟨ret_R2 (by rw [HR.out, tmod_neg k2.1 hm]), (by repeat (first | exact Below.refl _ _ | assumption | refine below_drewN ?_ _ | refine Below.drew ?_ | refine below_new ?_ _ | refine Below.setCell ?_ (by first | omega | (simp <;> omega)) _ | refine below_then (by assumption) ?_))⟩
    · have hm : 0 ≤ a.tmod b := by assumption
      go_ret2
      exact ⟨ret_R2 (by rw [HR.out, tmod_nonneg k2.1 hm]), (by repeat (first | exact Below.refl _ _ | assumption | refine below_drewN ?_ _ | refine Below.drew ?_ | refine below_new ?_ _ | refine Below.setCell ?_ (by first | omega | (simp <;> omega)) _ | refine below_then (by assumption) ?_))⟩
  · simp only [Bool.not_eq_true] at h1
    have HR := Lib.hid (show floor a b = (0, 2) by simp [floor, h1])
    go_enter Try.func11, Try.ntmps11
    go_wp2_with (go_at_call 9; refine (right_any a b _ ha hb).mono ?_; rintro e w1 ⟨rfl, hb1⟩; obtain ⟨hcc, hff⟩ := bcell hb1; have hz := hb1.size; simp at hz; have y1 := one_ hz)
    go_ret2
    exact ⟨ret_R2 HR.out, (by repeat (first | exact Below.refl _ _ | assumption | refine below_drewN ?_ _ | refine Below.drew ?_ | refine below_new ?_ _ | refine Below.setCell ?_ (by first | omega | (simp <;> omega)) _ | refine below_then (by assumption) ?_))⟩


theorem floor_low (a b : Int) (hb : 1 ≤ b) : a / b * b ≤ a ∧ a < (a / b + 1) * b := ⟨Int.ediv_mul_le a (by omega), Int.lt_ediv_add_one_mul_self a (by omega)⟩
theorem floor_start (a b : Int) (hb : 1 ≤ b) : Value.int .i64 (a.tdiv b) = .int .i64 (a / b) ∨ Value.int .i64 (a.tdiv b) = .int .i64 (a / b + 1) := by
  rcases Int.lt_or_le (a.tmod b) 0 with h | h
  · right; rw [← tmod_neg hb h]; congr 1; omega
  · left; rw [tmod_nonneg hb h]

set_option maxHeartbeats 1000000 in
theorem ref_floor_any (a b : Int) (w : World) (ha : I64 a) (hb : I64 b) :
    Calls Try.prog 12 #[.agg #[.int .i64 a, .int .i64 b]] w fun e w' => e = .returned (R2 (floor a b)) ∧ Below w.heap.size w w' := by
  by_cases h1 : rightB a b = true
  · have HR := Lib.hid (show floor a b = (a / b, 0) by simp [floor, h1])
    have k1 := right_bd h1
    obtain ⟨k1, k2⟩ := k1
    have hq : b ≠ 0 := by omega
    have hA := floor_range h1
    have hT := tdiv_bd a b k1 k2.1
    have hlo := floor_low a b k2.1
    have hP := prod_bd hA (y := b) (by omega)
    have hE : (a / b + 1) * b = a / b * b + b := by rw [Int.add_mul, Int.one_mul]
    rw [hE] at hlo
    go_enter Try.func12, Try.ntmps12
    go_wp2_with (go_at_call 10; refine (ref_right_any a b _ ha hb).mono ?_; rintro e w1 ⟨rfl, hb1⟩; obtain ⟨hcc, hff⟩ := bcell hb1; have hz := hb1.size; simp at hz; have y1 := one_ hz)
    go_loop [4] (fun n => n = .int .i64 (a / b) ∨ n = .int .i64 (a / b + 1)) (fun n => (intOf n - a / b).toNat)
    case atStart => exact floor_start a b k2.1
    case round =>
      rcases hrel with rfl | rfl
      · go_wp2
        go_ret2
        exact ⟨ret_R2 HR.out, (by repeat (first | exact Below.refl _ _ | assumption | refine below_drewN ?_ _ | refine Below.drew ?_ | refine below_new ?_ _ | refine Below.setCell ?_ (by first | omega | (simp <;> omega)) _ | refine below_then (by assumption) ?_))⟩
      · go_wp2
        go_round
        case rel => exact .inl (by go_num)
        case measure => (simp [intOf] <;> omega)
  · simp only [Bool.not_eq_true] at h1
    have HR := Lib.hid (show floor a b = (0, 2) by simp [floor, h1])
    go_enter Try.func12, Try.ntmps12
    go_wp2_with (go_at_call 10; refine (ref_right_any a b _ ha hb).mono ?_; rintro e w1 ⟨rfl, hb1⟩; obtain ⟨hcc, hff⟩ := bcell hb1; have hz := hb1.size; simp at hz; have y1 := one_ hz)
    go_ret2
    exact ⟨ret_R2 HR.out, (by repeat (first | exact Below.refl _ _ | assumption | refine below_drewN ?_ _ | refine Below.drew ?_ | refine below_new ?_ _ | refine Below.setCell ?_ (by first | omega | (simp <;> omega)) _ | refine below_then (by assumption) ?_))⟩

end Go.Proofs.Ytkcbbnphhiiaiaa.Fr
