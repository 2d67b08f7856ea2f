/-
  THE WALKS of fractions: both, Plus, Minus, Times, Over: of the package. (Printed by gen/reck.py.)
-/
import Derived.Test.YtccpefbfjahfnaaMakeW
namespace Go.Proofs.Ytccpefbfjahfnaa.Fr
open Go.RowKit Gcd

theorem I64_of {n : Int} (h : -4611686018427387904 ≤ n ∧ n ≤ 4611686018427387904) : I64 n := by unfold I64; omega
theorem right_bd {u d : Int} (h : rightB u d = true) : (-1073741824 ≤ u ∧ u ≤ 1073741824) ∧ (1 ≤ d ∧ d ≤ 1073741824) := by
  have := rightB_iff.1 h; omega
theorem prod_bd {x y : Int} (hx : -1073741824 ≤ x ∧ x ≤ 1073741824) (hy : -1073741824 ≤ y ∧ y ≤ 1073741824) : -1152921504606846976 ≤ x * y ∧ x * y ≤ 1152921504606846976 := by
  have h : (x * y).natAbs ≤ 1073741824 * 1073741824 := by
    rw [Int.natAbs_mul]; exact Nat.mul_le_mul (by omega) (by omega)
  omega
theorem three {n m : Nat} (h : n + 1 + 1 + 1 ≤ m) : n < m ∧ n + 1 < m ∧ n + 1 + 1 < m := by omega
theorem two_ {n m : Nat} (h : n + 1 + 1 ≤ m) : n < m ∧ n + 1 < m := by omega

/-- What Plus .. answer, as a value. -/
def R3 (r : Int × Int × Int) : Value := .tuple #[.agg #[.int .i64 r.1, .int .i64 r.2.1], .int .i64 r.2.2]
theorem makeV_eq (u d : Int) : makeV u d = R3 (make u d) := rfl

set_option maxHeartbeats 1000000 in
theorem both_any (a b c d : Int) (w : World) (ha : I64 a) (hb : I64 b) (hc : I64 c) (hd : I64 d) :
    Calls Try.prog 43 #[.agg #[.int .i64 a, .int .i64 b], .agg #[.int .i64 c, .int .i64 d]] w fun e w' =>
      e = .returned (.bool (rightB a b && rightB c d)) ∧ Below w.heap.size w w' := by
  by_cases h1 : rightB a b = true
  all_goals
    try simp only [Bool.not_eq_true] at h1
    go_enter Try.func43, Try.ntmps43
    go_wp2_with (first
      | (go_at_call 23; with_reducible refine (right_any a b _ ha hb).mono ?_; rintro e w1 ⟨rfl, hb1⟩; obtain ⟨hcc, hff⟩ := bcell hb1)
      | (go_at_call 23; with_reducible refine (right_any c d _ hc hd).mono ?_; rintro e w2 ⟨rfl, hb2⟩))
    go_ret
    exact ⟨ret_bool (by simp [h1]), (by repeat (first | exact Below.refl _ _ | assumption | refine below_drewN ?_ _ | refine Below.drew ?_ | refine below_new ?_ _ | refine Below.setCell ?_ (by first | omega | (simp <;> omega)) _ | refine below_then (by assumption) ?_))⟩

set_option maxHeartbeats 1000000 in
theorem plus_yes (a b c d : Int) (w : World) (ha : I64 a) (hb : I64 b) (hc : I64 c) (hd : I64 d) (h1 : (rightB a b && rightB c d) = true) :
    Calls Try.prog 42 #[.agg #[.int .i64 a, .int .i64 b], .agg #[.int .i64 c, .int .i64 d]] w fun e w' =>
      e = .returned (R3 (plus a b c d)) ∧ Below w.heap.size w w' := by
    have HR := Lib.hid (show plus a b c d = make (a * d + c * b) (b * d) by simp [plus, h1])
    have h1' := h1
    rw [Bool.and_eq_true] at h1'
    have k1 := right_bd h1'.1
    have k2 := right_bd h1'.2
    have p1 := prod_bd k1.1 (y := d) (by omega)
    have p2 := prod_bd k2.1 (y := b) (by omega)
    have p3 := prod_bd (x := b) (y := d) (by omega) (by omega)
    clear h1'
    go_enter Try.func42, Try.ntmps42
    go_wp2_with (first
      | (go_at_call 43; refine (both_any a b c d _ ha hb hc hd).mono ?_; rintro e w1 ⟨rfl, hb1⟩; obtain ⟨hcc, hff⟩ := bcell hb1; have hz := hb1.size; simp at hz; obtain ⟨z1, z2, z3⟩ := three hz)
      | (go_at_call 21; refine (make_any (a * d + c * b) (b * d) _ (I64_of (by omega)) (I64_of (by omega))).mono ?_; rintro e w2 ⟨rfl, hb2⟩; rw [makeV_eq, R3]; obtain ⟨hcc2, hff2⟩ := bcell hb2))
    exact bodyPost_ret (v := R3 (make (a * d + c * b) (b * d))) (by simp [results, Try.results42, go_sem, R3, hcc2, hcc, z3]) rfl ⟨by rw [HR.out], (by repeat (first | exact Below.refl _ _ | assumption | refine below_drewN ?_ _ | refine Below.drew ?_ | refine below_new ?_ _ | refine Below.setCell ?_ (by first | omega | (simp <;> omega)) _ | refine below_then (by assumption) ?_))⟩

set_option maxHeartbeats 1000000 in
theorem plus_no (a b c d : Int) (w : World) (ha : I64 a) (hb : I64 b) (hc : I64 c) (hd : I64 d) (h1 : (rightB a b && rightB c d) = false) :
    Calls Try.prog 42 #[.agg #[.int .i64 a, .int .i64 b], .agg #[.int .i64 c, .int .i64 d]] w fun e w' =>
      e = .returned (R3 (plus a b c d)) ∧ Below w.heap.size w w' := by
    have HR := Lib.hid (show plus a b c d = (0, 0, 2) by simp [plus, h1])
    go_enter Try.func42, Try.ntmps42
    go_wp2_with (go_at_call 43; refine (both_any a b c d _ ha hb hc hd).mono ?_; rintro e w1 ⟨rfl, hb1⟩; obtain ⟨hcc, hff⟩ := bcell hb1; have hz := hb1.size; simp at hz; obtain ⟨z1, z2, z3⟩ := three hz)
    exact bodyPost_ret (v := R3 (0, 0, 2)) (by simp [results, Try.results42, go_sem, R3, hcc]) rfl ⟨by rw [HR.out], (by repeat (first | exact Below.refl _ _ | assumption | refine below_drewN ?_ _ | refine Below.drew ?_ | refine below_new ?_ _ | refine Below.setCell ?_ (by first | omega | (simp <;> omega)) _ | refine below_then (by assumption) ?_))⟩

theorem plus_any (a b c d : Int) (w : World) (ha : I64 a) (hb : I64 b) (hc : I64 c) (hd : I64 d) :
    Calls Try.prog 42 #[.agg #[.int .i64 a, .int .i64 b], .agg #[.int .i64 c, .int .i64 d]] w fun e w' =>
      e = .returned (R3 (plus a b c d)) ∧ Below w.heap.size w w' := by
  by_cases h1 : (rightB a b && rightB c d) = true
  · exact plus_yes a b c d w ha hb hc hd h1
  · exact plus_no a b c d w ha hb hc hd (by simpa only [Bool.not_eq_true] using h1)

set_option maxHeartbeats 1000000 in
theorem times_yes (a b c d : Int) (w : World) (ha : I64 a) (hb : I64 b) (hc : I64 c) (hd : I64 d) (h1 : (rightB a b && rightB c d) = true) :
    Calls Try.prog 38 #[.agg #[.int .i64 a, .int .i64 b], .agg #[.int .i64 c, .int .i64 d]] w fun e w' =>
      e = .returned (R3 (times a b c d)) ∧ Below w.heap.size w w' := by
    have HR := Lib.hid (show times a b c d = make (a * c) (b * d) by simp [times, h1])
    have h1' := h1
    rw [Bool.and_eq_true] at h1'
    have k1 := right_bd h1'.1
    have k2 := right_bd h1'.2
    have p1 := prod_bd k1.1 (y := c) (by omega)
    have p3 := prod_bd (x := b) (y := d) (by omega) (by omega)
    clear h1'
    go_enter Try.func38, Try.ntmps38
    go_wp2_with (first
      | (go_at_call 43; refine (both_any a b c d _ ha hb hc hd).mono ?_; rintro e w1 ⟨rfl, hb1⟩; obtain ⟨hcc, hff⟩ := bcell hb1; have hz := hb1.size; simp at hz; obtain ⟨z1, z2, z3⟩ := three hz)
      | (go_at_call 21; refine (make_any (a * c) (b * d) _ (I64_of (by omega)) (I64_of (by omega))).mono ?_; rintro e w2 ⟨rfl, hb2⟩; rw [makeV_eq, R3]; obtain ⟨hcc2, hff2⟩ := bcell hb2))
    exact bodyPost_ret (v := R3 (make (a * c) (b * d))) (by simp [results, Try.results38, go_sem, R3, hcc2, hcc, z3]) rfl ⟨by rw [HR.out], (by repeat (first | exact Below.refl _ _ | assumption | refine below_drewN ?_ _ | refine Below.drew ?_ | refine below_new ?_ _ | refine Below.setCell ?_ (by first | omega | (simp <;> omega)) _ | refine below_then (by assumption) ?_))⟩

set_option maxHeartbeats 1000000 in
theorem times_no (a b c d : Int) (w : World) (ha : I64 a) (hb : I64 b) (hc : I64 c) (hd : I64 d) (h1 : (rightB a b && rightB c d) = false) :
    Calls Try.prog 38 #[.agg #[.int .i64 a, .int .i64 b], .agg #[.int .i64 c, .int .i64 d]] w fun e w' =>
      e = .returned (R3 (times a b c d)) ∧ Below w.heap.size w w' := by
    have HR := Lib.hid (show times a b c d = (0, 0, 2) by simp [times, h1])
    go_enter Try.func38, Try.ntmps38
    go_wp2_with (go_at_call 43; refine (both_any a b c d _ ha hb hc hd).mono ?_; rintro e w1 ⟨rfl, hb1⟩; obtain ⟨hcc, hff⟩ := bcell hb1; have hz := hb1.size; simp at hz; obtain ⟨z1, z2, z3⟩ := three hz)
    exact bodyPost_ret (v := R3 (0, 0, 2)) (by simp [results, Try.results38, go_sem, R3, hcc]) rfl ⟨by rw [HR.out], (by repeat (first | exact Below.refl _ _ | assumption | refine below_drewN ?_ _ | refine Below.drew ?_ | refine below_new ?_ _ | refine Below.setCell ?_ (by first | omega | (simp <;> omega)) _ | refine below_then (by assumption) ?_))⟩

theorem times_any (a b c d : Int) (w : World) (ha : I64 a) (hb : I64 b) (hc : I64 c) (hd : I64 d) :
    Calls Try.prog 38 #[.agg #[.int .i64 a, .int .i64 b], .agg #[.int .i64 c, .int .i64 d]] w fun e w' =>
      e = .returned (R3 (times a b c d)) ∧ Below w.heap.size w w' := by
  by_cases h1 : (rightB a b && rightB c d) = true
  · exact times_yes a b c d w ha hb hc hd h1
  · exact times_no a b c d w ha hb hc hd (by simpa only [Bool.not_eq_true] using h1)

end Go.Proofs.Ytccpefbfjahfnaa.Fr
