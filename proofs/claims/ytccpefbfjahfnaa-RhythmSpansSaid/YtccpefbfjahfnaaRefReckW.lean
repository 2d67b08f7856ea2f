/-
  THE WALKS of fractions: Plus, Minus, Times, Over: of the reference. (Printed by gen/reck.py.)
-/
import Derived.Test.YtccpefbfjahfnaaReckW
namespace Go.Proofs.Ytccpefbfjahfnaa.Fr
open Go.RowKit Gcd

theorem ref_make_all (u d : Int) (w : World) (hu : I64 u) (hd : I64 d) :
    Calls Try.prog 27 #[.int .i64 u, .int .i64 d] w fun e w' => e = .returned (makeV u d) ∧ Below w.heap.size w w' := by
  by_cases h : -9223372036854775808 < u
  · exact ref_make_any u d w hu hd h
  · have : u = -9223372036854775808 := by unfold I64 at hu; omega
    subst this
    exact ref_make_least d w hd

set_option maxHeartbeats 1000000 in
theorem ref_plus_yes (a b c d : Int) (w : World) (ha : I64 a) (hb : I64 b) (hc : I64 c) (hd : I64 d) (h1 : (rightB a b && rightB c d) = true) :
    Calls Try.prog 14 #[.agg #[.int .i64 a, .int .i64 b], .agg #[.int .i64 c, .int .i64 d]] w fun e w' =>
      e = .returned (R3 (plus a b c d)) ∧ Below w.heap.size w w' := by
    have HR := Lib.hid (show plus a b c d = make (a * d + c * b) (b * d) by simp [plus, h1])
    have h1' := h1
    rw [Bool.and_eq_true] at h1'
    have k1 := right_bd h1'.1
    have k2 := right_bd h1'.2
    have p1 := prod_bd k1.1 (y := d) (by omega)
    have p2 := prod_bd k2.1 (y := b) (by omega)
    have p3 := prod_bd (x := b) (y := d) (by omega) (by omega)
    rw [Bool.and_eq_true] at h1
    obtain ⟨h1, h2⟩ := h1
    clear h1'
    go_enter Try.func14, Try.ntmps14
    go_wp2_with (first
      | (go_at_call 26; with_reducible refine (ref_right_any a b _ ha hb).mono ?_; rintro e w0 ⟨rfl, hb0⟩; obtain ⟨hcc0, hff0⟩ := bcell hb0; have hz0 := hb0.size; simp at hz0; obtain ⟨y1, y2, y3⟩ := three hz0)
      | (go_at_call 26; with_reducible refine (ref_right_any c d _ hc hd).mono ?_; rintro e w1 ⟨rfl, hb1⟩; obtain ⟨hcc, hff⟩ := bcell hb1; have hz := hb1.size; have z1 : w.heap.size < w1.heap.size := (by omega); have z2 : w.heap.size + 1 < w1.heap.size := (by omega); have z3 : w.heap.size + 1 + 1 < w1.heap.size := (by omega))
      | (go_at_call 27; refine (ref_make_all (a * d + c * b) (b * d) _ (I64_of (by omega)) (I64_of (by omega))).mono ?_; rintro e w2 ⟨rfl, hb2⟩; rw [makeV_eq, R3]; obtain ⟨hcc2, hff2⟩ := bcell hb2))
    exact bodyPost_ret (v := R3 (make (a * d + c * b) (b * d))) (by simp [results, Try.results14, go_sem, R3, hcc2, hcc, hcc0, y3, z3]) rfl ⟨by rw [HR.out], (by repeat (first | exact Below.refl _ _ | assumption | refine below_drewN ?_ _ | refine Below.drew ?_ | refine below_new ?_ _ | refine Below.setCell ?_ (by first | omega | (simp <;> omega)) _ | refine below_then (by assumption) ?_))⟩

set_option maxHeartbeats 1000000 in
theorem ref_plus_no (a b c d : Int) (w : World) (ha : I64 a) (hb : I64 b) (hc : I64 c) (hd : I64 d) (h1 : (rightB a b && rightB c d) = false) :
    Calls Try.prog 14 #[.agg #[.int .i64 a, .int .i64 b], .agg #[.int .i64 c, .int .i64 d]] w fun e w' =>
      e = .returned (R3 (plus a b c d)) ∧ Below w.heap.size w w' := by
    have HR := Lib.hid (show plus a b c d = (0, 0, 2) by simp [plus, h1])
    by_cases h2 : rightB a b = true
    · have h3 : rightB c d = false := by simpa [h2] using h1
      clear h1
      go_enter Try.func14, Try.ntmps14
      go_wp2_with (first
        | (go_at_call 26; with_reducible refine (ref_right_any a b _ ha hb).mono ?_; rintro e w0 ⟨rfl, hb0⟩; obtain ⟨hcc0, hff0⟩ := bcell hb0; have hz0 := hb0.size; simp at hz0; obtain ⟨y1, y2, y3⟩ := three hz0)
        | (go_at_call 26; with_reducible refine (ref_right_any c d _ hc hd).mono ?_; rintro e w1 ⟨rfl, hb1⟩; obtain ⟨hcc, hff⟩ := bcell hb1; have hz := hb1.size; have z1 : w.heap.size < w1.heap.size := (by omega); have z2 : w.heap.size + 1 < w1.heap.size := (by omega); have z3 : w.heap.size + 1 + 1 < w1.heap.size := (by omega)))
      exact bodyPost_ret (v := R3 (0, 0, 2)) (by simp [results, Try.results14, go_sem, R3, hcc, hcc0, y3]) rfl ⟨by rw [HR.out], (by repeat (first | exact Below.refl _ _ | assumption | refine below_drewN ?_ _ | refine Below.drew ?_ | refine below_new ?_ _ | refine Below.setCell ?_ (by first | omega | (simp <;> omega)) _ | refine below_then (by assumption) ?_))⟩
    · simp only [Bool.not_eq_true] at h2
      clear h1
      go_enter Try.func14, Try.ntmps14
      go_wp2_with (go_at_call 26; with_reducible refine (ref_right_any a b _ ha hb).mono ?_; rintro e w0 ⟨rfl, hb0⟩; obtain ⟨hcc0, hff0⟩ := bcell hb0; have hz0 := hb0.size; simp at hz0; obtain ⟨y1, y2, y3⟩ := three hz0)
      exact bodyPost_ret (v := R3 (0, 0, 2)) (by simp [results, Try.results14, go_sem, R3, hcc0]) rfl ⟨by rw [HR.out], (by repeat (first | exact Below.refl _ _ | assumption | refine below_drewN ?_ _ | refine Below.drew ?_ | refine below_new ?_ _ | refine Below.setCell ?_ (by first | omega | (simp <;> omega)) _ | refine below_then (by assumption) ?_))⟩

theorem ref_plus_any (a b c d : Int) (w : World) (ha : I64 a) (hb : I64 b) (hc : I64 c) (hd : I64 d) :
    Calls Try.prog 14 #[.agg #[.int .i64 a, .int .i64 b], .agg #[.int .i64 c, .int .i64 d]] w fun e w' =>
      e = .returned (R3 (plus a b c d)) ∧ Below w.heap.size w w' := by
  by_cases h1 : (rightB a b && rightB c d) = true
  · exact ref_plus_yes a b c d w ha hb hc hd h1
  · exact ref_plus_no a b c d w ha hb hc hd (by simpa only [Bool.not_eq_true] using h1)

set_option maxHeartbeats 1000000 in
theorem ref_times_yes (a b c d : Int) (w : World) (ha : I64 a) (hb : I64 b) (hc : I64 c) (hd : I64 d) (h1 : (rightB a b && rightB c d) = true) :
    Calls Try.prog 39 #[.agg #[.int .i64 a, .int .i64 b], .agg #[.int .i64 c, .int .i64 d]] w fun e w' =>
      e = .returned (R3 (times a b c d)) ∧ Below w.heap.size w w' := by
    have HR := Lib.hid (show times a b c d = make (a * c) (b * d) by simp [times, h1])
    have h1' := h1
    rw [Bool.and_eq_true] at h1'
    have k1 := right_bd h1'.1
    have k2 := right_bd h1'.2
    have p1 := prod_bd k1.1 (y := c) (by omega)
    have p3 := prod_bd (x := b) (y := d) (by omega) (by omega)
    rw [Bool.and_eq_true] at h1
    obtain ⟨h1, h2⟩ := h1
    clear h1'
    go_enter Try.func39, Try.ntmps39
    go_wp2_with (first
      | (go_at_call 26; with_reducible refine (ref_right_any a b _ ha hb).mono ?_; rintro e w0 ⟨rfl, hb0⟩; obtain ⟨hcc0, hff0⟩ := bcell hb0; have hz0 := hb0.size; simp at hz0; obtain ⟨y1, y2, y3⟩ := three hz0)
      | (go_at_call 26; with_reducible refine (ref_right_any c d _ hc hd).mono ?_; rintro e w1 ⟨rfl, hb1⟩; obtain ⟨hcc, hff⟩ := bcell hb1; have hz := hb1.size; have z1 : w.heap.size < w1.heap.size := (by omega); have z2 : w.heap.size + 1 < w1.heap.size := (by omega); have z3 : w.heap.size + 1 + 1 < w1.heap.size := (by omega))
      | (go_at_call 27; refine (ref_make_all (a * c) (b * d) _ (I64_of (by omega)) (I64_of (by omega))).mono ?_; rintro e w2 ⟨rfl, hb2⟩; rw [makeV_eq, R3]; obtain ⟨hcc2, hff2⟩ := bcell hb2))
    exact bodyPost_ret (v := R3 (make (a * c) (b * d))) (by simp [results, Try.results39, go_sem, R3, hcc2, hcc, hcc0, y3, z3]) rfl ⟨by rw [HR.out], (by repeat (first | exact Below.refl _ _ | assumption | refine below_drewN ?_ _ | refine Below.drew ?_ | refine below_new ?_ _ | refine Below.setCell ?_ (by first | omega | (simp <;> omega)) _ | refine below_then (by assumption) ?_))⟩

set_option maxHeartbeats 1000000 in
theorem ref_times_no (a b c d : Int) (w : World) (ha : I64 a) (hb : I64 b) (hc : I64 c) (hd : I64 d) (h1 : (rightB a b && rightB c d) = false) :
    Calls Try.prog 39 #[.agg #[.int .i64 a, .int .i64 b], .agg #[.int .i64 c, .int .i64 d]] w fun e w' =>
      e = .returned (R3 (times a b c d)) ∧ Below w.heap.size w w' := by
    have HR := Lib.hid (show times a b c d = (0, 0, 2) by simp [times, h1])
    by_cases h2 : rightB a b = true
    · have h3 : rightB c d = false := by simpa [h2] using h1
      clear h1
      go_enter Try.func39, Try.ntmps39
      go_wp2_with (first
        | (go_at_call 26; with_reducible refine (ref_right_any a b _ ha hb).mono ?_; rintro e w0 ⟨rfl, hb0⟩; obtain ⟨hcc0, hff0⟩ := bcell hb0; have hz0 := hb0.size; simp at hz0; obtain ⟨y1, y2, y3⟩ := three hz0)
        | (go_at_call 26; with_reducible refine (ref_right_any c d _ hc hd).mono ?_; rintro e w1 ⟨rfl, hb1⟩; obtain ⟨hcc, hff⟩ := bcell hb1; have hz := hb1.size; have z1 : w.heap.size < w1.heap.size := (by omega); have z2 : w.heap.size + 1 < w1.heap.size := (by omega); have z3 : w.heap.size + 1 + 1 < w1.heap.size := (by omega)))
      exact bodyPost_ret (v := R3 (0, 0, 2)) (by simp [results, Try.results39, go_sem, R3, hcc, hcc0, y3]) rfl ⟨by rw [HR.out], (by repeat (first | exact Below.refl _ _ | assumption | refine below_drewN ?_ _ | refine Below.drew ?_ | refine below_new ?_ _ | refine Below.setCell ?_ (by first | omega | (simp <;> omega)) _ | refine below_then (by assumption) ?_))⟩
    · simp only [Bool.not_eq_true] at h2
      clear h1
      go_enter Try.func39, Try.ntmps39
      go_wp2_with (go_at_call 26; with_reducible refine (ref_right_any a b _ ha hb).mono ?_; rintro e w0 ⟨rfl, hb0⟩; obtain ⟨hcc0, hff0⟩ := bcell hb0; have hz0 := hb0.size; simp at hz0; obtain ⟨y1, y2, y3⟩ := three hz0)
      exact bodyPost_ret (v := R3 (0, 0, 2)) (by simp [results, Try.results39, go_sem, R3, hcc0]) rfl ⟨by rw [HR.out], (by repeat (first | exact Below.refl _ _ | assumption | refine below_drewN ?_ _ | refine Below.drew ?_ | refine below_new ?_ _ | refine Below.setCell ?_ (by first | omega | (simp <;> omega)) _ | refine below_then (by assumption) ?_))⟩

theorem ref_times_any (a b c d : Int) (w : World) (ha : I64 a) (hb : I64 b) (hc : I64 c) (hd : I64 d) :
    Calls Try.prog 39 #[.agg #[.int .i64 a, .int .i64 b], .agg #[.int .i64 c, .int .i64 d]] w fun e w' =>
      e = .returned (R3 (times a b c d)) ∧ Below w.heap.size w w' := by
  by_cases h1 : (rightB a b && rightB c d) = true
  · exact ref_times_yes a b c d w ha hb hc hd h1
  · exact ref_times_no a b c d w ha hb hc hd (by simpa only [Bool.not_eq_true] using h1)

end Go.Proofs.Ytccpefbfjahfnaa.Fr
