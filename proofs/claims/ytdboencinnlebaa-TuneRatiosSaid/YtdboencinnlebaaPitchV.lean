/-
  THE WALKS of pitches, on: Between, Key, within, Sum, floor, Move, Mirror of the package.
-/
import Derived.Test.YtdboencinnlebaaPitchW
namespace Go.Proofs.Ytdboencinnlebaa.Pi
open Go.RowKit

/-- Two integers and what is wrong; three. -/
def R3 (r : Int × Int × Int) : Value := .tuple #[.agg #[.int .i64 r.1, .int .i64 r.2.1], .int .i64 r.2.2]
def R4 (r : Int × Int × Int × Int) : Value := .tuple #[.agg #[.int .i64 r.1, .int .i64 r.2.1, .int .i64 r.2.2.1], .int .i64 r.2.2.2]
def R2 (r : Int × Int) : Value := .tuple #[.int .i64 r.1, .int .i64 r.2]
theorem ret_R2 {r : Int × Int} {a b : Int} (h : r = (a, b)) : Ending.returned (.tuple #[.int .i64 a, .int .i64 b]) = .returned (R2 r) := by rw [h]; rfl
theorem three {n m : Nat} (h : n + 1 + 1 + 1 ≤ m) : n < m ∧ n + 1 < m ∧ n + 1 + 1 < m := by omega
theorem two_ {n m : Nat} (h : n + 1 + 1 ≤ m) : n < m ∧ n + 1 < m := by omega

set_option maxHeartbeats 1000000 in
theorem between_yes (l a o l' a' o' : Int) (w : World) (h1 : rightB l a o = true) (h2 : rightB l' a' o' = true) :
    Calls Try.prog 31 #[.agg #[.int .i64 l, .int .i64 a, .int .i64 o], .agg #[.int .i64 l', .int .i64 a', .int .i64 o']] w fun e w' =>
      e = .returned (R3 (between l a o l' a' o')) ∧ Below w.heap.size w w' := by
  have HR := Lib.hid (between_of h1 h2)
  have hr1 := rightB_iff.1 h1
  have hr2 := rightB_iff.1 h2
  have q1 := bounds h1
  have q2 := bounds h2
  go_enter Try.func31, Try.ntmps31
  go_wp2_with (first
    | (go_at_call 12; with_reducible refine (right_any l a o _).mono ?_; rintro e w1 ⟨rfl, hb1⟩; have hz := hb1.size; simp at hz; obtain ⟨z1, z2, z3⟩ := three hz; obtain ⟨hc, hf⟩ := bcell hb1)
    | (go_at_call 12; with_reducible refine (right_any l' a' o' _).mono ?_; rintro e w2 ⟨rfl, hb2⟩; have hz2 := hb2.size; have y1 : w.heap.size < w2.heap.size := (by omega); have y2 : w.heap.size + 1 < w2.heap.size := (by omega); have y3 : w.heap.size + 1 + 1 < w2.heap.size := (by omega); obtain ⟨hc2, hf2⟩ := bcell hb2))
  have hE := Ext.cells w2
  refine wp_region_ext_tail 11 (by kernel_rfl) (by kernel_rfl) ?_
  simp only [List.take_succ_cons, List.take_zero, List.drop_succ_cons, List.drop_zero]
  repeat go_big_quiet_step ((first | (go_at_call 42; with_reducible refine ext_call (steps_any l a o _ h1)) | (go_at_call 42; with_reducible refine ext_call (steps_any l' a' o' _ h2)) | (go_at_call 24; with_reducible refine ext_call (halves_any l a o _ (by omega) (by omega))) | (go_at_call 24; with_reducible refine ext_call (halves_any l' a' o' _ (by omega) (by omega)))))
  refine wpQuiet_nil ?_
  rintro wd ⟨⟨_, hbd⟩, rfl⟩
  obtain ⟨hcd, hfd⟩ := bcell hbd
  have zd := hbd.size
  have y4 : w.heap.size + 1 + 1 < wd.heap.size := by omega
  go_wp2
  exact bodyPost_ret (v := R3 (steps l' o' - steps l o, halves l' a' o' - halves l a o, 0)) (by simp [results, Try.results31, go_sem, R3, hcd, hc2, hc, y3, z3]) rfl ⟨by rw [HR.out], (by repeat (first | exact Below.refl _ _ | assumption | refine below_drewN ?_ _ | refine Below.drew ?_ | refine below_new ?_ _ | refine Below.setCell ?_ (by first | omega | (simp <;> omega)) _ | refine below_then (by assumption) ?_))⟩

set_option maxHeartbeats 1000000 in
theorem between_no (l a o l' a' o' : Int) (w : World) (h : (rightB l a o && rightB l' a' o') = false) :
    Calls Try.prog 31 #[.agg #[.int .i64 l, .int .i64 a, .int .i64 o], .agg #[.int .i64 l', .int .i64 a', .int .i64 o']] w fun e w' =>
      e = .returned (R3 (between l a o l' a' o')) ∧ Below w.heap.size w w' := by
  have HR := Lib.hid (show between l a o l' a' o' = (0, 0, 2) by simp [between, h])
  by_cases h1 : rightB l a o = true
  · have h2 : rightB l' a' o' = false := by simpa [h1] using h
    clear h
    go_enter Try.func31, Try.ntmps31
    go_wp2_with (first
      | (go_at_call 12; with_reducible refine (right_any l a o _).mono ?_; rintro e w1 ⟨rfl, hb1⟩; have hz := hb1.size; simp at hz; obtain ⟨z1, z2, z3⟩ := three hz; obtain ⟨hc, hf⟩ := bcell hb1)
      | (go_at_call 12; with_reducible refine (right_any l' a' o' _).mono ?_; rintro e w2 ⟨rfl, hb2⟩; have hz2 := hb2.size; have y3 : w.heap.size + 1 + 1 < w2.heap.size := (by omega); obtain ⟨hc2, hf2⟩ := bcell hb2))
    exact bodyPost_ret (v := R3 (0, 0, 2)) (by simp [results, Try.results31, go_sem, R3, hc2, hc, z3]) rfl ⟨by rw [HR.out], (by repeat (first | exact Below.refl _ _ | assumption | refine below_drewN ?_ _ | refine Below.drew ?_ | refine below_new ?_ _ | refine Below.setCell ?_ (by first | omega | (simp <;> omega)) _ | refine below_then (by assumption) ?_))⟩
  · simp only [Bool.not_eq_true] at h1
    clear h
    go_enter Try.func31, Try.ntmps31
    go_wp2_with (go_at_call 12; with_reducible refine (right_any l a o _).mono ?_; rintro e w1 ⟨rfl, hb1⟩; have hz := hb1.size; simp at hz; obtain ⟨z1, z2, z3⟩ := three hz; obtain ⟨hc, hf⟩ := bcell hb1)
    exact bodyPost_ret (v := R3 (0, 0, 2)) (by simp [results, Try.results31, go_sem, R3, hc]) rfl ⟨by rw [HR.out], (by repeat (first | exact Below.refl _ _ | assumption | refine below_drewN ?_ _ | refine Below.drew ?_ | refine below_new ?_ _ | refine Below.setCell ?_ (by first | omega | (simp <;> omega)) _ | refine below_then (by assumption) ?_))⟩

theorem between_any (l a o l' a' o' : Int) (w : World) :
    Calls Try.prog 31 #[.agg #[.int .i64 l, .int .i64 a, .int .i64 o], .agg #[.int .i64 l', .int .i64 a', .int .i64 o']] w fun e w' =>
      e = .returned (R3 (between l a o l' a' o')) ∧ Below w.heap.size w w' := by
  by_cases h : (rightB l a o && rightB l' a' o') = true
  · rw [Bool.and_eq_true] at h; exact between_yes l a o l' a' o' w h.1 h.2
  · exact between_no l a o l' a' o' w (by simpa only [Bool.not_eq_true] using h)

set_option maxHeartbeats 1000000 in
theorem key_any (l a o : Int) (w : World) :
    Calls Try.prog 13 #[.agg #[.int .i64 l, .int .i64 a, .int .i64 o]] w fun e w' => e = .returned (R2 (key l a o)) ∧ Below w.heap.size w w' := by
  by_cases h1 : rightB l a o = true
  · have HR := Lib.hid (show key l a o = (halves l a o + 12, 0) by simp [key, h1])
    have hr1 := rightB_iff.1 h1
    have hbd := (bounds h1).2
    go_enter Try.func13, Try.ntmps13
    go_wp2_with (first
      | (go_at_call 12; with_reducible refine (right_any l a o _).mono ?_; rintro e w1 ⟨rfl, hb1⟩; have hz := hb1.size; simp at hz; have z1 := one_ hz; obtain ⟨hc, hf⟩ := bcell hb1)
      | (go_at_call 24; with_reducible refine (halves_any l a o _ (by omega) (by omega)).mono ?_; rintro e w2 ⟨rfl, hb2⟩))
    go_ret2
    exact ⟨ret_R2 HR.out, (by repeat (first | exact Below.refl _ _ | assumption | refine below_drewN ?_ _ | refine Below.drew ?_ | refine below_new ?_ _ | refine Below.setCell ?_ (by first | omega | (simp <;> omega)) _ | refine below_then (by assumption) ?_))⟩
  · simp only [Bool.not_eq_true] at h1
    have HR := Lib.hid (show key l a o = (0, 2) by simp [key, h1])
    go_enter Try.func13, Try.ntmps13
    go_wp2_with (go_at_call 12; with_reducible refine (right_any l a o _).mono ?_; rintro e w1 ⟨rfl, hb1⟩; have hz := hb1.size; simp at hz; have z1 := one_ hz; obtain ⟨hc, hf⟩ := bcell hb1)
    go_ret2
    exact ⟨ret_R2 HR.out, (by repeat (first | exact Below.refl _ _ | assumption | refine below_drewN ?_ _ | refine Below.drew ?_ | refine below_new ?_ _ | refine Below.setCell ?_ (by first | omega | (simp <;> omega)) _ | refine below_then (by assumption) ?_))⟩

theorem wrap_least : wrap64 9223372036854775808 = -9223372036854775808 := by unfold wrap64; decide

set_option maxHeartbeats 4000000 in
theorem within_any (s h : Int) (w : World) (hs : I64 s) (hh : I64 h) :
    Calls Try.prog 19 #[.agg #[.int .i64 s, .int .i64 h]] w fun e w' => e = .returned (.bool (withinB s h)) ∧ Below w.heap.size w w' := by
  unfold I64 at hs hh
  have hw := wrap_least
  have cs : s = -9223372036854775808 ∨ (-9223372036854775808 < s ∧ s < -200) ∨ (-200 ≤ s ∧ s ≤ 200) ∨ 200 < s := by omega
  have ch : h = -9223372036854775808 ∨ (-9223372036854775808 < h ∧ h < -4096) ∨ (-4096 ≤ h ∧ h ≤ 4096) ∨ 4096 < h := by omega
  rcases cs with rfl | ⟨c1, c2⟩ | ⟨c1, c2⟩ | c1 <;> rcases ch with rfl | ⟨d1, d2⟩ | ⟨d1, d2⟩ | d1
  all_goals
    go_enter Try.func19, Try.ntmps19
    go_wp2
    all_goals
      go_ret
      refine ⟨ret_bool ?_, (by repeat (first | exact Below.refl _ _ | assumption | refine below_drewN ?_ _ | refine Below.drew ?_ | refine below_new ?_ _ | refine Below.setCell ?_ (by first | omega | (simp <;> omega)) _ | refine below_then (by assumption) ?_))⟩
      rw [Bool.eq_iff_iff, withinB_iff]
      simp
      try omega


theorem sum_ok {s h s' h' : Int} (h1 : withinB s h = true) (h2 : withinB s' h' = true) (h3 : withinB (s + s') (h + h') = true) : sum s h s' h' = (s + s', h + h', 0) := by simp [sum, h1, h2, h3]
theorem sum_no3 {s h s' h' : Int} (h3 : withinB (s + s') (h + h') = false) : sum s h s' h' = (0, 0, 3) := by simp [sum, h3]
theorem sum_no2 {s h s' h' : Int} (h2 : withinB s' h' = false) : sum s h s' h' = (0, 0, 3) := by simp [sum, h2]
theorem sum_no1 {s h s' h' : Int} (h1 : withinB s h = false) : sum s h s' h' = (0, 0, 3) := by simp [sum, h1]

set_option maxHeartbeats 2000000 in
theorem sum_any (s h s' h' : Int) (w : World) (i1 : I64 s) (i2 : I64 h) (i3 : I64 s') (i4 : I64 h') :
    Calls Try.prog 8 #[.agg #[.int .i64 s, .int .i64 h], .agg #[.int .i64 s', .int .i64 h']] w fun e w' =>
      e = .returned (R3 (sum s h s' h')) ∧ Below w.heap.size w w' := by
  by_cases h1 : withinB s h = true
  · by_cases h2 : withinB s' h' = true
    · have b1 := withinB_iff.1 h1
      have b2 := withinB_iff.1 h2
      have i5 : I64 (s + s') := by unfold I64; omega
      have i6 : I64 (h + h') := by unfold I64; omega
      by_cases h3 : withinB (s + s') (h + h') = true
      · have HR := Lib.hid (sum_ok h1 h2 h3)
        go_enter Try.func8, Try.ntmps8
        go_wp2_with (first
          | (go_at_call 19; with_reducible refine (within_any s h _ i1 i2).mono ?_; rintro e w1 ⟨rfl, hb1⟩; have hz1 := hb1.size; (try simp at hz1); have zx1 : w.heap.size < w1.heap.size := (by first | omega | (simp; omega)); have cx0_1 : w1.cell? ⟨w.heap.size, 0, none⟩ = some (.int .i64 (s)) := (hb1.cell (by first | assumption | (simp <;> omega))).trans (by go_simp); have cx1_1 : w1.cell? ⟨w.heap.size, 1, none⟩ = some (.int .i64 (h)) := (hb1.cell (by first | assumption | (simp <;> omega))).trans (by go_simp); have zy1 : w.heap.size + 1 < w1.heap.size := (by first | omega | (simp; omega)); have cy0_1 : w1.cell? ⟨w.heap.size + 1, 0, none⟩ = some (.int .i64 (s')) := (hb1.cell (by first | assumption | (simp <;> omega))).trans (by go_simp); have cy1_1 : w1.cell? ⟨w.heap.size + 1, 1, none⟩ = some (.int .i64 (h')) := (hb1.cell (by first | assumption | (simp <;> omega))).trans (by go_simp); have zr1 : w.heap.size + 1 + 1 < w1.heap.size := (by first | omega | (simp; omega)); have cr0_1 : w1.cell? ⟨w.heap.size + 1 + 1, 0, none⟩ = some (.int .i64 (0)) := (hb1.cell (by first | assumption | (simp <;> omega))).trans (by go_simp); have fr0_1 : w1.frozen? ⟨w.heap.size + 1 + 1, 0, none⟩ = false := (hb1.frozen (by first | assumption | (simp <;> omega))).trans (by go_simp); have cr1_1 : w1.cell? ⟨w.heap.size + 1 + 1, 1, none⟩ = some (.int .i64 (0)) := (hb1.cell (by first | assumption | (simp <;> omega))).trans (by go_simp); have fr1_1 : w1.frozen? ⟨w.heap.size + 1 + 1, 1, none⟩ = false := (hb1.frozen (by first | assumption | (simp <;> omega))).trans (by go_simp))
          | (go_at_call 19; with_reducible refine (within_any s' h' _ i3 i4).mono ?_; rintro e w2 ⟨rfl, hb2⟩; have hz2 := hb2.size; (try simp at hz2); have zx2 : w.heap.size < w2.heap.size := (by first | omega | (simp; omega)); have cx0_2 : w2.cell? ⟨w.heap.size, 0, none⟩ = some (.int .i64 (s)) := (hb2.cell (by first | assumption | (simp <;> omega))).trans (by go_simp); have cx1_2 : w2.cell? ⟨w.heap.size, 1, none⟩ = some (.int .i64 (h)) := (hb2.cell (by first | assumption | (simp <;> omega))).trans (by go_simp); have zy2 : w.heap.size + 1 < w2.heap.size := (by first | omega | (simp; omega)); have cy0_2 : w2.cell? ⟨w.heap.size + 1, 0, none⟩ = some (.int .i64 (s')) := (hb2.cell (by first | assumption | (simp <;> omega))).trans (by go_simp); have cy1_2 : w2.cell? ⟨w.heap.size + 1, 1, none⟩ = some (.int .i64 (h')) := (hb2.cell (by first | assumption | (simp <;> omega))).trans (by go_simp); have zr2 : w.heap.size + 1 + 1 < w2.heap.size := (by first | omega | (simp; omega)); have cr0_2 : w2.cell? ⟨w.heap.size + 1 + 1, 0, none⟩ = some (.int .i64 (0)) := (hb2.cell (by first | assumption | (simp <;> omega))).trans (by go_simp); have fr0_2 : w2.frozen? ⟨w.heap.size + 1 + 1, 0, none⟩ = false := (hb2.frozen (by first | assumption | (simp <;> omega))).trans (by go_simp); have cr1_2 : w2.cell? ⟨w.heap.size + 1 + 1, 1, none⟩ = some (.int .i64 (0)) := (hb2.cell (by first | assumption | (simp <;> omega))).trans (by go_simp); have fr1_2 : w2.frozen? ⟨w.heap.size + 1 + 1, 1, none⟩ = false := (hb2.frozen (by first | assumption | (simp <;> omega))).trans (by go_simp))
          | (go_at_call 19; with_reducible refine (within_any (s + s') (h + h') _ i5 i6).mono ?_; rintro e w3 ⟨rfl, hb3⟩; have hz3 := hb3.size; (try simp at hz3); have zx3 : w.heap.size < w3.heap.size := (by first | omega | (simp; omega)); have cx0_3 : w3.cell? ⟨w.heap.size, 0, none⟩ = some (.int .i64 (s)) := (hb3.cell (by first | assumption | (simp <;> omega))).trans (by go_simp); have cx1_3 : w3.cell? ⟨w.heap.size, 1, none⟩ = some (.int .i64 (h)) := (hb3.cell (by first | assumption | (simp <;> omega))).trans (by go_simp); have zy3 : w.heap.size + 1 < w3.heap.size := (by first | omega | (simp; omega)); have cy0_3 : w3.cell? ⟨w.heap.size + 1, 0, none⟩ = some (.int .i64 (s')) := (hb3.cell (by first | assumption | (simp <;> omega))).trans (by go_simp); have cy1_3 : w3.cell? ⟨w.heap.size + 1, 1, none⟩ = some (.int .i64 (h')) := (hb3.cell (by first | assumption | (simp <;> omega))).trans (by go_simp); have zr3 : w.heap.size + 1 + 1 < w3.heap.size := (by first | omega | (simp; omega)); have cr0_3 : w3.cell? ⟨w.heap.size + 1 + 1, 0, none⟩ = some (.int .i64 (0)) := (hb3.cell (by first | assumption | (simp <;> omega))).trans (by go_simp); have fr0_3 : w3.frozen? ⟨w.heap.size + 1 + 1, 0, none⟩ = false := (hb3.frozen (by first | assumption | (simp <;> omega))).trans (by go_simp); have cr1_3 : w3.cell? ⟨w.heap.size + 1 + 1, 1, none⟩ = some (.int .i64 (0)) := (hb3.cell (by first | assumption | (simp <;> omega))).trans (by go_simp); have fr1_3 : w3.frozen? ⟨w.heap.size + 1 + 1, 1, none⟩ = false := (hb3.frozen (by first | assumption | (simp <;> omega))).trans (by go_simp); have zk3 : w2.heap.size < w3.heap.size := (by first | omega | (simp; omega)); have ck0_3 : w3.cell? ⟨w2.heap.size, 0, none⟩ = some (.int .i64 (s + s')) := (hb3.cell (by first | assumption | (simp <;> omega))).trans (by go_simp); have ck1_3 : w3.cell? ⟨w2.heap.size, 1, none⟩ = some (.int .i64 (h + h')) := (hb3.cell (by first | assumption | (simp <;> omega))).trans (by go_simp)))
        exact bodyPost_ret (v := R3 (s + s', h + h', 0)) (by simp [results, Try.results8, go_sem, R3, cr0_3, cr1_3]) rfl ⟨by rw [HR.out], (by repeat (first | exact Below.refl _ _ | assumption | refine below_drewN ?_ _ | refine Below.drew ?_ | refine below_new ?_ _ | refine Below.setCell ?_ (by first | omega | (simp <;> omega)) _ | refine below_then (by assumption) ?_))⟩
      · simp only [Bool.not_eq_true] at h3
        have HR := Lib.hid (sum_no3 h3)
        go_enter Try.func8, Try.ntmps8
        go_wp2_with (first
          | (go_at_call 19; with_reducible refine (within_any s h _ i1 i2).mono ?_; rintro e w1 ⟨rfl, hb1⟩; have hz1 := hb1.size; (try simp at hz1); have zx1 : w.heap.size < w1.heap.size := (by first | omega | (simp; omega)); have cx0_1 : w1.cell? ⟨w.heap.size, 0, none⟩ = some (.int .i64 (s)) := (hb1.cell (by first | assumption | (simp <;> omega))).trans (by go_simp); have cx1_1 : w1.cell? ⟨w.heap.size, 1, none⟩ = some (.int .i64 (h)) := (hb1.cell (by first | assumption | (simp <;> omega))).trans (by go_simp); have zy1 : w.heap.size + 1 < w1.heap.size := (by first | omega | (simp; omega)); have cy0_1 : w1.cell? ⟨w.heap.size + 1, 0, none⟩ = some (.int .i64 (s')) := (hb1.cell (by first | assumption | (simp <;> omega))).trans (by go_simp); have cy1_1 : w1.cell? ⟨w.heap.size + 1, 1, none⟩ = some (.int .i64 (h')) := (hb1.cell (by first | assumption | (simp <;> omega))).trans (by go_simp); have zr1 : w.heap.size + 1 + 1 < w1.heap.size := (by first | omega | (simp; omega)); have cr0_1 : w1.cell? ⟨w.heap.size + 1 + 1, 0, none⟩ = some (.int .i64 (0)) := (hb1.cell (by first | assumption | (simp <;> omega))).trans (by go_simp); have fr0_1 : w1.frozen? ⟨w.heap.size + 1 + 1, 0, none⟩ = false := (hb1.frozen (by first | assumption | (simp <;> omega))).trans (by go_simp); have cr1_1 : w1.cell? ⟨w.heap.size + 1 + 1, 1, none⟩ = some (.int .i64 (0)) := (hb1.cell (by first | assumption | (simp <;> omega))).trans (by go_simp); have fr1_1 : w1.frozen? ⟨w.heap.size + 1 + 1, 1, none⟩ = false := (hb1.frozen (by first | assumption | (simp <;> omega))).trans (by go_simp))
          | (go_at_call 19; with_reducible refine (within_any s' h' _ i3 i4).mono ?_; rintro e w2 ⟨rfl, hb2⟩; have hz2 := hb2.size; (try simp at hz2); have zx2 : w.heap.size < w2.heap.size := (by first | omega | (simp; omega)); have cx0_2 : w2.cell? ⟨w.heap.size, 0, none⟩ = some (.int .i64 (s)) := (hb2.cell (by first | assumption | (simp <;> omega))).trans (by go_simp); have cx1_2 : w2.cell? ⟨w.heap.size, 1, none⟩ = some (.int .i64 (h)) := (hb2.cell (by first | assumption | (simp <;> omega))).trans (by go_simp); have zy2 : w.heap.size + 1 < w2.heap.size := (by first | omega | (simp; omega)); have cy0_2 : w2.cell? ⟨w.heap.size + 1, 0, none⟩ = some (.int .i64 (s')) := (hb2.cell (by first | assumption | (simp <;> omega))).trans (by go_simp); have cy1_2 : w2.cell? ⟨w.heap.size + 1, 1, none⟩ = some (.int .i64 (h')) := (hb2.cell (by first | assumption | (simp <;> omega))).trans (by go_simp); have zr2 : w.heap.size + 1 + 1 < w2.heap.size := (by first | omega | (simp; omega)); have cr0_2 : w2.cell? ⟨w.heap.size + 1 + 1, 0, none⟩ = some (.int .i64 (0)) := (hb2.cell (by first | assumption | (simp <;> omega))).trans (by go_simp); have fr0_2 : w2.frozen? ⟨w.heap.size + 1 + 1, 0, none⟩ = false := (hb2.frozen (by first | assumption | (simp <;> omega))).trans (by go_simp); have cr1_2 : w2.cell? ⟨w.heap.size + 1 + 1, 1, none⟩ = some (.int .i64 (0)) := (hb2.cell (by first | assumption | (simp <;> omega))).trans (by go_simp); have fr1_2 : w2.frozen? ⟨w.heap.size + 1 + 1, 1, none⟩ = false := (hb2.frozen (by first | assumption | (simp <;> omega))).trans (by go_simp))
          | (go_at_call 19; with_reducible refine (within_any (s + s') (h + h') _ i5 i6).mono ?_; rintro e w3 ⟨rfl, hb3⟩; have hz3 := hb3.size; (try simp at hz3); have zx3 : w.heap.size < w3.heap.size := (by first | omega | (simp; omega)); have cx0_3 : w3.cell? ⟨w.heap.size, 0, none⟩ = some (.int .i64 (s)) := (hb3.cell (by first | assumption | (simp <;> omega))).trans (by go_simp); have cx1_3 : w3.cell? ⟨w.heap.size, 1, none⟩ = some (.int .i64 (h)) := (hb3.cell (by first | assumption | (simp <;> omega))).trans (by go_simp); have zy3 : w.heap.size + 1 < w3.heap.size := (by first | omega | (simp; omega)); have cy0_3 : w3.cell? ⟨w.heap.size + 1, 0, none⟩ = some (.int .i64 (s')) := (hb3.cell (by first | assumption | (simp <;> omega))).trans (by go_simp); have cy1_3 : w3.cell? ⟨w.heap.size + 1, 1, none⟩ = some (.int .i64 (h')) := (hb3.cell (by first | assumption | (simp <;> omega))).trans (by go_simp); have zr3 : w.heap.size + 1 + 1 < w3.heap.size := (by first | omega | (simp; omega)); have cr0_3 : w3.cell? ⟨w.heap.size + 1 + 1, 0, none⟩ = some (.int .i64 (0)) := (hb3.cell (by first | assumption | (simp <;> omega))).trans (by go_simp); have fr0_3 : w3.frozen? ⟨w.heap.size + 1 + 1, 0, none⟩ = false := (hb3.frozen (by first | assumption | (simp <;> omega))).trans (by go_simp); have cr1_3 : w3.cell? ⟨w.heap.size + 1 + 1, 1, none⟩ = some (.int .i64 (0)) := (hb3.cell (by first | assumption | (simp <;> omega))).trans (by go_simp); have fr1_3 : w3.frozen? ⟨w.heap.size + 1 + 1, 1, none⟩ = false := (hb3.frozen (by first | assumption | (simp <;> omega))).trans (by go_simp); have zk3 : w2.heap.size < w3.heap.size := (by first | omega | (simp; omega)); have ck0_3 : w3.cell? ⟨w2.heap.size, 0, none⟩ = some (.int .i64 (s + s')) := (hb3.cell (by first | assumption | (simp <;> omega))).trans (by go_simp); have ck1_3 : w3.cell? ⟨w2.heap.size, 1, none⟩ = some (.int .i64 (h + h')) := (hb3.cell (by first | assumption | (simp <;> omega))).trans (by go_simp)))
        exact bodyPost_ret (v := R3 (0, 0, 3)) (by simp [results, Try.results8, go_sem, R3, cr0_3, cr1_3]) rfl ⟨by rw [HR.out], (by repeat (first | exact Below.refl _ _ | assumption | refine below_drewN ?_ _ | refine Below.drew ?_ | refine below_new ?_ _ | refine Below.setCell ?_ (by first | omega | (simp <;> omega)) _ | refine below_then (by assumption) ?_))⟩
    · simp only [Bool.not_eq_true] at h2
      have HR := Lib.hid (sum_no2 (s := s) (h := h) h2)
      go_enter Try.func8, Try.ntmps8
      go_wp2_with (first
        | (go_at_call 19; with_reducible refine (within_any s h _ i1 i2).mono ?_; rintro e w1 ⟨rfl, hb1⟩; have hz1 := hb1.size; (try simp at hz1); have zx1 : w.heap.size < w1.heap.size := (by first | omega | (simp; omega)); have cx0_1 : w1.cell? ⟨w.heap.size, 0, none⟩ = some (.int .i64 (s)) := (hb1.cell (by first | assumption | (simp <;> omega))).trans (by go_simp); have cx1_1 : w1.cell? ⟨w.heap.size, 1, none⟩ = some (.int .i64 (h)) := (hb1.cell (by first | assumption | (simp <;> omega))).trans (by go_simp); have zy1 : w.heap.size + 1 < w1.heap.size := (by first | omega | (simp; omega)); have cy0_1 : w1.cell? ⟨w.heap.size + 1, 0, none⟩ = some (.int .i64 (s')) := (hb1.cell (by first | assumption | (simp <;> omega))).trans (by go_simp); have cy1_1 : w1.cell? ⟨w.heap.size + 1, 1, none⟩ = some (.int .i64 (h')) := (hb1.cell (by first | assumption | (simp <;> omega))).trans (by go_simp); have zr1 : w.heap.size + 1 + 1 < w1.heap.size := (by first | omega | (simp; omega)); have cr0_1 : w1.cell? ⟨w.heap.size + 1 + 1, 0, none⟩ = some (.int .i64 (0)) := (hb1.cell (by first | assumption | (simp <;> omega))).trans (by go_simp); have fr0_1 : w1.frozen? ⟨w.heap.size + 1 + 1, 0, none⟩ = false := (hb1.frozen (by first | assumption | (simp <;> omega))).trans (by go_simp); have cr1_1 : w1.cell? ⟨w.heap.size + 1 + 1, 1, none⟩ = some (.int .i64 (0)) := (hb1.cell (by first | assumption | (simp <;> omega))).trans (by go_simp); have fr1_1 : w1.frozen? ⟨w.heap.size + 1 + 1, 1, none⟩ = false := (hb1.frozen (by first | assumption | (simp <;> omega))).trans (by go_simp))
        | (go_at_call 19; with_reducible refine (within_any s' h' _ i3 i4).mono ?_; rintro e w2 ⟨rfl, hb2⟩; have hz2 := hb2.size; (try simp at hz2); have zx2 : w.heap.size < w2.heap.size := (by first | omega | (simp; omega)); have cx0_2 : w2.cell? ⟨w.heap.size, 0, none⟩ = some (.int .i64 (s)) := (hb2.cell (by first | assumption | (simp <;> omega))).trans (by go_simp); have cx1_2 : w2.cell? ⟨w.heap.size, 1, none⟩ = some (.int .i64 (h)) := (hb2.cell (by first | assumption | (simp <;> omega))).trans (by go_simp); have zy2 : w.heap.size + 1 < w2.heap.size := (by first | omega | (simp; omega)); have cy0_2 : w2.cell? ⟨w.heap.size + 1, 0, none⟩ = some (.int .i64 (s')) := (hb2.cell (by first | assumption | (simp <;> omega))).trans (by go_simp); have cy1_2 : w2.cell? ⟨w.heap.size + 1, 1, none⟩ = some (.int .i64 (h')) := (hb2.cell (by first | assumption | (simp <;> omega))).trans (by go_simp); have zr2 : w.heap.size + 1 + 1 < w2.heap.size := (by first | omega | (simp; omega)); have cr0_2 : w2.cell? ⟨w.heap.size + 1 + 1, 0, none⟩ = some (.int .i64 (0)) := (hb2.cell (by first | assumption | (simp <;> omega))).trans (by go_simp); have fr0_2 : w2.frozen? ⟨w.heap.size + 1 + 1, 0, none⟩ = false := (hb2.frozen (by first | assumption | (simp <;> omega))).trans (by go_simp); have cr1_2 : w2.cell? ⟨w.heap.size + 1 + 1, 1, none⟩ = some (.int .i64 (0)) := (hb2.cell (by first | assumption | (simp <;> omega))).trans (by go_simp); have fr1_2 : w2.frozen? ⟨w.heap.size + 1 + 1, 1, none⟩ = false := (hb2.frozen (by first | assumption | (simp <;> omega))).trans (by go_simp)))
      exact bodyPost_ret (v := R3 (0, 0, 3)) (by simp [results, Try.results8, go_sem, R3, cr0_2, cr1_2]) rfl ⟨by rw [HR.out], (by repeat (first | exact Below.refl _ _ | assumption | refine below_drewN ?_ _ | refine Below.drew ?_ | refine below_new ?_ _ | refine Below.setCell ?_ (by first | omega | (simp <;> omega)) _ | refine below_then (by assumption) ?_))⟩
  · simp only [Bool.not_eq_true] at h1
    have HR := Lib.hid (sum_no1 (s' := s') (h' := h') h1)
    go_enter Try.func8, Try.ntmps8
    go_wp2_with (first
      | (go_at_call 19; with_reducible refine (within_any s h _ i1 i2).mono ?_; rintro e w1 ⟨rfl, hb1⟩; have hz1 := hb1.size; (try simp at hz1); have zx1 : w.heap.size < w1.heap.size := (by first | omega | (simp; omega)); have cx0_1 : w1.cell? ⟨w.heap.size, 0, none⟩ = some (.int .i64 (s)) := (hb1.cell (by first | assumption | (simp <;> omega))).trans (by go_simp); have cx1_1 : w1.cell? ⟨w.heap.size, 1, none⟩ = some (.int .i64 (h)) := (hb1.cell (by first | assumption | (simp <;> omega))).trans (by go_simp); have zy1 : w.heap.size + 1 < w1.heap.size := (by first | omega | (simp; omega)); have cy0_1 : w1.cell? ⟨w.heap.size + 1, 0, none⟩ = some (.int .i64 (s')) := (hb1.cell (by first | assumption | (simp <;> omega))).trans (by go_simp); have cy1_1 : w1.cell? ⟨w.heap.size + 1, 1, none⟩ = some (.int .i64 (h')) := (hb1.cell (by first | assumption | (simp <;> omega))).trans (by go_simp); have zr1 : w.heap.size + 1 + 1 < w1.heap.size := (by first | omega | (simp; omega)); have cr0_1 : w1.cell? ⟨w.heap.size + 1 + 1, 0, none⟩ = some (.int .i64 (0)) := (hb1.cell (by first | assumption | (simp <;> omega))).trans (by go_simp); have fr0_1 : w1.frozen? ⟨w.heap.size + 1 + 1, 0, none⟩ = false := (hb1.frozen (by first | assumption | (simp <;> omega))).trans (by go_simp); have cr1_1 : w1.cell? ⟨w.heap.size + 1 + 1, 1, none⟩ = some (.int .i64 (0)) := (hb1.cell (by first | assumption | (simp <;> omega))).trans (by go_simp); have fr1_1 : w1.frozen? ⟨w.heap.size + 1 + 1, 1, none⟩ = false := (hb1.frozen (by first | assumption | (simp <;> omega))).trans (by go_simp)))
    exact bodyPost_ret (v := R3 (0, 0, 3)) (by simp [results, Try.results8, go_sem, R3, cr0_1, cr1_1]) rfl ⟨by rw [HR.out], (by repeat (first | exact Below.refl _ _ | assumption | refine below_drewN ?_ _ | refine Below.drew ?_ | refine below_new ?_ _ | refine Below.setCell ?_ (by first | omega | (simp <;> omega)) _ | refine below_then (by assumption) ?_))⟩

theorem tq (n k : Int) (hk : 0 < k) : k * n.tdiv k + n.tmod k = n ∧ -k < n.tmod k ∧ n.tmod k < k := by
  have h1 := Int.natAbs_tmod n k
  have h2 := Nat.mod_lt n.natAbs (show 0 < k.natAbs by omega)
  exact ⟨Int.mul_tdiv_add_tmod n k, by omega, by omega⟩

end Go.Proofs.Ytdboencinnlebaa.Pi
