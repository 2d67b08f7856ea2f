/-
  THE WALKS of pitches: of the reference: Abs, Right, Up, White, Steps, Halves, At, Within, Key.
-/
import Derived.Test.YtkhdpepcpmjhcaaMoveW
import Derived.Test.YtkhdpepcpmjhcaaWhite
namespace Go.Proofs.Ytkhdpepcpmjhcaa.Pi
open Go.RowKit

theorem abs_any (n : Int) (w : World) (h1 : -9223372036854775808 < n) (h2 : n ≤ 9223372036854775807) :
    Calls Try.prog 24 #[.int .i64 n] w fun e w' => e = .returned (.int .i64 (n.natAbs : Int)) ∧ w = w' := by
  go_enter Try.func24, Try.ntmps24
  go_wp2
  all_goals
    go_ret
    exact ⟨ret_int (by omega), rfl⟩
theorem abs_least (w : World) :
    Calls Try.prog 24 #[.int .i64 (-9223372036854775808)] w fun e w' => e = .returned (.int .i64 (-9223372036854775808)) ∧ w = w' := by
  have hw := wrap_least
  go_enter Try.func24, Try.ntmps24
  go_wp2
  go_ret
  exact ⟨ret_int hw, rfl⟩

set_option maxHeartbeats 4000000 in
theorem ref_right_any (l a o : Int) (w : World) (ha : I64 a) :
    Calls Try.prog 14 #[.agg #[.int .i64 l, .int .i64 a, .int .i64 o]] w fun e w' => e = .returned (.bool (rightB l a o)) ∧ Below w.heap.size w w' := by
  unfold I64 at ha
  have cl : l < 0 ∨ 6 < l ∨ (0 ≤ l ∧ l ≤ 6) := by omega
  have ca : a = -9223372036854775808 ∨ (-9223372036854775808 < a ∧ 3 < (a.natAbs : Int)) ∨ (-3 ≤ a ∧ (a.natAbs : Int) ≤ 3) := by omega
  have co : o < -12 ∨ 12 < o ∨ (-12 ≤ o ∧ o ≤ 12) := by omega
  rcases cl with c1 | c1 | ⟨c1, c2⟩
  · go_enter Try.func14, Try.ntmps14
    go_wp2
    go_ret
    refine ⟨ret_bool ?_, (by repeat (first | exact Below.refl _ _ | assumption | refine below_drewN ?_ _ | refine Below.drew ?_ | refine below_new ?_ _ | refine Below.setCell ?_ (by first | omega | (simp <;> omega)) _ | refine below_then (by assumption) ?_))⟩
    rw [eq_comm, ← Bool.not_eq_true, rightB_iff]; omega
  · go_enter Try.func14, Try.ntmps14
    go_wp2
    go_ret
    refine ⟨ret_bool ?_, (by repeat (first | exact Below.refl _ _ | assumption | refine below_drewN ?_ _ | refine Below.drew ?_ | refine below_new ?_ _ | refine Below.setCell ?_ (by first | omega | (simp <;> omega)) _ | refine below_then (by assumption) ?_))⟩
    rw [eq_comm, ← Bool.not_eq_true, rightB_iff]; omega
  · rcases ca with rfl | ⟨d1, d2⟩ | ⟨d1, d2⟩
    · rcases co with k1 | k1 | ⟨k1, k2⟩
      all_goals
        go_enter Try.func14, Try.ntmps14
        go_wp2_with (go_at_call 24; refine (abs_least _).mono ?_; rintro e w1 ⟨rfl, rfl⟩)
        go_ret
        refine ⟨ret_bool ?_, (by repeat (first | exact Below.refl _ _ | assumption | refine below_drewN ?_ _ | refine Below.drew ?_ | refine below_new ?_ _ | refine Below.setCell ?_ (by first | omega | (simp <;> omega)) _ | refine below_then (by assumption) ?_))⟩
        rw [eq_comm, ← Bool.not_eq_true, rightB_iff]; omega
    · go_enter Try.func14, Try.ntmps14
      go_wp2_with (go_at_call 24; refine (abs_any a _ (by omega) (by omega)).mono ?_; rintro e w1 ⟨rfl, rfl⟩)
      go_ret
      refine ⟨ret_bool ?_, (by repeat (first | exact Below.refl _ _ | assumption | refine below_drewN ?_ _ | refine Below.drew ?_ | refine below_new ?_ _ | refine Below.setCell ?_ (by first | omega | (simp <;> omega)) _ | refine below_then (by assumption) ?_))⟩
      rw [eq_comm, ← Bool.not_eq_true, rightB_iff]; omega
    · rcases co with k1 | k1 | ⟨k1, k2⟩
      all_goals
        go_enter Try.func14, Try.ntmps14
        go_wp2_with (go_at_call 24; refine (abs_any a _ (by omega) (by omega)).mono ?_; rintro e w1 ⟨rfl, rfl⟩)
        go_ret
        refine ⟨ret_bool ?_, (by repeat (first | exact Below.refl _ _ | assumption | refine below_drewN ?_ _ | refine Below.drew ?_ | refine below_new ?_ _ | refine Below.setCell ?_ (by first | omega | (simp <;> omega)) _ | refine below_then (by assumption) ?_))⟩
        rw [Bool.eq_iff_iff, rightB_iff]
        simp
        try omega

theorem up_any (l : Int) (w : World) :
    Calls Try.prog 30 #[.int .i64 l] w fun e w' => e = .returned (.int .i64 (up l)) ∧ w = w' := by
  by_cases h2 : l = 2
  · subst h2
    go_enter Try.func30, Try.ntmps30
    go_wp2
    go_ret
    exact ⟨rfl, rfl⟩
  · by_cases h6 : l = 6
    · subst h6
      go_enter Try.func30, Try.ntmps30
      go_wp2
      go_ret
      exact ⟨rfl, rfl⟩
    · have HU := Lib.hid (show up l = 2 by unfold up; rw [if_neg (by omega)])
      replace h2 : (l == 2) = false := by simpa using h2
      replace h6 : (l == 6) = false := by simpa using h6
      go_enter Try.func30, Try.ntmps30
      go_wp2
      go_ret
      exact ⟨ret_int HU.out.symm, rfl⟩

set_option maxHeartbeats 2000000 in
theorem white_pos (n : Int) (w : World) (h0 : 0 ≤ n) (h1 : n ≤ 1000) :
    Calls Try.prog 29 #[.int .i64 n] w fun e w' => e = .returned (.int .i64 (white n)) ∧ w = w' := by
  go_enter Try.func29, Try.ntmps29
  go_wp2
  go_loop [0, 3, 4] (fun x m l => ∃ t : Int, 0 ≤ t ∧ t ≤ n ∧ x = .int .i64 (n - t) ∧ m = .int .i64 (white t) ∧ l = .int .i64 (t % 7)) (fun x _ _ => (intOf x).toNat)
  case atStart => exact ⟨0, by omega, h0, by go_num, by go_num, by go_num⟩
  case round =>
    obtain ⟨t, ht0, ht1, rfl, rfl, rfl⟩ := hrel
    have hb := white_bd t (by omega)
    have hu := up_range (t % 7)
    have hl : 0 ≤ t % 7 ∧ t % 7 ≤ 6 := by omega
    have HS := Lib.hid (white_succ t)
    have HL := Lib.hid (show (t % 7 + 1) % 7 = (t + 1) % 7 by omega)
    by_cases hc : t < n
    · have hc' : 0 < n - t := by omega
      go_wp2_with (go_at_call 30; refine (up_any (t % 7) _).mono ?_; rintro e w1 ⟨rfl, rfl⟩)
      go_round
      case rel => exact ⟨t + 1, by omega, by omega, by go_num, by rw [HS.out], by rw [HL.out]⟩
      case measure => (simp [intOf] <;> omega)
    · obtain rfl : t = n := by omega
      have hz : t - t = 0 := by omega
      go_wp2
      refine wp_loop_rounds 1 ?_
      rw [rounds_succ]
      go_wp2
      go_ret
      exact ⟨rfl, rfl⟩

set_option maxHeartbeats 2000000 in
theorem white_neg (n : Int) (w : World) (h0 : n < 0) (h1 : -1000 ≤ n) :
    Calls Try.prog 29 #[.int .i64 n] w fun e w' => e = .returned (.int .i64 (white n)) ∧ w = w' := by
  go_enter Try.func29, Try.ntmps29
  go_wp2
  refine wp_loop_rounds 1 ?_
  rw [rounds_succ]
  go_wp2
  go_loop [0, 3, 4] (fun x m l => ∃ t : Int, t ≤ 0 ∧ n ≤ t ∧ x = .int .i64 (n - t) ∧ m = .int .i64 (white t) ∧ l = .int .i64 (t % 7)) (fun x _ _ => (-(intOf x)).toNat)
  case atStart => exact ⟨0, by omega, by omega, by go_num, by go_num, by go_num⟩
  case round =>
    obtain ⟨t, ht0, ht1, rfl, rfl, rfl⟩ := hrel
    have hb := white_bd t (by omega)
    have hu := up_range ((t - 1) % 7)
    have hl : 0 ≤ t % 7 ∧ t % 7 ≤ 6 := by omega
    have HS := Lib.hid (white_pred t)
    have hL : (t % 7 + 6) % 7 = (t - 1) % 7 := by omega
    by_cases hc : n < t
    · have hc' : n - t < 0 := by omega
      go_wp2_with (go_at_call 30; refine (up_any ((t - 1) % 7) _).mono ?_; rintro e w1 ⟨rfl, rfl⟩)
      go_round
      case rel => exact ⟨t - 1, by omega, by omega, by go_num, by rw [HS.out], rfl⟩
      case measure => (simp [intOf] <;> omega)
    · obtain rfl : t = n := by omega
      have hz : t - t = 0 := by omega
      go_wp2
      go_ret
      exact ⟨rfl, rfl⟩

theorem white_any (n : Int) (w : World) (h0 : -1000 ≤ n) (h1 : n ≤ 1000) :
    Calls Try.prog 29 #[.int .i64 n] w fun e w' => e = .returned (.int .i64 (white n)) ∧ w = w' := by
  by_cases h : 0 ≤ n
  · exact white_pos n w h h1
  · exact white_neg n w (by omega) h0

set_option maxHeartbeats 1000000 in
theorem ref_steps_any (l a o : Int) (w : World) (h : rightB l a o = true) :
    Calls Try.prog 25 #[.agg #[.int .i64 l, .int .i64 a, .int .i64 o]] w fun e w' => e = .returned (.int .i64 (steps l o)) ∧ Below w.heap.size w w' := by
  have hr := rightB_iff.1 h
  go_enter Try.func25, Try.ntmps25
  go_wp2
  go_ret
  exact ⟨ret_int rfl, (by repeat (first | exact Below.refl _ _ | assumption | refine below_drewN ?_ _ | refine Below.drew ?_ | refine below_new ?_ _ | refine Below.setCell ?_ (by first | omega | (simp <;> omega)) _ | refine below_then (by assumption) ?_))⟩

set_option maxHeartbeats 1000000 in
theorem ref_halves_any (l a o : Int) (w : World) (h : rightB l a o = true) :
    Calls Try.prog 23 #[.agg #[.int .i64 l, .int .i64 a, .int .i64 o]] w fun e w' => e = .returned (.int .i64 (halves l a o)) ∧ Below w.heap.size w w' := by
  have hr := rightB_iff.1 h
  have hb := (bounds h).1
  have hwb := white_bd (steps l o) (by omega)
  have HW := Lib.hid (white_halves h)
  go_enter Try.func23, Try.ntmps23
  go_wp2
  have hE := Ext.cells (w.alloc (Obj.cells #[Value.int .i64 l, Value.int .i64 a, Value.int .i64 o] 23))
  refine wp_region_ext (by kernel_rfl) (by kernel_rfl) ?_
  repeat go_big_quiet_step ((first | (go_at_call 25; with_reducible refine ext_call (ref_steps_any l a o _ h)) | (go_at_call 29; with_reducible refine ext_same (white_any (steps l o) _ (by omega) (by omega)))))
  refine wpQuiet_nil ?_
  rintro wd ⟨⟨_, hbd⟩, rfl⟩
  go_wp2
  go_ret
  exact ⟨ret_int HW.out, (by repeat (first | exact Below.refl _ _ | assumption | refine below_drewN ?_ _ | refine Below.drew ?_ | refine below_new ?_ _ | refine Below.setCell ?_ (by first | omega | (simp <;> omega)) _ | refine below_then (by assumption) ?_))⟩

theorem ref_within_any (s h : Int) (w : World) :
    Calls Try.prog 26 #[.agg #[.int .i64 s, .int .i64 h]] w fun e w' => e = .returned (.bool (withinB s h)) ∧ Below w.heap.size w w' := by
  have cs : s < -200 ∨ 200 < s ∨ (-200 ≤ s ∧ s ≤ 200) := by omega
  have ch : h < -4096 ∨ 4096 < h ∨ (-4096 ≤ h ∧ h ≤ 4096) := by omega
  rcases cs with c1 | c1 | ⟨c1, c2⟩ <;> rcases ch with d1 | d1 | ⟨d1, d2⟩
  all_goals
    go_enter Try.func26, Try.ntmps26
    go_wp2
    go_ret
    refine ⟨ret_bool ?_, (by repeat (first | exact Below.refl _ _ | assumption | refine below_drewN ?_ _ | refine Below.drew ?_ | refine below_new ?_ _ | refine Below.setCell ?_ (by first | omega | (simp <;> omega)) _ | refine below_then (by assumption) ?_))⟩
    rw [Bool.eq_iff_iff, withinB_iff]
    simp
    try omega

set_option maxHeartbeats 1000000 in
theorem ref_key_any (l a o : Int) (w : World) (ha : I64 a) :
    Calls Try.prog 13 #[.agg #[.int .i64 l, .int .i64 a, .int .i64 o]] w fun e w' => e = .returned (R2 (key l a o)) ∧ Below w.heap.size w w' := by
  by_cases h1 : rightB l a o = true
  · have HR := Lib.hid (show key l a o = (halves l a o + 12, 0) by simp [key, h1])
    have hr1 := rightB_iff.1 h1
    have hbd := (bounds h1).2
    go_enter Try.func13, Try.ntmps13
    go_wp2_with (first
      | (go_at_call 14; with_reducible refine (ref_right_any l a o _ ha).mono ?_; rintro e w1 ⟨rfl, hb1⟩; have hz := hb1.size; simp at hz; have z1 := one_ hz; obtain ⟨hc, hf⟩ := bcell hb1)
      | (go_at_call 23; with_reducible refine (ref_halves_any l a o _ h1).mono ?_; rintro e w2 ⟨rfl, hb2⟩))
    go_ret2
    exact ⟨ret_R2 HR.out, (by repeat (first | exact Below.refl _ _ | assumption | refine below_drewN ?_ _ | refine Below.drew ?_ | refine below_new ?_ _ | refine Below.setCell ?_ (by first | omega | (simp <;> omega)) _ | refine below_then (by assumption) ?_))⟩
  · simp only [Bool.not_eq_true] at h1
    have HR := Lib.hid (show key l a o = (0, 2) by simp [key, h1])
    go_enter Try.func13, Try.ntmps13
    go_wp2_with (go_at_call 14; with_reducible refine (ref_right_any l a o _ ha).mono ?_; rintro e w1 ⟨rfl, hb1⟩; have hz := hb1.size; simp at hz; have z1 := one_ hz; obtain ⟨hc, hf⟩ := bcell hb1)
    go_ret2
    exact ⟨ret_R2 HR.out, (by repeat (first | exact Below.refl _ _ | assumption | refine below_drewN ?_ _ | refine Below.drew ?_ | refine below_new ?_ _ | refine Below.setCell ?_ (by first | omega | (simp <;> omega)) _ | refine below_then (by assumption) ?_))⟩

end Go.Proofs.Ytkhdpepcpmjhcaa.Pi
