/-
  THE WALKS of pitches: of the reference: Abs, Right, Up, White, Steps, Halves, At, Within, Key. | THE WALKS of pitches: of the reference: At, Between, Sum, Move, Mirror. | CANON: pitches: the kit's kind of contracts, as contracts by values. | CANON: pitches moved and mirrored: walks. (Printed by wip/pm.) | CANON: two rows merged: plain. | CANON: the order, and rows swapped: walks. (Printed by wip/pm.) | CANON: rotations and insertions: walks. (Printed by wip/pm.) | CANON: what a merge does, in quarters: plain.
-/
import Derived.Test.YtjdblogapkbefaaJLawCFollows2
namespace Go.Proofs.Ytjdblogapkbefaa.Pi
open Go.RowKit

theorem abs_any (n : Int) (w : World) (h1 : -9223372036854775808 < n) (h2 : n ≤ 9223372036854775807) :
    Calls Try.prog 42 #[.int .i64 n] w fun e w' => e = .returned (.int .i64 (n.natAbs : Int)) ∧ w = w' := by
  go_enter Try.func42, Try.ntmps42
  go_wp2
  all_goals
    go_ret
    exact ⟨ret_int (by omega), rfl⟩
theorem abs_least (w : World) :
    Calls Try.prog 42 #[.int .i64 (-9223372036854775808)] w fun e w' => e = .returned (.int .i64 (-9223372036854775808)) ∧ w = w' := by
  have hw := wrap_least
  go_enter Try.func42, Try.ntmps42
  go_wp2
  go_ret
  exact ⟨ret_int hw, rfl⟩

set_option maxHeartbeats 4000000 in
theorem ref_right_any (l a o : Int) (w : World) (ha : I64 a) :
    Calls Try.prog 25 #[.agg #[.int .i64 l, .int .i64 a, .int .i64 o]] w fun e w' => e = .returned (.bool (rightB l a o)) ∧ Below w.heap.size w w' := by
  unfold I64 at ha
  have cl : l < 0 ∨ 6 < l ∨ (0 ≤ l ∧ l ≤ 6) := by omega
  have ca : a = -9223372036854775808 ∨ (-9223372036854775808 < a ∧ 3 < (a.natAbs : Int)) ∨ (-3 ≤ a ∧ (a.natAbs : Int) ≤ 3) := by omega
  have co : o < -12 ∨ 12 < o ∨ (-12 ≤ o ∧ o ≤ 12) := by omega
  rcases cl with c1 | c1 | ⟨c1, c2⟩
  · go_enter Try.func25, Try.ntmps25
    go_wp2
    go_ret
    refine ⟨ret_bool ?_, (by repeat (first | exact Below.refl _ _ | assumption | refine below_drewN ?_ _ | refine Below.drew ?_ | refine below_new ?_ _ | refine Below.setCell ?_ (by first | omega | (simp <;> omega)) _ | refine below_then (by assumption) ?_))⟩
    rw [eq_comm, ← Bool.not_eq_true, rightB_iff]; omega
  · go_enter Try.func25, Try.ntmps25
    go_wp2
    go_ret
    refine ⟨ret_bool ?_, (by repeat (first | exact Below.refl _ _ | assumption | refine below_drewN ?_ _ | refine Below.drew ?_ | refine below_new ?_ _ | refine Below.setCell ?_ (by first | omega | (simp <;> omega)) _ | refine below_then (by assumption) ?_))⟩
    rw [eq_comm, ← Bool.not_eq_true, rightB_iff]; omega
  · rcases ca with rfl | ⟨d1, d2⟩ | ⟨d1, d2⟩
    · rcases co with k1 | k1 | ⟨k1, k2⟩
      all_goals
        go_enter Try.func25, Try.ntmps25
        go_wp2_with (go_at_call 42; refine (abs_least _).mono ?_; rintro e w1 ⟨rfl, rfl⟩)
        go_ret
        refine ⟨ret_bool ?_, (by repeat (first | exact Below.refl _ _ | assumption | refine below_drewN ?_ _ | refine Below.drew ?_ | refine below_new ?_ _ | refine Below.setCell ?_ (by first | omega | (simp <;> omega)) _ | refine below_then (by assumption) ?_))⟩
        rw [eq_comm, ← Bool.not_eq_true, rightB_iff]; omega
    · go_enter Try.func25, Try.ntmps25
      go_wp2_with (go_at_call 42; refine (abs_any a _ (by omega) (by omega)).mono ?_; rintro e w1 ⟨rfl, rfl⟩)
      go_ret
      refine ⟨ret_bool ?_, (by repeat (first | exact Below.refl _ _ | assumption | refine below_drewN ?_ _ | refine Below.drew ?_ | refine below_new ?_ _ | refine Below.setCell ?_ (by first | omega | (simp <;> omega)) _ | refine below_then (by assumption) ?_))⟩
      rw [eq_comm, ← Bool.not_eq_true, rightB_iff]; omega
    · rcases co with k1 | k1 | ⟨k1, k2⟩
      all_goals
        go_enter Try.func25, Try.ntmps25
        go_wp2_with (go_at_call 42; refine (abs_any a _ (by omega) (by omega)).mono ?_; rintro e w1 ⟨rfl, rfl⟩)
        go_ret
        refine ⟨ret_bool ?_, (by repeat (first | exact Below.refl _ _ | assumption | refine below_drewN ?_ _ | refine Below.drew ?_ | refine below_new ?_ _ | refine Below.setCell ?_ (by first | omega | (simp <;> omega)) _ | refine below_then (by assumption) ?_))⟩
        rw [Bool.eq_iff_iff, rightB_iff]
        simp
        try omega

theorem up_any (l : Int) (w : World) :
    Calls Try.prog 56 #[.int .i64 l] w fun e w' => e = .returned (.int .i64 (up l)) ∧ w = w' := by
  by_cases h2 : l = 2
  · subst h2
    go_enter Try.func56, Try.ntmps56
    go_wp2
    go_ret
    exact ⟨rfl, rfl⟩
  · by_cases h6 : l = 6
    · subst h6
      go_enter Try.func56, Try.ntmps56
      go_wp2
      go_ret
      exact ⟨rfl, rfl⟩
    · have HU := Lib.hid (show up l = 2 by unfold up; rw [if_neg (by omega)])
      replace h2 : (l == 2) = false := by simpa using h2
      replace h6 : (l == 6) = false := by simpa using h6
      go_enter Try.func56, Try.ntmps56
      go_wp2
      go_ret
      exact ⟨ret_int HU.out.symm, rfl⟩

set_option maxHeartbeats 2000000 in
theorem white_pos (n : Int) (w : World) (h0 : 0 ≤ n) (h1 : n ≤ 1000) :
    Calls Try.prog 53 #[.int .i64 n] w fun e w' => e = .returned (.int .i64 (white n)) ∧ w = w' := by
  go_enter Try.func53, Try.ntmps53
  go_wp2
  go_loop [0, 3, 4] (fun x m l => ∃ t : Int, 0 ≤ t ∧ t ≤ n ∧ x = .int .i64 (n - t) ∧ m = .int .i64 (white t) ∧ l = .int .i64 (t % 7)) (fun x _ _ => (intOf x).toNat)
  case atStart => exact ⟨0, by omega, h0, by go_num, by go_num, by go_num⟩
  case round =>
    obtain ⟨t, ht0, ht1, rfl, rfl, rfl⟩ := hrel
    have hb := white_bd t (by omega)
    have hu := up_range (t % 7)
    have hl : 0 ≤ t % 7 ∧ t % 7 ≤ 6 := by omega
    have HS := Lib.hid (white_succ t)
    have HL := Lib.hid (show (t % 7 + 1) % 7 = (t + 1) % 7 by omega)
    by_cases hc : t < n
    · have hc' : 0 < n - t := by omega
      go_wp2_with (go_at_call 56; refine (up_any (t % 7) _).mono ?_; rintro e w1 ⟨rfl, rfl⟩)
      go_round
      case rel => exact ⟨t + 1, by omega, by omega, by go_num, by rw [HS.out], by rw [HL.out]⟩
      case measure => (simp [intOf] <;> omega)
    · obtain rfl : t = n := by omega
      have hz : t - t = 0 := by omega
      go_wp2
      refine wp_loop_rounds 1 ?_
      rw [rounds_succ]
      go_wp2
      go_ret
      exact ⟨rfl, rfl⟩

set_option maxHeartbeats 2000000 in
theorem white_neg (n : Int) (w : World) (h0 : n < 0) (h1 : -1000 ≤ n) :
    Calls Try.prog 53 #[.int .i64 n] w fun e w' => e = .returned (.int .i64 (white n)) ∧ w = w' := by
  go_enter Try.func53, Try.ntmps53
  go_wp2
  refine wp_loop_rounds 1 ?_
  rw [rounds_succ]
  go_wp2
  go_loop [0, 3, 4] (fun x m l => ∃ t : Int, t ≤ 0 ∧ n ≤ t ∧ x = .int .i64 (n - t) ∧ m = .int .i64 (white t) ∧ l = .int .i64 (t % 7)) (fun x _ _ => (-(intOf x)).toNat)
  case atStart => exact ⟨0, by omega, by omega, by go_num, by go_num, by go_num⟩
  case round =>
    obtain ⟨t, ht0, ht1, rfl, rfl, rfl⟩ := hrel
    have hb := white_bd t (by omega)
    have hu := up_range ((t - 1) % 7)
    have hl : 0 ≤ t % 7 ∧ t % 7 ≤ 6 := by omega
    have HS := Lib.hid (white_pred t)
    have hL : (t % 7 + 6) % 7 = (t - 1) % 7 := by omega
    by_cases hc : n < t
    · have hc' : n - t < 0 := by omega
      go_wp2_with (go_at_call 56; refine (up_any ((t - 1) % 7) _).mono ?_; rintro e w1 ⟨rfl, rfl⟩)
      go_round
      case rel => exact ⟨t - 1, by omega, by omega, by go_num, by rw [HS.out], rfl⟩
      case measure => (simp [intOf] <;> omega)
    · obtain rfl : t = n := by omega
      have hz : t - t = 0 := by omega
      go_wp2
      go_ret
      exact ⟨rfl, rfl⟩

theorem white_any (n : Int) (w : World) (h0 : -1000 ≤ n) (h1 : n ≤ 1000) :
    Calls Try.prog 53 #[.int .i64 n] w fun e w' => e = .returned (.int .i64 (white n)) ∧ w = w' := by
  by_cases h : 0 ≤ n
  · exact white_pos n w h h1
  · exact white_neg n w (by omega) h0

set_option maxHeartbeats 1000000 in
theorem ref_steps_any (l a o : Int) (w : World) (h : rightB l a o = true) :
    Calls Try.prog 44 #[.agg #[.int .i64 l, .int .i64 a, .int .i64 o]] w fun e w' => e = .returned (.int .i64 (steps l o)) ∧ Below w.heap.size w w' := by
  have hr := rightB_iff.1 h
  go_enter Try.func44, Try.ntmps44
  go_wp2
  go_ret
  exact ⟨ret_int rfl, (by repeat (first | exact Below.refl _ _ | assumption | refine below_drewN ?_ _ | refine Below.drew ?_ | refine below_new ?_ _ | refine Below.setCell ?_ (by first | omega | (simp <;> omega)) _ | refine below_then (by assumption) ?_))⟩

set_option maxHeartbeats 1000000 in
theorem ref_halves_any (l a o : Int) (w : World) (h : rightB l a o = true) :
    Calls Try.prog 45 #[.agg #[.int .i64 l, .int .i64 a, .int .i64 o]] w fun e w' => e = .returned (.int .i64 (halves l a o)) ∧ Below w.heap.size w w' := by
  have hr := rightB_iff.1 h
  have hb := (bounds h).1
  have hwb := white_bd (steps l o) (by omega)
  have HW := Lib.hid (white_halves h)
  go_enter Try.func45, Try.ntmps45
  go_wp2
  have hE := Ext.cells (w.alloc (Obj.cells #[Value.int .i64 l, Value.int .i64 a, Value.int .i64 o] 26))
  refine wp_region_ext (by kernel_rfl) (by kernel_rfl) ?_
  repeat go_big_quiet_step ((first | (go_at_call 44; with_reducible refine ext_call (ref_steps_any l a o _ h)) | (go_at_call 53; with_reducible refine ext_same (white_any (steps l o) _ (by omega) (by omega)))))
  refine wpQuiet_nil ?_
  rintro wd ⟨⟨_, hbd⟩, rfl⟩
  go_wp2
  go_ret
  exact ⟨ret_int HW.out, (by repeat (first | exact Below.refl _ _ | assumption | refine below_drewN ?_ _ | refine Below.drew ?_ | refine below_new ?_ _ | refine Below.setCell ?_ (by first | omega | (simp <;> omega)) _ | refine below_then (by assumption) ?_))⟩

theorem ref_within_any (s h : Int) (w : World) :
    Calls Try.prog 43 #[.agg #[.int .i64 s, .int .i64 h]] w fun e w' => e = .returned (.bool (withinB s h)) ∧ Below w.heap.size w w' := by
  have cs : s < -200 ∨ 200 < s ∨ (-200 ≤ s ∧ s ≤ 200) := by omega
  have ch : h < -4096 ∨ 4096 < h ∨ (-4096 ≤ h ∧ h ≤ 4096) := by omega
  rcases cs with c1 | c1 | ⟨c1, c2⟩ <;> rcases ch with d1 | d1 | ⟨d1, d2⟩
  all_goals
    go_enter Try.func43, Try.ntmps43
    go_wp2
    go_ret
    refine ⟨ret_bool ?_, (by repeat (first | exact Below.refl _ _ | assumption | refine below_drewN ?_ _ | refine Below.drew ?_ | refine below_new ?_ _ | refine Below.setCell ?_ (by first | omega | (simp <;> omega)) _ | refine below_then (by assumption) ?_))⟩
    rw [Bool.eq_iff_iff, withinB_iff]
    simp
    try omega

end Go.Proofs.Ytjdblogapkbefaa.Pi
namespace Go.Proofs.Ytjdblogapkbefaa.Pi
open Go.RowKit

/-- What At tells, as a value. -/
def RA (s h : Int) : Value := .tuple #[.agg #[.int .i64 (s % 7), .int .i64 (h - white s), .int .i64 (s / 7)], .bool (rightB (s % 7) (h - white s) (s / 7))]

set_option maxHeartbeats 4000000 in
theorem ref_at_any (s h : Int) (w : World) (h0 : -1000 ≤ s ∧ s ≤ 1000) (h1 : -100000 ≤ h ∧ h ≤ 100000) :
    Calls Try.prog 46 #[.int .i64 s, .int .i64 h] w fun e w' => e = .returned (RA s h) ∧ Below w.heap.size w w' := by
  have hwb := white_bd s h0
  have hA : I64 (h - white s) := by unfold I64; omega
  have hL : 0 ≤ s % 7 ∧ s % 7 ≤ 6 := by omega
  have hO : -1000 ≤ s / 7 ∧ s / 7 ≤ 1000 := by omega
  go_enter Try.func46, Try.ntmps46
  go_wp2
  go_loop [6, 7] (fun x y => ∃ q : Int, x = .int .i64 q ∧ y = .int .i64 (s - 7 * q) ∧ -1000 ≤ q ∧ q ≤ 0 ∧ (q = 0 ∨ s - 7 * q < 7)) (fun _ y => (-(intOf y)).toNat)
  case atStart => exact ⟨0, rfl, by go_num, by omega, by omega, by omega⟩
  case round =>
    obtain ⟨q, rfl, rfl, q1, q2, q3⟩ := hrel
    by_cases hc : s - 7 * q < 0
    · go_wp2
      go_round
      case rel => exact ⟨q - 1, rfl, by go_num, by omega, by omega, by omega⟩
      case measure => (simp [intOf] <;> omega)
    · have hc' : 0 ≤ s - 7 * q := by omega
      clear hc
      go_wp2
      go_loop [6, 7] (fun x y => ∃ r : Int, x = .int .i64 r ∧ y = .int .i64 (s - 7 * r) ∧ -1000 ≤ r ∧ 0 ≤ s - 7 * r ∧ r ≤ 1000) (fun _ y => (intOf y).toNat)
      case atStart => exact ⟨q, rfl, rfl, by omega, by omega, by omega⟩
      case round =>
        obtain ⟨r, rfl, rfl, r1, r2, r3⟩ := hrel
        clear hc' q3 q1 q2
        by_cases hd : 6 < s - 7 * r
        · go_wp2
          go_round
          case rel => exact ⟨r + 1, rfl, by go_num, by omega, by omega, by omega⟩
          case measure => (simp [intOf] <;> omega)
        · obtain ⟨rO, rL⟩ : r = s / 7 ∧ s - 7 * r = s % 7 := by omega
          subst rO
          have HL := Lib.hid rL
          clear rL
          have hd' : s - 7 * (s / 7) ≤ 6 := by omega
          clear hd
          go_wp2_with (go_at_call 53; refine (white_any s _ h0.1 h0.2).mono ?_; rintro e w1 ⟨rfl, rfl⟩)
          obtain ⟨m, hm⟩ : ∃ m, m = s - 7 * (s / 7) := ⟨_, rfl⟩
          rw [← hm]
          have HM := Lib.hid (hm.trans HL.out)
          clear hm
          obtain ⟨W, hW⟩ : ∃ W, W = (w.alloc (Obj.cells #[Value.int .i64 0, Value.int .i64 0, Value.int .i64 0] 26)).alloc (Obj.cells #[Value.int .i64 m, Value.int .i64 (h - white s), Value.int .i64 (s / 7)] 26) := ⟨_, rfl⟩
          have zr : w.heap.size < W.heap.size := by rw [hW]; simp; omega
          have zq : w.heap.size + 1 < W.heap.size := by rw [hW]; simp
          have cr0 : W.cell? ⟨w.heap.size, 0, none⟩ = some (.int .i64 (0)) := by rw [hW]; go_simp
          have fr0 : W.frozen? ⟨w.heap.size, 0, none⟩ = false := by rw [hW]; go_simp
          have cr1 : W.cell? ⟨w.heap.size, 1, none⟩ = some (.int .i64 (0)) := by rw [hW]; go_simp
          have fr1 : W.frozen? ⟨w.heap.size, 1, none⟩ = false := by rw [hW]; go_simp
          have cr2 : W.cell? ⟨w.heap.size, 2, none⟩ = some (.int .i64 (0)) := by rw [hW]; go_simp
          have fr2 : W.frozen? ⟨w.heap.size, 2, none⟩ = false := by rw [hW]; go_simp
          have cq0 : W.cell? ⟨w.heap.size + 1, 0, none⟩ = some (.int .i64 (m)) := by rw [hW]; go_simp
          have cq1 : W.cell? ⟨w.heap.size + 1, 1, none⟩ = some (.int .i64 (h - white s)) := by rw [hW]; go_simp
          have cq2 : W.cell? ⟨w.heap.size + 1, 2, none⟩ = some (.int .i64 (s / 7)) := by rw [hW]; go_simp
          have hBW : Below w.heap.size w W := by rw [hW]; exact (by repeat (first | exact Below.refl _ _ | assumption | refine below_drewN ?_ _ | refine Below.drew ?_ | refine below_new ?_ _ | refine Below.setCell ?_ (by first | omega | (simp <;> omega)) _ | refine below_then (by assumption) ?_))
          rw [← hW]
          clear hW
          have hE := Ext.cells W
          refine wp_region_ext_tail 3 (by kernel_rfl) (by kernel_rfl) ?_
          simp only [List.take_succ_cons, List.take_zero, List.drop_succ_cons, List.drop_zero]
          repeat go_big_quiet_step ((first | (go_at_call 25; with_reducible refine ext_call (ref_right_any m (h - white s) (s / 7) _ hA))))
          refine wpQuiet_nil ?_
          rintro wd ⟨⟨_, hbd⟩, rfl⟩
          have kr0 := cell_then cr0 hbd
          have kr1 := cell_then cr1 hbd
          have kr2 := cell_then cr2 hbd
          have lr0 := (hbd.frozen (p := ⟨w.heap.size, 0, none⟩) zr).trans fr0
          have lr1 := (hbd.frozen (p := ⟨w.heap.size, 1, none⟩) zr).trans fr1
          have lr2 := (hbd.frozen (p := ⟨w.heap.size, 2, none⟩) zr).trans fr2
          have hBd : Below w.heap.size w wd := below_then hbd hBW
          go_wp2
          exact bodyPost_ret (v := .tuple #[.agg #[.int .i64 m, .int .i64 (h - white s), .int .i64 (s / 7)], .bool (rightB m (h - white s) (s / 7))])
            (by simp [results, Try.results46, go_sem, kr0, kr1, kr2]) rfl ⟨by rw [RA, HM.out], (by repeat (first | exact Below.refl _ _ | assumption | refine below_drewN ?_ _ | refine Below.drew ?_ | refine below_new ?_ _ | refine Below.setCell ?_ (by first | omega | (simp <;> omega)) _ | refine below_then (by assumption) ?_))⟩

set_option maxHeartbeats 1000000 in
theorem ref_between_yes (l a o l' a' o' : Int) (w : World) (ha : I64 a) (ha' : I64 a') (h1 : rightB l a o = true) (h2 : rightB l' a' o' = true) :
    Calls Try.prog 32 #[.agg #[.int .i64 l, .int .i64 a, .int .i64 o], .agg #[.int .i64 l', .int .i64 a', .int .i64 o']] w fun e w' =>
      e = .returned (R3 (between l a o l' a' o')) ∧ Below w.heap.size w w' := by
  have HR := Lib.hid (between_of h1 h2)
  have hr1 := rightB_iff.1 h1
  have hr2 := rightB_iff.1 h2
  have q1 := bounds h1
  have q2 := bounds h2
  go_enter Try.func32, Try.ntmps32
  go_wp2_with (first
    | (go_at_call 25; with_reducible refine (ref_right_any l a o _ ha).mono ?_; rintro e w1 ⟨rfl, hb1⟩; have hz := hb1.size; simp at hz; obtain ⟨z1, z2, z3⟩ := three hz; obtain ⟨hc, hf⟩ := bcell hb1)
    | (go_at_call 25; with_reducible refine (ref_right_any l' a' o' _ ha').mono ?_; rintro e w2 ⟨rfl, hb2⟩; have hz2 := hb2.size; have y1 : w.heap.size < w2.heap.size := (by omega); have y2 : w.heap.size + 1 < w2.heap.size := (by omega); have y3 : w.heap.size + 1 + 1 < w2.heap.size := (by omega); obtain ⟨hc2, hf2⟩ := bcell hb2))
  have hE := Ext.cells w2
  refine wp_region_ext_tail 11 (by kernel_rfl) (by kernel_rfl) ?_
  simp only [List.take_succ_cons, List.take_zero, List.drop_succ_cons, List.drop_zero]
  repeat go_big_quiet_step ((first | (go_at_call 44; with_reducible refine ext_call (ref_steps_any l a o _ h1)) | (go_at_call 44; with_reducible refine ext_call (ref_steps_any l' a' o' _ h2)) | (go_at_call 45; with_reducible refine ext_call (ref_halves_any l a o _ h1)) | (go_at_call 45; with_reducible refine ext_call (ref_halves_any l' a' o' _ h2))))
  refine wpQuiet_nil ?_
  rintro wd ⟨⟨_, hbd⟩, rfl⟩
  obtain ⟨hcd, hfd⟩ := bcell hbd
  have zd := hbd.size
  have y4 : w.heap.size + 1 + 1 < wd.heap.size := by omega
  go_wp2
  exact bodyPost_ret (v := R3 (steps l' o' - steps l o, halves l' a' o' - halves l a o, 0)) (by simp [results, Try.results32, go_sem, R3, hcd, hc2, hc, y3, z3]) rfl ⟨by rw [HR.out], (by repeat (first | exact Below.refl _ _ | assumption | refine below_drewN ?_ _ | refine Below.drew ?_ | refine below_new ?_ _ | refine Below.setCell ?_ (by first | omega | (simp <;> omega)) _ | refine below_then (by assumption) ?_))⟩

set_option maxHeartbeats 1000000 in
theorem ref_between_no (l a o l' a' o' : Int) (w : World) (ha : I64 a) (ha' : I64 a') (h : (rightB l a o && rightB l' a' o') = false) :
    Calls Try.prog 32 #[.agg #[.int .i64 l, .int .i64 a, .int .i64 o], .agg #[.int .i64 l', .int .i64 a', .int .i64 o']] w fun e w' =>
      e = .returned (R3 (between l a o l' a' o')) ∧ Below w.heap.size w w' := by
  have HR := Lib.hid (show between l a o l' a' o' = (0, 0, 2) by simp [between, h])
  by_cases h1 : rightB l a o = true
  · have h2 : rightB l' a' o' = false := by simpa [h1] using h
    clear h
    go_enter Try.func32, Try.ntmps32
    go_wp2_with (first
      | (go_at_call 25; with_reducible refine (ref_right_any l a o _ ha).mono ?_; rintro e w1 ⟨rfl, hb1⟩; have hz := hb1.size; simp at hz; obtain ⟨z1, z2, z3⟩ := three hz; obtain ⟨hc, hf⟩ := bcell hb1)
      | (go_at_call 25; with_reducible refine (ref_right_any l' a' o' _ ha').mono ?_; rintro e w2 ⟨rfl, hb2⟩; have hz2 := hb2.size; have y3 : w.heap.size + 1 + 1 < w2.heap.size := (by omega); obtain ⟨hc2, hf2⟩ := bcell hb2))
    exact bodyPost_ret (v := R3 (0, 0, 2)) (by simp [results, Try.results32, go_sem, R3, hc2, hc, z3]) rfl ⟨by rw [HR.out], (by repeat (first | exact Below.refl _ _ | assumption | refine below_drewN ?_ _ | refine Below.drew ?_ | refine below_new ?_ _ | refine Below.setCell ?_ (by first | omega | (simp <;> omega)) _ | refine below_then (by assumption) ?_))⟩
  · simp only [Bool.not_eq_true] at h1
    clear h
    go_enter Try.func32, Try.ntmps32
    go_wp2_with (go_at_call 25; with_reducible refine (ref_right_any l a o _ ha).mono ?_; rintro e w1 ⟨rfl, hb1⟩; have hz := hb1.size; simp at hz; obtain ⟨z1, z2, z3⟩ := three hz; obtain ⟨hc, hf⟩ := bcell hb1)
    exact bodyPost_ret (v := R3 (0, 0, 2)) (by simp [results, Try.results32, go_sem, R3, hc]) rfl ⟨by rw [HR.out], (by repeat (first | exact Below.refl _ _ | assumption | refine below_drewN ?_ _ | refine Below.drew ?_ | refine below_new ?_ _ | refine Below.setCell ?_ (by first | omega | (simp <;> omega)) _ | refine below_then (by assumption) ?_))⟩

theorem ref_between_any (l a o l' a' o' : Int) (w : World) (ha : I64 a) (ha' : I64 a') :
    Calls Try.prog 32 #[.agg #[.int .i64 l, .int .i64 a, .int .i64 o], .agg #[.int .i64 l', .int .i64 a', .int .i64 o']] w fun e w' =>
      e = .returned (R3 (between l a o l' a' o')) ∧ Below w.heap.size w w' := by
  by_cases h : (rightB l a o && rightB l' a' o') = true
  · rw [Bool.and_eq_true] at h; exact ref_between_yes l a o l' a' o' w ha ha' h.1 h.2
  · exact ref_between_no l a o l' a' o' w ha ha' (by simpa only [Bool.not_eq_true] using h)

set_option maxHeartbeats 1000000 in
theorem ref_move_bad (l a o s h : Int) (w : World) (ha : I64 a) (k : (rightB l a o && withinB s h) = false) :
    Calls Try.prog 28 #[.agg #[.int .i64 l, .int .i64 a, .int .i64 o], .agg #[.int .i64 s, .int .i64 h]] w fun e w' =>
      e = .returned (R4 (move l a o s h)) ∧ Below w.heap.size w w' := by
  by_cases h1 : rightB l a o = true
  · have h2 : withinB s h = false := by simpa [h1] using k
    clear k
    have HR := Lib.hid (move_no2 h1 h2)
    go_enter Try.func28, Try.ntmps28
    go_wp2_with (first
      | (go_at_call 25; with_reducible refine (ref_right_any l a o _ ha).mono ?_; rintro e w1 ⟨rfl, hb1⟩; have hz1 := hb1.size; (try simp at hz1); have zp1 : w.heap.size < w1.heap.size := (by first | omega | (simp; omega)); have cp0_1 : w1.cell? ⟨w.heap.size, 0, none⟩ = some (.int .i64 (l)) := (hb1.cell (by first | assumption | (simp <;> omega))).trans (by go_simp); have cp1_1 : w1.cell? ⟨w.heap.size, 1, none⟩ = some (.int .i64 (a)) := (hb1.cell (by first | assumption | (simp <;> omega))).trans (by go_simp); have cp2_1 : w1.cell? ⟨w.heap.size, 2, none⟩ = some (.int .i64 (o)) := (hb1.cell (by first | assumption | (simp <;> omega))).trans (by go_simp); have zi1 : w.heap.size + 1 < w1.heap.size := (by first | omega | (simp; omega)); have ci0_1 : w1.cell? ⟨w.heap.size + 1, 0, none⟩ = some (.int .i64 (s)) := (hb1.cell (by first | assumption | (simp <;> omega))).trans (by go_simp); have ci1_1 : w1.cell? ⟨w.heap.size + 1, 1, none⟩ = some (.int .i64 (h)) := (hb1.cell (by first | assumption | (simp <;> omega))).trans (by go_simp); have zr1 : w.heap.size + 1 + 1 < w1.heap.size := (by first | omega | (simp; omega)); have cr0_1 : w1.cell? ⟨w.heap.size + 1 + 1, 0, none⟩ = some (.int .i64 (0)) := (hb1.cell (by first | assumption | (simp <;> omega))).trans (by go_simp); have fr0_1 : w1.frozen? ⟨w.heap.size + 1 + 1, 0, none⟩ = false := (hb1.frozen (by first | assumption | (simp <;> omega))).trans (by go_simp); have cr1_1 : w1.cell? ⟨w.heap.size + 1 + 1, 1, none⟩ = some (.int .i64 (0)) := (hb1.cell (by first | assumption | (simp <;> omega))).trans (by go_simp); have fr1_1 : w1.frozen? ⟨w.heap.size + 1 + 1, 1, none⟩ = false := (hb1.frozen (by first | assumption | (simp <;> omega))).trans (by go_simp); have cr2_1 : w1.cell? ⟨w.heap.size + 1 + 1, 2, none⟩ = some (.int .i64 (0)) := (hb1.cell (by first | assumption | (simp <;> omega))).trans (by go_simp); have fr2_1 : w1.frozen? ⟨w.heap.size + 1 + 1, 2, none⟩ = false := (hb1.frozen (by first | assumption | (simp <;> omega))).trans (by go_simp))
      | (go_at_call 43; with_reducible refine (ref_within_any s h _).mono ?_; rintro e w2 ⟨rfl, hb2⟩; have hz2 := hb2.size; (try simp at hz2); have zp2 : w.heap.size < w2.heap.size := (by first | omega | (simp; omega)); have cp0_2 : w2.cell? ⟨w.heap.size, 0, none⟩ = some (.int .i64 (l)) := (hb2.cell (by first | assumption | (simp <;> omega))).trans (by go_simp); have cp1_2 : w2.cell? ⟨w.heap.size, 1, none⟩ = some (.int .i64 (a)) := (hb2.cell (by first | assumption | (simp <;> omega))).trans (by go_simp); have cp2_2 : w2.cell? ⟨w.heap.size, 2, none⟩ = some (.int .i64 (o)) := (hb2.cell (by first | assumption | (simp <;> omega))).trans (by go_simp); have zi2 : w.heap.size + 1 < w2.heap.size := (by first | omega | (simp; omega)); have ci0_2 : w2.cell? ⟨w.heap.size + 1, 0, none⟩ = some (.int .i64 (s)) := (hb2.cell (by first | assumption | (simp <;> omega))).trans (by go_simp); have ci1_2 : w2.cell? ⟨w.heap.size + 1, 1, none⟩ = some (.int .i64 (h)) := (hb2.cell (by first | assumption | (simp <;> omega))).trans (by go_simp); have zr2 : w.heap.size + 1 + 1 < w2.heap.size := (by first | omega | (simp; omega)); have cr0_2 : w2.cell? ⟨w.heap.size + 1 + 1, 0, none⟩ = some (.int .i64 (0)) := (hb2.cell (by first | assumption | (simp <;> omega))).trans (by go_simp); have fr0_2 : w2.frozen? ⟨w.heap.size + 1 + 1, 0, none⟩ = false := (hb2.frozen (by first | assumption | (simp <;> omega))).trans (by go_simp); have cr1_2 : w2.cell? ⟨w.heap.size + 1 + 1, 1, none⟩ = some (.int .i64 (0)) := (hb2.cell (by first | assumption | (simp <;> omega))).trans (by go_simp); have fr1_2 : w2.frozen? ⟨w.heap.size + 1 + 1, 1, none⟩ = false := (hb2.frozen (by first | assumption | (simp <;> omega))).trans (by go_simp); have cr2_2 : w2.cell? ⟨w.heap.size + 1 + 1, 2, none⟩ = some (.int .i64 (0)) := (hb2.cell (by first | assumption | (simp <;> omega))).trans (by go_simp); have fr2_2 : w2.frozen? ⟨w.heap.size + 1 + 1, 2, none⟩ = false := (hb2.frozen (by first | assumption | (simp <;> omega))).trans (by go_simp)))
    exact bodyPost_ret (v := R4 (0, 0, 0, 3)) (by simp [results, Try.results28, go_sem, R4, cr0_2, cr1_2, cr2_2]) rfl ⟨by rw [HR.out], (by repeat (first | exact Below.refl _ _ | assumption | refine below_drewN ?_ _ | refine Below.drew ?_ | refine below_new ?_ _ | refine Below.setCell ?_ (by first | omega | (simp <;> omega)) _ | refine below_then (by assumption) ?_))⟩
  · simp only [Bool.not_eq_true] at h1
    clear k
    have HR := Lib.hid (move_no1 (s := s) (h := h) h1)
    go_enter Try.func28, Try.ntmps28
    go_wp2_with (first
      | (go_at_call 25; with_reducible refine (ref_right_any l a o _ ha).mono ?_; rintro e w1 ⟨rfl, hb1⟩; have hz1 := hb1.size; (try simp at hz1); have zp1 : w.heap.size < w1.heap.size := (by first | omega | (simp; omega)); have cp0_1 : w1.cell? ⟨w.heap.size, 0, none⟩ = some (.int .i64 (l)) := (hb1.cell (by first | assumption | (simp <;> omega))).trans (by go_simp); have cp1_1 : w1.cell? ⟨w.heap.size, 1, none⟩ = some (.int .i64 (a)) := (hb1.cell (by first | assumption | (simp <;> omega))).trans (by go_simp); have cp2_1 : w1.cell? ⟨w.heap.size, 2, none⟩ = some (.int .i64 (o)) := (hb1.cell (by first | assumption | (simp <;> omega))).trans (by go_simp); have zi1 : w.heap.size + 1 < w1.heap.size := (by first | omega | (simp; omega)); have ci0_1 : w1.cell? ⟨w.heap.size + 1, 0, none⟩ = some (.int .i64 (s)) := (hb1.cell (by first | assumption | (simp <;> omega))).trans (by go_simp); have ci1_1 : w1.cell? ⟨w.heap.size + 1, 1, none⟩ = some (.int .i64 (h)) := (hb1.cell (by first | assumption | (simp <;> omega))).trans (by go_simp); have zr1 : w.heap.size + 1 + 1 < w1.heap.size := (by first | omega | (simp; omega)); have cr0_1 : w1.cell? ⟨w.heap.size + 1 + 1, 0, none⟩ = some (.int .i64 (0)) := (hb1.cell (by first | assumption | (simp <;> omega))).trans (by go_simp); have fr0_1 : w1.frozen? ⟨w.heap.size + 1 + 1, 0, none⟩ = false := (hb1.frozen (by first | assumption | (simp <;> omega))).trans (by go_simp); have cr1_1 : w1.cell? ⟨w.heap.size + 1 + 1, 1, none⟩ = some (.int .i64 (0)) := (hb1.cell (by first | assumption | (simp <;> omega))).trans (by go_simp); have fr1_1 : w1.frozen? ⟨w.heap.size + 1 + 1, 1, none⟩ = false := (hb1.frozen (by first | assumption | (simp <;> omega))).trans (by go_simp); have cr2_1 : w1.cell? ⟨w.heap.size + 1 + 1, 2, none⟩ = some (.int .i64 (0)) := (hb1.cell (by first | assumption | (simp <;> omega))).trans (by go_simp); have fr2_1 : w1.frozen? ⟨w.heap.size + 1 + 1, 2, none⟩ = false := (hb1.frozen (by first | assumption | (simp <;> omega))).trans (by go_simp)))
    exact bodyPost_ret (v := R4 (0, 0, 0, 2)) (by simp [results, Try.results28, go_sem, R4, cr0_1, cr1_1, cr2_1]) rfl ⟨by rw [HR.out], (by repeat (first | exact Below.refl _ _ | assumption | refine below_drewN ?_ _ | refine Below.drew ?_ | refine below_new ?_ _ | refine Below.setCell ?_ (by first | omega | (simp <;> omega)) _ | refine below_then (by assumption) ?_))⟩

theorem ref_at_is (S H : Int) (w : World) (h0 : -1000 ≤ S ∧ S ≤ 1000) (h1 : -100000 ≤ H ∧ H ≤ 100000) {v : Bool} (hv : rightB (S % 7) (H - white S) (S / 7) = v) :
    Calls Try.prog 46 #[.int .i64 S, .int .i64 H] w fun e w' =>
      e = .returned (.tuple #[.agg #[.int .i64 (S % 7), .int .i64 (H - white S), .int .i64 (S / 7)], .bool v]) ∧ Below w.heap.size w w' := by
  subst hv; exact ref_at_any S H w h0 h1

end Go.Proofs.Ytjdblogapkbefaa.Pi
namespace Go.Proofs.Ytjdblogapkbefaa.Pm
open Go Go.Proofs.Ytjdblogapkbefaa.Pi

abbrev pitP (l a o : Int) : PV := .agg [iv l, iv a, iv o]
abbrev invP (s h : Int) : PV := .agg [iv s, iv h]
abbrev M4P (r : Int × Int × Int × Int) : PV := .tup [.agg [iv r.1, iv r.2.1, iv r.2.2.1], iv r.2.2.2]
abbrev M3P (r : Int × Int × Int) : PV := .tup [.agg [iv r.1, iv r.2.1], iv r.2.2]
theorem pright_pc (l a o : Int) : PC Try.prog 23 [pitP l a o] [] (bv (rightB l a o)) [] :=
  pc_flat (fn_ok Try.func23 (by kernel_rfl) (by kernel_rfl)) rfl rfl fun w => right_any l a o w
theorem pwithin_pc (s h : Int) (i1 : Pi.I64 s) (i2 : Pi.I64 h) : PC Try.prog 24 [invP s h] [] (bv (withinB s h)) [] :=
  pc_flat (fn_ok Try.func24 (by kernel_rfl) (by kernel_rfl)) rfl rfl fun w => within_any s h w i1 i2
theorem psteps_pc (l a o : Int) (h : rightB l a o = true) : PC Try.prog 47 [pitP l a o] [] (iv (Pi.steps l o)) [] :=
  pc_flat (fn_ok Try.func47 (by kernel_rfl) (by kernel_rfl)) rfl rfl fun w => steps_any l a o w h
theorem phalves_pc (l a o : Int) (ha : -1000000 ≤ a ∧ a ≤ 1000000) (ho : -1000000 ≤ o ∧ o ≤ 1000000) : PC Try.prog 48 [pitP l a o] [] (iv (Pi.halves l a o)) [] :=
  pc_flat (fn_ok Try.func48 (by kernel_rfl) (by kernel_rfl)) rfl rfl fun w => halves_any l a o w ha ho
theorem pfloor_pc (n : Int) (h1 : -1000 ≤ n) (h2 : n ≤ 1000) : PC Try.prog 50 [iv n, iv 7] [] (.tup [iv (n / 7), iv (n % 7)]) [] :=
  pc_flat (fn_ok Try.func50 (by kernel_rfl) (by kernel_rfl)) rfl rfl fun w => (floor_any n w h1 h2).mono fun _ w' ⟨e1, k, e2⟩ => ⟨e1, by rw [e2]; exact ⟨rfl, rfl, rfl, Nat.le_refl _, fun _ _ => rfl⟩⟩
theorem between_pc (l a o x y z : Int) : PC Try.prog 30 [pitP l a o, pitP x y z] [] (M3P (Pi.between l a o x y z)) [] :=
  pc_flat (fn_ok Try.func30 (by kernel_rfl) (by kernel_rfl)) rfl rfl fun w => between_any l a o x y z w
theorem psum_pc (s h x y : Int) (i1 : Pi.I64 s) (i2 : Pi.I64 h) (i3 : Pi.I64 x) (i4 : Pi.I64 y) : PC Try.prog 13 [invP s h, invP x y] [] (M3P (Pi.sum s h x y)) [] :=
  pc_flat (fn_ok Try.func13 (by kernel_rfl) (by kernel_rfl)) rfl rfl fun w => sum_any s h x y w i1 i2 i3 i4
theorem ref_pright_pc (l a o : Int) (ha : Pi.I64 a) : PC Try.prog 25 [pitP l a o] [] (bv (rightB l a o)) [] :=
  pc_flat (fn_ok Try.func25 (by kernel_rfl) (by kernel_rfl)) rfl rfl fun w => ref_right_any l a o w ha
theorem ref_pwithin_pc (s h : Int) : PC Try.prog 43 [invP s h] [] (bv (withinB s h)) [] :=
  pc_flat (fn_ok Try.func43 (by kernel_rfl) (by kernel_rfl)) rfl rfl fun w => ref_within_any s h w
theorem ref_psteps_pc (l a o : Int) (h : rightB l a o = true) : PC Try.prog 44 [pitP l a o] [] (iv (Pi.steps l o)) [] :=
  pc_flat (fn_ok Try.func44 (by kernel_rfl) (by kernel_rfl)) rfl rfl fun w => ref_steps_any l a o w h
theorem ref_phalves_pc (l a o : Int) (h : rightB l a o = true) : PC Try.prog 45 [pitP l a o] [] (iv (Pi.halves l a o)) [] :=
  pc_flat (fn_ok Try.func45 (by kernel_rfl) (by kernel_rfl)) rfl rfl fun w => ref_halves_any l a o w h
theorem ref_pat_pc (s h : Int) (h0 : -1000 ≤ s ∧ s ≤ 1000) (h1 : -100000 ≤ h ∧ h ≤ 100000) : PC Try.prog 46 [iv s, iv h] [] (.tup [.agg [iv (s % 7), iv (h - white s), iv (s / 7)], bv (rightB (s % 7) (h - white s) (s / 7))]) [] :=
  pc_flat (fn_ok Try.func46 (by kernel_rfl) (by kernel_rfl)) rfl rfl fun w => ref_at_any s h w h0 h1
theorem ref_between_pc (l a o x y z : Int) (ha : Pi.I64 a) (hy : Pi.I64 y) : PC Try.prog 32 [pitP l a o, pitP x y z] [] (M3P (Pi.between l a o x y z)) [] :=
  pc_flat (fn_ok Try.func32 (by kernel_rfl) (by kernel_rfl)) rfl rfl fun w => ref_between_any l a o x y z w ha hy
theorem mirror_out0 {l a o x y z : Int} (h1 : rightB l a o = true) (h2 : rightB x y z = true) (h : withinB (Pi.steps x z - Pi.steps l o) (Pi.halves x y z - Pi.halves l a o) = false) : Pi.mirror l a o x y z = (0, 0, 0, 3) := by
  rw [mirror_of h1 h2]; unfold Pi.move; rw [if_pos h2, if_neg (by rw [h]; decide)]
theorem mirror_in0 {l a o x y z : Int} (h1 : rightB l a o = true) (h2 : rightB x y z = true) (h : withinB (Pi.steps x z - Pi.steps l o) (Pi.halves x y z - Pi.halves l a o) = true) : Pi.mirror l a o x y z = at_ (2 * Pi.steps x z - Pi.steps l o) (2 * Pi.halves x y z - Pi.halves l a o) := by
  rw [mirror_of h1 h2, move_at h2 h]; congr 1 <;> omega
theorem mirror_no0 {l a o x y z : Int} (h : ¬ (rightB l a o = true ∧ rightB x y z = true)) : Pi.mirror l a o x y z = (0, 0, 0, 2) := by
  unfold Pi.mirror; rw [if_neg (by rw [Bool.and_eq_true]; exact h)]
theorem mirror_bt {l a o x y z : Int} (h : (Pi.between l a o x y z).2.2 = 0) : Pi.mirror l a o x y z = Pi.move x y z (Pi.between l a o x y z).1 (Pi.between l a o x y z).2.1 := by
  unfold Pi.between at *
  unfold Pi.mirror
  split
  · rfl
  · rename_i h1; rw [if_neg h1] at h; exact absurd h (by decide)
theorem mirror_bn {l a o x y z : Int} (h : ¬ (Pi.between l a o x y z).2.2 = 0) : Pi.mirror l a o x y z = (0, 0, 0, (Pi.between l a o x y z).2.2) := by
  unfold Pi.between at *
  unfold Pi.mirror
  split
  · rename_i h1; rw [if_pos h1] at h; exact absurd rfl h
  · rfl
theorem between_i64 (l a o x y z : Int) : Pi.I64 (Pi.between l a o x y z).1 ∧ Pi.I64 (Pi.between l a o x y z).2.1 := by
  unfold Pi.between Pi.I64
  split
  · rename_i h
    rw [Bool.and_eq_true] at h
    have b1 := bounds h.1
    have b2 := bounds h.2
    dsimp only
    omega
  · decide

end Go.Proofs.Ytjdblogapkbefaa.Pm
namespace Go.Proofs.Ytjdblogapkbefaa.Pm
open Go Go.Proofs.Ytjdblogapkbefaa.Pi

set_option maxRecDepth 100000 in
set_option maxHeartbeats 4000000 in
theorem move_pc0 (l a o s h : Int) (is : Pi.I64 s) (ih : Pi.I64 h) : PC Try.prog 39 [(.agg [(iv l), (iv a), (iv o)]), (.agg [(iv s), (iv h)])] [] (M4P (Pi.move l a o s h)) [none] := by
  refine pc_intro Try.func39 rfl (by kernel_rfl) (Nat.le_of_ble_eq_true rfl) (by kernel_rfl) (l0 := [ps 0 (.agg [(iv l), (iv a), (iv o)]), ps 1 (.agg [(iv s), (iv h)])]) rfl (fun c0 Bor hc0 => ?_)
  refine T_seq ?_
  refine T_region [] [ks 2, ks 3, ks 4, kb 0, kb 8, kb 16] (fun _ => mixed) (l' := [ps 2 (.opt 0 0), ps 3 (.opt 8 0), ps 4 (.opt 16 0), pb 0 26 [(iv l), (iv a), (iv o)], pb 8 24 [(iv s), (iv h)], pb 16 26 [(iv 0), (iv 0), (iv 0)]]) (obs := []) (by kernel_rfl) (obs_nil) ?_
  refine T_seq ?_
  refine T_seq ?_
  refine T_region [(1, .call [] [(.agg [(iv l), (iv a), (iv o)])] [] (bv (rightB l a o)) [])] [ks 2, ks 3, ks 4, ks 9, kb 0, kb 8, kb 16] (fun _ => mixed) (l' := [ps 2 (.opt 0 0), ps 3 (.opt 8 0), ps 4 (.opt 16 0), ps 9 (bv (!(rightB l a o))), pb 0 26 [(iv l), (iv a), (iv o)], pb 8 24 [(iv s), (iv h)], pb 16 26 [(iv 0), (iv 0), (iv 0)]]) (obs := [PC Try.prog 23 [(.agg [(iv l), (iv a), (iv o)])] [] (bv (rightB l a o)) [], [(.agg [(iv l), (iv a), (iv o)])] = renL (sigi [] 40) [(.agg [(iv l), (iv a), (iv o)])]]) (by kernel_rfl) (obs_cons (pright_pc l a o) (obs_cons rfl (obs_nil))) ?_
  by_cases h1 : (rightB l a o) = true
  · refine T_else (b := (!(rightB l a o))) rfl (congrArg Bool.not h1) ?_
    refine T_skip ?_
    refine T_seq ?_
    refine T_seq ?_
    refine T_region [(1, .call [] [(.agg [(iv s), (iv h)])] [] (bv (withinB s h)) [])] [ks 2, ks 3, ks 4, ks 13, kb 0, kb 8, kb 16] (fun _ => mixed) (l' := [ps 2 (.opt 0 0), ps 3 (.opt 8 0), ps 4 (.opt 16 0), ps 13 (bv (!(withinB s h))), pb 0 26 [(iv l), (iv a), (iv o)], pb 8 24 [(iv s), (iv h)], pb 16 26 [(iv 0), (iv 0), (iv 0)]]) (obs := [PC Try.prog 24 [(.agg [(iv s), (iv h)])] [] (bv (withinB s h)) [], [(.agg [(iv s), (iv h)])] = renL (sigi [] 64) [(.agg [(iv s), (iv h)])]]) (by kernel_rfl) (obs_cons (pwithin_pc s h is ih) (obs_cons rfl (obs_nil))) ?_
    by_cases h2 : (withinB s h) = true
    · refine T_else (b := (!(withinB s h))) rfl (congrArg Bool.not h2) ?_
      refine T_skip ?_
      refine T_seq ?_
      have hb := bounds h1
      have hr := rightB_iff.1 h1
      have hw := withinB_iff.1 h2
      have hq := halves_bd (Pi.steps l o + s) (by omega)
      refine T_region [] [ks 2, ks 3, ks 4, ks 6, kb 0, kb 8, kb 16, kb 80] (fun _ => mixed) (l' := [ps 2 (.opt 0 0), ps 3 (.opt 8 0), ps 4 (.opt 16 0), ps 6 (.opt 80 0), pb 0 26 [(iv l), (iv a), (iv o)], pb 8 24 [(iv s), (iv h)], pb 16 26 [(iv 0), (iv 0), (iv 0)], pb 80 26 [(iv 0), (iv 0), (iv 0)]]) (obs := []) (by kernel_rfl) (obs_nil) ?_
      refine T_seq ?_
      refine T_regionD [(1, .call [] [(.agg [(iv l), (iv a), (iv o)])] [] (iv (Pi.steps l o)) []), (5, .call [] [(iv ((Pi.steps l o) + s)), (iv 7)] [] (.tup [(iv (((Pi.steps l o) + s) / 7)), (iv (((Pi.steps l o) + s) % 7))]) [])] [[], [0], [], [2], [0, 1, 2, 3], [0, 1, 2, 3, 4], [0, 1, 2, 3, 4, 5], [0, 1, 2, 3, 4, 5, 6], [0, 1, 2, 3, 4, 5, 6], [0, 1, 2, 3, 4, 5, 6, 7], [0, 1, 2, 3, 4, 5, 6, 7, 9], [0, 1, 2, 3, 4, 5, 6, 7, 8, 9, 10], [0, 1, 2, 3, 4, 5, 6, 7, 8, 9, 10, 11]] [([32], [1, 4]), ([34], [32]), ([36], [6]), ([38], [17, 36]), ([40], [34, 38]), ([42], [40]), ([30], [42]), ([44], [30]), ([46], [30]), ([48], [12]), ([161], [44, 48, 161]), ([50], [12]), ([161], [46, 50, 161])] [ks 2, ks 3, ks 4, ks 6, kb 0, kb 8, kb 16, kb 80] (l' := [ps 2 (.opt 0 0), ps 3 (.opt 8 0), ps 4 (.opt 16 0), ps 6 (.opt 80 0), pb 0 26 [(iv l), (iv a), (iv o)], pb 8 24 [(iv s), (iv h)], pb 16 26 [(iv 0), (iv 0), (iv 0)], pb 80 26 [(iv (((Pi.steps l o) + s) % 7)), (iv 0), (iv (((Pi.steps l o) + s) / 7))]]) (obs := [PC Try.prog 47 [(.agg [(iv l), (iv a), (iv o)])] [] (iv (Pi.steps l o)) [], [(.agg [(iv l), (iv a), (iv o)])] = renL (sigi [] 96) [(.agg [(iv l), (iv a), (iv o)])], InK .i64 ((Pi.steps l o) + s), PC Try.prog 50 [(iv ((Pi.steps l o) + s)), (iv 7)] [] (.tup [(iv (((Pi.steps l o) + s) / 7)), (iv (((Pi.steps l o) + s) % 7))]) [], [(iv ((Pi.steps l o) + s)), (iv 7)] = renL (sigi [] 128) [(iv ((Pi.steps l o) + s)), (iv 7)]]) mixed (by kernel_rfl) (by kernel_rfl) (obs_cons (psteps_pc l a o h1) (obs_cons rfl (obs_cons (by simp only [InK]; omega) (obs_cons (pfloor_pc ((Pi.steps l o) + s) (by omega) (by omega)) (obs_cons rfl (obs_nil)))))) ?_
      refine T_seq ?_
      refine T_regionD [(1, .call [] [(.agg [(iv l), (iv a), (iv o)])] [] (iv (Pi.halves l a o)) []), (6, .call [] [(.agg [(iv (((Pi.steps l o) + s) % 7)), (iv 0), (iv (((Pi.steps l o) + s) / 7))])] [] (iv (Pi.halves (((Pi.steps l o) + s) % 7) 0 (((Pi.steps l o) + s) / 7))) [])] [[], [0], [], [2], [0, 1, 2, 3], [], [0, 1, 5], [0, 1, 2, 3, 4, 5, 6], [0, 1, 2, 3, 4, 5, 6, 7], [0, 1, 2, 3, 4, 5, 6, 7, 8]] [([52], [1, 4]), ([54], [52]), ([56], [6]), ([58], [17, 56]), ([60], [54, 58]), ([62], [12, 161]), ([64], [62]), ([66], [60, 64]), ([68], [12]), ([161], [66, 68, 161])] [ks 4, ks 6, kb 16, kb 80] (l' := [ps 4 (.opt 16 0), ps 6 (.opt 80 0), pb 16 26 [(iv 0), (iv 0), (iv 0)], pb 80 26 [(iv (((Pi.steps l o) + s) % 7)), (iv (((Pi.halves l a o) + h) - (Pi.halves (((Pi.steps l o) + s) % 7) 0 (((Pi.steps l o) + s) / 7)))), (iv (((Pi.steps l o) + s) / 7))]]) (obs := [PC Try.prog 48 [(.agg [(iv l), (iv a), (iv o)])] [] (iv (Pi.halves l a o)) [], [(.agg [(iv l), (iv a), (iv o)])] = renL (sigi [] 200) [(.agg [(iv l), (iv a), (iv o)])], InK .i64 ((Pi.halves l a o) + h), PC Try.prog 48 [(.agg [(iv (((Pi.steps l o) + s) % 7)), (iv 0), (iv (((Pi.steps l o) + s) / 7))])] [] (iv (Pi.halves (((Pi.steps l o) + s) % 7) 0 (((Pi.steps l o) + s) / 7))) [], [(.agg [(iv (((Pi.steps l o) + s) % 7)), (iv 0), (iv (((Pi.steps l o) + s) / 7))])] = renL (sigi [] 240) [(.agg [(iv (((Pi.steps l o) + s) % 7)), (iv 0), (iv (((Pi.steps l o) + s) / 7))])], InK .i64 (((Pi.halves l a o) + h) - (Pi.halves (((Pi.steps l o) + s) % 7) 0 (((Pi.steps l o) + s) / 7)))]) mixed (by kernel_rfl) (by kernel_rfl) (obs_cons (phalves_pc l a o (by omega) (by omega)) (obs_cons rfl (obs_cons (by simp only [InK]; omega) (obs_cons (phalves_pc (((Pi.steps l o) + s) % 7) 0 (((Pi.steps l o) + s) / 7) (by omega) (by omega)) (obs_cons rfl (obs_cons (by simp only [InK]; omega) (obs_nil))))))) ?_
      refine T_seq ?_
      refine T_seq ?_
      refine T_region [(1, .call [] [(.agg [(iv (((Pi.steps l o) + s) % 7)), (iv (((Pi.halves l a o) + h) - (Pi.halves (((Pi.steps l o) + s) % 7) 0 (((Pi.steps l o) + s) / 7)))), (iv (((Pi.steps l o) + s) / 7))])] [] (bv (rightB (((Pi.steps l o) + s) % 7) (((Pi.halves l a o) + h) - (Pi.halves (((Pi.steps l o) + s) % 7) 0 (((Pi.steps l o) + s) / 7))) (((Pi.steps l o) + s) / 7))) [])] [ks 4, ks 6, ks 37, kb 16, kb 80] (fun _ => mixed) (l' := [ps 4 (.opt 16 0), ps 6 (.opt 80 0), ps 37 (bv (!(rightB (((Pi.steps l o) + s) % 7) (((Pi.halves l a o) + h) - (Pi.halves (((Pi.steps l o) + s) % 7) 0 (((Pi.steps l o) + s) / 7))) (((Pi.steps l o) + s) / 7)))), pb 16 26 [(iv 0), (iv 0), (iv 0)], pb 80 26 [(iv (((Pi.steps l o) + s) % 7)), (iv (((Pi.halves l a o) + h) - (Pi.halves (((Pi.steps l o) + s) % 7) 0 (((Pi.steps l o) + s) / 7)))), (iv (((Pi.steps l o) + s) / 7))]]) (obs := [PC Try.prog 23 [(.agg [(iv (((Pi.steps l o) + s) % 7)), (iv (((Pi.halves l a o) + h) - (Pi.halves (((Pi.steps l o) + s) % 7) 0 (((Pi.steps l o) + s) / 7)))), (iv (((Pi.steps l o) + s) / 7))])] [] (bv (rightB (((Pi.steps l o) + s) % 7) (((Pi.halves l a o) + h) - (Pi.halves (((Pi.steps l o) + s) % 7) 0 (((Pi.steps l o) + s) / 7))) (((Pi.steps l o) + s) / 7))) [], [(.agg [(iv (((Pi.steps l o) + s) % 7)), (iv (((Pi.halves l a o) + h) - (Pi.halves (((Pi.steps l o) + s) % 7) 0 (((Pi.steps l o) + s) / 7)))), (iv (((Pi.steps l o) + s) / 7))])] = renL (sigi [] 280) [(.agg [(iv (((Pi.steps l o) + s) % 7)), (iv (((Pi.halves l a o) + h) - (Pi.halves (((Pi.steps l o) + s) % 7) 0 (((Pi.steps l o) + s) / 7)))), (iv (((Pi.steps l o) + s) / 7))])]]) (by kernel_rfl) (obs_cons (pright_pc (((Pi.steps l o) + s) % 7) (((Pi.halves l a o) + h) - (Pi.halves (((Pi.steps l o) + s) % 7) 0 (((Pi.steps l o) + s) / 7))) (((Pi.steps l o) + s) / 7)) (obs_cons rfl (obs_nil))) ?_
      by_cases h3 : (rightB (((Pi.steps l o) + s) % 7) (((Pi.halves l a o) + h) - (Pi.halves (((Pi.steps l o) + s) % 7) 0 (((Pi.steps l o) + s) / 7))) (((Pi.steps l o) + s) / 7)) = true
      · refine T_else (b := (!(rightB (((Pi.steps l o) + s) % 7) (((Pi.halves l a o) + h) - (Pi.halves (((Pi.steps l o) + s) % 7) 0 (((Pi.steps l o) + s) / 7))) (((Pi.steps l o) + s) / 7)))) rfl (congrArg Bool.not h3) ?_
        refine T_skip ?_
        refine T_seq ?_
        refine T_region [] [ks 4, ks 5, kb 16] (fun _ => mixed) (l' := [ps 4 (.opt 16 0), ps 5 (iv 0), pb 16 26 [(iv (((Pi.steps l o) + s) % 7)), (iv (((Pi.halves l a o) + h) - (Pi.halves (((Pi.steps l o) + s) % 7) 0 (((Pi.steps l o) + s) / 7)))), (iv (((Pi.steps l o) + s) / 7))]]) (obs := []) (by kernel_rfl) (obs_nil) ?_
        rw [move_at h1 h2, at_yes h3]
        exact T_ret fun cx_ a_ hI_ => ret_ok (H' := [none]) (.inr rfl) (Wk.ren2 [ps 4 (.opt 0 0), ps 5 (iv 0), pb 0 26 [(iv (((Pi.steps l o) + s) % 7)), (iv (((Pi.halves l a o) + h) - (Pi.halves (((Pi.steps l o) + s) % 7) 0 (((Pi.steps l o) + s) / 7)))), (iv (((Pi.steps l o) + s) / 7))]] 0 hc0 [16] rfl rfl (by kernel_rfl) (by kernel_rfl)) rfl (obs_nil) (fun cx_ a_ hI_ => ret_res (l' := [ps 4 (.opt 0 0), ps 5 (iv 0), pb 0 26 [(iv (((Pi.steps l o) + s) % 7)), (iv (((Pi.halves l a o) + h) - (Pi.halves (((Pi.steps l o) + s) % 7) 0 (((Pi.steps l o) + s) / 7)))), (iv (((Pi.steps l o) + s) / 7))]]) (by kernel_rfl) cx_ a_ hI_) hI_
      · refine T_then (b := (!(rightB (((Pi.steps l o) + s) % 7) (((Pi.halves l a o) + h) - (Pi.halves (((Pi.steps l o) + s) % 7) 0 (((Pi.steps l o) + s) / 7))) (((Pi.steps l o) + s) / 7)))) rfl (congrArg Bool.not (Bool.eq_false_iff.2 h3)) ?_
        refine T_seq ?_
        refine T_region [] [ks 4, ks 5, kb 16] (fun _ => mixed) (l' := [ps 4 (.opt 16 0), ps 5 (iv 3), pb 16 26 [(iv 0), (iv 0), (iv 0)]]) (obs := []) (by kernel_rfl) (obs_nil) ?_
        rw [move_at h1 h2, at_no (Bool.eq_false_iff.2 h3)]
        exact T_ret fun cx_ a_ hI_ => ret_ok (H' := [none]) (.inr rfl) (Wk.ren2 [ps 4 (.opt 0 0), ps 5 (iv 3), pb 0 26 [(iv 0), (iv 0), (iv 0)]] 0 hc0 [16] rfl rfl (by kernel_rfl) (by kernel_rfl)) rfl (obs_nil) (fun cx_ a_ hI_ => ret_res (l' := [ps 4 (.opt 0 0), ps 5 (iv 3), pb 0 26 [(iv 0), (iv 0), (iv 0)]]) (by kernel_rfl) cx_ a_ hI_) hI_
    · refine T_then (b := (!(withinB s h))) rfl (congrArg Bool.not (Bool.eq_false_iff.2 h2)) ?_
      refine T_seq ?_
      refine T_region [] [ks 4, ks 5, kb 16] (fun _ => mixed) (l' := [ps 4 (.opt 16 0), ps 5 (iv 3), pb 16 26 [(iv 0), (iv 0), (iv 0)]]) (obs := []) (by kernel_rfl) (obs_nil) ?_
      rw [move_no2 h1 (Bool.eq_false_iff.2 h2)]
      exact T_ret fun cx_ a_ hI_ => ret_ok (H' := [none]) (.inr rfl) (Wk.ren2 [ps 4 (.opt 0 0), ps 5 (iv 3), pb 0 26 [(iv 0), (iv 0), (iv 0)]] 0 hc0 [16] rfl rfl (by kernel_rfl) (by kernel_rfl)) rfl (obs_nil) (fun cx_ a_ hI_ => ret_res (l' := [ps 4 (.opt 0 0), ps 5 (iv 3), pb 0 26 [(iv 0), (iv 0), (iv 0)]]) (by kernel_rfl) cx_ a_ hI_) hI_
  · refine T_then (b := (!(rightB l a o))) rfl (congrArg Bool.not (Bool.eq_false_iff.2 h1)) ?_
    refine T_seq ?_
    refine T_region [] [ks 4, ks 5, kb 16] (fun _ => mixed) (l' := [ps 4 (.opt 16 0), ps 5 (iv 2), pb 16 26 [(iv 0), (iv 0), (iv 0)]]) (obs := []) (by kernel_rfl) (obs_nil) ?_
    rw [move_no1 (Bool.eq_false_iff.2 h1)]
    exact T_ret fun cx_ a_ hI_ => ret_ok (H' := [none]) (.inr rfl) (Wk.ren2 [ps 4 (.opt 0 0), ps 5 (iv 2), pb 0 26 [(iv 0), (iv 0), (iv 0)]] 0 hc0 [16] rfl rfl (by kernel_rfl) (by kernel_rfl)) rfl (obs_nil) (fun cx_ a_ hI_ => ret_res (l' := [ps 4 (.opt 0 0), ps 5 (iv 2), pb 0 26 [(iv 0), (iv 0), (iv 0)]]) (by kernel_rfl) cx_ a_ hI_) hI_
theorem move_pc (l a o s h : Int) (is : Pi.I64 s) (ih : Pi.I64 h) : PC Try.prog 39 [(.agg [(iv l), (iv a), (iv o)]), (.agg [(iv s), (iv h)])] [] (M4P (Pi.move l a o s h)) [] := pc_trim [none] rfl (fun i => by cases i <;> rfl) (move_pc0 l a o s h is ih)
set_option maxRecDepth 100000 in
set_option maxHeartbeats 4000000 in
theorem mirror_pc0 (l a o x y z : Int) : PC Try.prog 37 [(.agg [(iv l), (iv a), (iv o)]), (.agg [(iv x), (iv y), (iv z)])] [] (M4P (Pi.mirror l a o x y z)) [none] := by
  refine pc_intro Try.func37 rfl (by kernel_rfl) (Nat.le_of_ble_eq_true rfl) (by kernel_rfl) (l0 := [ps 0 (.agg [(iv l), (iv a), (iv o)]), ps 1 (.agg [(iv x), (iv y), (iv z)])]) rfl (fun c0 Bor hc0 => ?_)
  refine T_seq ?_
  refine T_region [] [ks 2, ks 3, ks 4, kb 0, kb 8, kb 16] (fun _ => mixed) (l' := [ps 2 (.opt 0 0), ps 3 (.opt 8 0), ps 4 (.opt 16 0), pb 0 26 [(iv l), (iv a), (iv o)], pb 8 26 [(iv x), (iv y), (iv z)], pb 16 26 [(iv 0), (iv 0), (iv 0)]]) (obs := []) (by kernel_rfl) (obs_nil) ?_
  refine T_seq ?_
  refine T_region [(2, .call [] [(.agg [(iv l), (iv a), (iv o)]), (.agg [(iv x), (iv y), (iv z)])] [] (.tup [(.agg [(iv ((Pi.between l a o x y z).1)), (iv ((Pi.between l a o x y z).2.1))]), (iv ((Pi.between l a o x y z).2.2))]) [])] [ks 3, ks 4, ks 6, ks 7, kb 8, kb 16, kb 80] (fun _ => mixed) (l' := [ps 3 (.opt 8 0), ps 4 (.opt 16 0), ps 6 (.opt 80 0), ps 7 (iv ((Pi.between l a o x y z).2.2)), pb 8 26 [(iv x), (iv y), (iv z)], pb 16 26 [(iv 0), (iv 0), (iv 0)], pb 80 24 [(iv ((Pi.between l a o x y z).1)), (iv ((Pi.between l a o x y z).2.1))]]) (obs := [PC Try.prog 30 [(.agg [(iv l), (iv a), (iv o)]), (.agg [(iv x), (iv y), (iv z)])] [] (.tup [(.agg [(iv ((Pi.between l a o x y z).1)), (iv ((Pi.between l a o x y z).2.1))]), (iv ((Pi.between l a o x y z).2.2))]) [], [(.agg [(iv l), (iv a), (iv o)]), (.agg [(iv x), (iv y), (iv z)])] = renL (sigi [] 48) [(.agg [(iv l), (iv a), (iv o)]), (.agg [(iv x), (iv y), (iv z)])]]) (by kernel_rfl) (obs_cons (between_pc l a o x y z) (obs_cons rfl (obs_nil))) ?_
  refine T_seq ?_
  refine T_seq ?_
  refine T_region [] [ks 3, ks 4, ks 6, ks 7, ks 15, kb 8, kb 16, kb 80] (fun _ => mixed) (l' := [ps 3 (.opt 8 0), ps 4 (.opt 16 0), ps 6 (.opt 80 0), ps 7 (iv ((Pi.between l a o x y z).2.2)), ps 15 (bv (!(decide (((Pi.between l a o x y z).2.2) = 0)))), pb 8 26 [(iv x), (iv y), (iv z)], pb 16 26 [(iv 0), (iv 0), (iv 0)], pb 80 24 [(iv ((Pi.between l a o x y z).1)), (iv ((Pi.between l a o x y z).2.1))]]) (obs := []) (by kernel_rfl) (obs_nil) ?_
  by_cases h1 : ((Pi.between l a o x y z).2.2) = 0
  · refine T_else (b := (!(decide (((Pi.between l a o x y z).2.2) = 0)))) rfl (congrArg Bool.not (decide_eq_true h1)) ?_
    refine T_skip ?_
    refine T_seq ?_
    refine T_region [(2, .call [] [(.agg [(iv x), (iv y), (iv z)]), (.agg [(iv ((Pi.between l a o x y z).1)), (iv ((Pi.between l a o x y z).2.1))])] [] (.tup [(.agg [(iv ((Pi.move x y z (Pi.between l a o x y z).1 (Pi.between l a o x y z).2.1).1)), (iv ((Pi.move x y z (Pi.between l a o x y z).1 (Pi.between l a o x y z).2.1).2.1)), (iv ((Pi.move x y z (Pi.between l a o x y z).1 (Pi.between l a o x y z).2.1).2.2.1))]), (iv ((Pi.move x y z (Pi.between l a o x y z).1 (Pi.between l a o x y z).2.1).2.2.2))]) [])] [ks 4, ks 5, kb 16] (fun _ => mixed) (l' := [ps 4 (.opt 16 0), ps 5 (iv ((Pi.move x y z (Pi.between l a o x y z).1 (Pi.between l a o x y z).2.1).2.2.2)), pb 16 26 [(iv ((Pi.move x y z (Pi.between l a o x y z).1 (Pi.between l a o x y z).2.1).1)), (iv ((Pi.move x y z (Pi.between l a o x y z).1 (Pi.between l a o x y z).2.1).2.1)), (iv ((Pi.move x y z (Pi.between l a o x y z).1 (Pi.between l a o x y z).2.1).2.2.1))]]) (obs := [PC Try.prog 39 [(.agg [(iv x), (iv y), (iv z)]), (.agg [(iv ((Pi.between l a o x y z).1)), (iv ((Pi.between l a o x y z).2.1))])] [] (.tup [(.agg [(iv ((Pi.move x y z (Pi.between l a o x y z).1 (Pi.between l a o x y z).2.1).1)), (iv ((Pi.move x y z (Pi.between l a o x y z).1 (Pi.between l a o x y z).2.1).2.1)), (iv ((Pi.move x y z (Pi.between l a o x y z).1 (Pi.between l a o x y z).2.1).2.2.1))]), (iv ((Pi.move x y z (Pi.between l a o x y z).1 (Pi.between l a o x y z).2.1).2.2.2))]) [], [(.agg [(iv x), (iv y), (iv z)]), (.agg [(iv ((Pi.between l a o x y z).1)), (iv ((Pi.between l a o x y z).2.1))])] = renL (sigi [] 136) [(.agg [(iv x), (iv y), (iv z)]), (.agg [(iv ((Pi.between l a o x y z).1)), (iv ((Pi.between l a o x y z).2.1))])]]) (by kernel_rfl) (obs_cons (move_pc x y z _ _ (between_i64 l a o x y z).1 (between_i64 l a o x y z).2) (obs_cons rfl (obs_nil))) ?_
    rw [mirror_bt h1]
    exact T_ret fun cx_ a_ hI_ => ret_ok (H' := [none]) (.inr rfl) (Wk.ren2 [ps 4 (.opt 0 0), ps 5 (iv ((Pi.move x y z (Pi.between l a o x y z).1 (Pi.between l a o x y z).2.1).2.2.2)), pb 0 26 [(iv ((Pi.move x y z (Pi.between l a o x y z).1 (Pi.between l a o x y z).2.1).1)), (iv ((Pi.move x y z (Pi.between l a o x y z).1 (Pi.between l a o x y z).2.1).2.1)), (iv ((Pi.move x y z (Pi.between l a o x y z).1 (Pi.between l a o x y z).2.1).2.2.1))]] 0 hc0 [16] rfl rfl (by kernel_rfl) (by kernel_rfl)) rfl (obs_nil) (fun cx_ a_ hI_ => ret_res (l' := [ps 4 (.opt 0 0), ps 5 (iv ((Pi.move x y z (Pi.between l a o x y z).1 (Pi.between l a o x y z).2.1).2.2.2)), pb 0 26 [(iv ((Pi.move x y z (Pi.between l a o x y z).1 (Pi.between l a o x y z).2.1).1)), (iv ((Pi.move x y z (Pi.between l a o x y z).1 (Pi.between l a o x y z).2.1).2.1)), (iv ((Pi.move x y z (Pi.between l a o x y z).1 (Pi.between l a o x y z).2.1).2.2.1))]]) (by kernel_rfl) cx_ a_ hI_) hI_
  · refine T_then (b := (!(decide (((Pi.between l a o x y z).2.2) = 0)))) rfl (congrArg Bool.not (decide_eq_false h1)) ?_
    refine T_seq ?_
    refine T_region [] [ks 4, ks 5, kb 16] (fun _ => mixed) (l' := [ps 4 (.opt 16 0), ps 5 (iv ((Pi.between l a o x y z).2.2)), pb 16 26 [(iv 0), (iv 0), (iv 0)]]) (obs := []) (by kernel_rfl) (obs_nil) ?_
    rw [mirror_bn h1]
    exact T_ret fun cx_ a_ hI_ => ret_ok (H' := [none]) (.inr rfl) (Wk.ren2 [ps 4 (.opt 0 0), ps 5 (iv ((Pi.between l a o x y z).2.2)), pb 0 26 [(iv 0), (iv 0), (iv 0)]] 0 hc0 [16] rfl rfl (by kernel_rfl) (by kernel_rfl)) rfl (obs_nil) (fun cx_ a_ hI_ => ret_res (l' := [ps 4 (.opt 0 0), ps 5 (iv ((Pi.between l a o x y z).2.2)), pb 0 26 [(iv 0), (iv 0), (iv 0)]]) (by kernel_rfl) cx_ a_ hI_) hI_
theorem mirror_pc (l a o x y z : Int) : PC Try.prog 37 [(.agg [(iv l), (iv a), (iv o)]), (.agg [(iv x), (iv y), (iv z)])] [] (M4P (Pi.mirror l a o x y z)) [] := pc_trim [none] rfl (fun i => by cases i <;> rfl) (mirror_pc0 l a o x y z)
set_option maxRecDepth 100000 in
set_option maxHeartbeats 4000000 in
theorem ref_move_pc0 (l a o s h : Int) (ha : Pi.I64 a) : PC Try.prog 28 [(.agg [(iv l), (iv a), (iv o)]), (.agg [(iv s), (iv h)])] [] (M4P (Pi.move l a o s h)) [none] := by
  refine pc_intro Try.func28 rfl (by kernel_rfl) (Nat.le_of_ble_eq_true rfl) (by kernel_rfl) (l0 := [ps 0 (.agg [(iv l), (iv a), (iv o)]), ps 1 (.agg [(iv s), (iv h)])]) rfl (fun c0 Bor hc0 => ?_)
  refine T_seq ?_
  refine T_region [] [ks 2, ks 3, ks 4, kb 0, kb 8, kb 16] (fun _ => mixed) (l' := [ps 2 (.opt 0 0), ps 3 (.opt 8 0), ps 4 (.opt 16 0), pb 0 26 [(iv l), (iv a), (iv o)], pb 8 24 [(iv s), (iv h)], pb 16 26 [(iv 0), (iv 0), (iv 0)]]) (obs := []) (by kernel_rfl) (obs_nil) ?_
  refine T_seq ?_
  refine T_seq ?_
  refine T_region [(1, .call [] [(.agg [(iv l), (iv a), (iv o)])] [] (bv (rightB l a o)) [])] [ks 2, ks 3, ks 4, ks 10, kb 0, kb 8, kb 16] (fun _ => mixed) (l' := [ps 2 (.opt 0 0), ps 3 (.opt 8 0), ps 4 (.opt 16 0), ps 10 (bv (!(rightB l a o))), pb 0 26 [(iv l), (iv a), (iv o)], pb 8 24 [(iv s), (iv h)], pb 16 26 [(iv 0), (iv 0), (iv 0)]]) (obs := [PC Try.prog 25 [(.agg [(iv l), (iv a), (iv o)])] [] (bv (rightB l a o)) [], [(.agg [(iv l), (iv a), (iv o)])] = renL (sigi [] 40) [(.agg [(iv l), (iv a), (iv o)])]]) (by kernel_rfl) (obs_cons (ref_pright_pc l a o ha) (obs_cons rfl (obs_nil))) ?_
  by_cases h1 : (rightB l a o) = true
  · refine T_else (b := (!(rightB l a o))) rfl (congrArg Bool.not h1) ?_
    refine T_skip ?_
    refine T_seq ?_
    refine T_seq ?_
    refine T_region [(1, .call [] [(.agg [(iv s), (iv h)])] [] (bv (withinB s h)) [])] [ks 2, ks 3, ks 4, ks 14, kb 0, kb 8, kb 16] (fun _ => mixed) (l' := [ps 2 (.opt 0 0), ps 3 (.opt 8 0), ps 4 (.opt 16 0), ps 14 (bv (!(withinB s h))), pb 0 26 [(iv l), (iv a), (iv o)], pb 8 24 [(iv s), (iv h)], pb 16 26 [(iv 0), (iv 0), (iv 0)]]) (obs := [PC Try.prog 43 [(.agg [(iv s), (iv h)])] [] (bv (withinB s h)) [], [(.agg [(iv s), (iv h)])] = renL (sigi [] 64) [(.agg [(iv s), (iv h)])]]) (by kernel_rfl) (obs_cons (ref_pwithin_pc s h) (obs_cons rfl (obs_nil))) ?_
    by_cases h2 : (withinB s h) = true
    · refine T_else (b := (!(withinB s h))) rfl (congrArg Bool.not h2) ?_
      refine T_skip ?_
      refine T_seq ?_
      have hb := bounds h1
      have hw := withinB_iff.1 h2
      refine T_regionD [(1, .call [] [(.agg [(iv l), (iv a), (iv o)])] [] (iv (Pi.steps l o)) []), (6, .call [] [(.agg [(iv l), (iv a), (iv o)])] [] (iv (Pi.halves l a o)) []), (10, .call [] [(iv ((Pi.steps l o) + s)), (iv ((Pi.halves l a o) + h))] [] (.tup [(.agg [(iv (((Pi.steps l o) + s) % 7)), (iv (((Pi.halves l a o) + h) - white ((Pi.steps l o) + s))), (iv (((Pi.steps l o) + s) / 7))]), (bv (rightB (((Pi.steps l o) + s) % 7) (((Pi.halves l a o) + h) - white ((Pi.steps l o) + s)) (((Pi.steps l o) + s) / 7)))]) [])] [[], [0], [], [2], [0, 1, 2, 3], [], [0, 1, 5], [], [7], [0, 1, 5, 6, 7, 8], [0, 1, 2, 3, 4, 5, 6, 7, 8, 9], [0, 1, 2, 3, 4, 5, 6, 7, 8, 9, 10], [0, 1, 2, 3, 4, 5, 6, 7, 8, 9, 10, 11], [0, 1, 2, 3, 4, 5, 6, 7, 8, 9, 10, 11], [], [0, 1, 2, 3, 4, 5, 6, 7, 8, 9, 10, 11, 12, 14], [0, 1, 2, 3, 4, 5, 6, 7, 8, 9, 10, 11, 12, 13, 14, 15]] [([34], [1, 4]), ([36], [34]), ([38], [6]), ([40], [17, 38]), ([42], [36, 40]), ([44], [1, 4]), ([46], [44]), ([48], [6]), ([50], [17, 48]), ([52], [46, 50]), ([54], [42, 52]), ([32], [54]), ([56], [32]), ([58], [32]), ([12, 385], []), ([385], [12, 56, 385]), ([14], [58])] [ks 4, ks 6, ks 7, kb 16, kb 192] (l' := [ps 4 (.opt 16 0), ps 6 (.opt 192 0), ps 7 (bv (rightB (((Pi.steps l o) + s) % 7) (((Pi.halves l a o) + h) - white ((Pi.steps l o) + s)) (((Pi.steps l o) + s) / 7))), pb 16 26 [(iv 0), (iv 0), (iv 0)], pb 192 26 [(iv (((Pi.steps l o) + s) % 7)), (iv (((Pi.halves l a o) + h) - white ((Pi.steps l o) + s))), (iv (((Pi.steps l o) + s) / 7))]]) (obs := [PC Try.prog 44 [(.agg [(iv l), (iv a), (iv o)])] [] (iv (Pi.steps l o)) [], [(.agg [(iv l), (iv a), (iv o)])] = renL (sigi [] 88) [(.agg [(iv l), (iv a), (iv o)])], InK .i64 ((Pi.steps l o) + s), PC Try.prog 45 [(.agg [(iv l), (iv a), (iv o)])] [] (iv (Pi.halves l a o)) [], [(.agg [(iv l), (iv a), (iv o)])] = renL (sigi [] 128) [(.agg [(iv l), (iv a), (iv o)])], InK .i64 ((Pi.halves l a o) + h), PC Try.prog 46 [(iv ((Pi.steps l o) + s)), (iv ((Pi.halves l a o) + h))] [] (.tup [(.agg [(iv (((Pi.steps l o) + s) % 7)), (iv (((Pi.halves l a o) + h) - white ((Pi.steps l o) + s))), (iv (((Pi.steps l o) + s) / 7))]), (bv (rightB (((Pi.steps l o) + s) % 7) (((Pi.halves l a o) + h) - white ((Pi.steps l o) + s)) (((Pi.steps l o) + s) / 7)))]) [], [(iv ((Pi.steps l o) + s)), (iv ((Pi.halves l a o) + h))] = renL (sigi [] 160) [(iv ((Pi.steps l o) + s)), (iv ((Pi.halves l a o) + h))]]) mixed (by kernel_rfl) (by kernel_rfl) (obs_cons (ref_psteps_pc l a o h1) (obs_cons rfl (obs_cons (by simp only [InK]; omega) (obs_cons (ref_phalves_pc l a o h1) (obs_cons rfl (obs_cons (by simp only [InK]; omega) (obs_cons (ref_pat_pc ((Pi.steps l o) + s) ((Pi.halves l a o) + h) (by omega) (by omega)) (obs_cons rfl (obs_nil))))))))) ?_
      refine T_seq ?_
      refine T_seq ?_
      refine T_region [] [ks 4, ks 6, ks 31, kb 16, kb 192] (fun _ => mixed) (l' := [ps 4 (.opt 16 0), ps 6 (.opt 192 0), ps 31 (bv (!(rightB (((Pi.steps l o) + s) % 7) (((Pi.halves l a o) + h) - white ((Pi.steps l o) + s)) (((Pi.steps l o) + s) / 7)))), pb 16 26 [(iv 0), (iv 0), (iv 0)], pb 192 26 [(iv (((Pi.steps l o) + s) % 7)), (iv (((Pi.halves l a o) + h) - white ((Pi.steps l o) + s))), (iv (((Pi.steps l o) + s) / 7))]]) (obs := []) (by kernel_rfl) (obs_nil) ?_
      by_cases h3 : (rightB (((Pi.steps l o) + s) % 7) (((Pi.halves l a o) + h) - white ((Pi.steps l o) + s)) (((Pi.steps l o) + s) / 7)) = true
      · refine T_else (b := (!(rightB (((Pi.steps l o) + s) % 7) (((Pi.halves l a o) + h) - white ((Pi.steps l o) + s)) (((Pi.steps l o) + s) / 7)))) rfl (congrArg Bool.not h3) ?_
        refine T_skip ?_
        refine T_seq ?_
        refine T_region [] [ks 4, ks 5, kb 16] (fun _ => mixed) (l' := [ps 4 (.opt 16 0), ps 5 (iv 0), pb 16 26 [(iv (((Pi.steps l o) + s) % 7)), (iv (((Pi.halves l a o) + h) - white ((Pi.steps l o) + s))), (iv (((Pi.steps l o) + s) / 7))]]) (obs := []) (by kernel_rfl) (obs_nil) ?_
        rw [move_at h1 h2, at_white, if_pos h3]
        exact T_ret fun cx_ a_ hI_ => ret_ok (H' := [none]) (.inr rfl) (Wk.ren2 [ps 4 (.opt 0 0), ps 5 (iv 0), pb 0 26 [(iv (((Pi.steps l o) + s) % 7)), (iv (((Pi.halves l a o) + h) - white ((Pi.steps l o) + s))), (iv (((Pi.steps l o) + s) / 7))]] 0 hc0 [16] rfl rfl (by kernel_rfl) (by kernel_rfl)) rfl (obs_nil) (fun cx_ a_ hI_ => ret_res (l' := [ps 4 (.opt 0 0), ps 5 (iv 0), pb 0 26 [(iv (((Pi.steps l o) + s) % 7)), (iv (((Pi.halves l a o) + h) - white ((Pi.steps l o) + s))), (iv (((Pi.steps l o) + s) / 7))]]) (by kernel_rfl) cx_ a_ hI_) hI_
      · refine T_then (b := (!(rightB (((Pi.steps l o) + s) % 7) (((Pi.halves l a o) + h) - white ((Pi.steps l o) + s)) (((Pi.steps l o) + s) / 7)))) rfl (congrArg Bool.not (Bool.eq_false_iff.2 h3)) ?_
        refine T_seq ?_
        refine T_region [] [ks 4, ks 5, kb 16] (fun _ => mixed) (l' := [ps 4 (.opt 16 0), ps 5 (iv 3), pb 16 26 [(iv 0), (iv 0), (iv 0)]]) (obs := []) (by kernel_rfl) (obs_nil) ?_
        rw [move_at h1 h2, at_white, if_neg h3]
        exact T_ret fun cx_ a_ hI_ => ret_ok (H' := [none]) (.inr rfl) (Wk.ren2 [ps 4 (.opt 0 0), ps 5 (iv 3), pb 0 26 [(iv 0), (iv 0), (iv 0)]] 0 hc0 [16] rfl rfl (by kernel_rfl) (by kernel_rfl)) rfl (obs_nil) (fun cx_ a_ hI_ => ret_res (l' := [ps 4 (.opt 0 0), ps 5 (iv 3), pb 0 26 [(iv 0), (iv 0), (iv 0)]]) (by kernel_rfl) cx_ a_ hI_) hI_
    · refine T_then (b := (!(withinB s h))) rfl (congrArg Bool.not (Bool.eq_false_iff.2 h2)) ?_
      refine T_seq ?_
      refine T_region [] [ks 4, ks 5, kb 16] (fun _ => mixed) (l' := [ps 4 (.opt 16 0), ps 5 (iv 3), pb 16 26 [(iv 0), (iv 0), (iv 0)]]) (obs := []) (by kernel_rfl) (obs_nil) ?_
      rw [move_no2 h1 (Bool.eq_false_iff.2 h2)]
      exact T_ret fun cx_ a_ hI_ => ret_ok (H' := [none]) (.inr rfl) (Wk.ren2 [ps 4 (.opt 0 0), ps 5 (iv 3), pb 0 26 [(iv 0), (iv 0), (iv 0)]] 0 hc0 [16] rfl rfl (by kernel_rfl) (by kernel_rfl)) rfl (obs_nil) (fun cx_ a_ hI_ => ret_res (l' := [ps 4 (.opt 0 0), ps 5 (iv 3), pb 0 26 [(iv 0), (iv 0), (iv 0)]]) (by kernel_rfl) cx_ a_ hI_) hI_
  · refine T_then (b := (!(rightB l a o))) rfl (congrArg Bool.not (Bool.eq_false_iff.2 h1)) ?_
    refine T_seq ?_
    refine T_region [] [ks 4, ks 5, kb 16] (fun _ => mixed) (l' := [ps 4 (.opt 16 0), ps 5 (iv 2), pb 16 26 [(iv 0), (iv 0), (iv 0)]]) (obs := []) (by kernel_rfl) (obs_nil) ?_
    rw [move_no1 (Bool.eq_false_iff.2 h1)]
    exact T_ret fun cx_ a_ hI_ => ret_ok (H' := [none]) (.inr rfl) (Wk.ren2 [ps 4 (.opt 0 0), ps 5 (iv 2), pb 0 26 [(iv 0), (iv 0), (iv 0)]] 0 hc0 [16] rfl rfl (by kernel_rfl) (by kernel_rfl)) rfl (obs_nil) (fun cx_ a_ hI_ => ret_res (l' := [ps 4 (.opt 0 0), ps 5 (iv 2), pb 0 26 [(iv 0), (iv 0), (iv 0)]]) (by kernel_rfl) cx_ a_ hI_) hI_
theorem ref_move_pc (l a o s h : Int) (ha : Pi.I64 a) : PC Try.prog 28 [(.agg [(iv l), (iv a), (iv o)]), (.agg [(iv s), (iv h)])] [] (M4P (Pi.move l a o s h)) [] := pc_trim [none] rfl (fun i => by cases i <;> rfl) (ref_move_pc0 l a o s h ha)
set_option maxRecDepth 100000 in
set_option maxHeartbeats 4000000 in
theorem ref_mirror_pc0 (l a o x y z : Int) (ha : Pi.I64 a) (hy : Pi.I64 y) : PC Try.prog 27 [(.agg [(iv l), (iv a), (iv o)]), (.agg [(iv x), (iv y), (iv z)])] [] (M4P (Pi.mirror l a o x y z)) [none] := by
  refine pc_intro Try.func27 rfl (by kernel_rfl) (Nat.le_of_ble_eq_true rfl) (by kernel_rfl) (l0 := [ps 0 (.agg [(iv l), (iv a), (iv o)]), ps 1 (.agg [(iv x), (iv y), (iv z)])]) rfl (fun c0 Bor hc0 => ?_)
  refine T_seq ?_
  refine T_region [] [ks 2, ks 3, ks 4, kb 0, kb 8, kb 16] (fun _ => mixed) (l' := [ps 2 (.opt 0 0), ps 3 (.opt 8 0), ps 4 (.opt 16 0), pb 0 26 [(iv l), (iv a), (iv o)], pb 8 26 [(iv x), (iv y), (iv z)], pb 16 26 [(iv 0), (iv 0), (iv 0)]]) (obs := []) (by kernel_rfl) (obs_nil) ?_
  refine T_seq ?_
  refine T_seq ?_
  by_cases h1 : (rightB l a o) = true
  · refine T_region [(1, .call [] [(.agg [(iv l), (iv a), (iv o)])] [] (bv (rightB l a o)) []), (4, .gd false (.no)), (5, .gd false (.call [] [(.agg [(iv x), (iv y), (iv z)])] [] (bv (rightB x y z)) [])), (6, .gd false (.no)), (7, .yes false)] [ks 2, ks 3, ks 4, ks 15, kb 0, kb 8, kb 16] (fun _ => mixed) (l' := [ps 2 (.opt 0 0), ps 3 (.opt 8 0), ps 4 (.opt 16 0), ps 15 (bv (!(rightB x y z))), pb 0 26 [(iv l), (iv a), (iv o)], pb 8 26 [(iv x), (iv y), (iv z)], pb 16 26 [(iv 0), (iv 0), (iv 0)]]) (obs := [PC Try.prog 25 [(.agg [(iv l), (iv a), (iv o)])] [] (bv (rightB l a o)) [], [(.agg [(iv l), (iv a), (iv o)])] = renL (sigi [] 40) [(.agg [(iv l), (iv a), (iv o)])], (!(rightB l a o)) = false, (!(rightB l a o)) = false, PC Try.prog 25 [(.agg [(iv x), (iv y), (iv z)])] [] (bv (rightB x y z)) [], [(.agg [(iv x), (iv y), (iv z)])] = renL (sigi [] 72) [(.agg [(iv x), (iv y), (iv z)])], (!(rightB l a o)) = false, (!(rightB l a o)) = false]) (by kernel_rfl) (obs_cons (ref_pright_pc l a o ha) (obs_cons rfl (obs_cons (congrArg Bool.not h1) (obs_cons (congrArg Bool.not h1) (obs_cons (ref_pright_pc x y z hy) (obs_cons rfl (obs_cons (congrArg Bool.not h1) (obs_cons (congrArg Bool.not h1) (obs_nil))))))))) ?_
    by_cases h2 : (rightB x y z) = true
    · refine T_else (b := (!(rightB x y z))) rfl (congrArg Bool.not h2) ?_
      refine T_skip ?_
      refine T_seq ?_
      refine T_seq ?_
      have hb := bounds h1
      have hb2 := bounds h2
      refine T_regionD [(1, .call [] [(.agg [(iv x), (iv y), (iv z)])] [] (iv (Pi.steps x z)) []), (3, .call [] [(.agg [(iv l), (iv a), (iv o)])] [] (iv (Pi.steps l o)) []), (6, .call [] [(.agg [(iv x), (iv y), (iv z)])] [] (iv (Pi.halves x y z)) []), (8, .call [] [(.agg [(iv l), (iv a), (iv o)])] [] (iv (Pi.halves l a o)) []), (11, .call [] [(.agg [(iv ((Pi.steps x z) - (Pi.steps l o))), (iv ((Pi.halves x y z) - (Pi.halves l a o)))])] [] (bv (withinB ((Pi.steps x z) - (Pi.steps l o)) ((Pi.halves x y z) - (Pi.halves l a o)))) [])] [[], [0], [], [0, 1, 2], [0, 1, 2, 3], [], [0, 1, 2, 3, 5], [], [0, 1, 2, 3, 5, 6, 7], [0, 1, 2, 3, 5, 6, 7, 8], [0, 1, 2, 3, 4, 5, 6, 7, 8, 9], [0, 1, 2, 3, 4, 5, 6, 7, 8, 9, 10], [0, 1, 2, 3, 4, 5, 6, 7, 8, 9, 10, 11]] [([34], [6, 17]), ([36], [34]), ([38], [1, 4]), ([40], [38]), ([42], [36, 40]), ([44], [6, 17]), ([46], [44]), ([48], [1, 4]), ([50], [48]), ([52], [46, 50]), ([54], [42, 52]), ([56], [54]), ([58], [56])] [ks 2, ks 3, ks 4, ks 29, kb 0, kb 8, kb 16] (l' := [ps 2 (.opt 0 0), ps 3 (.opt 8 0), ps 4 (.opt 16 0), ps 29 (bv (!(withinB ((Pi.steps x z) - (Pi.steps l o)) ((Pi.halves x y z) - (Pi.halves l a o))))), pb 0 26 [(iv l), (iv a), (iv o)], pb 8 26 [(iv x), (iv y), (iv z)], pb 16 26 [(iv 0), (iv 0), (iv 0)]]) (obs := [PC Try.prog 44 [(.agg [(iv x), (iv y), (iv z)])] [] (iv (Pi.steps x z)) [], [(.agg [(iv x), (iv y), (iv z)])] = renL (sigi [] 104) [(.agg [(iv x), (iv y), (iv z)])], PC Try.prog 44 [(.agg [(iv l), (iv a), (iv o)])] [] (iv (Pi.steps l o)) [], [(.agg [(iv l), (iv a), (iv o)])] = renL (sigi [] 120) [(.agg [(iv l), (iv a), (iv o)])], InK .i64 ((Pi.steps x z) - (Pi.steps l o)), PC Try.prog 45 [(.agg [(iv x), (iv y), (iv z)])] [] (iv (Pi.halves x y z)) [], [(.agg [(iv x), (iv y), (iv z)])] = renL (sigi [] 144) [(.agg [(iv x), (iv y), (iv z)])], PC Try.prog 45 [(.agg [(iv l), (iv a), (iv o)])] [] (iv (Pi.halves l a o)) [], [(.agg [(iv l), (iv a), (iv o)])] = renL (sigi [] 160) [(.agg [(iv l), (iv a), (iv o)])], InK .i64 ((Pi.halves x y z) - (Pi.halves l a o)), PC Try.prog 43 [(.agg [(iv ((Pi.steps x z) - (Pi.steps l o))), (iv ((Pi.halves x y z) - (Pi.halves l a o)))])] [] (bv (withinB ((Pi.steps x z) - (Pi.steps l o)) ((Pi.halves x y z) - (Pi.halves l a o)))) [], [(.agg [(iv ((Pi.steps x z) - (Pi.steps l o))), (iv ((Pi.halves x y z) - (Pi.halves l a o)))])] = renL (sigi [] 184) [(.agg [(iv ((Pi.steps x z) - (Pi.steps l o))), (iv ((Pi.halves x y z) - (Pi.halves l a o)))])]]) mixed (by kernel_rfl) (by kernel_rfl) (obs_cons (ref_psteps_pc x y z h2) (obs_cons rfl (obs_cons (ref_psteps_pc l a o h1) (obs_cons rfl (obs_cons (by simp only [InK]; omega) (obs_cons (ref_phalves_pc x y z h2) (obs_cons rfl (obs_cons (ref_phalves_pc l a o h1) (obs_cons rfl (obs_cons (by simp only [InK]; omega) (obs_cons (ref_pwithin_pc ((Pi.steps x z) - (Pi.steps l o)) ((Pi.halves x y z) - (Pi.halves l a o))) (obs_cons rfl (obs_nil))))))))))))) ?_
      by_cases h3 : (withinB ((Pi.steps x z) - (Pi.steps l o)) ((Pi.halves x y z) - (Pi.halves l a o))) = true
      · refine T_else (b := (!(withinB ((Pi.steps x z) - (Pi.steps l o)) ((Pi.halves x y z) - (Pi.halves l a o))))) rfl (congrArg Bool.not h3) ?_
        refine T_skip ?_
        refine T_seq ?_
        refine T_regionD [(1, .call [] [(.agg [(iv x), (iv y), (iv z)])] [] (iv (Pi.steps x z)) []), (4, .call [] [(.agg [(iv l), (iv a), (iv o)])] [] (iv (Pi.steps l o)) []), (7, .call [] [(.agg [(iv x), (iv y), (iv z)])] [] (iv (Pi.halves x y z)) []), (10, .call [] [(.agg [(iv l), (iv a), (iv o)])] [] (iv (Pi.halves l a o)) []), (12, .call [] [(iv ((2 * (Pi.steps x z)) - (Pi.steps l o))), (iv ((2 * (Pi.halves x y z)) - (Pi.halves l a o)))] [] (.tup [(.agg [(iv (((2 * (Pi.steps x z)) - (Pi.steps l o)) % 7)), (iv (((2 * (Pi.halves x y z)) - (Pi.halves l a o)) - white ((2 * (Pi.steps x z)) - (Pi.steps l o)))), (iv (((2 * (Pi.steps x z)) - (Pi.steps l o)) / 7))]), (bv (rightB (((2 * (Pi.steps x z)) - (Pi.steps l o)) % 7) (((2 * (Pi.halves x y z)) - (Pi.halves l a o)) - white ((2 * (Pi.steps x z)) - (Pi.steps l o))) (((2 * (Pi.steps x z)) - (Pi.steps l o)) / 7)))]) [])] [[], [0], [0, 1], [], [0, 1, 3], [0, 1, 2, 3, 4], [], [0, 1, 3, 4, 6], [0, 1, 3, 4, 6, 7], [], [0, 1, 3, 4, 6, 7, 9], [0, 1, 3, 4, 6, 7, 8, 9, 10], [0, 1, 2, 3, 4, 5, 6, 7, 8, 9, 10, 11], [0, 1, 2, 3, 4, 5, 6, 7, 8, 9, 10, 11, 12], [0, 1, 2, 3, 4, 5, 6, 7, 8, 9, 10, 11, 12, 13], [0, 1, 2, 3, 4, 5, 6, 7, 8, 9, 10, 11, 12, 13], [], [0, 1, 2, 3, 4, 5, 6, 7, 8, 9, 10, 11, 12, 13, 14, 16], [0, 1, 2, 3, 4, 5, 6, 7, 8, 9, 10, 11, 12, 13, 14, 15, 16, 17]] [([64], [6, 17]), ([66], [64]), ([68], [66]), ([70], [1, 4]), ([72], [70]), ([74], [68, 72]), ([76], [6, 17]), ([78], [76]), ([80], [78]), ([82], [1, 4]), ([84], [82]), ([86], [80, 84]), ([88], [74, 86]), ([62], [88]), ([90], [62]), ([92], [62]), ([12, 657], []), ([657], [12, 90, 657]), ([14], [92])] [ks 4, ks 6, ks 7, kb 16, kb 328] (l' := [ps 4 (.opt 16 0), ps 6 (.opt 328 0), ps 7 (bv (rightB (((2 * (Pi.steps x z)) - (Pi.steps l o)) % 7) (((2 * (Pi.halves x y z)) - (Pi.halves l a o)) - white ((2 * (Pi.steps x z)) - (Pi.steps l o))) (((2 * (Pi.steps x z)) - (Pi.steps l o)) / 7))), pb 16 26 [(iv 0), (iv 0), (iv 0)], pb 328 26 [(iv (((2 * (Pi.steps x z)) - (Pi.steps l o)) % 7)), (iv (((2 * (Pi.halves x y z)) - (Pi.halves l a o)) - white ((2 * (Pi.steps x z)) - (Pi.steps l o)))), (iv (((2 * (Pi.steps x z)) - (Pi.steps l o)) / 7))]]) (obs := [PC Try.prog 44 [(.agg [(iv x), (iv y), (iv z)])] [] (iv (Pi.steps x z)) [], [(.agg [(iv x), (iv y), (iv z)])] = renL (sigi [] 208) [(.agg [(iv x), (iv y), (iv z)])], InK .i64 (2 * (Pi.steps x z)), PC Try.prog 44 [(.agg [(iv l), (iv a), (iv o)])] [] (iv (Pi.steps l o)) [], [(.agg [(iv l), (iv a), (iv o)])] = renL (sigi [] 232) [(.agg [(iv l), (iv a), (iv o)])], InK .i64 ((2 * (Pi.steps x z)) - (Pi.steps l o)), PC Try.prog 45 [(.agg [(iv x), (iv y), (iv z)])] [] (iv (Pi.halves x y z)) [], [(.agg [(iv x), (iv y), (iv z)])] = renL (sigi [] 256) [(.agg [(iv x), (iv y), (iv z)])], InK .i64 (2 * (Pi.halves x y z)), PC Try.prog 45 [(.agg [(iv l), (iv a), (iv o)])] [] (iv (Pi.halves l a o)) [], [(.agg [(iv l), (iv a), (iv o)])] = renL (sigi [] 280) [(.agg [(iv l), (iv a), (iv o)])], InK .i64 ((2 * (Pi.halves x y z)) - (Pi.halves l a o)), PC Try.prog 46 [(iv ((2 * (Pi.steps x z)) - (Pi.steps l o))), (iv ((2 * (Pi.halves x y z)) - (Pi.halves l a o)))] [] (.tup [(.agg [(iv (((2 * (Pi.steps x z)) - (Pi.steps l o)) % 7)), (iv (((2 * (Pi.halves x y z)) - (Pi.halves l a o)) - white ((2 * (Pi.steps x z)) - (Pi.steps l o)))), (iv (((2 * (Pi.steps x z)) - (Pi.steps l o)) / 7))]), (bv (rightB (((2 * (Pi.steps x z)) - (Pi.steps l o)) % 7) (((2 * (Pi.halves x y z)) - (Pi.halves l a o)) - white ((2 * (Pi.steps x z)) - (Pi.steps l o))) (((2 * (Pi.steps x z)) - (Pi.steps l o)) / 7)))]) [], [(iv ((2 * (Pi.steps x z)) - (Pi.steps l o))), (iv ((2 * (Pi.halves x y z)) - (Pi.halves l a o)))] = renL (sigi [] 296) [(iv ((2 * (Pi.steps x z)) - (Pi.steps l o))), (iv ((2 * (Pi.halves x y z)) - (Pi.halves l a o)))]]) mixed (by kernel_rfl) (by kernel_rfl) (obs_cons (ref_psteps_pc x y z h2) (obs_cons rfl (obs_cons (by simp only [InK]; omega) (obs_cons (ref_psteps_pc l a o h1) (obs_cons rfl (obs_cons (by simp only [InK]; omega) (obs_cons (ref_phalves_pc x y z h2) (obs_cons rfl (obs_cons (by simp only [InK]; omega) (obs_cons (ref_phalves_pc l a o h1) (obs_cons rfl (obs_cons (by simp only [InK]; omega) (obs_cons (ref_pat_pc ((2 * (Pi.steps x z)) - (Pi.steps l o)) ((2 * (Pi.halves x y z)) - (Pi.halves l a o)) (by omega) (by omega)) (obs_cons rfl (obs_nil))))))))))))))) ?_
        refine T_seq ?_
        refine T_seq ?_
        refine T_region [] [ks 4, ks 6, ks 48, kb 16, kb 328] (fun _ => mixed) (l' := [ps 4 (.opt 16 0), ps 6 (.opt 328 0), ps 48 (bv (!(rightB (((2 * (Pi.steps x z)) - (Pi.steps l o)) % 7) (((2 * (Pi.halves x y z)) - (Pi.halves l a o)) - white ((2 * (Pi.steps x z)) - (Pi.steps l o))) (((2 * (Pi.steps x z)) - (Pi.steps l o)) / 7)))), pb 16 26 [(iv 0), (iv 0), (iv 0)], pb 328 26 [(iv (((2 * (Pi.steps x z)) - (Pi.steps l o)) % 7)), (iv (((2 * (Pi.halves x y z)) - (Pi.halves l a o)) - white ((2 * (Pi.steps x z)) - (Pi.steps l o)))), (iv (((2 * (Pi.steps x z)) - (Pi.steps l o)) / 7))]]) (obs := []) (by kernel_rfl) (obs_nil) ?_
        by_cases h4 : (rightB (((2 * (Pi.steps x z)) - (Pi.steps l o)) % 7) (((2 * (Pi.halves x y z)) - (Pi.halves l a o)) - white ((2 * (Pi.steps x z)) - (Pi.steps l o))) (((2 * (Pi.steps x z)) - (Pi.steps l o)) / 7)) = true
        · refine T_else (b := (!(rightB (((2 * (Pi.steps x z)) - (Pi.steps l o)) % 7) (((2 * (Pi.halves x y z)) - (Pi.halves l a o)) - white ((2 * (Pi.steps x z)) - (Pi.steps l o))) (((2 * (Pi.steps x z)) - (Pi.steps l o)) / 7)))) rfl (congrArg Bool.not h4) ?_
          refine T_skip ?_
          refine T_seq ?_
          refine T_region [] [ks 4, ks 5, kb 16] (fun _ => mixed) (l' := [ps 4 (.opt 16 0), ps 5 (iv 0), pb 16 26 [(iv (((2 * (Pi.steps x z)) - (Pi.steps l o)) % 7)), (iv (((2 * (Pi.halves x y z)) - (Pi.halves l a o)) - white ((2 * (Pi.steps x z)) - (Pi.steps l o)))), (iv (((2 * (Pi.steps x z)) - (Pi.steps l o)) / 7))]]) (obs := []) (by kernel_rfl) (obs_nil) ?_
          rw [mirror_in0 h1 h2 h3, at_white, if_pos h4]
          exact T_ret fun cx_ a_ hI_ => ret_ok (H' := [none]) (.inr rfl) (Wk.ren2 [ps 4 (.opt 0 0), ps 5 (iv 0), pb 0 26 [(iv (((2 * (Pi.steps x z)) - (Pi.steps l o)) % 7)), (iv (((2 * (Pi.halves x y z)) - (Pi.halves l a o)) - white ((2 * (Pi.steps x z)) - (Pi.steps l o)))), (iv (((2 * (Pi.steps x z)) - (Pi.steps l o)) / 7))]] 0 hc0 [16] rfl rfl (by kernel_rfl) (by kernel_rfl)) rfl (obs_nil) (fun cx_ a_ hI_ => ret_res (l' := [ps 4 (.opt 0 0), ps 5 (iv 0), pb 0 26 [(iv (((2 * (Pi.steps x z)) - (Pi.steps l o)) % 7)), (iv (((2 * (Pi.halves x y z)) - (Pi.halves l a o)) - white ((2 * (Pi.steps x z)) - (Pi.steps l o)))), (iv (((2 * (Pi.steps x z)) - (Pi.steps l o)) / 7))]]) (by kernel_rfl) cx_ a_ hI_) hI_
        · refine T_then (b := (!(rightB (((2 * (Pi.steps x z)) - (Pi.steps l o)) % 7) (((2 * (Pi.halves x y z)) - (Pi.halves l a o)) - white ((2 * (Pi.steps x z)) - (Pi.steps l o))) (((2 * (Pi.steps x z)) - (Pi.steps l o)) / 7)))) rfl (congrArg Bool.not (Bool.eq_false_iff.2 h4)) ?_
          refine T_seq ?_
          refine T_region [] [ks 4, ks 5, kb 16] (fun _ => mixed) (l' := [ps 4 (.opt 16 0), ps 5 (iv 3), pb 16 26 [(iv 0), (iv 0), (iv 0)]]) (obs := []) (by kernel_rfl) (obs_nil) ?_
          rw [mirror_in0 h1 h2 h3, at_white, if_neg h4]
          exact T_ret fun cx_ a_ hI_ => ret_ok (H' := [none]) (.inr rfl) (Wk.ren2 [ps 4 (.opt 0 0), ps 5 (iv 3), pb 0 26 [(iv 0), (iv 0), (iv 0)]] 0 hc0 [16] rfl rfl (by kernel_rfl) (by kernel_rfl)) rfl (obs_nil) (fun cx_ a_ hI_ => ret_res (l' := [ps 4 (.opt 0 0), ps 5 (iv 3), pb 0 26 [(iv 0), (iv 0), (iv 0)]]) (by kernel_rfl) cx_ a_ hI_) hI_
      · refine T_then (b := (!(withinB ((Pi.steps x z) - (Pi.steps l o)) ((Pi.halves x y z) - (Pi.halves l a o))))) rfl (congrArg Bool.not (Bool.eq_false_iff.2 h3)) ?_
        refine T_seq ?_
        refine T_region [] [ks 4, ks 5, kb 16] (fun _ => mixed) (l' := [ps 4 (.opt 16 0), ps 5 (iv 3), pb 16 26 [(iv 0), (iv 0), (iv 0)]]) (obs := []) (by kernel_rfl) (obs_nil) ?_
        rw [mirror_out0 h1 h2 (Bool.eq_false_iff.2 h3)]
        exact T_ret fun cx_ a_ hI_ => ret_ok (H' := [none]) (.inr rfl) (Wk.ren2 [ps 4 (.opt 0 0), ps 5 (iv 3), pb 0 26 [(iv 0), (iv 0), (iv 0)]] 0 hc0 [16] rfl rfl (by kernel_rfl) (by kernel_rfl)) rfl (obs_nil) (fun cx_ a_ hI_ => ret_res (l' := [ps 4 (.opt 0 0), ps 5 (iv 3), pb 0 26 [(iv 0), (iv 0), (iv 0)]]) (by kernel_rfl) cx_ a_ hI_) hI_
    · refine T_then (b := (!(rightB x y z))) rfl (congrArg Bool.not (Bool.eq_false_iff.2 h2)) ?_
      refine T_seq ?_
      refine T_region [] [ks 4, ks 5, kb 16] (fun _ => mixed) (l' := [ps 4 (.opt 16 0), ps 5 (iv 2), pb 16 26 [(iv 0), (iv 0), (iv 0)]]) (obs := []) (by kernel_rfl) (obs_nil) ?_
      rw [mirror_no0 (fun e => h2 e.2)]
      exact T_ret fun cx_ a_ hI_ => ret_ok (H' := [none]) (.inr rfl) (Wk.ren2 [ps 4 (.opt 0 0), ps 5 (iv 2), pb 0 26 [(iv 0), (iv 0), (iv 0)]] 0 hc0 [16] rfl rfl (by kernel_rfl) (by kernel_rfl)) rfl (obs_nil) (fun cx_ a_ hI_ => ret_res (l' := [ps 4 (.opt 0 0), ps 5 (iv 2), pb 0 26 [(iv 0), (iv 0), (iv 0)]]) (by kernel_rfl) cx_ a_ hI_) hI_
  · refine T_region [(1, .call [] [(.agg [(iv l), (iv a), (iv o)])] [] (bv (rightB l a o)) []), (4, .gd true .no), (5, .gd true .no), (6, .gd true .no), (7, .yes true)] [ks 2, ks 3, ks 4, ks 15, kb 0, kb 8, kb 16] (fun _ => mixed) (l' := [ps 2 (.opt 0 0), ps 3 (.opt 8 0), ps 4 (.opt 16 0), ps 15 (bv true), pb 0 26 [(iv l), (iv a), (iv o)], pb 8 26 [(iv x), (iv y), (iv z)], pb 16 26 [(iv 0), (iv 0), (iv 0)]]) (obs := [PC Try.prog 25 [(.agg [(iv l), (iv a), (iv o)])] [] (bv (rightB l a o)) [], [(.agg [(iv l), (iv a), (iv o)])] = renL (sigi [] 40) [(.agg [(iv l), (iv a), (iv o)])], (!(rightB l a o)) = true, (!(rightB l a o)) = true, (!(rightB l a o)) = true, (!(rightB l a o)) = true]) (by kernel_rfl) (obs_cons (ref_pright_pc l a o ha) (obs_cons rfl (obs_cons (congrArg Bool.not (Bool.eq_false_iff.2 h1)) (obs_cons (congrArg Bool.not (Bool.eq_false_iff.2 h1)) (obs_cons (congrArg Bool.not (Bool.eq_false_iff.2 h1)) (obs_cons (congrArg Bool.not (Bool.eq_false_iff.2 h1)) (obs_nil))))))) ?_
    refine T_then (b := true) rfl rfl ?_
    refine T_seq ?_
    refine T_region [] [ks 4, ks 5, kb 16] (fun _ => mixed) (l' := [ps 4 (.opt 16 0), ps 5 (iv 2), pb 16 26 [(iv 0), (iv 0), (iv 0)]]) (obs := []) (by kernel_rfl) (obs_nil) ?_
    rw [mirror_no0 (fun e => h1 e.1)]
    exact T_ret fun cx_ a_ hI_ => ret_ok (H' := [none]) (.inr rfl) (Wk.ren2 [ps 4 (.opt 0 0), ps 5 (iv 2), pb 0 26 [(iv 0), (iv 0), (iv 0)]] 0 hc0 [16] rfl rfl (by kernel_rfl) (by kernel_rfl)) rfl (obs_nil) (fun cx_ a_ hI_ => ret_res (l' := [ps 4 (.opt 0 0), ps 5 (iv 2), pb 0 26 [(iv 0), (iv 0), (iv 0)]]) (by kernel_rfl) cx_ a_ hI_) hI_
theorem ref_mirror_pc (l a o x y z : Int) (ha : Pi.I64 a) (hy : Pi.I64 y) : PC Try.prog 27 [(.agg [(iv l), (iv a), (iv o)]), (.agg [(iv x), (iv y), (iv z)])] [] (M4P (Pi.mirror l a o x y z)) [] := pc_trim [none] rfl (fun i => by cases i <;> rfl) (ref_mirror_pc0 l a o x y z ha hy)
end Go.Proofs.Ytjdblogapkbefaa.Pm
namespace Go.Proofs.Ytjdblogapkbefaa.Pm
open Go

theorem half_eq (i j : Nat) : (((i : Nat) : Int) + ((j : Nat) : Int)).fdiv (2 ^ (1 : Int).toNat) = (((i + j) / 2 : Nat) : Int) := by
  rw [show (2 ^ (1 : Int).toNat : Int) = ((2 : Nat) : Int) from by decide, ← Int.natCast_add, Int.fdiv_eq_ediv_of_nonneg _ (by omega)]
  omega
theorem row_x {P X Y Q : List Tn} {i : Nat} (h : i < X.length) : (P ++ (X ++ (Y ++ Q))).getD (P.length + i) dT = X.getD i dT := by rw [getD_app_add, getD_app_l h]
theorem row_y {P X Y Q : List Tn} {i : Nat} (h : i < Y.length) : (P ++ (X ++ (Y ++ Q))).getD (P.length + X.length + i) dT = Y.getD i dT := by rw [Nat.add_assoc, getD_app_add, getD_app_add, getD_app_l h]
theorem srt_x {P X Y Q L : List Tn} {a m : Nat} (hL : L = P ++ (X ++ (Y ++ Q))) (ha : P.length = a) (hm : a + X.length = m) (hX : Srt X) {i j : Nat} (h1 : a ≤ i) (h2 : i ≤ j) (h3 : j < m) : LeT (L.getD i dT) (L.getD j dT) := by
  subst hL; subst ha
  have := srt_at hX (i := i - P.length) (j := j - P.length) (by omega) (by omega)
  rwa [← row_x (P := P) (X := X) (Y := Y) (Q := Q) (by omega), ← row_x (P := P) (X := X) (Y := Y) (Q := Q) (by omega), show P.length + (i - P.length) = i from by omega, show P.length + (j - P.length) = j from by omega] at this
theorem srt_y {P X Y Q L : List Tn} {a m b : Nat} (hL : L = P ++ (X ++ (Y ++ Q))) (ha : P.length = a) (hm : a + X.length = m) (hb : m + Y.length = b) (hY : Srt Y) {i j : Nat} (h1 : m ≤ i) (h2 : i ≤ j) (h3 : j < b) : LeT (L.getD i dT) (L.getD j dT) := by
  subst hL; subst ha; subst hm
  have := srt_at hY (i := i - (P.length + X.length)) (j := j - (P.length + X.length)) (by omega) (by omega)
  rwa [← row_y (P := P) (X := X) (Y := Y) (Q := Q) (by omega), ← row_y (P := P) (X := X) (Y := Y) (Q := Q) (by omega), show P.length + X.length + (i - (P.length + X.length)) = i from by omega, show P.length + X.length + (j - (P.length + X.length)) = j from by omega] at this
/-- The search: what is left of s, what is right of r. -/
def Sch (L : List Tn) (p lo hi s r : Nat) : Prop := lo ≤ s ∧ s ≤ r ∧ r ≤ hi ∧ (∀ c, lo ≤ c → c < s → LeT (L.getD c dT) (L.getD (p - c) dT)) ∧ ∀ c, r ≤ c → c < hi → LeT (L.getD (p - c) dT) (L.getD c dT)
/-- Where the search may look. -/
def Dom (L : List Tn) (p lo hi : Nat) : Prop := (∀ i j, lo ≤ i → i ≤ j → j < hi → LeT (L.getD i dT) (L.getD j dT)) ∧ ∀ i j, lo ≤ i → i ≤ j → j < hi → LeT (L.getD (p - j) dT) (L.getD (p - i) dT)
theorem Sch.left {L : List Tn} {p lo hi s r c : Nat} (h : Sch L p lo hi s r) (d : Dom L p lo hi) (h1 : s ≤ c) (h2 : c < r) (k : ¬ ordS (L.getD (p - c) dT) (L.getD c dT) < 0) : Sch L p lo hi (c + 1) r :=
  ⟨by have := h.1; omega, h2, h.2.2.1, fun c' g1 g2 => le_trans' (d.1 c' c g1 (by omega) (by have := h.2.2.1; omega)) (le_trans' (le_of_not' k) (d.2 c' c g1 (by omega) (by have := h.2.2.1; omega))), h.2.2.2.2⟩
theorem Sch.right {L : List Tn} {p lo hi s r c : Nat} (h : Sch L p lo hi s r) (d : Dom L p lo hi) (h1 : s ≤ c) (h2 : c < r) (k : ordS (L.getD (p - c) dT) (L.getD c dT) < 0) : Sch L p lo hi s c :=
  ⟨h.1, h1, by have := h.2.2.1; omega, h.2.2.2.1, fun c' g1 g2 => le_trans' (d.2 c c' (by have := h.1; omega) g1 g2) (le_trans' (le_of_lt' k) (d.1 c c' (by have := h.1; omega) g1 g2))⟩
theorem Sch.start {L : List Tn} {p lo hi : Nat} (h : lo ≤ hi) : Sch L p lo hi lo hi := ⟨Nat.le_refl _, h, Nat.le_refl _, fun c h1 h2 => by omega, fun c h1 h2 => by omega⟩
theorem quarters {P X Y Q L : List Tn} {a m b s e : Nat} (hL : L = P ++ (X ++ (Y ++ Q))) (ha : P.length = a) (hm : a + X.length = m) (hb : m + Y.length = b) (hX : Srt X) (hY : Srt Y)
    (hs1 : a ≤ s) (hs2 : s ≤ m) (he1 : m ≤ e) (he2 : e ≤ b) (h1 : ∀ i j, a ≤ i → i < s → e ≤ j → j < b → LeT (L.getD i dT) (L.getD j dT)) (h2 : ∀ i j, m ≤ i → i < e → s ≤ j → j < m → LeT (L.getD i dT) (L.getD j dT)) :
    ∃ A B C D, X = A ++ B ∧ Y = C ++ D ∧ A.length = s - a ∧ B.length = m - s ∧ C.length = e - m ∧ D.length = b - e ∧ Srt A ∧ Srt B ∧ Srt C ∧ Srt D ∧ sortT (X ++ Y) = sortT (A ++ C) ++ sortT (B ++ D) := by
  obtain ⟨A, B, rfl, hA, hB⟩ := split_at X (k := s - a) (by omega)
  obtain ⟨C, D, rfl, hC, hD⟩ := split_at Y (k := e - m) (by omega)
  rw [List.length_append] at hm hb hB hD
  have hX' := List.pairwise_append.1 hX
  have hY' := List.pairwise_append.1 hY
  subst hL; subst ha; subst hm; subst hb
  refine ⟨A, B, C, D, rfl, rfl, hA, by omega, hC, by omega, hX'.1, hX'.2.1, hY'.1, hY'.2.1, ?_⟩
  rw [← sortT_app]
  · apply sortT_congr
    simp only [List.append_assoc]
    refine List.Perm.append_left A ?_
    rw [← List.append_assoc, ← List.append_assoc C]
    exact List.Perm.append_right D List.perm_append_comm
  · intro x hx y hy
    rcases List.mem_append.1 hx with hx | hx <;> rcases List.mem_append.1 hy with hy | hy
    · exact hX'.2.2 x hx y hy
    · obtain ⟨i, hi, rfl⟩ := List.mem_iff_getElem.1 hx
      obtain ⟨j, hj, rfl⟩ := List.mem_iff_getElem.1 hy
      have := h1 (P.length + i) (P.length + (A.length + B.length) + (C.length + j)) (by omega) (by omega) (by omega) (by omega)
      rw [row_x (by simp; omega), show P.length + (A.length + B.length) = P.length + (A ++ B).length from by simp, row_y (by simp; omega), getD_app_l hi, getD_app_add, gd_eq _ _ hi, gd_eq _ _ hj] at this
      exact this
    · obtain ⟨i, hi, rfl⟩ := List.mem_iff_getElem.1 hx
      obtain ⟨j, hj, rfl⟩ := List.mem_iff_getElem.1 hy
      have := h2 (P.length + (A.length + B.length) + i) (P.length + (A.length + j)) (by omega) (by omega) (by omega) (by omega)
      rw [show P.length + (A.length + B.length) = P.length + (A ++ B).length from by simp, row_y (by simp; omega), row_x (by simp; omega), getD_app_l hi, getD_app_add, gd_eq _ _ hi, gd_eq _ _ hj] at this
      exact this
    · exact hY'.2.2 x hx y hy
/-- Where the search looks in a merge, and what it ends with. -/
theorem mrg_dom {P X Y Q L : List Tn} {a m b lo hi : Nat} (hL : L = P ++ (X ++ (Y ++ Q))) (ha : P.length = a) (hm : a + X.length = m) (hb : m + Y.length = b) (hX : Srt X) (hY : Srt Y)
    (hlo : a ≤ lo) (hhi : hi ≤ m) (h : ∀ c, lo ≤ c → c < hi → m ≤ (a + b) / 2 + m - 1 - c ∧ (a + b) / 2 + m - 1 - c < b) : Dom L ((a + b) / 2 + m - 1) lo hi :=
  ⟨fun i j h1 h2 h3 => srt_x hL ha hm hX (by omega) h2 (by omega), fun i j h1 h2 h3 => srt_y hL ha hm hb hY (h j (by omega) h3).1 (by omega) (h i h1 (by omega)).2⟩
theorem mrg_end {P X Y Q L : List Tn} {a m b lo hi s : Nat} (hL : L = P ++ (X ++ (Y ++ Q))) (ha : P.length = a) (hm : a + X.length = m) (hb : m + Y.length = b) (hX : Srt X) (hY : Srt Y) (h : Sch L ((a + b) / 2 + m - 1) lo hi s s)
    (hlo : a ≤ lo) (hhi : hi ≤ m) (k : (m ≤ (a + b) / 2 ∧ lo = a ∧ hi = m) ∨ ((a + b) / 2 < m ∧ lo = (a + b) / 2 + m - b ∧ hi = (a + b) / 2)) :
    ∃ A B C D, X = A ++ B ∧ Y = C ++ D ∧ A.length = s - a ∧ B.length = m - s ∧ C.length = (a + b) / 2 + m - s - m ∧ D.length = b - ((a + b) / 2 + m - s) ∧ Srt A ∧ Srt B ∧ Srt C ∧ Srt D ∧ sortT (X ++ Y) = sortT (A ++ C) ++ sortT (B ++ D) := by
  obtain ⟨h1, h2, h3, h4, h5⟩ := h
  refine quarters hL ha hm hb hX hY (by omega) (by omega) (by omega) (by omega) (fun i j g1 g2 g3 g4 => ?_) (fun i j g1 g2 g3 g4 => ?_)
  · have g5 : lo < s := by omega
    have := h4 (s - 1) (by omega) (by omega)
    rw [show (a + b) / 2 + m - 1 - (s - 1) = (a + b) / 2 + m - s from by omega] at this
    exact le_trans' (srt_x hL ha hm hX g1 (show i ≤ s - 1 from by omega) (by omega)) (le_trans' this (srt_y hL ha hm hb hY (by omega) g3 g4))
  · have g5 : s < hi := by omega
    have := h5 s (by omega) g5
    rw [show (a + b) / 2 + m - 1 - s = (a + b) / 2 + m - s - 1 from by omega] at this
    exact le_trans' (srt_y hL ha hm hb hY g1 (show i ≤ (a + b) / 2 + m - s - 1 from by omega) (by omega)) (le_trans' this (srt_x hL ha hm hX (by omega) g3 g4))
/-- A search among those of a row: what is left of i goes ahead of z, what is right of j not. -/
def Fnd (S : List Tn) (pr : Tn → Prop) (i j : Nat) : Prop := i ≤ j ∧ j ≤ S.length ∧ (∀ c, c < i → pr (S.getD c dT)) ∧ ∀ c, j ≤ c → c < S.length → ¬ pr (S.getD c dT)
theorem Fnd.left {S : List Tn} {pr : Tn → Prop} {i j c : Nat} (h : Fnd S pr i j) (hm : ∀ x y, x ≤ y → y < S.length → pr (S.getD y dT) → pr (S.getD x dT)) (_h1 : i ≤ c) (h2 : c < j) (k : pr (S.getD c dT)) : Fnd S pr (c + 1) j :=
  ⟨h2, h.2.1, fun c' g => hm c' c (by omega) (by have := h.2.1; omega) k, h.2.2.2⟩
theorem Fnd.right {S : List Tn} {pr : Tn → Prop} {i j c : Nat} (h : Fnd S pr i j) (hm : ∀ x y, x ≤ y → y < S.length → pr (S.getD y dT) → pr (S.getD x dT)) (h1 : i ≤ c) (h2 : c < j) (k : ¬ pr (S.getD c dT)) : Fnd S pr i c :=
  ⟨h1, by have := h.2.1; omega, h.2.2.1, fun c' g1 g2 g3 => k (hm c c' g1 g2 g3)⟩
theorem Fnd.start {S : List Tn} {pr : Tn → Prop} : Fnd S pr 0 S.length := ⟨Nat.zero_le _, Nat.le_refl _, fun c h => by omega, fun c h1 h2 => by omega⟩
theorem mono_lt {S : List Tn} (h : Srt S) (z : Tn) (x y : Nat) (h1 : x ≤ y) (h2 : y < S.length) (k : ordS (S.getD y dT) z < 0) : ordS (S.getD x dT) z < 0 := by
  have := srt_at h h1 h2
  have e := ordS_trans this (Int.le_of_lt k)
  rcases Int.lt_or_eq_of_le e with e | e
  · exact e
  · have e1 := ordS_eq e
    rw [e1] at this
    have e2 := ordS_neg (S.getD y dT) z
    unfold LeT at this
    omega
theorem mono_le {S : List Tn} (h : Srt S) (z : Tn) (x y : Nat) (h1 : x ≤ y) (h2 : y < S.length) (k : ¬ ordS z (S.getD y dT) < 0) : ¬ ordS z (S.getD x dT) < 0 := fun e => by
  have h3 : LeT (S.getD x dT) (S.getD y dT) := srt_at h h1 h2
  have h4 := le_trans' h3 (le_of_not' k)
  have h5 := ordS_neg z (S.getD x dT)
  unfold LeT at h4
  omega

end Go.Proofs.Ytjdblogapkbefaa.Pm
namespace Go.Proofs.Ytjdblogapkbefaa.Pm
open Go

def prC (x : Int × Int) : List PV := [iv x.1, iv x.2]
def prs (l : List (Int × Int)) : List PV := l.flatMap prC
def prsOf (a b : Tn) : List (Int × Int) := [(a.1, b.1), (a.2.1, b.2.1), (a.2.2.2.2, b.2.2.2.2), (a.2.2.1, b.2.2.1), (a.2.2.2.1, b.2.2.2.1)]
def ordL : List (Int × Int) → Int
  | [] => 0
  | x :: l => if x.1 ≠ x.2 then x.1 - x.2 else ordL l
theorem ordL_of (a b : Tn) : ordL (prsOf a b) = ordS a b := by
  simp only [prsOf, ordL, ordS]
  repeat' split
  all_goals omega
theorem ordL_drop {l : List (Int × Int)} {k : Nat} (h : k < l.length) : ordL (l.drop k) = if (l.getD k (0, 0)).1 ≠ (l.getD k (0, 0)).2 then (l.getD k (0, 0)).1 - (l.getD k (0, 0)).2 else ordL (l.drop (k + 1)) := by
  rw [List.drop_eq_getElem_cons h, show l.getD k (0, 0) = l[k] from by simp [List.getD, h]]; rfl
theorem prs_bd {a b : Tn} (ha : bdT a) (hb : bdT b) (k : Nat) : (-1099511627776 ≤ ((prsOf a b).getD k (0, 0)).1 ∧ ((prsOf a b).getD k (0, 0)).1 ≤ 1099511627776) ∧ (-1099511627776 ≤ ((prsOf a b).getD k (0, 0)).2 ∧ ((prsOf a b).getD k (0, 0)).2 ≤ 1099511627776) := by
  unfold bdT at ha hb
  match k with
  | 0 => exact ⟨ha.1, hb.1⟩
  | 1 => exact ⟨ha.2.1, hb.2.1⟩
  | 2 => exact ⟨ha.2.2.2.2, hb.2.2.2.2⟩
  | 3 => exact ⟨ha.2.2.1, hb.2.2.1⟩
  | 4 => exact ⟨ha.2.2.2.1, hb.2.2.2.1⟩
  | k + 5 => exact ⟨⟨by show (-1099511627776 : Int) ≤ 0; omega, by show (0 : Int) ≤ 1099511627776; omega⟩, by show (-1099511627776 : Int) ≤ 0; omega, by show (0 : Int) ≤ 1099511627776; omega⟩
set_option maxRecDepth 100000 in
set_option maxHeartbeats 4000000 in
theorem order_pc (t u : Tn) (ht : bdT t) (hu : bdT u) : PC Try.prog 22 [(.agg (tnC t)), (.agg (tnC u))] [] (iv (ordS t u)) [] := by
  refine pc_intro Try.func22 rfl (by kernel_rfl) (Nat.le_of_ble_eq_true rfl) (by kernel_rfl) (l0 := [ps 0 (.agg (tnC t)), ps 1 (.agg (tnC u))]) rfl (fun c0 Bor hc0 => ?_)
  refine T_seq ?_
  refine T_region [] [ks 2, ks 3, kb 0, kb 8] (fun _ => mixed) (l' := [ps 2 (.opt 0 0), ps 3 (.opt 8 0), pb 0 41 (tnC t), pb 8 41 (tnC u)]) (obs := []) (by kernel_rfl) (obs_nil) ?_
  refine T_seq ?_
  refine T_region [] [ks 5, kb 272] (fun _ => mixed) (l' := [ps 5 (.osl 272 0 5), pb 272 67 [(iv t.1), (iv u.1), (iv t.2.1), (iv u.2.1), (iv t.2.2.2.2), (iv u.2.2.2.2), (iv t.2.2.1), (iv u.2.2.1), (iv t.2.2.2.1), (iv u.2.2.2.1)]]) (obs := []) (by kernel_rfl) (obs_nil) ?_
  refine T_seq ?_
  refine T_seq ?_
  refine T_region [] [ks 40, ks 41, ks 42, kb 272] (fun _ => mixed) (l' := [ps 40 (.osl 272 0 5), ps 41 (iv 5), ps 42 (iv 0), pb 272 67 [(iv t.1), (iv u.1), (iv t.2.1), (iv u.2.1), (iv t.2.2.2.2), (iv u.2.2.2.2), (iv t.2.2.1), (iv u.2.2.1), (iv t.2.2.2.1), (iv u.2.2.2.1)]]) (obs := []) (by kernel_rfl) (obs_nil) ?_
  refine T_block ?_
  refine T_wk (Wk.eq (show _ = [ps 40 (.osl 272 0 5), ps 41 (iv 5), ps 42 (iv 0), pb 272 67 (prs (prsOf t u))] from by rfl)) ?_
  refine T_loop (α := {x : Nat // x ≤ 5 ∧ ordL ((prsOf t u).drop x) = ordS t u}) (fun x => [ps 40 (.osl 0 0 5), ps 41 (iv 5), ps 42 (nv x.1), pb 0 67 (prs (prsOf t u))]) (fun x => 5 - x.1) 1 ⟨0, ⟨Nat.zero_le _, ordL_of t u⟩⟩ (Wk.ren3 [ps 40 (.osl 0 0 5), ps 41 (iv 5), ps 42 (nv 0), pb 0 67 (prs (prsOf t u))] 0 hc0 [272] [(kb 0, (prs (prsOf t u)))] (obs_cons (flat_shd prC (fun _ => rfl) _) (obs_nil)) (by kernel_rfl) rfl rfl (by kernel_rfl) (by kernel_rfl)) ?_
  rintro ⟨k, ⟨hk, hd⟩⟩
  refine T_seq ?_
  refine T_region [] [ks 40, ks 41, ks 42, ks 43, kb 0] (fun _ => mixed) (l' := [ps 40 (.osl 0 0 5), ps 41 (iv 5), ps 42 (nv k), ps 43 (bv (decide (((k : Nat) : Int) < 5))), pb 0 67 (prs (prsOf t u))]) (obs := []) (by kernel_rfl) (obs_nil) ?_
  refine T_seq ?_
  by_cases h1 : ((k : Nat) : Int) < 5
  · refine T_then (b := (decide (((k : Nat) : Int) < 5))) rfl (decide_eq_true h1) ?_
    refine T_skip ?_
    refine T_seq ?_
    refine T_block ?_
    refine T_seq ?_
    refine T_region [(0, .nat (k * 2)), (1, .cells [(iv (((prsOf t u).getD k (0, 0)).1)), (iv (((prsOf t u).getD k (0, 0)).2))])] [ks 7, ks 40, ks 41, ks 42, kb 0, kb 25] (fun _ => mixed) (l' := [ps 7 (.opt 25 0), ps 40 (.osl 0 0 5), ps 41 (iv 5), ps 42 (nv k), pb 0 67 (prs (prsOf t u)), pb 25 67 [(iv (((prsOf t u).getD k (0, 0)).1)), (iv (((prsOf t u).getD k (0, 0)).2))]]) (obs := [(0 : Int) ≤ ((k : Nat) : Int) ∧ ((k : Nat) : Int) < ((5 : Nat) : Int), 0 + (((k : Nat) : Int) : Int).toNat * 2 = (k * 2), (k * 2) + 2 ≤ ((prs (prsOf t u))).length ∧ (((prs (prsOf t u))).drop (k * 2)).take 2 = [(iv (((prsOf t u).getD k (0, 0)).1)), (iv (((prsOf t u).getD k (0, 0)).2))]]) (by kernel_rfl) (obs_cons (by omega) (obs_cons (by omega) (obs_cons (flat_at prC 2 (fun _ => rfl) (0, 0) (prsOf t u) k 0 2 (by show k < 5; omega) (by decide)) (obs_nil)))) ?_
    refine T_seq ?_
    have hb := prs_bd ht hu k
    refine T_region [] [ks 7, ks 40, ks 41, ks 42, ks 50, kb 0, kb 25] (fun _ => mixed) (l' := [ps 7 (.opt 25 0), ps 40 (.osl 0 0 5), ps 41 (iv 5), ps 42 (nv k), ps 50 (bv (!(decide ((((prsOf t u).getD k (0, 0)).1) = (((prsOf t u).getD k (0, 0)).2))))), pb 0 67 (prs (prsOf t u)), pb 25 67 [(iv (((prsOf t u).getD k (0, 0)).1)), (iv (((prsOf t u).getD k (0, 0)).2))]]) (obs := [(0 : Int) ≤ 0 ∧ 0 < ((2 : Nat) : Int), (0 : Int) ≤ 1 ∧ 1 < ((2 : Nat) : Int)]) (by kernel_rfl) (obs_cons (by decide) (obs_cons (by decide) (obs_nil))) ?_
    by_cases h2 : (((prsOf t u).getD k (0, 0)).1) = (((prsOf t u).getD k (0, 0)).2)
    · refine T_else (b := (!(decide ((((prsOf t u).getD k (0, 0)).1) = (((prsOf t u).getD k (0, 0)).2))))) rfl (congrArg Bool.not (decide_eq_true h2)) ?_
      refine T_skip ?_
      refine T_blk ?_
      refine T_region [] [ks 40, ks 41, ks 42, kb 0] (fun _ => mixed) (l' := [ps 40 (.osl 0 0 5), ps 41 (iv 5), ps 42 (iv (((k : Nat) : Int) + 1)), pb 0 67 (prs (prsOf t u))]) (obs := [InK .i64 (((k : Nat) : Int) + 1)]) (by kernel_rfl) (obs_cons (by simp only [InK]; omega) (obs_nil)) ?_
      exact T_back ⟨k + 1, ⟨by omega, by rw [← hd, ordL_drop (k := k) (by show k < 5; omega), if_neg (by omega)]⟩⟩ (Wk.ren3 [ps 40 (.osl 0 0 5), ps 41 (iv 5), ps 42 (nv (k + 1)), pb 0 67 (prs (prsOf t u))] 0 hc0 [0] [(kb 0, (prs (prsOf t u)))] (obs_cons (flat_shd prC (fun _ => rfl) _) (obs_nil)) (by kernel_rfl) rfl rfl (by kernel_rfl) (by kernel_rfl)) (show 5 - (k + 1) < 5 - k from by omega)
    · refine T_then (b := (!(decide ((((prsOf t u).getD k (0, 0)).1) = (((prsOf t u).getD k (0, 0)).2))))) rfl (congrArg Bool.not (decide_eq_false h2)) ?_
      refine T_seq ?_
      refine T_region [] [ks 4] (fun _ => mixed) (l' := [ps 4 (iv ((((prsOf t u).getD k (0, 0)).1) - (((prsOf t u).getD k (0, 0)).2)))]) (obs := [(0 : Int) ≤ 0 ∧ 0 < ((2 : Nat) : Int), (0 : Int) ≤ 1 ∧ 1 < ((2 : Nat) : Int), InK .i64 ((((prsOf t u).getD k (0, 0)).1) - (((prsOf t u).getD k (0, 0)).2))]) (by kernel_rfl) (obs_cons (by decide) (obs_cons (by decide) (obs_cons (by simp only [InK]; omega) (obs_nil)))) ?_
      refine T_wk (Wk.eq (show _ = [ps 4 (iv (ordS t u))] from by rw [show ordS t u = (((prsOf t u).getD k (0, 0)).1) - (((prsOf t u).getD k (0, 0)).2) from by rw [← hd, ordL_drop (k := k) (by show k < 5; omega), if_pos (by omega)]])) ?_
      exact T_ret fun cx_ a_ hI_ => loop_ret (ret_ok (H' := []) (.inr rfl) (Wk.ren2 [ps 4 (iv (ordS t u))] 0 hc0 [] rfl rfl (by kernel_rfl) (by kernel_rfl)) rfl (obs_nil) (fun cx_ a_ hI_ => ret_res (l' := [ps 4 (iv (ordS t u))]) (by kernel_rfl) cx_ a_ hI_) hI_)
  · refine T_else (b := (decide (((k : Nat) : Int) < 5))) rfl (decide_eq_false h1) ?_
    refine T_break rfl rfl ?_
    refine T_seq ?_
    refine T_region [] [ks 4] (fun _ => mixed) (l' := [ps 4 (iv 0)]) (obs := []) (by kernel_rfl) (obs_nil) ?_
    refine T_wk (Wk.eq (show _ = [ps 4 (iv (ordS t u))] from by rw [show ordS t u = 0 from by rw [← hd, show k = 5 from by omega]; rfl])) ?_
    exact T_ret fun cx_ a_ hI_ => ret_ok (H' := []) (.inr rfl) (Wk.ren2 [ps 4 (iv (ordS t u))] 0 hc0 [] rfl rfl (by kernel_rfl) (by kernel_rfl)) rfl (obs_nil) (fun cx_ a_ hI_ => ret_res (l' := [ps 4 (iv (ordS t u))]) (by kernel_rfl) cx_ a_ hI_) hI_
set_option maxRecDepth 100000 in
set_option maxHeartbeats 4000000 in
theorem swap_pc (L : List Tn) (n a b c : Nat) (hn : L.length = n) (hn2 : n ≤ 4096) (h1 : a + c ≤ b) (h2 : b + c ≤ n) : PC Try.prog 57 [(.osl 0 0 n), (nv a), (nv b), (nv c), (fv 22)] [some (41, (tns L))] (.tup []) [some (41, (tns (swS L a b c)))] := by
  refine pc_intro Try.func57 rfl (by kernel_rfl) (Nat.le_of_ble_eq_true rfl) (by kernel_rfl) (l0 := [ps 0 (.osl 0 0 n), ps 1 (nv a), ps 2 (nv b), ps 3 (nv c), ps 4 (fv 22), pb 0 41 (tns L)]) rfl (fun c0 Bor hc0 => ?_)
  refine T_seq ?_
  refine T_region [] [ks 0, ks 1, ks 2, ks 3, ks 10, kb 0] (fun _ => mixed) (l' := [ps 0 (.osl 0 0 n), ps 1 (nv a), ps 2 (nv b), ps 3 (nv c), ps 10 (iv 0), pb 0 41 (tns L)]) (obs := []) (by kernel_rfl) (obs_nil) ?_
  refine T_block ?_
  refine T_loop (α := {x : Nat // x ≤ c}) (fun x => [ps 0 (.osl 0 0 n), ps 1 (nv a), ps 2 (nv b), ps 3 (nv c), ps 10 (nv x.1), pb 0 41 (tns (swS L a b x.1))]) (fun x => c - x.1) 1 ⟨0, Nat.zero_le _⟩ (Wk.ren3 [ps 0 (.osl 0 0 n), ps 1 (nv a), ps 2 (nv b), ps 3 (nv c), ps 10 (nv 0), pb 0 41 (tns (swS L a b 0))] 1 hc0 [0] [(kb 0, (tns (swS L a b 0)))] (obs_cons (tns_shd _) (obs_nil)) (by kernel_rfl) rfl rfl (by kernel_rfl) (by kernel_rfl)) ?_
  rintro ⟨i, hi⟩
  refine T_seq ?_
  refine T_seq ?_
  refine T_region [] [ks 0, ks 1, ks 2, ks 3, ks 10, ks 13, kb 0] (fun _ => mixed) (l' := [ps 0 (.osl 0 0 n), ps 1 (nv a), ps 2 (nv b), ps 3 (nv c), ps 10 (nv i), ps 13 (bv (decide (((i : Nat) : Int) < ((c : Nat) : Int)))), pb 0 41 (tns (swS L a b i))]) (obs := []) (by kernel_rfl) (obs_nil) ?_
  by_cases h1 : ((i : Nat) : Int) < ((c : Nat) : Int)
  · refine T_then (b := (decide (((i : Nat) : Int) < ((c : Nat) : Int)))) rfl (decide_eq_true h1) ?_
    refine T_skip ?_
    refine T_seq ?_
    refine T_block ?_
    have hl := swS_len L a b i
    refine T_regionD [(12, .nat (((((b : Nat) : Int) + ((i : Nat) : Int)).toNat) * 5)), (13, .cells (tnC ((swS L a b i).getD ((((b : Nat) : Int) + ((i : Nat) : Int)).toNat) dT))), (18, .nat (((((a : Nat) : Int) + ((i : Nat) : Int)).toNat) * 5)), (19, .cells (tnC ((swS L a b i).getD ((((a : Nat) : Int) + ((i : Nat) : Int)).toNat) dT))), (20, .nat (((((a : Nat) : Int) + ((i : Nat) : Int)).toNat) * 5)), (21, .cells (tns ((swS L a b i).set ((((a : Nat) : Int) + ((i : Nat) : Int)).toNat) ((swS L a b i).getD ((((b : Nat) : Int) + ((i : Nat) : Int)).toNat) dT)))), (22, .nat (((((b : Nat) : Int) + ((i : Nat) : Int)).toNat) * 5)), (23, .cells (tns (((swS L a b i).set ((((a : Nat) : Int) + ((i : Nat) : Int)).toNat) ((swS L a b i).getD ((((b : Nat) : Int) + ((i : Nat) : Int)).toNat) dT)).set ((((b : Nat) : Int) + ((i : Nat) : Int)).toNat) ((swS L a b i).getD ((((a : Nat) : Int) + ((i : Nat) : Int)).toNat) dT))))] [[], [], [], [1, 2], [], [], [], [5, 6], [], [], [], [9, 10], [8, 9, 10, 11], [8, 9, 10, 11, 12], [], [], [], [15, 16], [14, 15, 16, 17], [14, 15, 16, 17, 18], [0, 1, 2, 3, 8, 9, 10, 11, 12, 13, 14, 15, 16, 17, 18, 19], [0, 1, 2, 3, 8, 9, 10, 11, 12, 13, 14, 15, 16, 17, 18, 19, 20], [0, 1, 2, 3, 4, 5, 6, 7, 8, 9, 10, 11, 12, 13, 14, 15, 16, 17, 18, 19, 20, 21], [0, 1, 2, 3, 4, 5, 6, 7, 8, 9, 10, 11, 12, 13, 14, 15, 16, 17, 18, 19, 20, 21, 22]] [([32], [0]), ([34], [2]), ([36], [20]), ([38], [34, 36]), ([40], [0]), ([42], [4]), ([44], [20]), ([46], [42, 44]), ([48], [0]), ([50], [4]), ([52], [20]), ([54], [50, 52]), ([56], [48, 54]), ([58], [1, 56]), ([60], [0]), ([62], [2]), ([64], [20]), ([66], [62, 64]), ([68], [60, 66]), ([70], [1, 68]), ([72], [32, 38]), ([1], [1, 58, 72]), ([74], [40, 46]), ([1], [1, 70, 74])] [ks 0, ks 1, ks 2, ks 3, ks 10, kb 0] (l' := [ps 0 (.osl 0 0 n), ps 1 (nv a), ps 2 (nv b), ps 3 (nv c), ps 10 (nv i), pb 0 41 (tns (((swS L a b i).set ((((a : Nat) : Int) + ((i : Nat) : Int)).toNat) ((swS L a b i).getD ((((b : Nat) : Int) + ((i : Nat) : Int)).toNat) dT)).set ((((b : Nat) : Int) + ((i : Nat) : Int)).toNat) ((swS L a b i).getD ((((a : Nat) : Int) + ((i : Nat) : Int)).toNat) dT)))]) (obs := [InK .i64 (((a : Nat) : Int) + ((i : Nat) : Int)), InK .i64 (((b : Nat) : Int) + ((i : Nat) : Int)), InK .i64 (((b : Nat) : Int) + ((i : Nat) : Int)), (0 : Int) ≤ (((b : Nat) : Int) + ((i : Nat) : Int)) ∧ (((b : Nat) : Int) + ((i : Nat) : Int)) < ((n : Nat) : Int), 0 + ((((b : Nat) : Int) + ((i : Nat) : Int)) : Int).toNat * 5 = (((((b : Nat) : Int) + ((i : Nat) : Int)).toNat) * 5), (((((b : Nat) : Int) + ((i : Nat) : Int)).toNat) * 5) + 5 ≤ ((tns (swS L a b i))).length ∧ (((tns (swS L a b i))).drop (((((b : Nat) : Int) + ((i : Nat) : Int)).toNat) * 5)).take 5 = (tnC ((swS L a b i).getD ((((b : Nat) : Int) + ((i : Nat) : Int)).toNat) dT)), InK .i64 (((a : Nat) : Int) + ((i : Nat) : Int)), (0 : Int) ≤ (((a : Nat) : Int) + ((i : Nat) : Int)) ∧ (((a : Nat) : Int) + ((i : Nat) : Int)) < ((n : Nat) : Int), 0 + ((((a : Nat) : Int) + ((i : Nat) : Int)) : Int).toNat * 5 = (((((a : Nat) : Int) + ((i : Nat) : Int)).toNat) * 5), (((((a : Nat) : Int) + ((i : Nat) : Int)).toNat) * 5) + 5 ≤ ((tns (swS L a b i))).length ∧ (((tns (swS L a b i))).drop (((((a : Nat) : Int) + ((i : Nat) : Int)).toNat) * 5)).take 5 = (tnC ((swS L a b i).getD ((((a : Nat) : Int) + ((i : Nat) : Int)).toNat) dT)), (0 : Int) ≤ (((a : Nat) : Int) + ((i : Nat) : Int)) ∧ (((a : Nat) : Int) + ((i : Nat) : Int)) < ((n : Nat) : Int), 0 + ((((a : Nat) : Int) + ((i : Nat) : Int)) : Int).toNat * 5 = (((((a : Nat) : Int) + ((i : Nat) : Int)).toNat) * 5), (((((a : Nat) : Int) + ((i : Nat) : Int)).toNat) * 5) + 5 ≤ ((tns (swS L a b i))).length ∧ splice (tns (swS L a b i)) (((((a : Nat) : Int) + ((i : Nat) : Int)).toNat) * 5) (tnC ((swS L a b i).getD ((((b : Nat) : Int) + ((i : Nat) : Int)).toNat) dT)) = (tns ((swS L a b i).set ((((a : Nat) : Int) + ((i : Nat) : Int)).toNat) ((swS L a b i).getD ((((b : Nat) : Int) + ((i : Nat) : Int)).toNat) dT))), (0 : Int) ≤ (((b : Nat) : Int) + ((i : Nat) : Int)) ∧ (((b : Nat) : Int) + ((i : Nat) : Int)) < ((n : Nat) : Int), 0 + ((((b : Nat) : Int) + ((i : Nat) : Int)) : Int).toNat * 5 = (((((b : Nat) : Int) + ((i : Nat) : Int)).toNat) * 5), (((((b : Nat) : Int) + ((i : Nat) : Int)).toNat) * 5) + 5 ≤ ((tns ((swS L a b i).set ((((a : Nat) : Int) + ((i : Nat) : Int)).toNat) ((swS L a b i).getD ((((b : Nat) : Int) + ((i : Nat) : Int)).toNat) dT)))).length ∧ splice (tns ((swS L a b i).set ((((a : Nat) : Int) + ((i : Nat) : Int)).toNat) ((swS L a b i).getD ((((b : Nat) : Int) + ((i : Nat) : Int)).toNat) dT))) (((((b : Nat) : Int) + ((i : Nat) : Int)).toNat) * 5) (tnC ((swS L a b i).getD ((((a : Nat) : Int) + ((i : Nat) : Int)).toNat) dT)) = (tns (((swS L a b i).set ((((a : Nat) : Int) + ((i : Nat) : Int)).toNat) ((swS L a b i).getD ((((b : Nat) : Int) + ((i : Nat) : Int)).toNat) dT)).set ((((b : Nat) : Int) + ((i : Nat) : Int)).toNat) ((swS L a b i).getD ((((a : Nat) : Int) + ((i : Nat) : Int)).toNat) dT)))]) mixed (by kernel_rfl) (by kernel_rfl) (obs_cons (by simp only [InK]; omega) (obs_cons (by simp only [InK]; omega) (obs_cons (by simp only [InK]; omega) (obs_cons (by omega) (obs_cons (by omega) (obs_cons (flat_at tnC 5 (fun _ => rfl) dT (swS L a b i) ((((b : Nat) : Int) + ((i : Nat) : Int)).toNat) 0 5 (by omega) (by decide)) (obs_cons (by simp only [InK]; omega) (obs_cons (by omega) (obs_cons (by omega) (obs_cons (flat_at tnC 5 (fun _ => rfl) dT (swS L a b i) ((((a : Nat) : Int) + ((i : Nat) : Int)).toNat) 0 5 (by omega) (by decide)) (obs_cons (by omega) (obs_cons (by omega) (obs_cons (flat_splice tnC 5 (fun _ => rfl) (l := (swS L a b i)) (k := ((((a : Nat) : Int) + ((i : Nat) : Int)).toNat)) (v := ((swS L a b i).getD ((((b : Nat) : Int) + ((i : Nat) : Int)).toNat) dT)) (by first | omega | (simp only [List.length_set]; omega))) (obs_cons (by omega) (obs_cons (by omega) (obs_cons (flat_splice tnC 5 (fun _ => rfl) (l := ((swS L a b i).set ((((a : Nat) : Int) + ((i : Nat) : Int)).toNat) ((swS L a b i).getD ((((b : Nat) : Int) + ((i : Nat) : Int)).toNat) dT))) (k := ((((b : Nat) : Int) + ((i : Nat) : Int)).toNat)) (v := ((swS L a b i).getD ((((a : Nat) : Int) + ((i : Nat) : Int)).toNat) dT)) (by first | omega | (simp only [List.length_set]; omega))) (obs_nil))))))))))))))))) ?_
    refine T_blk ?_
    refine T_region [] [ks 0, ks 1, ks 2, ks 3, ks 10, kb 0] (fun _ => mixed) (l' := [ps 0 (.osl 0 0 n), ps 1 (nv a), ps 2 (nv b), ps 3 (nv c), ps 10 (iv (((i : Nat) : Int) + 1)), pb 0 41 (tns (((swS L a b i).set ((((a : Nat) : Int) + ((i : Nat) : Int)).toNat) ((swS L a b i).getD ((((b : Nat) : Int) + ((i : Nat) : Int)).toNat) dT)).set ((((b : Nat) : Int) + ((i : Nat) : Int)).toNat) ((swS L a b i).getD ((((a : Nat) : Int) + ((i : Nat) : Int)).toNat) dT)))]) (obs := [InK .i64 (((i : Nat) : Int) + 1)]) (by kernel_rfl) (obs_cons (by simp only [InK]; omega) (obs_nil)) ?_
    exact T_back ⟨i + 1, by omega⟩ (Wk.ren3 [ps 0 (.osl 0 0 n), ps 1 (nv a), ps 2 (nv b), ps 3 (nv c), ps 10 (nv (i + 1)), pb 0 41 (tns (swS L a b (i + 1)))] 1 hc0 [0] [(kb 0, (tns (swS L a b (i + 1))))] (obs_cons (tns_shd _) (obs_nil)) (by kernel_rfl) rfl rfl (by kernel_rfl) (by kernel_rfl)) (show c - (i + 1) < c - i from by omega)
  · refine T_else (b := (decide (((i : Nat) : Int) < ((c : Nat) : Int)))) rfl (decide_eq_false h1) ?_
    refine T_break rfl rfl ?_
    obtain rfl : c = i := by omega
    exact fun cx_ a_ hI_ => ret_ok (H' := [some (41, (tns (swS L a b c)))]) (.inl rfl) (Wk.ren3 [pb 0 41 (tns (swS L a b c))] 1 hc0 [0] [(kb 0, (tns (swS L a b c)))] (obs_cons (tns_shd _) (obs_nil)) (by kernel_rfl) rfl rfl (by kernel_rfl) (by kernel_rfl)) rfl (obs_cons rfl (obs_nil)) (fun cx_ a_ hI_ => ret_res (l' := [pb 0 41 (tns (swS L a b c))]) (by kernel_rfl) cx_ a_ hI_) hI_
end Go.Proofs.Ytjdblogapkbefaa.Pm
namespace Go.Proofs.Ytjdblogapkbefaa.Pm
open Go

theorem swS_bd {L : List Tn} {a b c : Nat} : (swS L a b c).length = L.length := swS_len L a b c
/-- The place k in a row, from P on, up to which it is in order: what the insertion has made. -/
def insL (P Z Q : List Tn) (k : Nat) : List Tn := P ++ (sortT (Z.take k) ++ (Z.drop k ++ Q))
theorem insL_len {P Z Q : List Tn} {k : Nat} : (insL P Z Q k).length = P.length + Z.length + Q.length := by
  have := congrArg List.length (List.take_append_drop k Z)
  simp only [insL, List.length_append, sortT_len] at *
  omega
theorem insL_perm (P Z Q : List Tn) (k : Nat) : (insL P Z Q k).Perm (P ++ (Z ++ Q)) := by
  refine List.Perm.append_left P ?_
  rw [← List.append_assoc]
  refine List.Perm.append_right Q ?_
  conv => rhs; rw [← List.take_append_drop k Z]
  exact List.Perm.append_right _ (sortT_perm _)
theorem insL_one {P Z Q : List Tn} : P ++ (Z ++ Q) = insL P Z Q 1 := by
  match Z with
  | [] => rw [insL, show ([] : List Tn).take 1 = [] from rfl, sortT_srtd List.Pairwise.nil]; rfl
  | z :: Z => rw [insL, show (z :: Z).take 1 = [z] from rfl, sortT_srtd (List.pairwise_singleton _ _)]; rfl
theorem insL_all {P Z Q : List Tn} {k : Nat} (h : Z.length ≤ k) : insL P Z Q k = P ++ (sortT Z ++ Q) := by rw [insL, List.take_of_length_le h, List.drop_of_length_le h]; rfl
theorem insL_slide {P Z Q : List Tn} {k : Nat} (h : k < Z.length) : insL P Z Q k = slide P (sortT (Z.take k)) (Z.getD k dT) (Z.drop (k + 1) ++ Q) k := by
  have hl : (sortT (Z.take k)).length = k := by rw [sortT_len]; simp; omega
  rw [insL, slide, List.take_of_length_le (l := sortT (Z.take k)) (by omega), List.drop_of_length_le (l := sortT (Z.take k)) (by omega), List.drop_eq_getElem_cons h, gd_eq _ _ h]
  rfl
theorem insL_next {P Z Q : List Tn} {k j : Nat} (h : k < Z.length) (hj : j ≤ k) (h1 : j = 0 ∨ ¬ ordS (Z.getD k dT) ((sortT (Z.take k)).getD (j - 1) dT) < 0) (h2 : ∀ i, j ≤ i → i < k → LeT (Z.getD k dT) ((sortT (Z.take k)).getD i dT)) :
    slide P (sortT (Z.take k)) (Z.getD k dT) (Z.drop (k + 1) ++ Q) j = insL P Z Q (k + 1) := by
  have hl : (sortT (Z.take k)).length = k := by rw [sortT_len]; simp; omega
  rw [slide_done (sortT_srt _) (fun i g1 g2 => ?_) (fun i g1 g2 => h2 i g1 (by omega)), insL]
  · congr 2
    apply sortT_congr
    rw [List.take_succ_eq_append_getElem h, gd_eq _ _ h]
    exact ((sortT_perm _).cons _).trans (List.perm_append_singleton _ _).symm
  · rcases h1 with h1 | h1
    · omega
    · exact le_trans' (srt_at (sortT_srt _) (show i ≤ j - 1 from by omega) (by omega)) (le_of_not' h1)
theorem slide_z {P S Q : List Tn} {z : Tn} {j a : Nat} (ha : P.length = a) (h : j ≤ S.length) : (slide P S z Q j).getD (a + j) dT = z := by rw [← ha]; exact slide_at h
theorem slide_bf {P S Q : List Tn} {z : Tn} {j a : Nat} (ha : P.length = a) (h1 : 1 ≤ j) (h : j ≤ S.length) : (slide P S z Q j).getD (a + j - 1) dT = S.getD (j - 1) dT := by
  obtain ⟨i, rfl⟩ : ∃ i, j = i + 1 := ⟨j - 1, by omega⟩
  rw [← ha, show P.length + (i + 1) - 1 = P.length + i from by omega]
  exact slide_before (by omega)
theorem slide_dn {P S Q : List Tn} {z : Tn} {j a : Nat} (ha : P.length = a) (h1 : 1 ≤ j) (h : j ≤ S.length) : ((slide P S z Q j).set (a + j) ((slide P S z Q j).getD (a + j - 1) dT)).set (a + j - 1) ((slide P S z Q j).getD (a + j) dT) = slide P S z Q (j - 1) := by
  obtain ⟨i, rfl⟩ : ∃ i, j = i + 1 := ⟨j - 1, by omega⟩
  rw [← ha, show P.length + (i + 1) - 1 = P.length + i from by omega]
  exact slide_down (by omega)
theorem insL_slide0 {P Z Q : List Tn} {k : Nat} (h : k < Z.length) (j : Nat) : (slide P (sortT (Z.take k)) (Z.getD k dT) (Z.drop (k + 1) ++ Q) j).Perm (P ++ (Z ++ Q)) :=
  ((slide_perm _ _ _ _ j).trans (slide_perm _ _ _ _ k).symm).trans (by rw [← insL_slide h]; exact insL_perm P Z Q k)
set_option maxRecDepth 100000 in
set_option maxHeartbeats 4000000 in
theorem rotate_pc (L R : List Tn) (n a m b : Nat) (hn : L.length = n) (hn2 : n ≤ 4096) (ham : a ≤ m) (hmb : m ≤ b) (hR : Rot m R L (m - a) (b - m)) : PC Try.prog 55 [(.osl 0 0 n), (nv a), (nv m), (nv b), (fv 22)] [some (41, (tns L))] (.tup []) [some (41, (tns R))] := by
  have hr := hR.len
  refine pc_intro Try.func55 rfl (by kernel_rfl) (Nat.le_of_ble_eq_true rfl) (by kernel_rfl) (l0 := [ps 0 (.osl 0 0 n), ps 1 (nv a), ps 2 (nv m), ps 3 (nv b), ps 4 (fv 22), pb 0 41 (tns L)]) rfl (fun c0 Bor hc0 => ?_)
  refine T_seq ?_
  refine T_region [] [ks 0, ks 2, ks 3, ks 4, ks 10, kb 0] (fun _ => mixed) (l' := [ps 0 (.osl 0 0 n), ps 2 (nv m), ps 3 (nv b), ps 4 (fv 22), ps 10 (iv (((m : Nat) : Int) - ((a : Nat) : Int))), pb 0 41 (tns L)]) (obs := [InK .i64 (((m : Nat) : Int) - ((a : Nat) : Int))]) (by kernel_rfl) (obs_cons (by simp only [InK]; omega) (obs_nil)) ?_
  refine T_seq ?_
  refine T_region [] [ks 0, ks 2, ks 4, ks 10, ks 11, kb 0] (fun _ => mixed) (l' := [ps 0 (.osl 0 0 n), ps 2 (nv m), ps 4 (fv 22), ps 10 (iv (((m : Nat) : Int) - ((a : Nat) : Int))), ps 11 (iv (((b : Nat) : Int) - ((m : Nat) : Int))), pb 0 41 (tns L)]) (obs := [InK .i64 (((b : Nat) : Int) - ((m : Nat) : Int))]) (by kernel_rfl) (obs_cons (by simp only [InK]; omega) (obs_nil)) ?_
  refine T_seq ?_
  refine T_block ?_
  refine T_wk (Wk.eq (show _ = [ps 0 (.osl 0 0 n), ps 2 (nv m), ps 4 (fv 22), ps 10 (nv (m - a)), ps 11 (nv (b - m)), pb 0 41 (tns L)] from by rw [show ((m : Nat) : Int) - ((a : Nat) : Int) = (((m - a) : Nat) : Int) from by omega, show ((b : Nat) : Int) - ((m : Nat) : Int) = (((b - m) : Nat) : Int) from by omega])) ?_
  refine T_loop (α := {x : Nat × Nat × List Tn // Rot m R x.2.2 x.1 x.2.1 ∧ x.2.2.length = n}) (fun x => [ps 0 (.osl 0 0 n), ps 2 (nv m), ps 4 (fv 22), ps 10 (nv x.1.1), ps 11 (nv x.1.2.1), pb 0 41 (tns x.1.2.2)]) (fun x => x.1.1 + x.1.2.1) 1 ⟨(m - a, b - m, L), ⟨hR, hn⟩⟩ (Wk.ren3 [ps 0 (.osl 0 0 n), ps 2 (nv m), ps 4 (fv 22), ps 10 (nv (m - a)), ps 11 (nv (b - m)), pb 0 41 (tns L)] 1 hc0 [0] [(kb 0, (tns L))] (obs_cons (tns_shd _) (obs_nil)) (by kernel_rfl) rfl rfl (by kernel_rfl) (by kernel_rfl)) ?_
  rintro ⟨⟨i, j, K⟩, ⟨hK, hKn⟩⟩
  dsimp only at hK hKn
  refine T_seq ?_
  refine T_seq ?_
  refine T_region [] [ks 0, ks 2, ks 4, ks 10, ks 11, ks 20, kb 0] (fun _ => mixed) (l' := [ps 0 (.osl 0 0 n), ps 2 (nv m), ps 4 (fv 22), ps 10 (nv i), ps 11 (nv j), ps 20 (bv (!(decide (((i : Nat) : Int) = ((j : Nat) : Int))))), pb 0 41 (tns K)]) (obs := []) (by kernel_rfl) (obs_nil) ?_
  by_cases h1 : ((i : Nat) : Int) = ((j : Nat) : Int)
  · refine T_else (b := (!(decide (((i : Nat) : Int) = ((j : Nat) : Int))))) rfl (congrArg Bool.not (decide_eq_true h1)) ?_
    refine T_break rfl rfl ?_
    have hr := hK.len
    refine T_region [(7, .call [0] [(.osl 0 0 n), (nv (m - i)), (nv m), (nv i), (fv 22)] [some (41, (tns K))] (.tup []) [some (41, (tns (swS K (m - i) m i)))])] [kb 0] (fun _ => mixed) (l' := [pb 0 41 (renL (sigo [0] 81) (tns (swS K (m - i) m i)))]) (obs := [InK .i64 (((m : Nat) : Int) - ((i : Nat) : Int)), PC Try.prog 57 [(.osl 0 0 n), (nv (m - i)), (nv m), (nv i), (fv 22)] [some (41, (tns K))] (.tup []) [some (41, (tns (swS K (m - i) m i)))], [(.osl 0 0 n), (iv (((m : Nat) : Int) - ((i : Nat) : Int))), (nv m), (nv i), (fv 22)] = renL (sigi [0] 81) [(.osl 0 0 n), (nv (m - i)), (nv m), (nv i), (fv 22)], (tns K) = renL (sigi [0] 81) (tns K)]) (by kernel_rfl) (obs_cons (by simp only [InK]; omega) (obs_cons (swap_pc K n (m - i) m i (by first | omega | (simp only [swS_len]; omega)) (by omega) (by omega) (by omega)) (obs_cons (by rw [show ((((m : Nat) : Int) - ((i : Nat) : Int)) : Int) = ((m - i : Nat) : Int) from by omega]; rfl) (obs_cons (renL_shd (tns_shd _)).symm (obs_nil))))) ?_
    have hE : swS K (m - i) m i = R := by have h9 := hK; rw [show j = i from by omega] at h9; exact h9.eq
    exact fun cx_ a_ hI_ => ret_ok (H' := [some (41, (tns R))]) (.inl rfl) (Wk.trans (Wk.eq (show _ = [pb 0 41 (tns (swS K (m - i) m i))] from by simp only [renL_shd (tns_shd _)])) (Wk.trans (Wk.eq (show _ = [pb 0 41 (tns R)] from by rw [hE])) (Wk.ren3 [pb 0 41 (tns R)] 1 hc0 [0] [(kb 0, (tns R))] (obs_cons (tns_shd _) (obs_nil)) (by kernel_rfl) rfl rfl (by kernel_rfl) (by kernel_rfl)))) rfl (obs_cons rfl (obs_nil)) (fun cx_ a_ hI_ => ret_res (l' := [pb 0 41 (tns R)]) (by kernel_rfl) cx_ a_ hI_) hI_
  · refine T_then (b := (!(decide (((i : Nat) : Int) = ((j : Nat) : Int))))) rfl (congrArg Bool.not (decide_eq_false h1)) ?_
    refine T_skip ?_
    refine T_block ?_
    refine T_seq ?_
    have hr := hK.len
    refine T_region [] [ks 0, ks 2, ks 4, ks 10, ks 11, ks 23, kb 0] (fun _ => mixed) (l' := [ps 0 (.osl 0 0 n), ps 2 (nv m), ps 4 (fv 22), ps 10 (nv i), ps 11 (nv j), ps 23 (bv (decide (((j : Nat) : Int) < ((i : Nat) : Int)))), pb 0 41 (tns K)]) (obs := []) (by kernel_rfl) (obs_nil) ?_
    by_cases h2 : ((j : Nat) : Int) < ((i : Nat) : Int)
    · refine T_then (b := (decide (((j : Nat) : Int) < ((i : Nat) : Int)))) rfl (decide_eq_true h2) ?_
      refine T_seq ?_
      refine T_region [(7, .call [0] [(.osl 0 0 n), (nv (m - i)), (nv m), (nv j), (fv 22)] [some (41, (tns K))] (.tup []) [some (41, (tns (swS K (m - i) m j)))])] [ks 0, ks 2, ks 4, ks 10, ks 11, kb 0] (fun _ => mixed) (l' := [ps 0 (.osl 0 0 n), ps 2 (nv m), ps 4 (fv 22), ps 10 (nv i), ps 11 (nv j), pb 0 41 (renL (sigo [0] 105) (tns (swS K (m - i) m j)))]) (obs := [InK .i64 (((m : Nat) : Int) - ((i : Nat) : Int)), PC Try.prog 57 [(.osl 0 0 n), (nv (m - i)), (nv m), (nv j), (fv 22)] [some (41, (tns K))] (.tup []) [some (41, (tns (swS K (m - i) m j)))], [(.osl 0 0 n), (iv (((m : Nat) : Int) - ((i : Nat) : Int))), (nv m), (nv j), (fv 22)] = renL (sigi [0] 105) [(.osl 0 0 n), (nv (m - i)), (nv m), (nv j), (fv 22)], (tns K) = renL (sigi [0] 105) (tns K)]) (by kernel_rfl) (obs_cons (by simp only [InK]; omega) (obs_cons (swap_pc K n (m - i) m j (by first | omega | (simp only [swS_len]; omega)) (by omega) (by omega) (by omega)) (obs_cons (by rw [show ((((m : Nat) : Int) - ((i : Nat) : Int)) : Int) = ((m - i : Nat) : Int) from by omega]; rfl) (obs_cons (renL_shd (tns_shd _)).symm (obs_nil))))) ?_
      refine T_wk (Wk.eq (show _ = [ps 0 (.osl 0 0 n), ps 2 (nv m), ps 4 (fv 22), ps 10 (nv i), ps 11 (nv j), pb 0 41 (tns (swS K (m - i) m j))] from by simp only [renL_shd (tns_shd _)])) ?_
      refine T_region [] [ks 0, ks 2, ks 4, ks 10, ks 11, kb 0] (fun _ => mixed) (l' := [ps 0 (.osl 0 0 n), ps 2 (nv m), ps 4 (fv 22), ps 10 (iv (((i : Nat) : Int) - ((j : Nat) : Int))), ps 11 (nv j), pb 0 41 (tns (swS K (m - i) m j))]) (obs := [InK .i64 (((i : Nat) : Int) - ((j : Nat) : Int))]) (by kernel_rfl) (obs_cons (by simp only [InK]; omega) (obs_nil)) ?_
      refine T_blk ?_
      exact T_back ⟨(i - j, j, swS K (m - i) m j), ⟨hK.gt (by omega), by rw [swS_len]; exact hKn⟩⟩ (Wk.trans (Wk.eq (show _ = [ps 0 (.osl 0 0 n), ps 2 (nv m), ps 4 (fv 22), ps 10 (nv (i - j)), ps 11 (nv j), pb 0 41 (tns (swS K (m - i) m j))] from by rw [show ((i : Nat) : Int) - ((j : Nat) : Int) = (((i - j) : Nat) : Int) from by omega])) (Wk.ren3 [ps 0 (.osl 0 0 n), ps 2 (nv m), ps 4 (fv 22), ps 10 (nv (i - j)), ps 11 (nv j), pb 0 41 (tns (swS K (m - i) m j))] 1 hc0 [0] [(kb 0, (tns (swS K (m - i) m j)))] (obs_cons (tns_shd _) (obs_nil)) (by kernel_rfl) rfl rfl (by kernel_rfl) (by kernel_rfl))) (show (i - j) + j < i + j from by omega)
    · refine T_else (b := (decide (((j : Nat) : Int) < ((i : Nat) : Int)))) rfl (decide_eq_false h2) ?_
      refine T_seq ?_
      refine T_region [(11, .call [0] [(.osl 0 0 n), (nv (m - i)), (nv ((m + j) - i)), (nv i), (fv 22)] [some (41, (tns K))] (.tup []) [some (41, (tns (swS K (m - i) ((m + j) - i) i)))])] [ks 0, ks 2, ks 4, ks 10, ks 11, kb 0] (fun _ => mixed) (l' := [ps 0 (.osl 0 0 n), ps 2 (nv m), ps 4 (fv 22), ps 10 (nv i), ps 11 (nv j), pb 0 41 (renL (sigo [0] 137) (tns (swS K (m - i) ((m + j) - i) i)))]) (obs := [InK .i64 (((m : Nat) : Int) - ((i : Nat) : Int)), InK .i64 (((m : Nat) : Int) + ((j : Nat) : Int)), InK .i64 ((((m : Nat) : Int) + ((j : Nat) : Int)) - ((i : Nat) : Int)), PC Try.prog 57 [(.osl 0 0 n), (nv (m - i)), (nv ((m + j) - i)), (nv i), (fv 22)] [some (41, (tns K))] (.tup []) [some (41, (tns (swS K (m - i) ((m + j) - i) i)))], [(.osl 0 0 n), (iv (((m : Nat) : Int) - ((i : Nat) : Int))), (iv ((((m : Nat) : Int) + ((j : Nat) : Int)) - ((i : Nat) : Int))), (nv i), (fv 22)] = renL (sigi [0] 137) [(.osl 0 0 n), (nv (m - i)), (nv ((m + j) - i)), (nv i), (fv 22)], (tns K) = renL (sigi [0] 137) (tns K)]) (by kernel_rfl) (obs_cons (by simp only [InK]; omega) (obs_cons (by simp only [InK]; omega) (obs_cons (by simp only [InK]; omega) (obs_cons (swap_pc K n (m - i) ((m + j) - i) i (by first | omega | (simp only [swS_len]; omega)) (by omega) (by omega) (by omega)) (obs_cons (by rw [show ((((m : Nat) : Int) - ((i : Nat) : Int)) : Int) = ((m - i : Nat) : Int) from by omega, show (((((m : Nat) : Int) + ((j : Nat) : Int)) - ((i : Nat) : Int)) : Int) = (((m + j) - i : Nat) : Int) from by omega]; rfl) (obs_cons (renL_shd (tns_shd _)).symm (obs_nil))))))) ?_
      refine T_wk (Wk.eq (show _ = [ps 0 (.osl 0 0 n), ps 2 (nv m), ps 4 (fv 22), ps 10 (nv i), ps 11 (nv j), pb 0 41 (tns (swS K (m - i) ((m + j) - i) i))] from by simp only [renL_shd (tns_shd _)])) ?_
      refine T_region [] [ks 0, ks 2, ks 4, ks 10, ks 11, kb 0] (fun _ => mixed) (l' := [ps 0 (.osl 0 0 n), ps 2 (nv m), ps 4 (fv 22), ps 10 (nv i), ps 11 (iv (((j : Nat) : Int) - ((i : Nat) : Int))), pb 0 41 (tns (swS K (m - i) ((m + j) - i) i))]) (obs := [InK .i64 (((j : Nat) : Int) - ((i : Nat) : Int))]) (by kernel_rfl) (obs_cons (by simp only [InK]; omega) (obs_nil)) ?_
      refine T_blk ?_
      exact T_back ⟨(i, j - i, swS K (m - i) (m + j - i) i), ⟨hK.lt (by omega), by rw [swS_len]; exact hKn⟩⟩ (Wk.trans (Wk.eq (show _ = [ps 0 (.osl 0 0 n), ps 2 (nv m), ps 4 (fv 22), ps 10 (nv i), ps 11 (nv (j - i)), pb 0 41 (tns (swS K (m - i) ((m + j) - i) i))] from by rw [show ((j : Nat) : Int) - ((i : Nat) : Int) = (((j - i) : Nat) : Int) from by omega])) (Wk.ren3 [ps 0 (.osl 0 0 n), ps 2 (nv m), ps 4 (fv 22), ps 10 (nv i), ps 11 (nv (j - i)), pb 0 41 (tns (swS K (m - i) (m + j - i) i))] 1 hc0 [0] [(kb 0, (tns (swS K (m - i) (m + j - i) i)))] (obs_cons (tns_shd _) (obs_nil)) (by kernel_rfl) rfl rfl (by kernel_rfl) (by kernel_rfl))) (show i + (j - i) < i + j from by omega)
set_option maxRecDepth 100000 in
set_option maxHeartbeats 4000000 in
theorem ins_pc (L P Z Q : List Tn) (n a b : Nat) (hL : L = P ++ (Z ++ Q)) (hn : L.length = n) (hn2 : n ≤ 4096) (ha : P.length = a) (hb : a + Z.length = b) (hB : Bd L) : PC Try.prog 51 [(.osl 0 0 n), (nv a), (nv b), (fv 22)] [some (41, (tns L))] (.tup []) [some (41, (tns (P ++ (sortT Z ++ Q))))] := by
  have hn0 : P.length + Z.length + Q.length = n := by rw [← hn, hL]; simp only [List.length_append]; omega
  refine pc_intro Try.func51 rfl (by kernel_rfl) (Nat.le_of_ble_eq_true rfl) (by kernel_rfl) (l0 := [ps 0 (.osl 0 0 n), ps 1 (nv a), ps 2 (nv b), ps 3 (fv 22), pb 0 41 (tns L)]) rfl (fun c0 Bor hc0 => ?_)
  refine T_seq ?_
  refine T_region [] [ks 0, ks 1, ks 2, ks 3, ks 8, kb 0] (fun _ => mixed) (l' := [ps 0 (.osl 0 0 n), ps 1 (nv a), ps 2 (nv b), ps 3 (fv 22), ps 8 (iv (((a : Nat) : Int) + 1)), pb 0 41 (tns L)]) (obs := [InK .i64 (((a : Nat) : Int) + 1)]) (by kernel_rfl) (obs_cons (by simp only [InK]; omega) (obs_nil)) ?_
  refine T_block ?_
  refine T_wk (Wk.eq (show _ = [ps 0 (.osl 0 0 n), ps 1 (nv a), ps 2 (nv b), ps 3 (fv 22), ps 8 (nv (a + 1)), pb 0 41 (tns (insL P Z Q 1))] from by rw [show ((a : Nat) : Int) + 1 = ((a + 1 : Nat) : Int) from by omega, hL, insL_one])) ?_
  refine T_loop (α := {x : Nat // 1 ≤ x ∧ (x ≤ Z.length ∨ x = 1)}) (fun x => [ps 0 (.osl 0 0 n), ps 1 (nv a), ps 2 (nv b), ps 3 (fv 22), ps 8 (nv (a + x.1)), pb 0 41 (tns (insL P Z Q x.1))]) (fun x => Z.length - x.1) 1 ⟨1, ⟨Nat.le_refl _, .inr rfl⟩⟩ (Wk.ren3 [ps 0 (.osl 0 0 n), ps 1 (nv a), ps 2 (nv b), ps 3 (fv 22), ps 8 (nv (a + 1)), pb 0 41 (tns (insL P Z Q 1))] 1 hc0 [0] [(kb 0, (tns (insL P Z Q 1)))] (obs_cons (tns_shd _) (obs_nil)) (by kernel_rfl) rfl rfl (by kernel_rfl) (by kernel_rfl)) ?_
  rintro ⟨k, ⟨hk1, hk⟩⟩
  refine T_seq ?_
  refine T_seq ?_
  refine T_region [] [ks 0, ks 1, ks 2, ks 3, ks 8, ks 14, kb 0] (fun _ => mixed) (l' := [ps 0 (.osl 0 0 n), ps 1 (nv a), ps 2 (nv b), ps 3 (fv 22), ps 8 (nv (a + k)), ps 14 (bv (decide (((a + k : Nat) : Int) < ((b : Nat) : Int)))), pb 0 41 (tns (insL P Z Q k))]) (obs := []) (by kernel_rfl) (obs_nil) ?_
  by_cases h1 : ((a + k : Nat) : Int) < ((b : Nat) : Int)
  · refine T_then (b := (decide (((a + k : Nat) : Int) < ((b : Nat) : Int)))) rfl (decide_eq_true h1) ?_
    refine T_skip ?_
    refine T_seq ?_
    refine T_block ?_
    refine T_seq ?_
    refine T_region [] [ks 0, ks 1, ks 2, ks 3, ks 8, ks 9, kb 0] (fun _ => mixed) (l' := [ps 0 (.osl 0 0 n), ps 1 (nv a), ps 2 (nv b), ps 3 (fv 22), ps 8 (nv (a + k)), ps 9 (nv (a + k)), pb 0 41 (tns (insL P Z Q k))]) (obs := []) (by kernel_rfl) (obs_nil) ?_
    refine T_block ?_
    have hl : (sortT (Z.take k)).length = k := by rw [sortT_len]; simp; omega
    refine T_wk (Wk.eq (show _ = [ps 0 (.osl 0 0 n), ps 1 (nv a), ps 2 (nv b), ps 3 (fv 22), ps 8 (nv (a + k)), ps 9 (nv (a + k)), pb 0 41 (tns (slide P (sortT (Z.take k)) (Z.getD k dT) (Z.drop (k + 1) ++ Q) k))] from by rw [insL_slide (by omega)])) ?_
    refine T_loop (α := {x : Nat // x ≤ k ∧ (∀ i, x ≤ i → i < k → LeT (Z.getD k dT) ((sortT (Z.take k)).getD i dT))}) (fun x => [ps 0 (.osl 0 0 n), ps 1 (nv a), ps 2 (nv b), ps 3 (fv 22), ps 8 (nv (a + k)), ps 9 (nv (a + x.1)), pb 0 41 (tns (slide P (sortT (Z.take k)) (Z.getD k dT) (Z.drop (k + 1) ++ Q) x.1))]) (fun x => x.1) 1 ⟨k, ⟨Nat.le_refl _, fun i g1 g2 => by omega⟩⟩ (Wk.ren3 [ps 0 (.osl 0 0 n), ps 1 (nv a), ps 2 (nv b), ps 3 (fv 22), ps 8 (nv (a + k)), ps 9 (nv (a + k)), pb 0 41 (tns (slide P (sortT (Z.take k)) (Z.getD k dT) (Z.drop (k + 1) ++ Q) k))] 1 hc0 [0] [(kb 0, (tns (slide P (sortT (Z.take k)) (Z.getD k dT) (Z.drop (k + 1) ++ Q) k)))] (obs_cons (tns_shd _) (obs_nil)) (by kernel_rfl) rfl rfl (by kernel_rfl) (by kernel_rfl)) ?_
    rintro ⟨j, ⟨hj, hG⟩⟩
    refine T_seq ?_
    refine T_seq ?_
    have hls : (slide P (sortT (Z.take k)) (Z.getD k dT) (Z.drop (k + 1) ++ Q) j).length = n := by rw [slide_len, hl]; simp only [List.length_append, List.length_drop]; omega
    have hBK : Bd (slide P (sortT (Z.take k)) (Z.getD k dT) (Z.drop (k + 1) ++ Q) j) := hB.perm (by rw [hL]; exact insL_slide0 (by omega) j)
    by_cases h2 : ((a : Nat) : Int) < ((a + j : Nat) : Int)
    · refine T_regionD [(4, .gd true (.no)), (5, .gd true (.no)), (6, .gd true (.no)), (7, .gd true (.nat ((a + j) * 5))), (8, .gd true (.cells (tnC ((slide P (sortT (Z.take k)) (Z.getD k dT) (Z.drop (k + 1) ++ Q) j).getD (a + j) dT)))), (9, .gd true (.no)), (10, .gd true (.no)), (11, .gd true (.no)), (12, .gd true (.nat ((a + j - 1) * 5))), (13, .gd true (.cells (tnC ((slide P (sortT (Z.take k)) (Z.getD k dT) (Z.drop (k + 1) ++ Q) j).getD (a + j - 1) dT)))), (14, .gd true (.call [] [(.agg (tnC ((slide P (sortT (Z.take k)) (Z.getD k dT) (Z.drop (k + 1) ++ Q) j).getD (a + j) dT))), (.agg (tnC ((slide P (sortT (Z.take k)) (Z.getD k dT) (Z.drop (k + 1) ++ Q) j).getD (a + j - 1) dT)))] [] (iv (ordS ((slide P (sortT (Z.take k)) (Z.getD k dT) (Z.drop (k + 1) ++ Q) j).getD (a + j) dT) ((slide P (sortT (Z.take k)) (Z.getD k dT) (Z.drop (k + 1) ++ Q) j).getD (a + j - 1) dT))) [])), (15, .gd true (.no)), (16, .yes true)] [[], [], [0, 1], [0, 1, 2], [0, 1, 2, 3], [0, 1, 2, 3], [0, 1, 2, 3], [0, 1, 2, 3, 5, 6], [0, 1, 2, 3, 5, 6, 7], [0, 1, 2, 3], [0, 1, 2, 3], [0, 1, 2, 3, 10], [0, 1, 2, 3, 9, 10, 11], [0, 1, 2, 3, 9, 10, 11, 12], [0, 1, 2, 3, 4, 5, 6, 7, 8, 9, 10, 11, 12, 13], [0, 1, 2, 3, 4, 5, 6, 7, 8, 9, 10, 11, 12, 13, 14], [0, 1, 2, 3, 4, 5, 6, 7, 8, 9, 10, 11, 12, 13, 14, 15]] [([36], [18]), ([38], [2]), ([40], [36, 38]), ([42], [40]), ([44], [6, 42]), ([46], [0, 42]), ([48], [18, 42]), ([50], [42, 46, 48]), ([52], [1, 42, 50]), ([54], [0, 42]), ([56], [18, 42]), ([58], [42, 56]), ([60], [42, 54, 58]), ([62], [1, 42, 60]), ([64], [42, 44, 52, 62]), ([66], [42, 64]), ([68], [42, 66])] [ks 0, ks 1, ks 2, ks 3, ks 8, ks 9, ks 34, kb 0] (l' := [ps 0 (.osl 0 0 n), ps 1 (nv a), ps 2 (nv b), ps 3 (fv 22), ps 8 (nv (a + k)), ps 9 (nv (a + j)), ps 34 (bv (decide ((ordS ((slide P (sortT (Z.take k)) (Z.getD k dT) (Z.drop (k + 1) ++ Q) j).getD (a + j) dT) ((slide P (sortT (Z.take k)) (Z.getD k dT) (Z.drop (k + 1) ++ Q) j).getD (a + j - 1) dT)) < 0))), pb 0 41 (tns (slide P (sortT (Z.take k)) (Z.getD k dT) (Z.drop (k + 1) ++ Q) j))]) (obs := [(decide (((a : Nat) : Int) < ((a + j : Nat) : Int))) = true, (decide (((a : Nat) : Int) < ((a + j : Nat) : Int))) = true, (decide (((a : Nat) : Int) < ((a + j : Nat) : Int))) = true, (decide (((a : Nat) : Int) < ((a + j : Nat) : Int))) = true, (0 : Int) ≤ ((a + j : Nat) : Int) ∧ ((a + j : Nat) : Int) < ((n : Nat) : Int), 0 + (((a + j : Nat) : Int) : Int).toNat * 5 = ((a + j) * 5), (decide (((a : Nat) : Int) < ((a + j : Nat) : Int))) = true, ((a + j) * 5) + 5 ≤ ((tns (slide P (sortT (Z.take k)) (Z.getD k dT) (Z.drop (k + 1) ++ Q) j))).length ∧ (((tns (slide P (sortT (Z.take k)) (Z.getD k dT) (Z.drop (k + 1) ++ Q) j))).drop ((a + j) * 5)).take 5 = (tnC ((slide P (sortT (Z.take k)) (Z.getD k dT) (Z.drop (k + 1) ++ Q) j).getD (a + j) dT)), (decide (((a : Nat) : Int) < ((a + j : Nat) : Int))) = true, (decide (((a : Nat) : Int) < ((a + j : Nat) : Int))) = true, (decide (((a : Nat) : Int) < ((a + j : Nat) : Int))) = true, InK .i64 (((a + j : Nat) : Int) - 1), (decide (((a : Nat) : Int) < ((a + j : Nat) : Int))) = true, (0 : Int) ≤ (((a + j : Nat) : Int) - 1) ∧ (((a + j : Nat) : Int) - 1) < ((n : Nat) : Int), 0 + ((((a + j : Nat) : Int) - 1) : Int).toNat * 5 = ((a + j - 1) * 5), (decide (((a : Nat) : Int) < ((a + j : Nat) : Int))) = true, ((a + j - 1) * 5) + 5 ≤ ((tns (slide P (sortT (Z.take k)) (Z.getD k dT) (Z.drop (k + 1) ++ Q) j))).length ∧ (((tns (slide P (sortT (Z.take k)) (Z.getD k dT) (Z.drop (k + 1) ++ Q) j))).drop ((a + j - 1) * 5)).take 5 = (tnC ((slide P (sortT (Z.take k)) (Z.getD k dT) (Z.drop (k + 1) ++ Q) j).getD (a + j - 1) dT)), (decide (((a : Nat) : Int) < ((a + j : Nat) : Int))) = true, PC Try.prog 22 [(.agg (tnC ((slide P (sortT (Z.take k)) (Z.getD k dT) (Z.drop (k + 1) ++ Q) j).getD (a + j) dT))), (.agg (tnC ((slide P (sortT (Z.take k)) (Z.getD k dT) (Z.drop (k + 1) ++ Q) j).getD (a + j - 1) dT)))] [] (iv (ordS ((slide P (sortT (Z.take k)) (Z.getD k dT) (Z.drop (k + 1) ++ Q) j).getD (a + j) dT) ((slide P (sortT (Z.take k)) (Z.getD k dT) (Z.drop (k + 1) ++ Q) j).getD (a + j - 1) dT))) [], [(.agg (tnC ((slide P (sortT (Z.take k)) (Z.getD k dT) (Z.drop (k + 1) ++ Q) j).getD (a + j) dT))), (.agg (tnC ((slide P (sortT (Z.take k)) (Z.getD k dT) (Z.drop (k + 1) ++ Q) j).getD (a + j - 1) dT)))] = renL (sigi [] 113) [(.agg (tnC ((slide P (sortT (Z.take k)) (Z.getD k dT) (Z.drop (k + 1) ++ Q) j).getD (a + j) dT))), (.agg (tnC ((slide P (sortT (Z.take k)) (Z.getD k dT) (Z.drop (k + 1) ++ Q) j).getD (a + j - 1) dT)))], (decide (((a : Nat) : Int) < ((a + j : Nat) : Int))) = true, (decide (((a : Nat) : Int) < ((a + j : Nat) : Int))) = true]) mixed (by kernel_rfl) (by kernel_rfl) (obs_cons (decide_eq_true h2) (obs_cons (decide_eq_true h2) (obs_cons (decide_eq_true h2) (obs_cons (decide_eq_true h2) (obs_cons (by omega) (obs_cons (by omega) (obs_cons (decide_eq_true h2) (obs_cons (flat_at tnC 5 (fun _ => rfl) dT (slide P (sortT (Z.take k)) (Z.getD k dT) (Z.drop (k + 1) ++ Q) j) (a + j) 0 5 (by omega) (by decide)) (obs_cons (decide_eq_true h2) (obs_cons (decide_eq_true h2) (obs_cons (decide_eq_true h2) (obs_cons (by simp only [InK]; omega) (obs_cons (decide_eq_true h2) (obs_cons (by omega) (obs_cons (by omega) (obs_cons (decide_eq_true h2) (obs_cons (flat_at tnC 5 (fun _ => rfl) dT (slide P (sortT (Z.take k)) (Z.getD k dT) (Z.drop (k + 1) ++ Q) j) (a + j - 1) 0 5 (by omega) (by decide)) (obs_cons (decide_eq_true h2) (obs_cons (order_pc ((slide P (sortT (Z.take k)) (Z.getD k dT) (Z.drop (k + 1) ++ Q) j).getD (a + j) dT) ((slide P (sortT (Z.take k)) (Z.getD k dT) (Z.drop (k + 1) ++ Q) j).getD (a + j - 1) dT) (hBK.at _) (hBK.at _)) (obs_cons rfl (obs_cons (decide_eq_true h2) (obs_cons (decide_eq_true h2) (obs_nil))))))))))))))))))))))) ?_
      by_cases h3 : (ordS ((slide P (sortT (Z.take k)) (Z.getD k dT) (Z.drop (k + 1) ++ Q) j).getD (a + j) dT) ((slide P (sortT (Z.take k)) (Z.getD k dT) (Z.drop (k + 1) ++ Q) j).getD (a + j - 1) dT)) < 0
      · refine T_then (b := (decide ((ordS ((slide P (sortT (Z.take k)) (Z.getD k dT) (Z.drop (k + 1) ++ Q) j).getD (a + j) dT) ((slide P (sortT (Z.take k)) (Z.getD k dT) (Z.drop (k + 1) ++ Q) j).getD (a + j - 1) dT)) < 0))) rfl (decide_eq_true h3) ?_
        refine T_skip ?_
        refine T_seq ?_
        refine T_block ?_
        refine T_regionD [(8, .nat ((a + j - 1) * 5)), (9, .cells (tnC ((slide P (sortT (Z.take k)) (Z.getD k dT) (Z.drop (k + 1) ++ Q) j).getD (a + j - 1) dT))), (12, .nat ((a + j) * 5)), (13, .cells (tnC ((slide P (sortT (Z.take k)) (Z.getD k dT) (Z.drop (k + 1) ++ Q) j).getD (a + j) dT))), (14, .nat ((a + j) * 5)), (15, .cells (tns ((slide P (sortT (Z.take k)) (Z.getD k dT) (Z.drop (k + 1) ++ Q) j).set (a + j) ((slide P (sortT (Z.take k)) (Z.getD k dT) (Z.drop (k + 1) ++ Q) j).getD (a + j - 1) dT)))), (16, .nat ((a + j - 1) * 5)), (17, .cells (tns (((slide P (sortT (Z.take k)) (Z.getD k dT) (Z.drop (k + 1) ++ Q) j).set (a + j) ((slide P (sortT (Z.take k)) (Z.getD k dT) (Z.drop (k + 1) ++ Q) j).getD (a + j - 1) dT)).set (a + j - 1) ((slide P (sortT (Z.take k)) (Z.getD k dT) (Z.drop (k + 1) ++ Q) j).getD (a + j) dT))))] [[], [], [], [], [3], [], [], [6], [5, 6, 7], [5, 6, 7, 8], [], [], [10, 11], [10, 11, 12], [0, 1, 5, 6, 7, 8, 9, 10, 11, 12, 13], [0, 1, 5, 6, 7, 8, 9, 10, 11, 12, 13, 14], [0, 1, 2, 3, 4, 5, 6, 7, 8, 9, 10, 11, 12, 13, 14, 15], [0, 1, 2, 3, 4, 5, 6, 7, 8, 9, 10, 11, 12, 13, 14, 15, 16]] [([74], [0]), ([76], [18]), ([78], [0]), ([80], [18]), ([82], [80]), ([84], [0]), ([86], [18]), ([88], [86]), ([90], [84, 88]), ([92], [1, 90]), ([94], [0]), ([96], [18]), ([98], [94, 96]), ([100], [1, 98]), ([102], [74, 76]), ([1], [1, 92, 102]), ([104], [78, 82]), ([1], [1, 100, 104])] [ks 0, ks 1, ks 2, ks 3, ks 8, ks 9, kb 0] (l' := [ps 0 (.osl 0 0 n), ps 1 (nv a), ps 2 (nv b), ps 3 (fv 22), ps 8 (nv (a + k)), ps 9 (nv (a + j)), pb 0 41 (tns (((slide P (sortT (Z.take k)) (Z.getD k dT) (Z.drop (k + 1) ++ Q) j).set (a + j) ((slide P (sortT (Z.take k)) (Z.getD k dT) (Z.drop (k + 1) ++ Q) j).getD (a + j - 1) dT)).set (a + j - 1) ((slide P (sortT (Z.take k)) (Z.getD k dT) (Z.drop (k + 1) ++ Q) j).getD (a + j) dT)))]) (obs := [InK .i64 (((a + j : Nat) : Int) - 1), InK .i64 (((a + j : Nat) : Int) - 1), (0 : Int) ≤ (((a + j : Nat) : Int) - 1) ∧ (((a + j : Nat) : Int) - 1) < ((n : Nat) : Int), 0 + ((((a + j : Nat) : Int) - 1) : Int).toNat * 5 = ((a + j - 1) * 5), ((a + j - 1) * 5) + 5 ≤ ((tns (slide P (sortT (Z.take k)) (Z.getD k dT) (Z.drop (k + 1) ++ Q) j))).length ∧ (((tns (slide P (sortT (Z.take k)) (Z.getD k dT) (Z.drop (k + 1) ++ Q) j))).drop ((a + j - 1) * 5)).take 5 = (tnC ((slide P (sortT (Z.take k)) (Z.getD k dT) (Z.drop (k + 1) ++ Q) j).getD (a + j - 1) dT)), (0 : Int) ≤ ((a + j : Nat) : Int) ∧ ((a + j : Nat) : Int) < ((n : Nat) : Int), 0 + (((a + j : Nat) : Int) : Int).toNat * 5 = ((a + j) * 5), ((a + j) * 5) + 5 ≤ ((tns (slide P (sortT (Z.take k)) (Z.getD k dT) (Z.drop (k + 1) ++ Q) j))).length ∧ (((tns (slide P (sortT (Z.take k)) (Z.getD k dT) (Z.drop (k + 1) ++ Q) j))).drop ((a + j) * 5)).take 5 = (tnC ((slide P (sortT (Z.take k)) (Z.getD k dT) (Z.drop (k + 1) ++ Q) j).getD (a + j) dT)), (0 : Int) ≤ ((a + j : Nat) : Int) ∧ ((a + j : Nat) : Int) < ((n : Nat) : Int), 0 + (((a + j : Nat) : Int) : Int).toNat * 5 = ((a + j) * 5), ((a + j) * 5) + 5 ≤ ((tns (slide P (sortT (Z.take k)) (Z.getD k dT) (Z.drop (k + 1) ++ Q) j))).length ∧ splice (tns (slide P (sortT (Z.take k)) (Z.getD k dT) (Z.drop (k + 1) ++ Q) j)) ((a + j) * 5) (tnC ((slide P (sortT (Z.take k)) (Z.getD k dT) (Z.drop (k + 1) ++ Q) j).getD (a + j - 1) dT)) = (tns ((slide P (sortT (Z.take k)) (Z.getD k dT) (Z.drop (k + 1) ++ Q) j).set (a + j) ((slide P (sortT (Z.take k)) (Z.getD k dT) (Z.drop (k + 1) ++ Q) j).getD (a + j - 1) dT))), (0 : Int) ≤ (((a + j : Nat) : Int) - 1) ∧ (((a + j : Nat) : Int) - 1) < ((n : Nat) : Int), 0 + ((((a + j : Nat) : Int) - 1) : Int).toNat * 5 = ((a + j - 1) * 5), ((a + j - 1) * 5) + 5 ≤ ((tns ((slide P (sortT (Z.take k)) (Z.getD k dT) (Z.drop (k + 1) ++ Q) j).set (a + j) ((slide P (sortT (Z.take k)) (Z.getD k dT) (Z.drop (k + 1) ++ Q) j).getD (a + j - 1) dT)))).length ∧ splice (tns ((slide P (sortT (Z.take k)) (Z.getD k dT) (Z.drop (k + 1) ++ Q) j).set (a + j) ((slide P (sortT (Z.take k)) (Z.getD k dT) (Z.drop (k + 1) ++ Q) j).getD (a + j - 1) dT))) ((a + j - 1) * 5) (tnC ((slide P (sortT (Z.take k)) (Z.getD k dT) (Z.drop (k + 1) ++ Q) j).getD (a + j) dT)) = (tns (((slide P (sortT (Z.take k)) (Z.getD k dT) (Z.drop (k + 1) ++ Q) j).set (a + j) ((slide P (sortT (Z.take k)) (Z.getD k dT) (Z.drop (k + 1) ++ Q) j).getD (a + j - 1) dT)).set (a + j - 1) ((slide P (sortT (Z.take k)) (Z.getD k dT) (Z.drop (k + 1) ++ Q) j).getD (a + j) dT)))]) mixed (by kernel_rfl) (by kernel_rfl) (obs_cons (by simp only [InK]; omega) (obs_cons (by simp only [InK]; omega) (obs_cons (by omega) (obs_cons (by omega) (obs_cons (flat_at tnC 5 (fun _ => rfl) dT (slide P (sortT (Z.take k)) (Z.getD k dT) (Z.drop (k + 1) ++ Q) j) (a + j - 1) 0 5 (by omega) (by decide)) (obs_cons (by omega) (obs_cons (by omega) (obs_cons (flat_at tnC 5 (fun _ => rfl) dT (slide P (sortT (Z.take k)) (Z.getD k dT) (Z.drop (k + 1) ++ Q) j) (a + j) 0 5 (by omega) (by decide)) (obs_cons (by omega) (obs_cons (by omega) (obs_cons (flat_splice tnC 5 (fun _ => rfl) (l := (slide P (sortT (Z.take k)) (Z.getD k dT) (Z.drop (k + 1) ++ Q) j)) (k := (a + j)) (v := ((slide P (sortT (Z.take k)) (Z.getD k dT) (Z.drop (k + 1) ++ Q) j).getD (a + j - 1) dT)) (by first | omega | (simp only [List.length_set]; omega))) (obs_cons (by omega) (obs_cons (by omega) (obs_cons (flat_splice tnC 5 (fun _ => rfl) (l := ((slide P (sortT (Z.take k)) (Z.getD k dT) (Z.drop (k + 1) ++ Q) j).set (a + j) ((slide P (sortT (Z.take k)) (Z.getD k dT) (Z.drop (k + 1) ++ Q) j).getD (a + j - 1) dT))) (k := (a + j - 1)) (v := ((slide P (sortT (Z.take k)) (Z.getD k dT) (Z.drop (k + 1) ++ Q) j).getD (a + j) dT)) (by first | omega | (simp only [List.length_set]; omega))) (obs_nil))))))))))))))) ?_
        refine T_blk ?_
        refine T_region [] [ks 0, ks 1, ks 2, ks 3, ks 8, ks 9, kb 0] (fun _ => mixed) (l' := [ps 0 (.osl 0 0 n), ps 1 (nv a), ps 2 (nv b), ps 3 (fv 22), ps 8 (nv (a + k)), ps 9 (iv (((a + j : Nat) : Int) - 1)), pb 0 41 (tns (((slide P (sortT (Z.take k)) (Z.getD k dT) (Z.drop (k + 1) ++ Q) j).set (a + j) ((slide P (sortT (Z.take k)) (Z.getD k dT) (Z.drop (k + 1) ++ Q) j).getD (a + j - 1) dT)).set (a + j - 1) ((slide P (sortT (Z.take k)) (Z.getD k dT) (Z.drop (k + 1) ++ Q) j).getD (a + j) dT)))]) (obs := [InK .i64 (((a + j : Nat) : Int) - 1)]) (by kernel_rfl) (obs_cons (by simp only [InK]; omega) (obs_nil)) ?_
        have h9 := h3
        rw [slide_z ha (by omega), slide_bf ha (by omega) (by omega)] at h9
        exact T_back ⟨j - 1, ⟨by omega, fun i g1 g2 => (Nat.lt_or_ge i j).elim (fun g => (show j - 1 = i from by omega) ▸ le_of_lt' h9) (fun g => hG i g g2)⟩⟩ (Wk.trans (Wk.eq (show _ = [ps 0 (.osl 0 0 n), ps 1 (nv a), ps 2 (nv b), ps 3 (fv 22), ps 8 (nv (a + k)), ps 9 (nv (a + (j - 1))), pb 0 41 (tns (slide P (sortT (Z.take k)) (Z.getD k dT) (Z.drop (k + 1) ++ Q) (j - 1)))] from by rw [slide_dn ha (by omega) (by omega), show (((a + j : Nat) : Int)) - 1 = ((a + (j - 1) : Nat) : Int) from by omega])) (Wk.ren3 [ps 0 (.osl 0 0 n), ps 1 (nv a), ps 2 (nv b), ps 3 (fv 22), ps 8 (nv (a + k)), ps 9 (nv (a + (j - 1))), pb 0 41 (tns (slide P (sortT (Z.take k)) (Z.getD k dT) (Z.drop (k + 1) ++ Q) (j - 1)))] 1 hc0 [0] [(kb 0, (tns (slide P (sortT (Z.take k)) (Z.getD k dT) (Z.drop (k + 1) ++ Q) (j - 1))))] (obs_cons (tns_shd _) (obs_nil)) (by kernel_rfl) rfl rfl (by kernel_rfl) (by kernel_rfl))) (show (j - 1) < j from by omega)
      · refine T_else (b := (decide ((ordS ((slide P (sortT (Z.take k)) (Z.getD k dT) (Z.drop (k + 1) ++ Q) j).getD (a + j) dT) ((slide P (sortT (Z.take k)) (Z.getD k dT) (Z.drop (k + 1) ++ Q) j).getD (a + j - 1) dT)) < 0))) rfl (decide_eq_false h3) ?_
        refine T_break rfl rfl ?_
        refine T_blk ?_
        refine T_region [] [ks 0, ks 1, ks 2, ks 3, ks 8, kb 0] (fun _ => mixed) (l' := [ps 0 (.osl 0 0 n), ps 1 (nv a), ps 2 (nv b), ps 3 (fv 22), ps 8 (iv (((a + k : Nat) : Int) + 1)), pb 0 41 (tns (slide P (sortT (Z.take k)) (Z.getD k dT) (Z.drop (k + 1) ++ Q) j))]) (obs := [InK .i64 (((a + k : Nat) : Int) + 1)]) (by kernel_rfl) (obs_cons (by simp only [InK]; omega) (obs_nil)) ?_
        have hN := insL_next (P := P) (Q := Q) (show k < Z.length from by omega) hj (Or.inr (by have h9 := h3; rw [slide_z ha (by omega), slide_bf ha (by omega) (by omega)] at h9; exact h9)) hG
        exact T_back ⟨k + 1, ⟨by omega, .inl (by omega)⟩⟩ (Wk.trans (Wk.eq (show _ = [ps 0 (.osl 0 0 n), ps 1 (nv a), ps 2 (nv b), ps 3 (fv 22), ps 8 (nv (a + (k + 1))), pb 0 41 (tns (insL P Z Q (k + 1)))] from by rw [← hN, show (((a + k : Nat) : Int)) + 1 = ((a + (k + 1) : Nat) : Int) from by omega])) (Wk.ren3 [ps 0 (.osl 0 0 n), ps 1 (nv a), ps 2 (nv b), ps 3 (fv 22), ps 8 (nv (a + (k + 1))), pb 0 41 (tns (insL P Z Q (k + 1)))] 1 hc0 [0] [(kb 0, (tns (insL P Z Q (k + 1))))] (obs_cons (tns_shd _) (obs_nil)) (by kernel_rfl) rfl rfl (by kernel_rfl) (by kernel_rfl))) (show Z.length - (k + 1) < Z.length - k from by omega)
    · refine T_regionD [(4, .gd false .no), (5, .gd false .no), (6, .gd false .no), (7, .gd false .no), (8, .gd false .no), (9, .gd false .no), (10, .gd false .no), (11, .gd false .no), (12, .gd false .no), (13, .gd false .no), (14, .gd false .no), (15, .gd false .no), (16, .yes false)] [[], [], [0, 1], [0, 1, 2], [0, 1, 2, 3], [0, 1, 2, 3], [0, 1, 2, 3], [0, 1, 2, 3, 5, 6], [0, 1, 2, 3, 5, 6, 7], [0, 1, 2, 3], [0, 1, 2, 3], [0, 1, 2, 3, 10], [0, 1, 2, 3, 9, 10, 11], [0, 1, 2, 3, 9, 10, 11, 12], [0, 1, 2, 3, 4, 5, 6, 7, 8, 9, 10, 11, 12, 13], [0, 1, 2, 3, 4, 5, 6, 7, 8, 9, 10, 11, 12, 13, 14], [0, 1, 2, 3, 4, 5, 6, 7, 8, 9, 10, 11, 12, 13, 14, 15]] [([36], [18]), ([38], [2]), ([40], [36, 38]), ([42], [40]), ([44], [42]), ([46], [42]), ([48], [42]), ([50], [42]), ([52], [42]), ([54], [42]), ([56], [42]), ([58], [42]), ([60], [42]), ([62], [42]), ([64], [42]), ([66], [42]), ([68], [42, 66])] [ks 0, ks 1, ks 2, ks 3, ks 8, ks 9, ks 34, kb 0] (l' := [ps 0 (.osl 0 0 n), ps 1 (nv a), ps 2 (nv b), ps 3 (fv 22), ps 8 (nv (a + k)), ps 9 (nv (a + j)), ps 34 (bv false), pb 0 41 (tns (slide P (sortT (Z.take k)) (Z.getD k dT) (Z.drop (k + 1) ++ Q) j))]) (obs := [(decide (((a : Nat) : Int) < ((a + j : Nat) : Int))) = false, (decide (((a : Nat) : Int) < ((a + j : Nat) : Int))) = false, (decide (((a : Nat) : Int) < ((a + j : Nat) : Int))) = false, (decide (((a : Nat) : Int) < ((a + j : Nat) : Int))) = false, (decide (((a : Nat) : Int) < ((a + j : Nat) : Int))) = false, (decide (((a : Nat) : Int) < ((a + j : Nat) : Int))) = false, (decide (((a : Nat) : Int) < ((a + j : Nat) : Int))) = false, (decide (((a : Nat) : Int) < ((a + j : Nat) : Int))) = false, (decide (((a : Nat) : Int) < ((a + j : Nat) : Int))) = false, (decide (((a : Nat) : Int) < ((a + j : Nat) : Int))) = false, (decide (((a : Nat) : Int) < ((a + j : Nat) : Int))) = false, (decide (((a : Nat) : Int) < ((a + j : Nat) : Int))) = false, (decide (((a : Nat) : Int) < ((a + j : Nat) : Int))) = false]) mixed (by kernel_rfl) (by kernel_rfl) (obs_cons (decide_eq_false h2) (obs_cons (decide_eq_false h2) (obs_cons (decide_eq_false h2) (obs_cons (decide_eq_false h2) (obs_cons (decide_eq_false h2) (obs_cons (decide_eq_false h2) (obs_cons (decide_eq_false h2) (obs_cons (decide_eq_false h2) (obs_cons (decide_eq_false h2) (obs_cons (decide_eq_false h2) (obs_cons (decide_eq_false h2) (obs_cons (decide_eq_false h2) (obs_cons (decide_eq_false h2) (obs_nil)))))))))))))) ?_
      refine T_else (b := false) rfl rfl ?_
      refine T_break rfl rfl ?_
      refine T_blk ?_
      refine T_region [] [ks 0, ks 1, ks 2, ks 3, ks 8, kb 0] (fun _ => mixed) (l' := [ps 0 (.osl 0 0 n), ps 1 (nv a), ps 2 (nv b), ps 3 (fv 22), ps 8 (iv (((a + k : Nat) : Int) + 1)), pb 0 41 (tns (slide P (sortT (Z.take k)) (Z.getD k dT) (Z.drop (k + 1) ++ Q) j))]) (obs := [InK .i64 (((a + k : Nat) : Int) + 1)]) (by kernel_rfl) (obs_cons (by simp only [InK]; omega) (obs_nil)) ?_
      have hN := insL_next (P := P) (Q := Q) (show k < Z.length from by omega) hj (Or.inl (by omega)) hG
      exact T_back ⟨k + 1, ⟨by omega, .inl (by omega)⟩⟩ (Wk.trans (Wk.eq (show _ = [ps 0 (.osl 0 0 n), ps 1 (nv a), ps 2 (nv b), ps 3 (fv 22), ps 8 (nv (a + (k + 1))), pb 0 41 (tns (insL P Z Q (k + 1)))] from by rw [← hN, show (((a + k : Nat) : Int)) + 1 = ((a + (k + 1) : Nat) : Int) from by omega])) (Wk.ren3 [ps 0 (.osl 0 0 n), ps 1 (nv a), ps 2 (nv b), ps 3 (fv 22), ps 8 (nv (a + (k + 1))), pb 0 41 (tns (insL P Z Q (k + 1)))] 1 hc0 [0] [(kb 0, (tns (insL P Z Q (k + 1))))] (obs_cons (tns_shd _) (obs_nil)) (by kernel_rfl) rfl rfl (by kernel_rfl) (by kernel_rfl))) (show Z.length - (k + 1) < Z.length - k from by omega)
  · refine T_else (b := (decide (((a + k : Nat) : Int) < ((b : Nat) : Int)))) rfl (decide_eq_false h1) ?_
    refine T_break rfl rfl ?_
    exact fun cx_ a_ hI_ => ret_ok (H' := [some (41, (tns (P ++ (sortT Z ++ Q))))]) (.inl rfl) (Wk.trans (Wk.eq (show _ = [ps 0 (.osl 0 0 n), ps 1 (nv a), ps 2 (nv b), ps 3 (fv 22), ps 8 (nv (a + k)), ps 14 (bv (decide (((a + k : Nat) : Int) < ((b : Nat) : Int)))), pb 0 41 (tns (P ++ (sortT Z ++ Q)))] from by rw [insL_all (by omega)])) (Wk.ren3 [pb 0 41 (tns (P ++ (sortT Z ++ Q)))] 1 hc0 [0] [(kb 0, (tns (P ++ (sortT Z ++ Q))))] (obs_cons (tns_shd _) (obs_nil)) (by kernel_rfl) rfl rfl (by kernel_rfl) (by kernel_rfl))) rfl (obs_cons rfl (obs_nil)) (fun cx_ a_ hI_ => ret_res (l' := [pb 0 41 (tns (P ++ (sortT Z ++ Q)))]) (by kernel_rfl) cx_ a_ hI_) hI_
end Go.Proofs.Ytjdblogapkbefaa.Pm
namespace Go.Proofs.Ytjdblogapkbefaa.Pm
open Go

structure SymOk (L P X Y Q : List Tn) (n a m b : Nat) : Prop where
  hL : L = P ++ (X ++ (Y ++ Q))
  hn : L.length = n
  hn2 : n ≤ 4096
  ha : P.length = a
  hm : a + X.length = m
  hb : m + Y.length = b
  h1 : 1 ≤ X.length
  h2 : 1 ≤ Y.length
  hX : Srt X
  hY : Srt Y
  hB : Bd L
theorem SymOk.bn {L P X Y Q : List Tn} {n a m b : Nat} (h : SymOk L P X Y Q n a m b) : b ≤ n := by
  have := congrArg List.length h.hL
  simp only [List.length_append] at this
  have := h.hn; have := h.ha; have := h.hm; have := h.hb
  omega
theorem SymOk.at_x {L P X Y Q : List Tn} {n a m b : Nat} (h : SymOk L P X Y Q n a m b) {i : Nat} (hi : i < X.length) : L.getD (a + i) dT = X.getD i dT := by rw [h.hL, ← h.ha]; exact row_x hi
theorem SymOk.at_y {L P X Y Q : List Tn} {n a m b : Nat} (h : SymOk L P X Y Q n a m b) {i : Nat} (hi : i < Y.length) : L.getD (m + i) dT = Y.getD i dT := by rw [h.hL, ← h.hm, ← h.ha]; exact row_y hi
theorem one_eq {X : List Tn} (h : X.length = 1) : X = [X.getD 0 dT] := by
  match X, h with
  | [x], _ => rfl
theorem slide_u {P S Q : List Tn} {z : Tn} {j a : Nat} (ha : P.length = a) (h : j < S.length) : ((slide P S z Q j).set (a + j) ((slide P S z Q j).getD (a + j + 1) dT)).set (a + j + 1) ((slide P S z Q j).getD (a + j) dT) = slide P S z Q (j + 1) := by
  rw [← ha]; exact slide_up h
/-- One put among the others, from ahead. -/
theorem SymOk.s0 {L P X Y Q : List Tn} {n a m b : Nat} (h : SymOk L P X Y Q n a m b) (k : X.length = 1) : L = slide P Y (X.getD 0 dT) Q 0 := by
  conv => lhs; rw [h.hL, one_eq k]
  rfl
theorem SymOk.s1 {L P X Y Q : List Tn} {n a m b i : Nat} (h : SymOk L P X Y Q n a m b) (k : X.length = 1) (hF : Fnd Y (fun t => ordS t (X.getD 0 dT) < 0) i i) : slide P Y (X.getD 0 dT) Q i = P ++ (sortT (X ++ Y) ++ Q) := by
  rw [slide_done h.hY (fun c g1 _ => le_of_lt' (hF.2.2.1 c g1)) (fun c g1 g2 => le_of_not' (hF.2.2.2 c g1 g2))]
  conv => rhs; rw [one_eq k]
  rfl
/-- One put among the others, from behind. -/
theorem SymOk.t0 {L P X Y Q : List Tn} {n a m b : Nat} (h : SymOk L P X Y Q n a m b) (k : Y.length = 1) : L = slide P X (Y.getD 0 dT) Q X.length := by
  conv => lhs; rw [h.hL, one_eq k]
  simp [slide]
theorem SymOk.t1 {L P X Y Q : List Tn} {n a m b i : Nat} (h : SymOk L P X Y Q n a m b) (k : Y.length = 1) (hF : Fnd X (fun t => ¬ ordS (Y.getD 0 dT) t < 0) i i) : slide P X (Y.getD 0 dT) Q i = P ++ (sortT (X ++ Y) ++ Q) := by
  rw [slide_done h.hX (fun c g1 _ => le_of_not' (hF.2.2.1 c g1)) (fun c g1 g2 => le_of_lt' (Decidable.not_not.1 (hF.2.2.2 c g1 g2)))]
  congr 2
  apply sortT_congr
  conv => rhs; rw [one_eq k]
  exact (List.perm_append_singleton _ _).symm
theorem SymOk.fnd_y {L P X Y Q : List Tn} {n a m b : Nat} (h : SymOk L P X Y Q n a m b) : Fnd Y (fun t => ordS t (X.getD 0 dT) < 0) 0 (b - m) := by
  have := h.hb
  rw [show b - m = Y.length from by omega]; exact Fnd.start
theorem SymOk.fnd_x {L P X Y Q : List Tn} {n a m b : Nat} (h : SymOk L P X Y Q n a m b) : Fnd X (fun t => ¬ ordS (Y.getD 0 dT) t < 0) 0 (m - a) := by
  have := h.hm
  rw [show m - a = X.length from by omega]; exact Fnd.start

/-! ### In quarters -/
def q1 (P A B C D Q : List Tn) : List Tn := P ++ (A ++ (C ++ (B ++ (D ++ Q))))
def q2 (P A B C D Q : List Tn) : List Tn := P ++ (sortT (A ++ C) ++ (B ++ (D ++ Q)))
def q3 (P A B C D Q : List Tn) : List Tn := P ++ sortT (A ++ C) ++ (sortT (B ++ D) ++ Q)
structure Qrt (L P X Y Q A B C D : List Tn) (n a m b s : Nat) : Prop where
  ok : SymOk L P X Y Q n a m b
  x : X = A ++ B
  y : Y = C ++ D
  lA : A.length = s - a
  lB : B.length = m - s
  lC : C.length = (a + b) / 2 + m - s - m
  lD : D.length = b - ((a + b) / 2 + m - s)
  sA : Srt A
  sB : Srt B
  sC : Srt C
  sD : Srt D
  e : sortT (X ++ Y) = sortT (A ++ C) ++ sortT (B ++ D)
  b1 : a ≤ s
  b2 : s ≤ m
  b3 : s ≤ (a + b) / 2
  b4 : (a + b) / 2 + m - s ≤ b
theorem Qrt.of {L P X Y Q : List Tn} {n a m b lo hi s r : Nat} (h : SymOk L P X Y Q n a m b) (hS : Sch L ((a + b) / 2 + m - 1) lo hi s r) (hr : r = s) (k : (m ≤ (a + b) / 2 ∧ lo = a ∧ hi = m) ∨ ((a + b) / 2 < m ∧ lo = (a + b) / 2 + m - b ∧ hi = (a + b) / 2)) :
    ∃ A B C D, Qrt L P X Y Q A B C D n a m b s := by
  subst hr
  have h1 := h.hm; have h2 := h.hb; have h3 := h.h1; have h4 := h.h2
  have g1 := hS.1; have g2 := hS.2.1; have g3 := hS.2.2.1
  obtain ⟨A, B, C, D, e1, e2, e3, e4, e5, e6, e7, e8, e9, e10, e11⟩ := mrg_end h.hL h.ha h.hm h.hb h.hX h.hY hS (by omega) (by omega) k
  exact ⟨A, B, C, D, h, e1, e2, e3, e4, e5, e6, e7, e8, e9, e10, e11, by omega, by omega, by omega, by omega⟩
theorem SymOk.dom {L P X Y Q : List Tn} {n a m b lo hi : Nat} (h : SymOk L P X Y Q n a m b) (k : (m ≤ (a + b) / 2 ∧ lo = a ∧ hi = m) ∨ ((a + b) / 2 < m ∧ lo = (a + b) / 2 + m - b ∧ hi = (a + b) / 2)) : Dom L ((a + b) / 2 + m - 1) lo hi := by
  have h1 := h.hm; have h2 := h.hb; have h3 := h.h1; have h4 := h.h2
  exact mrg_dom h.hL h.ha h.hm h.hb h.hX h.hY (by omega) (by omega) (fun c g1 g2 => by omega)
theorem nil_of {l : List Tn} (h : l.length = 0) : l = [] := List.eq_nil_of_length_eq_zero h
theorem Qrt.l {L P X Y Q A B C D : List Tn} {n a m b s : Nat} (h : Qrt L P X Y Q A B C D n a m b s) : L = P ++ (A ++ (B ++ (C ++ (D ++ Q)))) := by
  rw [h.ok.hL, h.x, h.y]; simp only [List.append_assoc]
theorem Qrt.rot {L P X Y Q A B C D : List Tn} {n a m b s : Nat} (h : Qrt L P X Y Q A B C D n a m b s) (h1 : s < m) (h2 : m < (a + b) / 2 + m - s) : Rot m (q1 P A B C D Q) L (m - s) ((a + b) / 2 + m - s - m) := by
  refine ⟨P ++ A, B, C, D ++ Q, ?_, ?_, ?_, h.lB, h.lC, by omega, by omega⟩
  · rw [h.l]; simp only [List.append_assoc]
  · simp only [q1, List.append_assoc]
  · have := h.ok.ha; have := h.lA; have := h.lB; have := h.b1
    simp only [List.length_append]; omega
theorem Qrt.norot {L P X Y Q A B C D : List Tn} {n a m b s : Nat} (h : Qrt L P X Y Q A B C D n a m b s) (h1 : ¬ (s < m ∧ m < (a + b) / 2 + m - s)) : L = q1 P A B C D Q := by
  have h2 := h.lB; have h3 := h.lC
  rw [h.l, q1]
  rcases (show B.length = 0 ∨ C.length = 0 from by omega) with e | e
  · rw [nil_of e]; rfl
  · rw [nil_of e]; rfl
theorem Qrt.len1 {L P X Y Q A B C D : List Tn} {n a m b s : Nat} (h : Qrt L P X Y Q A B C D n a m b s) : (q1 P A B C D Q).length = n := by
  rw [← h.ok.hn, h.l]; simp only [q1, List.length_append]; omega
theorem Qrt.len2 {L P X Y Q A B C D : List Tn} {n a m b s : Nat} (h : Qrt L P X Y Q A B C D n a m b s) : (q2 P A B C D Q).length = n := by
  rw [← h.ok.hn, h.l]; simp only [q2, List.length_append, sortT_len]; omega
theorem Qrt.bd1 {L P X Y Q A B C D : List Tn} {n a m b s : Nat} (h : Qrt L P X Y Q A B C D n a m b s) : Bd (q1 P A B C D Q) := by
  have := h.ok.hB
  rw [h.l] at this
  intro t ht
  apply this t
  simp only [q1, List.mem_append] at *
  rcases ht with h | h | h | h | h | h
  · exact .inl h
  · exact .inr (.inl h)
  · exact .inr (.inr (.inr (.inl h)))
  · exact .inr (.inr (.inl h))
  · exact .inr (.inr (.inr (.inr (.inl h))))
  · exact .inr (.inr (.inr (.inr (.inr h))))
theorem Qrt.bd2 {L P X Y Q A B C D : List Tn} {n a m b s : Nat} (h : Qrt L P X Y Q A B C D n a m b s) : Bd (q2 P A B C D Q) := by
  have := h.bd1
  intro t ht
  apply this t
  simp only [q1, q2, List.mem_append, sortT_mem] at *
  rcases ht with h | (h | h) | h | h | h
  · exact .inl h
  · exact .inr (.inl h)
  · exact .inr (.inr (.inl h))
  · exact .inr (.inr (.inr (.inl h)))
  · exact .inr (.inr (.inr (.inr (.inl h))))
  · exact .inr (.inr (.inr (.inr (.inr h))))
theorem Qrt.ok1 {L P X Y Q A B C D : List Tn} {n a m b s : Nat} (h : Qrt L P X Y Q A B C D n a m b s) (h1 : a < s) (h2 : s < (a + b) / 2) : SymOk (q1 P A B C D Q) P A C (B ++ (D ++ Q)) n a s ((a + b) / 2) := by
  have g1 := h.lA; have g2 := h.lC; have g3 := h.b1
  exact ⟨rfl, h.len1, h.ok.hn2, h.ok.ha, by omega, by omega, by omega, by omega, h.sA, h.sC, h.bd1⟩
theorem Qrt.no1 {L P X Y Q A B C D : List Tn} {n a m b s : Nat} (h : Qrt L P X Y Q A B C D n a m b s) (h1 : ¬ (a < s ∧ s < (a + b) / 2)) : q1 P A B C D Q = q2 P A B C D Q := by
  have g1 := h.lA; have g2 := h.lC
  rw [q1, q2]
  rcases (show A.length = 0 ∨ C.length = 0 from by omega) with e | e
  · rw [nil_of e, List.nil_append, List.nil_append, sortT_srtd h.sC]
  · rw [nil_of e, List.append_nil, List.nil_append, sortT_srtd h.sA]
theorem Qrt.ok2 {L P X Y Q A B C D : List Tn} {n a m b s : Nat} (h : Qrt L P X Y Q A B C D n a m b s) (h1 : (a + b) / 2 < (a + b) / 2 + m - s) (h2 : (a + b) / 2 + m - s < b) : SymOk (q2 P A B C D Q) (P ++ sortT (A ++ C)) B D Q n ((a + b) / 2) ((a + b) / 2 + m - s) b := by
  have g1 := h.lA; have g2 := h.lB; have g3 := h.lC; have g4 := h.lD; have g5 := h.b1; have g6 := h.b2; have g7 := h.b3; have g8 := h.ok.ha
  exact ⟨by simp only [q2, List.append_assoc], h.len2, h.ok.hn2, by simp only [List.length_append, sortT_len]; omega, by omega, by omega, by omega, by omega, h.sB, h.sD, h.bd2⟩
theorem Qrt.no2 {L P X Y Q A B C D : List Tn} {n a m b s : Nat} (h : Qrt L P X Y Q A B C D n a m b s) (h1 : ¬ ((a + b) / 2 < (a + b) / 2 + m - s ∧ (a + b) / 2 + m - s < b)) : q2 P A B C D Q = q3 P A B C D Q := by
  have g1 := h.lB; have g2 := h.lD; have g3 := h.b2; have g4 := h.b4
  rw [q2, q3]
  rcases (show B.length = 0 ∨ D.length = 0 from by omega) with e | e
  · rw [nil_of e, List.nil_append, List.nil_append, sortT_srtd h.sD, List.append_assoc]
  · rw [nil_of e, List.append_nil, List.nil_append, sortT_srtd h.sB, List.append_assoc]
theorem Qrt.fin {L P X Y Q A B C D : List Tn} {n a m b s : Nat} (h : Qrt L P X Y Q A B C D n a m b s) : q3 P A B C D Q = P ++ (sortT (X ++ Y) ++ Q) := by
  rw [h.e]; simp only [q3, List.append_assoc]

end Go.Proofs.Ytjdblogapkbefaa.Pm
