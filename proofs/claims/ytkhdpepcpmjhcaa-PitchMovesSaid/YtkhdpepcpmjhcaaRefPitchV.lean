/-
  THE WALKS of pitches: of the reference: At, Between, Sum, Move, Mirror.
-/
import Derived.Test.YtkhdpepcpmjhcaaRefPitchW
namespace Go.Proofs.Ytkhdpepcpmjhcaa.Pi
open Go.RowKit

/-- What At tells, as a value. -/
def RA (s h : Int) : Value := .tuple #[.agg #[.int .i64 (s % 7), .int .i64 (h - white s), .int .i64 (s / 7)], .bool (rightB (s % 7) (h - white s) (s / 7))]

set_option maxHeartbeats 4000000 in
theorem ref_at_any (s h : Int) (w : World) (h0 : -1000 ≤ s ∧ s ≤ 1000) (h1 : -100000 ≤ h ∧ h ≤ 100000) :
    Calls Try.prog 27 #[.int .i64 s, .int .i64 h] w fun e w' => e = .returned (RA s h) ∧ Below w.heap.size w w' := by
  have hwb := white_bd s h0
  have hA : I64 (h - white s) := by unfold I64; omega
  have hL : 0 ≤ s % 7 ∧ s % 7 ≤ 6 := by omega
  have hO : -1000 ≤ s / 7 ∧ s / 7 ≤ 1000 := by omega
  go_enter Try.func27, Try.ntmps27
  go_wp2
  go_loop [6, 7] (fun x y => ∃ q : Int, x = .int .i64 q ∧ y = .int .i64 (s - 7 * q) ∧ -1000 ≤ q ∧ q ≤ 0 ∧ (q = 0 ∨ s - 7 * q < 7)) (fun _ y => (-(intOf y)).toNat)
  case atStart => exact ⟨0, rfl, by go_num, by omega, by omega, by omega⟩
  case round =>
    obtain ⟨q, rfl, rfl, q1, q2, q3⟩ := hrel
    by_cases hc : s - 7 * q < 0
    · go_wp2
      go_round
      case rel => exact ⟨q - 1, rfl, by go_num, by omega, by omega, by omega⟩
      case measure => (simp [intOf] <;> omega)
    · have hc' : 0 ≤ s - 7 * q := by omega
      clear hc
      go_wp2
      go_loop [6, 7] (fun x y => ∃ r : Int, x = .int .i64 r ∧ y = .int .i64 (s - 7 * r) ∧ -1000 ≤ r ∧ 0 ≤ s - 7 * r ∧ r ≤ 1000) (fun _ y => (intOf y).toNat)
      case atStart => exact ⟨q, rfl, rfl, by omega, by omega, by omega⟩
      case round =>
        obtain ⟨r, rfl, rfl, r1, r2, r3⟩ := hrel
        clear hc' q3 q1 q2
        by_cases hd : 6 < s - 7 * r
        · go_wp2
          go_round
          case rel => exact ⟨r + 1, rfl, by go_num, by omega, by omega, by omega⟩
          case measure => (simp [intOf] <;> omega)
        · obtain ⟨rO, rL⟩ : r = s / 7 ∧ s - 7 * r = s % 7 := by omega
          subst rO
          have HL := Lib.hid rL
          clear rL
          have hd' : s - 7 * (s / 7) ≤ 6 := by omega
          clear hd
          go_wp2_with (go_at_call 29; refine (white_any s _ h0.1 h0.2).mono ?_; rintro e w1 ⟨rfl, rfl⟩)
          obtain ⟨m, hm⟩ : ∃ m, m = s - 7 * (s / 7) := ⟨_, rfl⟩
          rw [← hm]
          have HM := Lib.hid (hm.trans HL.out)
          clear hm
          obtain ⟨W, hW⟩ : ∃ W, W = (w.alloc (Obj.cells #[Value.int .i64 0, Value.int .i64 0, Value.int .i64 0] 23)).alloc (Obj.cells #[Value.int .i64 m, Value.int .i64 (h - white s), Value.int .i64 (s / 7)] 23) := ⟨_, rfl⟩
          have zr : w.heap.size < W.heap.size := by rw [hW]; simp; omega
          have zq : w.heap.size + 1 < W.heap.size := by rw [hW]; simp
          have cr0 : W.cell? ⟨w.heap.size, 0, none⟩ = some (.int .i64 (0)) := by rw [hW]; go_simp
          have fr0 : W.frozen? ⟨w.heap.size, 0, none⟩ = false := by rw [hW]; go_simp
          have cr1 : W.cell? ⟨w.heap.size, 1, none⟩ = some (.int .i64 (0)) := by rw [hW]; go_simp
          have fr1 : W.frozen? ⟨w.heap.size, 1, none⟩ = false := by rw [hW]; go_simp
          have cr2 : W.cell? ⟨w.heap.size, 2, none⟩ = some (.int .i64 (0)) := by rw [hW]; go_simp
          have fr2 : W.frozen? ⟨w.heap.size, 2, none⟩ = false := by rw [hW]; go_simp
          have cq0 : W.cell? ⟨w.heap.size + 1, 0, none⟩ = some (.int .i64 (m)) := by rw [hW]; go_simp
          have cq1 : W.cell? ⟨w.heap.size + 1, 1, none⟩ = some (.int .i64 (h - white s)) := by rw [hW]; go_simp
          have cq2 : W.cell? ⟨w.heap.size + 1, 2, none⟩ = some (.int .i64 (s / 7)) := by rw [hW]; go_simp
          have hBW : Below w.heap.size w W := by rw [hW]; exact (by repeat (first | exact Below.refl _ _ | assumption | refine below_drewN ?_ _ | refine Below.drew ?_ | refine below_new ?_ _ | refine Below.setCell ?_ (by first | omega | (simp <;> omega)) _ | refine below_then (by assumption) ?_))
          rw [← hW]
          clear hW
          have hE := Ext.cells W
          refine wp_region_ext_tail 3 (by kernel_rfl) (by kernel_rfl) ?_
          simp only [List.take_succ_cons, List.take_zero, List.drop_succ_cons, List.drop_zero]
          repeat go_big_quiet_step ((first | (go_at_call 14; with_reducible refine ext_call (ref_right_any m (h - white s) (s / 7) _ hA))))
          refine wpQuiet_nil ?_
          rintro wd ⟨⟨_, hbd⟩, rfl⟩
          have kr0 := cell_then cr0 hbd
          have kr1 := cell_then cr1 hbd
          have kr2 := cell_then cr2 hbd
          have lr0 := (hbd.frozen (p := ⟨w.heap.size, 0, none⟩) zr).trans fr0
          have lr1 := (hbd.frozen (p := ⟨w.heap.size, 1, none⟩) zr).trans fr1
          have lr2 := (hbd.frozen (p := ⟨w.heap.size, 2, none⟩) zr).trans fr2
          have hBd : Below w.heap.size w wd := below_then hbd hBW
          go_wp2
          exact bodyPost_ret (v := .tuple #[.agg #[.int .i64 m, .int .i64 (h - white s), .int .i64 (s / 7)], .bool (rightB m (h - white s) (s / 7))])
            (by simp [results, Try.results27, go_sem, kr0, kr1, kr2]) rfl ⟨by rw [RA, HM.out], (by repeat (first | exact Below.refl _ _ | assumption | refine below_drewN ?_ _ | refine Below.drew ?_ | refine below_new ?_ _ | refine Below.setCell ?_ (by first | omega | (simp <;> omega)) _ | refine below_then (by assumption) ?_))⟩

set_option maxHeartbeats 1000000 in
theorem ref_between_yes (l a o l' a' o' : Int) (w : World) (ha : I64 a) (ha' : I64 a') (h1 : rightB l a o = true) (h2 : rightB l' a' o' = true) :
    Calls Try.prog 15 #[.agg #[.int .i64 l, .int .i64 a, .int .i64 o], .agg #[.int .i64 l', .int .i64 a', .int .i64 o']] w fun e w' =>
      e = .returned (R3 (between l a o l' a' o')) ∧ Below w.heap.size w w' := by
  have HR := Lib.hid (between_of h1 h2)
  have hr1 := rightB_iff.1 h1
  have hr2 := rightB_iff.1 h2
  have q1 := bounds h1
  have q2 := bounds h2
  go_enter Try.func15, Try.ntmps15
  go_wp2_with (first
    | (go_at_call 14; with_reducible refine (ref_right_any l a o _ ha).mono ?_; rintro e w1 ⟨rfl, hb1⟩; have hz := hb1.size; simp at hz; obtain ⟨z1, z2, z3⟩ := three hz; obtain ⟨hc, hf⟩ := bcell hb1)
    | (go_at_call 14; with_reducible refine (ref_right_any l' a' o' _ ha').mono ?_; rintro e w2 ⟨rfl, hb2⟩; have hz2 := hb2.size; have y1 : w.heap.size < w2.heap.size := (by omega); have y2 : w.heap.size + 1 < w2.heap.size := (by omega); have y3 : w.heap.size + 1 + 1 < w2.heap.size := (by omega); obtain ⟨hc2, hf2⟩ := bcell hb2))
  have hE := Ext.cells w2
  refine wp_region_ext_tail 11 (by kernel_rfl) (by kernel_rfl) ?_
  simp only [List.take_succ_cons, List.take_zero, List.drop_succ_cons, List.drop_zero]
  repeat go_big_quiet_step ((first | (go_at_call 25; with_reducible refine ext_call (ref_steps_any l a o _ h1)) | (go_at_call 25; with_reducible refine ext_call (ref_steps_any l' a' o' _ h2)) | (go_at_call 23; with_reducible refine ext_call (ref_halves_any l a o _ h1)) | (go_at_call 23; with_reducible refine ext_call (ref_halves_any l' a' o' _ h2))))
  refine wpQuiet_nil ?_
  rintro wd ⟨⟨_, hbd⟩, rfl⟩
  obtain ⟨hcd, hfd⟩ := bcell hbd
  have zd := hbd.size
  have y4 : w.heap.size + 1 + 1 < wd.heap.size := by omega
  go_wp2
  exact bodyPost_ret (v := R3 (steps l' o' - steps l o, halves l' a' o' - halves l a o, 0)) (by simp [results, Try.results15, go_sem, R3, hcd, hc2, hc, y3, z3]) rfl ⟨by rw [HR.out], (by repeat (first | exact Below.refl _ _ | assumption | refine below_drewN ?_ _ | refine Below.drew ?_ | refine below_new ?_ _ | refine Below.setCell ?_ (by first | omega | (simp <;> omega)) _ | refine below_then (by assumption) ?_))⟩

set_option maxHeartbeats 1000000 in
theorem ref_between_no (l a o l' a' o' : Int) (w : World) (ha : I64 a) (ha' : I64 a') (h : (rightB l a o && rightB l' a' o') = false) :
    Calls Try.prog 15 #[.agg #[.int .i64 l, .int .i64 a, .int .i64 o], .agg #[.int .i64 l', .int .i64 a', .int .i64 o']] w fun e w' =>
      e = .returned (R3 (between l a o l' a' o')) ∧ Below w.heap.size w w' := by
  have HR := Lib.hid (show between l a o l' a' o' = (0, 0, 2) by simp [between, h])
  by_cases h1 : rightB l a o = true
  · have h2 : rightB l' a' o' = false := by simpa [h1] using h
    clear h
    go_enter Try.func15, Try.ntmps15
    go_wp2_with (first
      | (go_at_call 14; with_reducible refine (ref_right_any l a o _ ha).mono ?_; rintro e w1 ⟨rfl, hb1⟩; have hz := hb1.size; simp at hz; obtain ⟨z1, z2, z3⟩ := three hz; obtain ⟨hc, hf⟩ := bcell hb1)
      | (go_at_call 14; with_reducible refine (ref_right_any l' a' o' _ ha').mono ?_; rintro e w2 ⟨rfl, hb2⟩; have hz2 := hb2.size; have y3 : w.heap.size + 1 + 1 < w2.heap.size := (by omega); obtain ⟨hc2, hf2⟩ := bcell hb2))
    exact bodyPost_ret (v := R3 (0, 0, 2)) (by simp [results, Try.results15, go_sem, R3, hc2, hc, z3]) rfl ⟨by rw [HR.out], (by repeat (first | exact Below.refl _ _ | assumption | refine below_drewN ?_ _ | refine Below.drew ?_ | refine below_new ?_ _ | refine Below.setCell ?_ (by first | omega | (simp <;> omega)) _ | refine below_then (by assumption) ?_))⟩
  · simp only [Bool.not_eq_true] at h1
    clear h
    go_enter Try.func15, Try.ntmps15
    go_wp2_with (go_at_call 14; with_reducible refine (ref_right_any l a o _ ha).mono ?_; rintro e w1 ⟨rfl, hb1⟩; have hz := hb1.size; simp at hz; obtain ⟨z1, z2, z3⟩ := three hz; obtain ⟨hc, hf⟩ := bcell hb1)
    exact bodyPost_ret (v := R3 (0, 0, 2)) (by simp [results, Try.results15, go_sem, R3, hc]) rfl ⟨by rw [HR.out], (by repeat (first | exact Below.refl _ _ | assumption | refine below_drewN ?_ _ | refine Below.drew ?_ | refine below_new ?_ _ | refine Below.setCell ?_ (by first | omega | (simp <;> omega)) _ | refine below_then (by assumption) ?_))⟩

theorem ref_between_any (l a o l' a' o' : Int) (w : World) (ha : I64 a) (ha' : I64 a') :
    Calls Try.prog 15 #[.agg #[.int .i64 l, .int .i64 a, .int .i64 o], .agg #[.int .i64 l', .int .i64 a', .int .i64 o']] w fun e w' =>
      e = .returned (R3 (between l a o l' a' o')) ∧ Below w.heap.size w w' := by
  by_cases h : (rightB l a o && rightB l' a' o') = true
  · rw [Bool.and_eq_true] at h; exact ref_between_yes l a o l' a' o' w ha ha' h.1 h.2
  · exact ref_between_no l a o l' a' o' w ha ha' (by simpa only [Bool.not_eq_true] using h)

set_option maxHeartbeats 2000000 in
theorem ref_sum_any (s h s' h' : Int) (w : World) :
    Calls Try.prog 17 #[.agg #[.int .i64 s, .int .i64 h], .agg #[.int .i64 s', .int .i64 h']] w fun e w' =>
      e = .returned (R3 (sum s h s' h')) ∧ Below w.heap.size w w' := by
  by_cases h1 : withinB s h = true
  · by_cases h2 : withinB s' h' = true
    · have b1 := withinB_iff.1 h1
      have b2 := withinB_iff.1 h2
      by_cases h3 : withinB (s + s') (h + h') = true
      · have HR := Lib.hid (sum_ok h1 h2 h3)
        go_enter Try.func17, Try.ntmps17
        go_wp2_with (first
          | (go_at_call 26; with_reducible refine (ref_within_any s h _).mono ?_; rintro e w1 ⟨rfl, hb1⟩; have hz1 := hb1.size; (try simp at hz1); have zx1 : w.heap.size < w1.heap.size := (by first | omega | (simp; omega)); have cx0_1 : w1.cell? ⟨w.heap.size, 0, none⟩ = some (.int .i64 (s)) := (hb1.cell (by first | assumption | (simp <;> omega))).trans (by go_simp); have cx1_1 : w1.cell? ⟨w.heap.size, 1, none⟩ = some (.int .i64 (h)) := (hb1.cell (by first | assumption | (simp <;> omega))).trans (by go_simp); have zy1 : w.heap.size + 1 < w1.heap.size := (by first | omega | (simp; omega)); have cy0_1 : w1.cell? ⟨w.heap.size + 1, 0, none⟩ = some (.int .i64 (s')) := (hb1.cell (by first | assumption | (simp <;> omega))).trans (by go_simp); have cy1_1 : w1.cell? ⟨w.heap.size + 1, 1, none⟩ = some (.int .i64 (h')) := (hb1.cell (by first | assumption | (simp <;> omega))).trans (by go_simp); have zr1 : w.heap.size + 1 + 1 < w1.heap.size := (by first | omega | (simp; omega)); have cr0_1 : w1.cell? ⟨w.heap.size + 1 + 1, 0, none⟩ = some (.int .i64 (0)) := (hb1.cell (by first | assumption | (simp <;> omega))).trans (by go_simp); have fr0_1 : w1.frozen? ⟨w.heap.size + 1 + 1, 0, none⟩ = false := (hb1.frozen (by first | assumption | (simp <;> omega))).trans (by go_simp); have cr1_1 : w1.cell? ⟨w.heap.size + 1 + 1, 1, none⟩ = some (.int .i64 (0)) := (hb1.cell (by first | assumption | (simp <;> omega))).trans (by go_simp); have fr1_1 : w1.frozen? ⟨w.heap.size + 1 + 1, 1, none⟩ = false := (hb1.frozen (by first | assumption | (simp <;> omega))).trans (by go_simp))
          | (go_at_call 26; with_reducible refine (ref_within_any s' h' _).mono ?_; rintro e w2 ⟨rfl, hb2⟩; have hz2 := hb2.size; (try simp at hz2); have zx2 : w.heap.size < w2.heap.size := (by first | omega | (simp; omega)); have cx0_2 : w2.cell? ⟨w.heap.size, 0, none⟩ = some (.int .i64 (s)) := (hb2.cell (by first | assumption | (simp <;> omega))).trans (by go_simp); have cx1_2 : w2.cell? ⟨w.heap.size, 1, none⟩ = some (.int .i64 (h)) := (hb2.cell (by first | assumption | (simp <;> omega))).trans (by go_simp); have zy2 : w.heap.size + 1 < w2.heap.size := (by first | omega | (simp; omega)); have cy0_2 : w2.cell? ⟨w.heap.size + 1, 0, none⟩ = some (.int .i64 (s')) := (hb2.cell (by first | assumption | (simp <;> omega))).trans (by go_simp); have cy1_2 : w2.cell? ⟨w.heap.size + 1, 1, none⟩ = some (.int .i64 (h')) := (hb2.cell (by first | assumption | (simp <;> omega))).trans (by go_simp); have zr2 : w.heap.size + 1 + 1 < w2.heap.size := (by first | omega | (simp; omega)); have cr0_2 : w2.cell? ⟨w.heap.size + 1 + 1, 0, none⟩ = some (.int .i64 (0)) := (hb2.cell (by first | assumption | (simp <;> omega))).trans (by go_simp); have fr0_2 : w2.frozen? ⟨w.heap.size + 1 + 1, 0, none⟩ = false := (hb2.frozen (by first | assumption | (simp <;> omega))).trans (by go_simp); have cr1_2 : w2.cell? ⟨w.heap.size + 1 + 1, 1, none⟩ = some (.int .i64 (0)) := (hb2.cell (by first | assumption | (simp <;> omega))).trans (by go_simp); have fr1_2 : w2.frozen? ⟨w.heap.size + 1 + 1, 1, none⟩ = false := (hb2.frozen (by first | assumption | (simp <;> omega))).trans (by go_simp))
          | (go_at_call 26; with_reducible refine (ref_within_any (s + s') (h + h') _).mono ?_; rintro e w3 ⟨rfl, hb3⟩; have hz3 := hb3.size; (try simp at hz3); have zx3 : w.heap.size < w3.heap.size := (by first | omega | (simp; omega)); have cx0_3 : w3.cell? ⟨w.heap.size, 0, none⟩ = some (.int .i64 (s)) := (hb3.cell (by first | assumption | (simp <;> omega))).trans (by go_simp); have cx1_3 : w3.cell? ⟨w.heap.size, 1, none⟩ = some (.int .i64 (h)) := (hb3.cell (by first | assumption | (simp <;> omega))).trans (by go_simp); have zy3 : w.heap.size + 1 < w3.heap.size := (by first | omega | (simp; omega)); have cy0_3 : w3.cell? ⟨w.heap.size + 1, 0, none⟩ = some (.int .i64 (s')) := (hb3.cell (by first | assumption | (simp <;> omega))).trans (by go_simp); have cy1_3 : w3.cell? ⟨w.heap.size + 1, 1, none⟩ = some (.int .i64 (h')) := (hb3.cell (by first | assumption | (simp <;> omega))).trans (by go_simp); have zr3 : w.heap.size + 1 + 1 < w3.heap.size := (by first | omega | (simp; omega)); have cr0_3 : w3.cell? ⟨w.heap.size + 1 + 1, 0, none⟩ = some (.int .i64 (0)) := (hb3.cell (by first | assumption | (simp <;> omega))).trans (by go_simp); have fr0_3 : w3.frozen? ⟨w.heap.size + 1 + 1, 0, none⟩ = false := (hb3.frozen (by first | assumption | (simp <;> omega))).trans (by go_simp); have cr1_3 : w3.cell? ⟨w.heap.size + 1 + 1, 1, none⟩ = some (.int .i64 (0)) := (hb3.cell (by first | assumption | (simp <;> omega))).trans (by go_simp); have fr1_3 : w3.frozen? ⟨w.heap.size + 1 + 1, 1, none⟩ = false := (hb3.frozen (by first | assumption | (simp <;> omega))).trans (by go_simp)))
        exact bodyPost_ret (v := R3 (s + s', h + h', 0)) (by simp [results, Try.results17, go_sem, R3, cr0_3, cr1_3]) rfl ⟨by rw [HR.out], (by repeat (first | exact Below.refl _ _ | assumption | refine below_drewN ?_ _ | refine Below.drew ?_ | refine below_new ?_ _ | refine Below.setCell ?_ (by first | omega | (simp <;> omega)) _ | refine below_then (by assumption) ?_))⟩
      · simp only [Bool.not_eq_true] at h3
        have HR := Lib.hid (sum_no3 h3)
        go_enter Try.func17, Try.ntmps17
        go_wp2_with (first
          | (go_at_call 26; with_reducible refine (ref_within_any s h _).mono ?_; rintro e w1 ⟨rfl, hb1⟩; have hz1 := hb1.size; (try simp at hz1); have zx1 : w.heap.size < w1.heap.size := (by first | omega | (simp; omega)); have cx0_1 : w1.cell? ⟨w.heap.size, 0, none⟩ = some (.int .i64 (s)) := (hb1.cell (by first | assumption | (simp <;> omega))).trans (by go_simp); have cx1_1 : w1.cell? ⟨w.heap.size, 1, none⟩ = some (.int .i64 (h)) := (hb1.cell (by first | assumption | (simp <;> omega))).trans (by go_simp); have zy1 : w.heap.size + 1 < w1.heap.size := (by first | omega | (simp; omega)); have cy0_1 : w1.cell? ⟨w.heap.size + 1, 0, none⟩ = some (.int .i64 (s')) := (hb1.cell (by first | assumption | (simp <;> omega))).trans (by go_simp); have cy1_1 : w1.cell? ⟨w.heap.size + 1, 1, none⟩ = some (.int .i64 (h')) := (hb1.cell (by first | assumption | (simp <;> omega))).trans (by go_simp); have zr1 : w.heap.size + 1 + 1 < w1.heap.size := (by first | omega | (simp; omega)); have cr0_1 : w1.cell? ⟨w.heap.size + 1 + 1, 0, none⟩ = some (.int .i64 (0)) := (hb1.cell (by first | assumption | (simp <;> omega))).trans (by go_simp); have fr0_1 : w1.frozen? ⟨w.heap.size + 1 + 1, 0, none⟩ = false := (hb1.frozen (by first | assumption | (simp <;> omega))).trans (by go_simp); have cr1_1 : w1.cell? ⟨w.heap.size + 1 + 1, 1, none⟩ = some (.int .i64 (0)) := (hb1.cell (by first | assumption | (simp <;> omega))).trans (by go_simp); have fr1_1 : w1.frozen? ⟨w.heap.size + 1 + 1, 1, none⟩ = false := (hb1.frozen (by first | assumption | (simp <;> omega))).trans (by go_simp))
          | (go_at_call 26; with_reducible refine (ref_within_any s' h' _).mono ?_; rintro e w2 ⟨rfl, hb2⟩; have hz2 := hb2.size; (try simp at hz2); have zx2 : w.heap.size < w2.heap.size := (by first | omega | (simp; omega)); have cx0_2 : w2.cell? ⟨w.heap.size, 0, none⟩ = some (.int .i64 (s)) := (hb2.cell (by first | assumption | (simp <;> omega))).trans (by go_simp); have cx1_2 : w2.cell? ⟨w.heap.size, 1, none⟩ = some (.int .i64 (h)) := (hb2.cell (by first | assumption | (simp <;> omega))).trans (by go_simp); have zy2 : w.heap.size + 1 < w2.heap.size := (by first | omega | (simp; omega)); have cy0_2 : w2.cell? ⟨w.heap.size + 1, 0, none⟩ = some (.int .i64 (s')) := (hb2.cell (by first | assumption | (simp <;> omega))).trans (by go_simp); have cy1_2 : w2.cell? ⟨w.heap.size + 1, 1, none⟩ = some (.int .i64 (h')) := (hb2.cell (by first | assumption | (simp <;> omega))).trans (by go_simp); have zr2 : w.heap.size + 1 + 1 < w2.heap.size := (by first | omega | (simp; omega)); have cr0_2 : w2.cell? ⟨w.heap.size + 1 + 1, 0, none⟩ = some (.int .i64 (0)) := (hb2.cell (by first | assumption | (simp <;> omega))).trans (by go_simp); have fr0_2 : w2.frozen? ⟨w.heap.size + 1 + 1, 0, none⟩ = false := (hb2.frozen (by first | assumption | (simp <;> omega))).trans (by go_simp); have cr1_2 : w2.cell? ⟨w.heap.size + 1 + 1, 1, none⟩ = some (.int .i64 (0)) := (hb2.cell (by first | assumption | (simp <;> omega))).trans (by go_simp); have fr1_2 : w2.frozen? ⟨w.heap.size + 1 + 1, 1, none⟩ = false := (hb2.frozen (by first | assumption | (simp <;> omega))).trans (by go_simp))
          | (go_at_call 26; with_reducible refine (ref_within_any (s + s') (h + h') _).mono ?_; rintro e w3 ⟨rfl, hb3⟩; have hz3 := hb3.size; (try simp at hz3); have zx3 : w.heap.size < w3.heap.size := (by first | omega | (simp; omega)); have cx0_3 : w3.cell? ⟨w.heap.size, 0, none⟩ = some (.int .i64 (s)) := (hb3.cell (by first | assumption | (simp <;> omega))).trans (by go_simp); have cx1_3 : w3.cell? ⟨w.heap.size, 1, none⟩ = some (.int .i64 (h)) := (hb3.cell (by first | assumption | (simp <;> omega))).trans (by go_simp); have zy3 : w.heap.size + 1 < w3.heap.size := (by first | omega | (simp; omega)); have cy0_3 : w3.cell? ⟨w.heap.size + 1, 0, none⟩ = some (.int .i64 (s')) := (hb3.cell (by first | assumption | (simp <;> omega))).trans (by go_simp); have cy1_3 : w3.cell? ⟨w.heap.size + 1, 1, none⟩ = some (.int .i64 (h')) := (hb3.cell (by first | assumption | (simp <;> omega))).trans (by go_simp); have zr3 : w.heap.size + 1 + 1 < w3.heap.size := (by first | omega | (simp; omega)); have cr0_3 : w3.cell? ⟨w.heap.size + 1 + 1, 0, none⟩ = some (.int .i64 (0)) := (hb3.cell (by first | assumption | (simp <;> omega))).trans (by go_simp); have fr0_3 : w3.frozen? ⟨w.heap.size + 1 + 1, 0, none⟩ = false := (hb3.frozen (by first | assumption | (simp <;> omega))).trans (by go_simp); have cr1_3 : w3.cell? ⟨w.heap.size + 1 + 1, 1, none⟩ = some (.int .i64 (0)) := (hb3.cell (by first | assumption | (simp <;> omega))).trans (by go_simp); have fr1_3 : w3.frozen? ⟨w.heap.size + 1 + 1, 1, none⟩ = false := (hb3.frozen (by first | assumption | (simp <;> omega))).trans (by go_simp)))
        exact bodyPost_ret (v := R3 (0, 0, 3)) (by simp [results, Try.results17, go_sem, R3, cr0_3, cr1_3]) rfl ⟨by rw [HR.out], (by repeat (first | exact Below.refl _ _ | assumption | refine below_drewN ?_ _ | refine Below.drew ?_ | refine below_new ?_ _ | refine Below.setCell ?_ (by first | omega | (simp <;> omega)) _ | refine below_then (by assumption) ?_))⟩
    · simp only [Bool.not_eq_true] at h2
      have HR := Lib.hid (sum_no2 (s := s) (h := h) h2)
      go_enter Try.func17, Try.ntmps17
      go_wp2_with (first
        | (go_at_call 26; with_reducible refine (ref_within_any s h _).mono ?_; rintro e w1 ⟨rfl, hb1⟩; have hz1 := hb1.size; (try simp at hz1); have zx1 : w.heap.size < w1.heap.size := (by first | omega | (simp; omega)); have cx0_1 : w1.cell? ⟨w.heap.size, 0, none⟩ = some (.int .i64 (s)) := (hb1.cell (by first | assumption | (simp <;> omega))).trans (by go_simp); have cx1_1 : w1.cell? ⟨w.heap.size, 1, none⟩ = some (.int .i64 (h)) := (hb1.cell (by first | assumption | (simp <;> omega))).trans (by go_simp); have zy1 : w.heap.size + 1 < w1.heap.size := (by first | omega | (simp; omega)); have cy0_1 : w1.cell? ⟨w.heap.size + 1, 0, none⟩ = some (.int .i64 (s')) := (hb1.cell (by first | assumption | (simp <;> omega))).trans (by go_simp); have cy1_1 : w1.cell? ⟨w.heap.size + 1, 1, none⟩ = some (.int .i64 (h')) := (hb1.cell (by first | assumption | (simp <;> omega))).trans (by go_simp); have zr1 : w.heap.size + 1 + 1 < w1.heap.size := (by first | omega | (simp; omega)); have cr0_1 : w1.cell? ⟨w.heap.size + 1 + 1, 0, none⟩ = some (.int .i64 (0)) := (hb1.cell (by first | assumption | (simp <;> omega))).trans (by go_simp); have fr0_1 : w1.frozen? ⟨w.heap.size + 1 + 1, 0, none⟩ = false := (hb1.frozen (by first | assumption | (simp <;> omega))).trans (by go_simp); have cr1_1 : w1.cell? ⟨w.heap.size + 1 + 1, 1, none⟩ = some (.int .i64 (0)) := (hb1.cell (by first | assumption | (simp <;> omega))).trans (by go_simp); have fr1_1 : w1.frozen? ⟨w.heap.size + 1 + 1, 1, none⟩ = false := (hb1.frozen (by first | assumption | (simp <;> omega))).trans (by go_simp))
        | (go_at_call 26; with_reducible refine (ref_within_any s' h' _).mono ?_; rintro e w2 ⟨rfl, hb2⟩; have hz2 := hb2.size; (try simp at hz2); have zx2 : w.heap.size < w2.heap.size := (by first | omega | (simp; omega)); have cx0_2 : w2.cell? ⟨w.heap.size, 0, none⟩ = some (.int .i64 (s)) := (hb2.cell (by first | assumption | (simp <;> omega))).trans (by go_simp); have cx1_2 : w2.cell? ⟨w.heap.size, 1, none⟩ = some (.int .i64 (h)) := (hb2.cell (by first | assumption | (simp <;> omega))).trans (by go_simp); have zy2 : w.heap.size + 1 < w2.heap.size := (by first | omega | (simp; omega)); have cy0_2 : w2.cell? ⟨w.heap.size + 1, 0, none⟩ = some (.int .i64 (s')) := (hb2.cell (by first | assumption | (simp <;> omega))).trans (by go_simp); have cy1_2 : w2.cell? ⟨w.heap.size + 1, 1, none⟩ = some (.int .i64 (h')) := (hb2.cell (by first | assumption | (simp <;> omega))).trans (by go_simp); have zr2 : w.heap.size + 1 + 1 < w2.heap.size := (by first | omega | (simp; omega)); have cr0_2 : w2.cell? ⟨w.heap.size + 1 + 1, 0, none⟩ = some (.int .i64 (0)) := (hb2.cell (by first | assumption | (simp <;> omega))).trans (by go_simp); have fr0_2 : w2.frozen? ⟨w.heap.size + 1 + 1, 0, none⟩ = false := (hb2.frozen (by first | assumption | (simp <;> omega))).trans (by go_simp); have cr1_2 : w2.cell? ⟨w.heap.size + 1 + 1, 1, none⟩ = some (.int .i64 (0)) := (hb2.cell (by first | assumption | (simp <;> omega))).trans (by go_simp); have fr1_2 : w2.frozen? ⟨w.heap.size + 1 + 1, 1, none⟩ = false := (hb2.frozen (by first | assumption | (simp <;> omega))).trans (by go_simp)))
      exact bodyPost_ret (v := R3 (0, 0, 3)) (by simp [results, Try.results17, go_sem, R3, cr0_2, cr1_2]) rfl ⟨by rw [HR.out], (by repeat (first | exact Below.refl _ _ | assumption | refine below_drewN ?_ _ | refine Below.drew ?_ | refine below_new ?_ _ | refine Below.setCell ?_ (by first | omega | (simp <;> omega)) _ | refine below_then (by assumption) ?_))⟩
  · simp only [Bool.not_eq_true] at h1
    have HR := Lib.hid (sum_no1 (s' := s') (h' := h') h1)
    go_enter Try.func17, Try.ntmps17
    go_wp2_with (first
      | (go_at_call 26; with_reducible refine (ref_within_any s h _).mono ?_; rintro e w1 ⟨rfl, hb1⟩; have hz1 := hb1.size; (try simp at hz1); have zx1 : w.heap.size < w1.heap.size := (by first | omega | (simp; omega)); have cx0_1 : w1.cell? ⟨w.heap.size, 0, none⟩ = some (.int .i64 (s)) := (hb1.cell (by first | assumption | (simp <;> omega))).trans (by go_simp); have cx1_1 : w1.cell? ⟨w.heap.size, 1, none⟩ = some (.int .i64 (h)) := (hb1.cell (by first | assumption | (simp <;> omega))).trans (by go_simp); have zy1 : w.heap.size + 1 < w1.heap.size := (by first | omega | (simp; omega)); have cy0_1 : w1.cell? ⟨w.heap.size + 1, 0, none⟩ = some (.int .i64 (s')) := (hb1.cell (by first | assumption | (simp <;> omega))).trans (by go_simp); have cy1_1 : w1.cell? ⟨w.heap.size + 1, 1, none⟩ = some (.int .i64 (h')) := (hb1.cell (by first | assumption | (simp <;> omega))).trans (by go_simp); have zr1 : w.heap.size + 1 + 1 < w1.heap.size := (by first | omega | (simp; omega)); have cr0_1 : w1.cell? ⟨w.heap.size + 1 + 1, 0, none⟩ = some (.int .i64 (0)) := (hb1.cell (by first | assumption | (simp <;> omega))).trans (by go_simp); have fr0_1 : w1.frozen? ⟨w.heap.size + 1 + 1, 0, none⟩ = false := (hb1.frozen (by first | assumption | (simp <;> omega))).trans (by go_simp); have cr1_1 : w1.cell? ⟨w.heap.size + 1 + 1, 1, none⟩ = some (.int .i64 (0)) := (hb1.cell (by first | assumption | (simp <;> omega))).trans (by go_simp); have fr1_1 : w1.frozen? ⟨w.heap.size + 1 + 1, 1, none⟩ = false := (hb1.frozen (by first | assumption | (simp <;> omega))).trans (by go_simp)))
    exact bodyPost_ret (v := R3 (0, 0, 3)) (by simp [results, Try.results17, go_sem, R3, cr0_1, cr1_1]) rfl ⟨by rw [HR.out], (by repeat (first | exact Below.refl _ _ | assumption | refine below_drewN ?_ _ | refine Below.drew ?_ | refine below_new ?_ _ | refine Below.setCell ?_ (by first | omega | (simp <;> omega)) _ | refine below_then (by assumption) ?_))⟩

set_option maxHeartbeats 1000000 in
theorem ref_move_bad (l a o s h : Int) (w : World) (ha : I64 a) (k : (rightB l a o && withinB s h) = false) :
    Calls Try.prog 16 #[.agg #[.int .i64 l, .int .i64 a, .int .i64 o], .agg #[.int .i64 s, .int .i64 h]] w fun e w' =>
      e = .returned (R4 (move l a o s h)) ∧ Below w.heap.size w w' := by
  by_cases h1 : rightB l a o = true
  · have h2 : withinB s h = false := by simpa [h1] using k
    clear k
    have HR := Lib.hid (move_no2 h1 h2)
    go_enter Try.func16, Try.ntmps16
    go_wp2_with (first
      | (go_at_call 14; with_reducible refine (ref_right_any l a o _ ha).mono ?_; rintro e w1 ⟨rfl, hb1⟩; have hz1 := hb1.size; (try simp at hz1); have zp1 : w.heap.size < w1.heap.size := (by first | omega | (simp; omega)); have cp0_1 : w1.cell? ⟨w.heap.size, 0, none⟩ = some (.int .i64 (l)) := (hb1.cell (by first | assumption | (simp <;> omega))).trans (by go_simp); have cp1_1 : w1.cell? ⟨w.heap.size, 1, none⟩ = some (.int .i64 (a)) := (hb1.cell (by first | assumption | (simp <;> omega))).trans (by go_simp); have cp2_1 : w1.cell? ⟨w.heap.size, 2, none⟩ = some (.int .i64 (o)) := (hb1.cell (by first | assumption | (simp <;> omega))).trans (by go_simp); have zi1 : w.heap.size + 1 < w1.heap.size := (by first | omega | (simp; omega)); have ci0_1 : w1.cell? ⟨w.heap.size + 1, 0, none⟩ = some (.int .i64 (s)) := (hb1.cell (by first | assumption | (simp <;> omega))).trans (by go_simp); have ci1_1 : w1.cell? ⟨w.heap.size + 1, 1, none⟩ = some (.int .i64 (h)) := (hb1.cell (by first | assumption | (simp <;> omega))).trans (by go_simp); have zr1 : w.heap.size + 1 + 1 < w1.heap.size := (by first | omega | (simp; omega)); have cr0_1 : w1.cell? ⟨w.heap.size + 1 + 1, 0, none⟩ = some (.int .i64 (0)) := (hb1.cell (by first | assumption | (simp <;> omega))).trans (by go_simp); have fr0_1 : w1.frozen? ⟨w.heap.size + 1 + 1, 0, none⟩ = false := (hb1.frozen (by first | assumption | (simp <;> omega))).trans (by go_simp); have cr1_1 : w1.cell? ⟨w.heap.size + 1 + 1, 1, none⟩ = some (.int .i64 (0)) := (hb1.cell (by first | assumption | (simp <;> omega))).trans (by go_simp); have fr1_1 : w1.frozen? ⟨w.heap.size + 1 + 1, 1, none⟩ = false := (hb1.frozen (by first | assumption | (simp <;> omega))).trans (by go_simp); have cr2_1 : w1.cell? ⟨w.heap.size + 1 + 1, 2, none⟩ = some (.int .i64 (0)) := (hb1.cell (by first | assumption | (simp <;> omega))).trans (by go_simp); have fr2_1 : w1.frozen? ⟨w.heap.size + 1 + 1, 2, none⟩ = false := (hb1.frozen (by first | assumption | (simp <;> omega))).trans (by go_simp))
      | (go_at_call 26; with_reducible refine (ref_within_any s h _).mono ?_; rintro e w2 ⟨rfl, hb2⟩; have hz2 := hb2.size; (try simp at hz2); have zp2 : w.heap.size < w2.heap.size := (by first | omega | (simp; omega)); have cp0_2 : w2.cell? ⟨w.heap.size, 0, none⟩ = some (.int .i64 (l)) := (hb2.cell (by first | assumption | (simp <;> omega))).trans (by go_simp); have cp1_2 : w2.cell? ⟨w.heap.size, 1, none⟩ = some (.int .i64 (a)) := (hb2.cell (by first | assumption | (simp <;> omega))).trans (by go_simp); have cp2_2 : w2.cell? ⟨w.heap.size, 2, none⟩ = some (.int .i64 (o)) := (hb2.cell (by first | assumption | (simp <;> omega))).trans (by go_simp); have zi2 : w.heap.size + 1 < w2.heap.size := (by first | omega | (simp; omega)); have ci0_2 : w2.cell? ⟨w.heap.size + 1, 0, none⟩ = some (.int .i64 (s)) := (hb2.cell (by first | assumption | (simp <;> omega))).trans (by go_simp); have ci1_2 : w2.cell? ⟨w.heap.size + 1, 1, none⟩ = some (.int .i64 (h)) := (hb2.cell (by first | assumption | (simp <;> omega))).trans (by go_simp); have zr2 : w.heap.size + 1 + 1 < w2.heap.size := (by first | omega | (simp; omega)); have cr0_2 : w2.cell? ⟨w.heap.size + 1 + 1, 0, none⟩ = some (.int .i64 (0)) := (hb2.cell (by first | assumption | (simp <;> omega))).trans (by go_simp); have fr0_2 : w2.frozen? ⟨w.heap.size + 1 + 1, 0, none⟩ = false := (hb2.frozen (by first | assumption | (simp <;> omega))).trans (by go_simp); have cr1_2 : w2.cell? ⟨w.heap.size + 1 + 1, 1, none⟩ = some (.int .i64 (0)) := (hb2.cell (by first | assumption | (simp <;> omega))).trans (by go_simp); have fr1_2 : w2.frozen? ⟨w.heap.size + 1 + 1, 1, none⟩ = false := (hb2.frozen (by first | assumption | (simp <;> omega))).trans (by go_simp); have cr2_2 : w2.cell? ⟨w.heap.size + 1 + 1, 2, none⟩ = some (.int .i64 (0)) := (hb2.cell (by first | assumption | (simp <;> omega))).trans (by go_simp); have fr2_2 : w2.frozen? ⟨w.heap.size + 1 + 1, 2, none⟩ = false := (hb2.frozen (by first | assumption | (simp <;> omega))).trans (by go_simp)))
    exact bodyPost_ret (v := R4 (0, 0, 0, 3)) (by simp [results, Try.results16, go_sem, R4, cr0_2, cr1_2, cr2_2]) rfl ⟨by rw [HR.out], (by repeat (first | exact Below.refl _ _ | assumption | refine below_drewN ?_ _ | refine Below.drew ?_ | refine below_new ?_ _ | refine Below.setCell ?_ (by first | omega | (simp <;> omega)) _ | refine below_then (by assumption) ?_))⟩
  · simp only [Bool.not_eq_true] at h1
    clear k
    have HR := Lib.hid (move_no1 (s := s) (h := h) h1)
    go_enter Try.func16, Try.ntmps16
    go_wp2_with (first
      | (go_at_call 14; with_reducible refine (ref_right_any l a o _ ha).mono ?_; rintro e w1 ⟨rfl, hb1⟩; have hz1 := hb1.size; (try simp at hz1); have zp1 : w.heap.size < w1.heap.size := (by first | omega | (simp; omega)); have cp0_1 : w1.cell? ⟨w.heap.size, 0, none⟩ = some (.int .i64 (l)) := (hb1.cell (by first | assumption | (simp <;> omega))).trans (by go_simp); have cp1_1 : w1.cell? ⟨w.heap.size, 1, none⟩ = some (.int .i64 (a)) := (hb1.cell (by first | assumption | (simp <;> omega))).trans (by go_simp); have cp2_1 : w1.cell? ⟨w.heap.size, 2, none⟩ = some (.int .i64 (o)) := (hb1.cell (by first | assumption | (simp <;> omega))).trans (by go_simp); have zi1 : w.heap.size + 1 < w1.heap.size := (by first | omega | (simp; omega)); have ci0_1 : w1.cell? ⟨w.heap.size + 1, 0, none⟩ = some (.int .i64 (s)) := (hb1.cell (by first | assumption | (simp <;> omega))).trans (by go_simp); have ci1_1 : w1.cell? ⟨w.heap.size + 1, 1, none⟩ = some (.int .i64 (h)) := (hb1.cell (by first | assumption | (simp <;> omega))).trans (by go_simp); have zr1 : w.heap.size + 1 + 1 < w1.heap.size := (by first | omega | (simp; omega)); have cr0_1 : w1.cell? ⟨w.heap.size + 1 + 1, 0, none⟩ = some (.int .i64 (0)) := (hb1.cell (by first | assumption | (simp <;> omega))).trans (by go_simp); have fr0_1 : w1.frozen? ⟨w.heap.size + 1 + 1, 0, none⟩ = false := (hb1.frozen (by first | assumption | (simp <;> omega))).trans (by go_simp); have cr1_1 : w1.cell? ⟨w.heap.size + 1 + 1, 1, none⟩ = some (.int .i64 (0)) := (hb1.cell (by first | assumption | (simp <;> omega))).trans (by go_simp); have fr1_1 : w1.frozen? ⟨w.heap.size + 1 + 1, 1, none⟩ = false := (hb1.frozen (by first | assumption | (simp <;> omega))).trans (by go_simp); have cr2_1 : w1.cell? ⟨w.heap.size + 1 + 1, 2, none⟩ = some (.int .i64 (0)) := (hb1.cell (by first | assumption | (simp <;> omega))).trans (by go_simp); have fr2_1 : w1.frozen? ⟨w.heap.size + 1 + 1, 2, none⟩ = false := (hb1.frozen (by first | assumption | (simp <;> omega))).trans (by go_simp)))
    exact bodyPost_ret (v := R4 (0, 0, 0, 2)) (by simp [results, Try.results16, go_sem, R4, cr0_1, cr1_1, cr2_1]) rfl ⟨by rw [HR.out], (by repeat (first | exact Below.refl _ _ | assumption | refine below_drewN ?_ _ | refine Below.drew ?_ | refine below_new ?_ _ | refine Below.setCell ?_ (by first | omega | (simp <;> omega)) _ | refine below_then (by assumption) ?_))⟩

theorem ref_at_is (S H : Int) (w : World) (h0 : -1000 ≤ S ∧ S ≤ 1000) (h1 : -100000 ≤ H ∧ H ≤ 100000) {v : Bool} (hv : rightB (S % 7) (H - white S) (S / 7) = v) :
    Calls Try.prog 27 #[.int .i64 S, .int .i64 H] w fun e w' =>
      e = .returned (.tuple #[.agg #[.int .i64 (S % 7), .int .i64 (H - white S), .int .i64 (S / 7)], .bool v]) ∧ Below w.heap.size w w' := by
  subst hv; exact ref_at_any S H w h0 h1

end Go.Proofs.Ytkhdpepcpmjhcaa.Pi
