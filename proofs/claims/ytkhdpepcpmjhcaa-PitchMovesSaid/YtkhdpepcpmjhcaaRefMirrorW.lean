/-
  THE WALK of the reference's Mirror.
-/
import Derived.Test.YtkhdpepcpmjhcaaRefMoveW
namespace Go.Proofs.Ytkhdpepcpmjhcaa.Pi
open Go.RowKit

theorem mirror_none {l a o l' a' o' : Int} (h : (rightB l a o && rightB l' a' o') = false) : mirror l a o l' a' o' = (0, 0, 0, 2) := by
  unfold mirror; rw [if_neg (by rw [h]; decide)]
theorem mirror_out {l a o l' a' o' : Int} (h1 : rightB l a o = true) (h2 : rightB l' a' o' = true) (h : withinB (steps l' o' - steps l o) (halves l' a' o' - halves l a o) = false) :
    mirror l a o l' a' o' = (0, 0, 0, 3) := by
  rw [mirror_of h1 h2]; unfold move; rw [if_pos h2, if_neg (by rw [h]; decide)]
theorem mirror_in {l a o l' a' o' : Int} (h1 : rightB l a o = true) (h2 : rightB l' a' o' = true) (h : withinB (steps l' o' - steps l o) (halves l' a' o' - halves l a o) = true) :
    mirror l a o l' a' o' = at_ (2 * steps l' o' - steps l o) (2 * halves l' a' o' - halves l a o) := by
  rw [mirror_of h1 h2, move_at h2 h]; congr 1 <;> omega

set_option maxHeartbeats 1000000 in
theorem ref_mirror_none (l a o l' a' o' : Int) (w : World) (ha : I64 a) (ha' : I64 a') (h : (rightB l a o && rightB l' a' o') = false) :
    Calls Try.prog 18 #[.agg #[.int .i64 l, .int .i64 a, .int .i64 o], .agg #[.int .i64 l', .int .i64 a', .int .i64 o']] w fun e w' =>
      e = .returned (R4 (mirror l a o l' a' o')) ∧ Below w.heap.size w w' := by
  have HR := Lib.hid (mirror_none h)
  by_cases h1 : rightB l a o = true
  · have h2 : rightB l' a' o' = false := by simpa [h1] using h
    clear h
    go_enter Try.func18, Try.ntmps18
    go_wp2_with (first
      | (go_at_call 14; with_reducible refine (ref_right_any l a o _ ha).mono ?_; rintro e w1 ⟨rfl, hb1⟩; have hz1 := hb1.size; (try simp at hz1); have zp1 : w.heap.size < w1.heap.size := (by first | omega | (simp; omega)); have cp0_1 : w1.cell? ⟨w.heap.size, 0, none⟩ = some (.int .i64 (l)) := (hb1.cell (by first | assumption | (simp <;> omega))).trans (by go_simp); have cp1_1 : w1.cell? ⟨w.heap.size, 1, none⟩ = some (.int .i64 (a)) := (hb1.cell (by first | assumption | (simp <;> omega))).trans (by go_simp); have cp2_1 : w1.cell? ⟨w.heap.size, 2, none⟩ = some (.int .i64 (o)) := (hb1.cell (by first | assumption | (simp <;> omega))).trans (by go_simp); have zx1 : w.heap.size + 1 < w1.heap.size := (by first | omega | (simp; omega)); have cx0_1 : w1.cell? ⟨w.heap.size + 1, 0, none⟩ = some (.int .i64 (l')) := (hb1.cell (by first | assumption | (simp <;> omega))).trans (by go_simp); have cx1_1 : w1.cell? ⟨w.heap.size + 1, 1, none⟩ = some (.int .i64 (a')) := (hb1.cell (by first | assumption | (simp <;> omega))).trans (by go_simp); have cx2_1 : w1.cell? ⟨w.heap.size + 1, 2, none⟩ = some (.int .i64 (o')) := (hb1.cell (by first | assumption | (simp <;> omega))).trans (by go_simp); have zr1 : w.heap.size + 1 + 1 < w1.heap.size := (by first | omega | (simp; omega)); have cr0_1 : w1.cell? ⟨w.heap.size + 1 + 1, 0, none⟩ = some (.int .i64 (0)) := (hb1.cell (by first | assumption | (simp <;> omega))).trans (by go_simp); have fr0_1 : w1.frozen? ⟨w.heap.size + 1 + 1, 0, none⟩ = false := (hb1.frozen (by first | assumption | (simp <;> omega))).trans (by go_simp); have cr1_1 : w1.cell? ⟨w.heap.size + 1 + 1, 1, none⟩ = some (.int .i64 (0)) := (hb1.cell (by first | assumption | (simp <;> omega))).trans (by go_simp); have fr1_1 : w1.frozen? ⟨w.heap.size + 1 + 1, 1, none⟩ = false := (hb1.frozen (by first | assumption | (simp <;> omega))).trans (by go_simp); have cr2_1 : w1.cell? ⟨w.heap.size + 1 + 1, 2, none⟩ = some (.int .i64 (0)) := (hb1.cell (by first | assumption | (simp <;> omega))).trans (by go_simp); have fr2_1 : w1.frozen? ⟨w.heap.size + 1 + 1, 2, none⟩ = false := (hb1.frozen (by first | assumption | (simp <;> omega))).trans (by go_simp))
      | (go_at_call 14; with_reducible refine (ref_right_any l' a' o' _ ha').mono ?_; rintro e w2 ⟨rfl, hb2⟩; have hz2 := hb2.size; (try simp at hz2); have zp2 : w.heap.size < w2.heap.size := (by first | omega | (simp; omega)); have cp0_2 : w2.cell? ⟨w.heap.size, 0, none⟩ = some (.int .i64 (l)) := (hb2.cell (by first | assumption | (simp <;> omega))).trans (by go_simp); have cp1_2 : w2.cell? ⟨w.heap.size, 1, none⟩ = some (.int .i64 (a)) := (hb2.cell (by first | assumption | (simp <;> omega))).trans (by go_simp); have cp2_2 : w2.cell? ⟨w.heap.size, 2, none⟩ = some (.int .i64 (o)) := (hb2.cell (by first | assumption | (simp <;> omega))).trans (by go_simp); have zx2 : w.heap.size + 1 < w2.heap.size := (by first | omega | (simp; omega)); have cx0_2 : w2.cell? ⟨w.heap.size + 1, 0, none⟩ = some (.int .i64 (l')) := (hb2.cell (by first | assumption | (simp <;> omega))).trans (by go_simp); have cx1_2 : w2.cell? ⟨w.heap.size + 1, 1, none⟩ = some (.int .i64 (a')) := (hb2.cell (by first | assumption | (simp <;> omega))).trans (by go_simp); have cx2_2 : w2.cell? ⟨w.heap.size + 1, 2, none⟩ = some (.int .i64 (o')) := (hb2.cell (by first | assumption | (simp <;> omega))).trans (by go_simp); have zr2 : w.heap.size + 1 + 1 < w2.heap.size := (by first | omega | (simp; omega)); have cr0_2 : w2.cell? ⟨w.heap.size + 1 + 1, 0, none⟩ = some (.int .i64 (0)) := (hb2.cell (by first | assumption | (simp <;> omega))).trans (by go_simp); have fr0_2 : w2.frozen? ⟨w.heap.size + 1 + 1, 0, none⟩ = false := (hb2.frozen (by first | assumption | (simp <;> omega))).trans (by go_simp); have cr1_2 : w2.cell? ⟨w.heap.size + 1 + 1, 1, none⟩ = some (.int .i64 (0)) := (hb2.cell (by first | assumption | (simp <;> omega))).trans (by go_simp); have fr1_2 : w2.frozen? ⟨w.heap.size + 1 + 1, 1, none⟩ = false := (hb2.frozen (by first | assumption | (simp <;> omega))).trans (by go_simp); have cr2_2 : w2.cell? ⟨w.heap.size + 1 + 1, 2, none⟩ = some (.int .i64 (0)) := (hb2.cell (by first | assumption | (simp <;> omega))).trans (by go_simp); have fr2_2 : w2.frozen? ⟨w.heap.size + 1 + 1, 2, none⟩ = false := (hb2.frozen (by first | assumption | (simp <;> omega))).trans (by go_simp)))
    exact bodyPost_ret (v := R4 (0, 0, 0, 2)) (by simp [results, Try.results18, go_sem, R4, cr0_2, cr1_2, cr2_2]) rfl ⟨by rw [HR.out], (by repeat (first | exact Below.refl _ _ | assumption | refine below_drewN ?_ _ | refine Below.drew ?_ | refine below_new ?_ _ | refine Below.setCell ?_ (by first | omega | (simp <;> omega)) _ | refine below_then (by assumption) ?_))⟩
  · simp only [Bool.not_eq_true] at h1
    clear h
    go_enter Try.func18, Try.ntmps18
    go_wp2_with (first
      | (go_at_call 14; with_reducible refine (ref_right_any l a o _ ha).mono ?_; rintro e w1 ⟨rfl, hb1⟩; have hz1 := hb1.size; (try simp at hz1); have zp1 : w.heap.size < w1.heap.size := (by first | omega | (simp; omega)); have cp0_1 : w1.cell? ⟨w.heap.size, 0, none⟩ = some (.int .i64 (l)) := (hb1.cell (by first | assumption | (simp <;> omega))).trans (by go_simp); have cp1_1 : w1.cell? ⟨w.heap.size, 1, none⟩ = some (.int .i64 (a)) := (hb1.cell (by first | assumption | (simp <;> omega))).trans (by go_simp); have cp2_1 : w1.cell? ⟨w.heap.size, 2, none⟩ = some (.int .i64 (o)) := (hb1.cell (by first | assumption | (simp <;> omega))).trans (by go_simp); have zx1 : w.heap.size + 1 < w1.heap.size := (by first | omega | (simp; omega)); have cx0_1 : w1.cell? ⟨w.heap.size + 1, 0, none⟩ = some (.int .i64 (l')) := (hb1.cell (by first | assumption | (simp <;> omega))).trans (by go_simp); have cx1_1 : w1.cell? ⟨w.heap.size + 1, 1, none⟩ = some (.int .i64 (a')) := (hb1.cell (by first | assumption | (simp <;> omega))).trans (by go_simp); have cx2_1 : w1.cell? ⟨w.heap.size + 1, 2, none⟩ = some (.int .i64 (o')) := (hb1.cell (by first | assumption | (simp <;> omega))).trans (by go_simp); have zr1 : w.heap.size + 1 + 1 < w1.heap.size := (by first | omega | (simp; omega)); have cr0_1 : w1.cell? ⟨w.heap.size + 1 + 1, 0, none⟩ = some (.int .i64 (0)) := (hb1.cell (by first | assumption | (simp <;> omega))).trans (by go_simp); have fr0_1 : w1.frozen? ⟨w.heap.size + 1 + 1, 0, none⟩ = false := (hb1.frozen (by first | assumption | (simp <;> omega))).trans (by go_simp); have cr1_1 : w1.cell? ⟨w.heap.size + 1 + 1, 1, none⟩ = some (.int .i64 (0)) := (hb1.cell (by first | assumption | (simp <;> omega))).trans (by go_simp); have fr1_1 : w1.frozen? ⟨w.heap.size + 1 + 1, 1, none⟩ = false := (hb1.frozen (by first | assumption | (simp <;> omega))).trans (by go_simp); have cr2_1 : w1.cell? ⟨w.heap.size + 1 + 1, 2, none⟩ = some (.int .i64 (0)) := (hb1.cell (by first | assumption | (simp <;> omega))).trans (by go_simp); have fr2_1 : w1.frozen? ⟨w.heap.size + 1 + 1, 2, none⟩ = false := (hb1.frozen (by first | assumption | (simp <;> omega))).trans (by go_simp)))
    exact bodyPost_ret (v := R4 (0, 0, 0, 2)) (by simp [results, Try.results18, go_sem, R4, cr0_1, cr1_1, cr2_1]) rfl ⟨by rw [HR.out], (by repeat (first | exact Below.refl _ _ | assumption | refine below_drewN ?_ _ | refine Below.drew ?_ | refine below_new ?_ _ | refine Below.setCell ?_ (by first | omega | (simp <;> omega)) _ | refine below_then (by assumption) ?_))⟩

theorem ref_within_is (s h : Int) (w : World) {v : Bool} (hv : withinB s h = v) :
    Calls Try.prog 26 #[.agg #[.int .i64 s, .int .i64 h]] w fun e w' => e = .returned (.bool v) ∧ Below w.heap.size w w' := by
  subst hv; exact ref_within_any s h w

set_option maxHeartbeats 4000000 in
theorem ref_mirror_out (l a o l' a' o' : Int) (w : World) (ha : I64 a) (ha' : I64 a') (k1 : rightB l a o = true) (k1' : rightB l' a' o' = true)
    (k2 : withinB (steps l' o' - steps l o) (halves l' a' o' - halves l a o) = false) :
    Calls Try.prog 18 #[.agg #[.int .i64 l, .int .i64 a, .int .i64 o], .agg #[.int .i64 l', .int .i64 a', .int .i64 o']] w fun e w' =>
      e = .returned (R4 (mirror l a o l' a' o')) ∧ Below w.heap.size w w' := by
  have HR := Lib.hid (mirror_out k1 k1' k2)
  have b1 := bounds k1
  have b1' := bounds k1'
  go_enter Try.func18, Try.ntmps18
  go_wp2_with (first
    | (go_at_call 14; with_reducible refine (ref_right_any l a o _ ha).mono ?_; rintro e w1 ⟨rfl, hb1⟩; have hz1 := hb1.size; (try simp at hz1); have zp1 : w.heap.size < w1.heap.size := (by first | omega | (simp; omega)); have cp0_1 : w1.cell? ⟨w.heap.size, 0, none⟩ = some (.int .i64 (l)) := (hb1.cell (by first | assumption | (simp <;> omega))).trans (by go_simp); have cp1_1 : w1.cell? ⟨w.heap.size, 1, none⟩ = some (.int .i64 (a)) := (hb1.cell (by first | assumption | (simp <;> omega))).trans (by go_simp); have cp2_1 : w1.cell? ⟨w.heap.size, 2, none⟩ = some (.int .i64 (o)) := (hb1.cell (by first | assumption | (simp <;> omega))).trans (by go_simp); have zx1 : w.heap.size + 1 < w1.heap.size := (by first | omega | (simp; omega)); have cx0_1 : w1.cell? ⟨w.heap.size + 1, 0, none⟩ = some (.int .i64 (l')) := (hb1.cell (by first | assumption | (simp <;> omega))).trans (by go_simp); have cx1_1 : w1.cell? ⟨w.heap.size + 1, 1, none⟩ = some (.int .i64 (a')) := (hb1.cell (by first | assumption | (simp <;> omega))).trans (by go_simp); have cx2_1 : w1.cell? ⟨w.heap.size + 1, 2, none⟩ = some (.int .i64 (o')) := (hb1.cell (by first | assumption | (simp <;> omega))).trans (by go_simp); have zr1 : w.heap.size + 1 + 1 < w1.heap.size := (by first | omega | (simp; omega)); have cr0_1 : w1.cell? ⟨w.heap.size + 1 + 1, 0, none⟩ = some (.int .i64 (0)) := (hb1.cell (by first | assumption | (simp <;> omega))).trans (by go_simp); have fr0_1 : w1.frozen? ⟨w.heap.size + 1 + 1, 0, none⟩ = false := (hb1.frozen (by first | assumption | (simp <;> omega))).trans (by go_simp); have cr1_1 : w1.cell? ⟨w.heap.size + 1 + 1, 1, none⟩ = some (.int .i64 (0)) := (hb1.cell (by first | assumption | (simp <;> omega))).trans (by go_simp); have fr1_1 : w1.frozen? ⟨w.heap.size + 1 + 1, 1, none⟩ = false := (hb1.frozen (by first | assumption | (simp <;> omega))).trans (by go_simp); have cr2_1 : w1.cell? ⟨w.heap.size + 1 + 1, 2, none⟩ = some (.int .i64 (0)) := (hb1.cell (by first | assumption | (simp <;> omega))).trans (by go_simp); have fr2_1 : w1.frozen? ⟨w.heap.size + 1 + 1, 2, none⟩ = false := (hb1.frozen (by first | assumption | (simp <;> omega))).trans (by go_simp))
    | (go_at_call 14; with_reducible refine (ref_right_any l' a' o' _ ha').mono ?_; rintro e w2 ⟨rfl, hb2⟩; have hz2 := hb2.size; (try simp at hz2); have zp2 : w.heap.size < w2.heap.size := (by first | omega | (simp; omega)); have cp0_2 : w2.cell? ⟨w.heap.size, 0, none⟩ = some (.int .i64 (l)) := (hb2.cell (by first | assumption | (simp <;> omega))).trans (by go_simp); have cp1_2 : w2.cell? ⟨w.heap.size, 1, none⟩ = some (.int .i64 (a)) := (hb2.cell (by first | assumption | (simp <;> omega))).trans (by go_simp); have cp2_2 : w2.cell? ⟨w.heap.size, 2, none⟩ = some (.int .i64 (o)) := (hb2.cell (by first | assumption | (simp <;> omega))).trans (by go_simp); have zx2 : w.heap.size + 1 < w2.heap.size := (by first | omega | (simp; omega)); have cx0_2 : w2.cell? ⟨w.heap.size + 1, 0, none⟩ = some (.int .i64 (l')) := (hb2.cell (by first | assumption | (simp <;> omega))).trans (by go_simp); have cx1_2 : w2.cell? ⟨w.heap.size + 1, 1, none⟩ = some (.int .i64 (a')) := (hb2.cell (by first | assumption | (simp <;> omega))).trans (by go_simp); have cx2_2 : w2.cell? ⟨w.heap.size + 1, 2, none⟩ = some (.int .i64 (o')) := (hb2.cell (by first | assumption | (simp <;> omega))).trans (by go_simp); have zr2 : w.heap.size + 1 + 1 < w2.heap.size := (by first | omega | (simp; omega)); have cr0_2 : w2.cell? ⟨w.heap.size + 1 + 1, 0, none⟩ = some (.int .i64 (0)) := (hb2.cell (by first | assumption | (simp <;> omega))).trans (by go_simp); have fr0_2 : w2.frozen? ⟨w.heap.size + 1 + 1, 0, none⟩ = false := (hb2.frozen (by first | assumption | (simp <;> omega))).trans (by go_simp); have cr1_2 : w2.cell? ⟨w.heap.size + 1 + 1, 1, none⟩ = some (.int .i64 (0)) := (hb2.cell (by first | assumption | (simp <;> omega))).trans (by go_simp); have fr1_2 : w2.frozen? ⟨w.heap.size + 1 + 1, 1, none⟩ = false := (hb2.frozen (by first | assumption | (simp <;> omega))).trans (by go_simp); have cr2_2 : w2.cell? ⟨w.heap.size + 1 + 1, 2, none⟩ = some (.int .i64 (0)) := (hb2.cell (by first | assumption | (simp <;> omega))).trans (by go_simp); have fr2_2 : w2.frozen? ⟨w.heap.size + 1 + 1, 2, none⟩ = false := (hb2.frozen (by first | assumption | (simp <;> omega))).trans (by go_simp)))
  clear cp0_1 cp1_1 cp2_1 cx0_1 cx1_1 cx2_1 cr0_1 cr1_1 cr2_1 fr0_1 fr1_1 fr2_1
  have hE := Ext.cells w2
  refine wp_region_ext (by kernel_rfl) (by kernel_rfl) ?_
  repeat go_big_quiet_step ((first | (go_at_call 25; with_reducible refine ext_call (ref_steps_any l a o _ k1)) | (go_at_call 25; with_reducible refine ext_call (ref_steps_any l' a' o' _ k1')) | (go_at_call 23; with_reducible refine ext_call (ref_halves_any l a o _ k1)) | (go_at_call 23; with_reducible refine ext_call (ref_halves_any l' a' o' _ k1')) | (go_at_call 26; with_reducible refine ext_call (ref_within_is _ _ _ k2))))
  refine wpQuiet_nil ?_
  rintro wd ⟨⟨_, hbd⟩, rfl⟩
  obtain ⟨hcd, hfd⟩ := bcell hbd
  have zd := hbd.size
  have zp3 : w.heap.size < wd.heap.size := by omega
  have zx3 : w.heap.size + 1 < wd.heap.size := by omega
  have zr3 : w.heap.size + 1 + 1 < wd.heap.size := by omega
  have cp0_3 := cell_then cp0_2 hbd
  have cp1_3 := cell_then cp1_2 hbd
  have cp2_3 := cell_then cp2_2 hbd
  have cx0_3 := cell_then cx0_2 hbd
  have cx1_3 := cell_then cx1_2 hbd
  have cx2_3 := cell_then cx2_2 hbd
  have cr0_3 := cell_then cr0_2 hbd
  have cr1_3 := cell_then cr1_2 hbd
  have cr2_3 := cell_then cr2_2 hbd
  have fr0_3 := (hbd.frozen (p := ⟨w.heap.size + 1 + 1, 0, none⟩) zr2).trans fr0_2
  have fr1_3 := (hbd.frozen (p := ⟨w.heap.size + 1 + 1, 1, none⟩) zr2).trans fr1_2
  have fr2_3 := (hbd.frozen (p := ⟨w.heap.size + 1 + 1, 2, none⟩) zr2).trans fr2_2
  have hB3 : Below w.heap.size w wd := below_then hbd (below_then hb2 (below_then hb1 (below_new (below_new (below_new (Below.refl _ _) _) _) _)))
  clear hE hcd hfd hbd cp0_2 cp1_2 cp2_2 cx0_2 cx1_2 cx2_2 cr0_2 cr1_2 cr2_2 fr0_2 fr1_2 fr2_2 hb1 hb2
  go_wp2
  exact bodyPost_ret (v := R4 (0, 0, 0, 3)) (by simp [results, Try.results18, go_sem, R4, cr0_3, cr1_3, cr2_3]) rfl ⟨by rw [HR.out], by (repeat refine Below.setCell ?_ (by show w.heap.size ≤ w.heap.size + 1 + 1; omega) _); exact hB3⟩

set_option maxHeartbeats 4000000 in
theorem ref_mirror_good (l a o l' a' o' : Int) (w : World) (ha : I64 a) (ha' : I64 a') (k1 : rightB l a o = true) (k1' : rightB l' a' o' = true)
    (k2 : withinB (steps l' o' - steps l o) (halves l' a' o' - halves l a o) = true)
    (S H : Int) (eS : 2 * steps l' o' - steps l o = S) (eH : 2 * halves l' a' o' - halves l a o = H) (k3 : rightB (S % 7) (H - white S) (S / 7) = true) :
    Calls Try.prog 18 #[.agg #[.int .i64 l, .int .i64 a, .int .i64 o], .agg #[.int .i64 l', .int .i64 a', .int .i64 o']] w fun e w' =>
      e = .returned (R4 (mirror l a o l' a' o')) ∧ Below w.heap.size w w' := by
  have HR := Lib.hid (show mirror l a o l' a' o' = at_ S H by rw [mirror_in k1 k1' k2, eS, eH])
  have b1 := bounds k1
  have b1' := bounds k1'
  have bS : -1000 ≤ S ∧ S ≤ 1000 := by omega
  have bH : -100000 ≤ H ∧ H ≤ 100000 := by omega
  have hwS : IntKind.i64.wrap (2 * steps l' o' - steps l o) = S := by rw [eS]; exact IntWalk.i64_in _ (by omega)
  have hwH : IntKind.i64.wrap (2 * halves l' a' o' - halves l a o) = H := by rw [eH]; exact IntWalk.i64_in _ (by omega)
  have hvS : IntKind.i64.wrap (2 * steps l' o') = 2 * steps l' o' := IntWalk.i64_in _ (by omega)
  have hvH : IntKind.i64.wrap (2 * halves l' a' o') = 2 * halves l' a' o' := IntWalk.i64_in _ (by omega)
  clear eS eH
  have HA := Lib.hid (show at_ S H = (S % 7, H - white S, S / 7, 0) by rw [at_white, if_pos k3])
  have HK := Lib.hid k3
  clear k3
  go_enter Try.func18, Try.ntmps18
  go_wp2_with (first
    | (go_at_call 14; with_reducible refine (ref_right_any l a o _ ha).mono ?_; rintro e w1 ⟨rfl, hb1⟩; have hz1 := hb1.size; (try simp at hz1); have zp1 : w.heap.size < w1.heap.size := (by first | omega | (simp; omega)); have cp0_1 : w1.cell? ⟨w.heap.size, 0, none⟩ = some (.int .i64 (l)) := (hb1.cell (by first | assumption | (simp <;> omega))).trans (by go_simp); have cp1_1 : w1.cell? ⟨w.heap.size, 1, none⟩ = some (.int .i64 (a)) := (hb1.cell (by first | assumption | (simp <;> omega))).trans (by go_simp); have cp2_1 : w1.cell? ⟨w.heap.size, 2, none⟩ = some (.int .i64 (o)) := (hb1.cell (by first | assumption | (simp <;> omega))).trans (by go_simp); have zx1 : w.heap.size + 1 < w1.heap.size := (by first | omega | (simp; omega)); have cx0_1 : w1.cell? ⟨w.heap.size + 1, 0, none⟩ = some (.int .i64 (l')) := (hb1.cell (by first | assumption | (simp <;> omega))).trans (by go_simp); have cx1_1 : w1.cell? ⟨w.heap.size + 1, 1, none⟩ = some (.int .i64 (a')) := (hb1.cell (by first | assumption | (simp <;> omega))).trans (by go_simp); have cx2_1 : w1.cell? ⟨w.heap.size + 1, 2, none⟩ = some (.int .i64 (o')) := (hb1.cell (by first | assumption | (simp <;> omega))).trans (by go_simp); have zr1 : w.heap.size + 1 + 1 < w1.heap.size := (by first | omega | (simp; omega)); have cr0_1 : w1.cell? ⟨w.heap.size + 1 + 1, 0, none⟩ = some (.int .i64 (0)) := (hb1.cell (by first | assumption | (simp <;> omega))).trans (by go_simp); have fr0_1 : w1.frozen? ⟨w.heap.size + 1 + 1, 0, none⟩ = false := (hb1.frozen (by first | assumption | (simp <;> omega))).trans (by go_simp); have cr1_1 : w1.cell? ⟨w.heap.size + 1 + 1, 1, none⟩ = some (.int .i64 (0)) := (hb1.cell (by first | assumption | (simp <;> omega))).trans (by go_simp); have fr1_1 : w1.frozen? ⟨w.heap.size + 1 + 1, 1, none⟩ = false := (hb1.frozen (by first | assumption | (simp <;> omega))).trans (by go_simp); have cr2_1 : w1.cell? ⟨w.heap.size + 1 + 1, 2, none⟩ = some (.int .i64 (0)) := (hb1.cell (by first | assumption | (simp <;> omega))).trans (by go_simp); have fr2_1 : w1.frozen? ⟨w.heap.size + 1 + 1, 2, none⟩ = false := (hb1.frozen (by first | assumption | (simp <;> omega))).trans (by go_simp))
    | (go_at_call 14; with_reducible refine (ref_right_any l' a' o' _ ha').mono ?_; rintro e w2 ⟨rfl, hb2⟩; have hz2 := hb2.size; (try simp at hz2); have zp2 : w.heap.size < w2.heap.size := (by first | omega | (simp; omega)); have cp0_2 : w2.cell? ⟨w.heap.size, 0, none⟩ = some (.int .i64 (l)) := (hb2.cell (by first | assumption | (simp <;> omega))).trans (by go_simp); have cp1_2 : w2.cell? ⟨w.heap.size, 1, none⟩ = some (.int .i64 (a)) := (hb2.cell (by first | assumption | (simp <;> omega))).trans (by go_simp); have cp2_2 : w2.cell? ⟨w.heap.size, 2, none⟩ = some (.int .i64 (o)) := (hb2.cell (by first | assumption | (simp <;> omega))).trans (by go_simp); have zx2 : w.heap.size + 1 < w2.heap.size := (by first | omega | (simp; omega)); have cx0_2 : w2.cell? ⟨w.heap.size + 1, 0, none⟩ = some (.int .i64 (l')) := (hb2.cell (by first | assumption | (simp <;> omega))).trans (by go_simp); have cx1_2 : w2.cell? ⟨w.heap.size + 1, 1, none⟩ = some (.int .i64 (a')) := (hb2.cell (by first | assumption | (simp <;> omega))).trans (by go_simp); have cx2_2 : w2.cell? ⟨w.heap.size + 1, 2, none⟩ = some (.int .i64 (o')) := (hb2.cell (by first | assumption | (simp <;> omega))).trans (by go_simp); have zr2 : w.heap.size + 1 + 1 < w2.heap.size := (by first | omega | (simp; omega)); have cr0_2 : w2.cell? ⟨w.heap.size + 1 + 1, 0, none⟩ = some (.int .i64 (0)) := (hb2.cell (by first | assumption | (simp <;> omega))).trans (by go_simp); have fr0_2 : w2.frozen? ⟨w.heap.size + 1 + 1, 0, none⟩ = false := (hb2.frozen (by first | assumption | (simp <;> omega))).trans (by go_simp); have cr1_2 : w2.cell? ⟨w.heap.size + 1 + 1, 1, none⟩ = some (.int .i64 (0)) := (hb2.cell (by first | assumption | (simp <;> omega))).trans (by go_simp); have fr1_2 : w2.frozen? ⟨w.heap.size + 1 + 1, 1, none⟩ = false := (hb2.frozen (by first | assumption | (simp <;> omega))).trans (by go_simp); have cr2_2 : w2.cell? ⟨w.heap.size + 1 + 1, 2, none⟩ = some (.int .i64 (0)) := (hb2.cell (by first | assumption | (simp <;> omega))).trans (by go_simp); have fr2_2 : w2.frozen? ⟨w.heap.size + 1 + 1, 2, none⟩ = false := (hb2.frozen (by first | assumption | (simp <;> omega))).trans (by go_simp)))
  clear cp0_1 cp1_1 cp2_1 cx0_1 cx1_1 cx2_1 cr0_1 cr1_1 cr2_1 fr0_1 fr1_1 fr2_1
  have hE := Ext.cells w2
  refine wp_region_ext (by kernel_rfl) (by kernel_rfl) ?_
  repeat go_big_quiet_step ((first | (go_at_call 25; with_reducible refine ext_call (ref_steps_any l a o _ k1)) | (go_at_call 25; with_reducible refine ext_call (ref_steps_any l' a' o' _ k1')) | (go_at_call 23; with_reducible refine ext_call (ref_halves_any l a o _ k1)) | (go_at_call 23; with_reducible refine ext_call (ref_halves_any l' a' o' _ k1')) | (go_at_call 26; with_reducible refine ext_call (ref_within_is _ _ _ k2))))
  refine wpQuiet_nil ?_
  rintro wd ⟨⟨_, hbd⟩, rfl⟩
  obtain ⟨hcd, hfd⟩ := bcell hbd
  have zd := hbd.size
  have zp3 : w.heap.size < wd.heap.size := by omega
  have zx3 : w.heap.size + 1 < wd.heap.size := by omega
  have zr3 : w.heap.size + 1 + 1 < wd.heap.size := by omega
  have cp0_3 := cell_then cp0_2 hbd
  have cp1_3 := cell_then cp1_2 hbd
  have cp2_3 := cell_then cp2_2 hbd
  have cx0_3 := cell_then cx0_2 hbd
  have cx1_3 := cell_then cx1_2 hbd
  have cx2_3 := cell_then cx2_2 hbd
  have cr0_3 := cell_then cr0_2 hbd
  have cr1_3 := cell_then cr1_2 hbd
  have cr2_3 := cell_then cr2_2 hbd
  have fr0_3 := (hbd.frozen (p := ⟨w.heap.size + 1 + 1, 0, none⟩) zr2).trans fr0_2
  have fr1_3 := (hbd.frozen (p := ⟨w.heap.size + 1 + 1, 1, none⟩) zr2).trans fr1_2
  have fr2_3 := (hbd.frozen (p := ⟨w.heap.size + 1 + 1, 2, none⟩) zr2).trans fr2_2
  have hB3 : Below w.heap.size w wd := below_then hbd (below_then hb2 (below_then hb1 (below_new (below_new (below_new (Below.refl _ _) _) _) _)))
  clear hE hcd hfd hbd cp0_2 cp1_2 cp2_2 cx0_2 cx1_2 cx2_2 cr0_2 cr1_2 cr2_2 fr0_2 fr1_2 fr2_2 hb1 hb2
  go_wp2
  have hE := Ext.cells wd
  refine wp_region_loose_alloc [(15, 17)] 16 #[.int .i64 0, .int .i64 0, .int .i64 0] 23 (by kernel_rfl) (by kernel_rfl) (by kernel_rfl) rfl rfl (fun _ _ => by rfl) ?_
  simp only [List.take_succ_cons, List.take_zero, List.drop_succ_cons, List.drop_zero]
  repeat (
    refine wpSq_step (fun K hK => ?_)
    simp [sq, go_sem, *]
    first
      | (refine hK _ ?_; clear hK K)
      | (apply Exists.intro
         refine ⟨fun _ => ?_, hK _ ?_⟩
         (first
          | (go_at_call 25; with_reducible refine sq_call (ref_steps_any l a o _ k1))
          | (go_at_call 25; with_reducible refine sq_call (ref_steps_any l' a' o' _ k1'))
          | (go_at_call 23; with_reducible refine sq_call (ref_halves_any l a o _ k1))
          | (go_at_call 23; with_reducible refine sq_call (ref_halves_any l' a' o' _ k1'))
          | (go_at_call 27; with_reducible refine sq_call (ref_at_is S H _ bS bH HK.out)))
         clear hK K))
  clear hE
  refine wpSq_nil ?_
  rintro _ we ⟨hbe, b, rfl, hb0, hnew⟩
  have n0 := new_cell hnew 0 _ rfl
  have n1 := new_cell hnew 1 _ rfl
  have n2 := new_cell hnew 2 _ rfl
  have m0 := new_free hnew 0
  have m1 := new_free hnew 1
  have m2 := new_free hnew 2
  have r0 := cell_then cr0_3 hbe
  have r1 := cell_then cr1_3 hbe
  have r2 := cell_then cr2_3 hbe
  have g0 := (hbe.frozen (p := ⟨w.heap.size + 1 + 1, 0, none⟩) zr3).trans fr0_3
  have g1 := (hbe.frozen (p := ⟨w.heap.size + 1 + 1, 1, none⟩) zr3).trans fr1_3
  have g2 := (hbe.frozen (p := ⟨w.heap.size + 1 + 1, 2, none⟩) zr3).trans fr2_3
  have hne : w.heap.size + 1 + 1 ≠ b := by omega
  have hle : w.heap.size ≤ b := by omega
  have hBd : Below w.heap.size w we := below_then hbe hB3
  clear hnew cp0_3 cp1_3 cp2_3 cx0_3 cx1_3 cx2_3 cr0_3 cr1_3 cr2_3 fr0_3 fr1_3 fr2_3
  go_wp2
  refine ⟨rfl, ?_⟩
  go_wp2
  exact bodyPost_ret (v := R4 (S % 7, H - white S, S / 7, 0)) (by simp [results, Try.results18, go_sem, R4, r0, r1, r2]) rfl ⟨by rw [HR.out, HA.out], by (repeat refine Below.setCell ?_ (by first | exact hle | (show w.heap.size ≤ w.heap.size + 1 + 1; omega)) _); exact hBd⟩

set_option maxHeartbeats 4000000 in
theorem ref_mirror_far (l a o l' a' o' : Int) (w : World) (ha : I64 a) (ha' : I64 a') (k1 : rightB l a o = true) (k1' : rightB l' a' o' = true)
    (k2 : withinB (steps l' o' - steps l o) (halves l' a' o' - halves l a o) = true)
    (S H : Int) (eS : 2 * steps l' o' - steps l o = S) (eH : 2 * halves l' a' o' - halves l a o = H) (k3 : rightB (S % 7) (H - white S) (S / 7) = false) :
    Calls Try.prog 18 #[.agg #[.int .i64 l, .int .i64 a, .int .i64 o], .agg #[.int .i64 l', .int .i64 a', .int .i64 o']] w fun e w' =>
      e = .returned (R4 (mirror l a o l' a' o')) ∧ Below w.heap.size w w' := by
  have HR := Lib.hid (show mirror l a o l' a' o' = at_ S H by rw [mirror_in k1 k1' k2, eS, eH])
  have b1 := bounds k1
  have b1' := bounds k1'
  have bS : -1000 ≤ S ∧ S ≤ 1000 := by omega
  have bH : -100000 ≤ H ∧ H ≤ 100000 := by omega
  have hwS : IntKind.i64.wrap (2 * steps l' o' - steps l o) = S := by rw [eS]; exact IntWalk.i64_in _ (by omega)
  have hwH : IntKind.i64.wrap (2 * halves l' a' o' - halves l a o) = H := by rw [eH]; exact IntWalk.i64_in _ (by omega)
  have hvS : IntKind.i64.wrap (2 * steps l' o') = 2 * steps l' o' := IntWalk.i64_in _ (by omega)
  have hvH : IntKind.i64.wrap (2 * halves l' a' o') = 2 * halves l' a' o' := IntWalk.i64_in _ (by omega)
  clear eS eH
  have HA := Lib.hid (show at_ S H = (0, 0, 0, 3) by rw [at_white, if_neg (by rw [k3]; decide)])
  have HK := Lib.hid k3
  clear k3
  go_enter Try.func18, Try.ntmps18
  go_wp2_with (first
    | (go_at_call 14; with_reducible refine (ref_right_any l a o _ ha).mono ?_; rintro e w1 ⟨rfl, hb1⟩; have hz1 := hb1.size; (try simp at hz1); have zp1 : w.heap.size < w1.heap.size := (by first | omega | (simp; omega)); have cp0_1 : w1.cell? ⟨w.heap.size, 0, none⟩ = some (.int .i64 (l)) := (hb1.cell (by first | assumption | (simp <;> omega))).trans (by go_simp); have cp1_1 : w1.cell? ⟨w.heap.size, 1, none⟩ = some (.int .i64 (a)) := (hb1.cell (by first | assumption | (simp <;> omega))).trans (by go_simp); have cp2_1 : w1.cell? ⟨w.heap.size, 2, none⟩ = some (.int .i64 (o)) := (hb1.cell (by first | assumption | (simp <;> omega))).trans (by go_simp); have zx1 : w.heap.size + 1 < w1.heap.size := (by first | omega | (simp; omega)); have cx0_1 : w1.cell? ⟨w.heap.size + 1, 0, none⟩ = some (.int .i64 (l')) := (hb1.cell (by first | assumption | (simp <;> omega))).trans (by go_simp); have cx1_1 : w1.cell? ⟨w.heap.size + 1, 1, none⟩ = some (.int .i64 (a')) := (hb1.cell (by first | assumption | (simp <;> omega))).trans (by go_simp); have cx2_1 : w1.cell? ⟨w.heap.size + 1, 2, none⟩ = some (.int .i64 (o')) := (hb1.cell (by first | assumption | (simp <;> omega))).trans (by go_simp); have zr1 : w.heap.size + 1 + 1 < w1.heap.size := (by first | omega | (simp; omega)); have cr0_1 : w1.cell? ⟨w.heap.size + 1 + 1, 0, none⟩ = some (.int .i64 (0)) := (hb1.cell (by first | assumption | (simp <;> omega))).trans (by go_simp); have fr0_1 : w1.frozen? ⟨w.heap.size + 1 + 1, 0, none⟩ = false := (hb1.frozen (by first | assumption | (simp <;> omega))).trans (by go_simp); have cr1_1 : w1.cell? ⟨w.heap.size + 1 + 1, 1, none⟩ = some (.int .i64 (0)) := (hb1.cell (by first | assumption | (simp <;> omega))).trans (by go_simp); have fr1_1 : w1.frozen? ⟨w.heap.size + 1 + 1, 1, none⟩ = false := (hb1.frozen (by first | assumption | (simp <;> omega))).trans (by go_simp); have cr2_1 : w1.cell? ⟨w.heap.size + 1 + 1, 2, none⟩ = some (.int .i64 (0)) := (hb1.cell (by first | assumption | (simp <;> omega))).trans (by go_simp); have fr2_1 : w1.frozen? ⟨w.heap.size + 1 + 1, 2, none⟩ = false := (hb1.frozen (by first | assumption | (simp <;> omega))).trans (by go_simp))
    | (go_at_call 14; with_reducible refine (ref_right_any l' a' o' _ ha').mono ?_; rintro e w2 ⟨rfl, hb2⟩; have hz2 := hb2.size; (try simp at hz2); have zp2 : w.heap.size < w2.heap.size := (by first | omega | (simp; omega)); have cp0_2 : w2.cell? ⟨w.heap.size, 0, none⟩ = some (.int .i64 (l)) := (hb2.cell (by first | assumption | (simp <;> omega))).trans (by go_simp); have cp1_2 : w2.cell? ⟨w.heap.size, 1, none⟩ = some (.int .i64 (a)) := (hb2.cell (by first | assumption | (simp <;> omega))).trans (by go_simp); have cp2_2 : w2.cell? ⟨w.heap.size, 2, none⟩ = some (.int .i64 (o)) := (hb2.cell (by first | assumption | (simp <;> omega))).trans (by go_simp); have zx2 : w.heap.size + 1 < w2.heap.size := (by first | omega | (simp; omega)); have cx0_2 : w2.cell? ⟨w.heap.size + 1, 0, none⟩ = some (.int .i64 (l')) := (hb2.cell (by first | assumption | (simp <;> omega))).trans (by go_simp); have cx1_2 : w2.cell? ⟨w.heap.size + 1, 1, none⟩ = some (.int .i64 (a')) := (hb2.cell (by first | assumption | (simp <;> omega))).trans (by go_simp); have cx2_2 : w2.cell? ⟨w.heap.size + 1, 2, none⟩ = some (.int .i64 (o')) := (hb2.cell (by first | assumption | (simp <;> omega))).trans (by go_simp); have zr2 : w.heap.size + 1 + 1 < w2.heap.size := (by first | omega | (simp; omega)); have cr0_2 : w2.cell? ⟨w.heap.size + 1 + 1, 0, none⟩ = some (.int .i64 (0)) := (hb2.cell (by first | assumption | (simp <;> omega))).trans (by go_simp); have fr0_2 : w2.frozen? ⟨w.heap.size + 1 + 1, 0, none⟩ = false := (hb2.frozen (by first | assumption | (simp <;> omega))).trans (by go_simp); have cr1_2 : w2.cell? ⟨w.heap.size + 1 + 1, 1, none⟩ = some (.int .i64 (0)) := (hb2.cell (by first | assumption | (simp <;> omega))).trans (by go_simp); have fr1_2 : w2.frozen? ⟨w.heap.size + 1 + 1, 1, none⟩ = false := (hb2.frozen (by first | assumption | (simp <;> omega))).trans (by go_simp); have cr2_2 : w2.cell? ⟨w.heap.size + 1 + 1, 2, none⟩ = some (.int .i64 (0)) := (hb2.cell (by first | assumption | (simp <;> omega))).trans (by go_simp); have fr2_2 : w2.frozen? ⟨w.heap.size + 1 + 1, 2, none⟩ = false := (hb2.frozen (by first | assumption | (simp <;> omega))).trans (by go_simp)))
  clear cp0_1 cp1_1 cp2_1 cx0_1 cx1_1 cx2_1 cr0_1 cr1_1 cr2_1 fr0_1 fr1_1 fr2_1
  have hE := Ext.cells w2
  refine wp_region_ext (by kernel_rfl) (by kernel_rfl) ?_
  repeat go_big_quiet_step ((first | (go_at_call 25; with_reducible refine ext_call (ref_steps_any l a o _ k1)) | (go_at_call 25; with_reducible refine ext_call (ref_steps_any l' a' o' _ k1')) | (go_at_call 23; with_reducible refine ext_call (ref_halves_any l a o _ k1)) | (go_at_call 23; with_reducible refine ext_call (ref_halves_any l' a' o' _ k1')) | (go_at_call 26; with_reducible refine ext_call (ref_within_is _ _ _ k2))))
  refine wpQuiet_nil ?_
  rintro wd ⟨⟨_, hbd⟩, rfl⟩
  obtain ⟨hcd, hfd⟩ := bcell hbd
  have zd := hbd.size
  have zp3 : w.heap.size < wd.heap.size := by omega
  have zx3 : w.heap.size + 1 < wd.heap.size := by omega
  have zr3 : w.heap.size + 1 + 1 < wd.heap.size := by omega
  have cp0_3 := cell_then cp0_2 hbd
  have cp1_3 := cell_then cp1_2 hbd
  have cp2_3 := cell_then cp2_2 hbd
  have cx0_3 := cell_then cx0_2 hbd
  have cx1_3 := cell_then cx1_2 hbd
  have cx2_3 := cell_then cx2_2 hbd
  have cr0_3 := cell_then cr0_2 hbd
  have cr1_3 := cell_then cr1_2 hbd
  have cr2_3 := cell_then cr2_2 hbd
  have fr0_3 := (hbd.frozen (p := ⟨w.heap.size + 1 + 1, 0, none⟩) zr2).trans fr0_2
  have fr1_3 := (hbd.frozen (p := ⟨w.heap.size + 1 + 1, 1, none⟩) zr2).trans fr1_2
  have fr2_3 := (hbd.frozen (p := ⟨w.heap.size + 1 + 1, 2, none⟩) zr2).trans fr2_2
  have hB3 : Below w.heap.size w wd := below_then hbd (below_then hb2 (below_then hb1 (below_new (below_new (below_new (Below.refl _ _) _) _) _)))
  clear hE hcd hfd hbd cp0_2 cp1_2 cp2_2 cx0_2 cx1_2 cx2_2 cr0_2 cr1_2 cr2_2 fr0_2 fr1_2 fr2_2 hb1 hb2
  go_wp2
  have hE := Ext.cells wd
  refine wp_region_loose_alloc [(15, 17)] 16 #[.int .i64 0, .int .i64 0, .int .i64 0] 23 (by kernel_rfl) (by kernel_rfl) (by kernel_rfl) rfl rfl (fun _ _ => by rfl) ?_
  simp only [List.take_succ_cons, List.take_zero, List.drop_succ_cons, List.drop_zero]
  repeat (
    refine wpSq_step (fun K hK => ?_)
    simp [sq, go_sem, *]
    first
      | (refine hK _ ?_; clear hK K)
      | (apply Exists.intro
         refine ⟨fun _ => ?_, hK _ ?_⟩
         (first
          | (go_at_call 25; with_reducible refine sq_call (ref_steps_any l a o _ k1))
          | (go_at_call 25; with_reducible refine sq_call (ref_steps_any l' a' o' _ k1'))
          | (go_at_call 23; with_reducible refine sq_call (ref_halves_any l a o _ k1))
          | (go_at_call 23; with_reducible refine sq_call (ref_halves_any l' a' o' _ k1'))
          | (go_at_call 27; with_reducible refine sq_call (ref_at_is S H _ bS bH HK.out)))
         clear hK K))
  clear hE
  refine wpSq_nil ?_
  rintro _ we ⟨hbe, b, rfl, hb0, hnew⟩
  have n0 := new_cell hnew 0 _ rfl
  have n1 := new_cell hnew 1 _ rfl
  have n2 := new_cell hnew 2 _ rfl
  have m0 := new_free hnew 0
  have m1 := new_free hnew 1
  have m2 := new_free hnew 2
  have r0 := cell_then cr0_3 hbe
  have r1 := cell_then cr1_3 hbe
  have r2 := cell_then cr2_3 hbe
  have g0 := (hbe.frozen (p := ⟨w.heap.size + 1 + 1, 0, none⟩) zr3).trans fr0_3
  have g1 := (hbe.frozen (p := ⟨w.heap.size + 1 + 1, 1, none⟩) zr3).trans fr1_3
  have g2 := (hbe.frozen (p := ⟨w.heap.size + 1 + 1, 2, none⟩) zr3).trans fr2_3
  have hne : w.heap.size + 1 + 1 ≠ b := by omega
  have hle : w.heap.size ≤ b := by omega
  have hBd : Below w.heap.size w we := below_then hbe hB3
  clear hnew cp0_3 cp1_3 cp2_3 cx0_3 cx1_3 cx2_3 cr0_3 cr1_3 cr2_3 fr0_3 fr1_3 fr2_3
  go_wp2
  refine ⟨rfl, ?_⟩
  go_wp2
  exact bodyPost_ret (v := R4 (0, 0, 0, 3)) (by simp [results, Try.results18, go_sem, R4, r0, r1, r2]) rfl ⟨by rw [HR.out, HA.out], by (repeat refine Below.setCell ?_ (by first | exact hle | (show w.heap.size ≤ w.heap.size + 1 + 1; omega)) _); exact hBd⟩

theorem ref_mirror_any (l a o l' a' o' : Int) (w : World) (ha : I64 a) (ha' : I64 a') :
    Calls Try.prog 18 #[.agg #[.int .i64 l, .int .i64 a, .int .i64 o], .agg #[.int .i64 l', .int .i64 a', .int .i64 o']] w fun e w' =>
      e = .returned (R4 (mirror l a o l' a' o')) ∧ Below w.heap.size w w' := by
  by_cases k : (rightB l a o && rightB l' a' o') = true
  · rw [Bool.and_eq_true] at k
    by_cases k2 : withinB (steps l' o' - steps l o) (halves l' a' o' - halves l a o) = true
    · by_cases k3 : rightB ((2 * steps l' o' - steps l o) % 7) ((2 * halves l' a' o' - halves l a o) - white (2 * steps l' o' - steps l o)) ((2 * steps l' o' - steps l o) / 7) = true
      · exact ref_mirror_good l a o l' a' o' w ha ha' k.1 k.2 k2 _ _ rfl rfl k3
      · exact ref_mirror_far l a o l' a' o' w ha ha' k.1 k.2 k2 _ _ rfl rfl (by simpa using k3)
    · exact ref_mirror_out l a o l' a' o' w ha ha' k.1 k.2 (by simpa using k2)
  · exact ref_mirror_none l a o l' a' o' w ha ha' (by simpa using k)

end Go.Proofs.Ytkhdpepcpmjhcaa.Pi
