/-
  THE WALKS of pitches, on: Move, Mirror of the package.
-/
import Derived.Test.YtkhdpepcpmjhcaaPitchV
namespace Go.Proofs.Ytkhdpepcpmjhcaa.Pi
open Go.RowKit

theorem move_no1 {l a o s h : Int} (k : rightB l a o = false) : move l a o s h = (0, 0, 0, 2) := by simp [move, k]
theorem move_no2 {l a o s h : Int} (k : rightB l a o = true) (k2 : withinB s h = false) : move l a o s h = (0, 0, 0, 3) := by simp [move, k, k2]

set_option maxHeartbeats 1000000 in
theorem move_bad (l a o s h : Int) (w : World) (i1 : I64 s) (i2 : I64 h) (k : (rightB l a o && withinB s h) = false) :
    Calls Try.prog 9 #[.agg #[.int .i64 l, .int .i64 a, .int .i64 o], .agg #[.int .i64 s, .int .i64 h]] w fun e w' =>
      e = .returned (R4 (move l a o s h)) ∧ Below w.heap.size w w' := by
  by_cases h1 : rightB l a o = true
  · have h2 : withinB s h = false := by simpa [h1] using k
    clear k
    have HR := Lib.hid (move_no2 h1 h2)
    go_enter Try.func9, Try.ntmps9
    go_wp2_with (first
      | (go_at_call 10; with_reducible refine (right_any l a o _).mono ?_; rintro e w1 ⟨rfl, hb1⟩; have hz1 := hb1.size; (try simp at hz1); have zp1 : w.heap.size < w1.heap.size := (by first | omega | (simp; omega)); have cp0_1 : w1.cell? ⟨w.heap.size, 0, none⟩ = some (.int .i64 (l)) := (hb1.cell (by first | assumption | (simp <;> omega))).trans (by go_simp); have cp1_1 : w1.cell? ⟨w.heap.size, 1, none⟩ = some (.int .i64 (a)) := (hb1.cell (by first | assumption | (simp <;> omega))).trans (by go_simp); have cp2_1 : w1.cell? ⟨w.heap.size, 2, none⟩ = some (.int .i64 (o)) := (hb1.cell (by first | assumption | (simp <;> omega))).trans (by go_simp); have zi1 : w.heap.size + 1 < w1.heap.size := (by first | omega | (simp; omega)); have ci0_1 : w1.cell? ⟨w.heap.size + 1, 0, none⟩ = some (.int .i64 (s)) := (hb1.cell (by first | assumption | (simp <;> omega))).trans (by go_simp); have ci1_1 : w1.cell? ⟨w.heap.size + 1, 1, none⟩ = some (.int .i64 (h)) := (hb1.cell (by first | assumption | (simp <;> omega))).trans (by go_simp); have zr1 : w.heap.size + 1 + 1 < w1.heap.size := (by first | omega | (simp; omega)); have cr0_1 : w1.cell? ⟨w.heap.size + 1 + 1, 0, none⟩ = some (.int .i64 (0)) := (hb1.cell (by first | assumption | (simp <;> omega))).trans (by go_simp); have fr0_1 : w1.frozen? ⟨w.heap.size + 1 + 1, 0, none⟩ = false := (hb1.frozen (by first | assumption | (simp <;> omega))).trans (by go_simp); have cr1_1 : w1.cell? ⟨w.heap.size + 1 + 1, 1, none⟩ = some (.int .i64 (0)) := (hb1.cell (by first | assumption | (simp <;> omega))).trans (by go_simp); have fr1_1 : w1.frozen? ⟨w.heap.size + 1 + 1, 1, none⟩ = false := (hb1.frozen (by first | assumption | (simp <;> omega))).trans (by go_simp); have cr2_1 : w1.cell? ⟨w.heap.size + 1 + 1, 2, none⟩ = some (.int .i64 (0)) := (hb1.cell (by first | assumption | (simp <;> omega))).trans (by go_simp); have fr2_1 : w1.frozen? ⟨w.heap.size + 1 + 1, 2, none⟩ = false := (hb1.frozen (by first | assumption | (simp <;> omega))).trans (by go_simp))
      | (go_at_call 21; with_reducible refine (within_any s h _ i1 i2).mono ?_; rintro e w2 ⟨rfl, hb2⟩; have hz2 := hb2.size; (try simp at hz2); have zp2 : w.heap.size < w2.heap.size := (by first | omega | (simp; omega)); have cp0_2 : w2.cell? ⟨w.heap.size, 0, none⟩ = some (.int .i64 (l)) := (hb2.cell (by first | assumption | (simp <;> omega))).trans (by go_simp); have cp1_2 : w2.cell? ⟨w.heap.size, 1, none⟩ = some (.int .i64 (a)) := (hb2.cell (by first | assumption | (simp <;> omega))).trans (by go_simp); have cp2_2 : w2.cell? ⟨w.heap.size, 2, none⟩ = some (.int .i64 (o)) := (hb2.cell (by first | assumption | (simp <;> omega))).trans (by go_simp); have zi2 : w.heap.size + 1 < w2.heap.size := (by first | omega | (simp; omega)); have ci0_2 : w2.cell? ⟨w.heap.size + 1, 0, none⟩ = some (.int .i64 (s)) := (hb2.cell (by first | assumption | (simp <;> omega))).trans (by go_simp); have ci1_2 : w2.cell? ⟨w.heap.size + 1, 1, none⟩ = some (.int .i64 (h)) := (hb2.cell (by first | assumption | (simp <;> omega))).trans (by go_simp); have zr2 : w.heap.size + 1 + 1 < w2.heap.size := (by first | omega | (simp; omega)); have cr0_2 : w2.cell? ⟨w.heap.size + 1 + 1, 0, none⟩ = some (.int .i64 (0)) := (hb2.cell (by first | assumption | (simp <;> omega))).trans (by go_simp); have fr0_2 : w2.frozen? ⟨w.heap.size + 1 + 1, 0, none⟩ = false := (hb2.frozen (by first | assumption | (simp <;> omega))).trans (by go_simp); have cr1_2 : w2.cell? ⟨w.heap.size + 1 + 1, 1, none⟩ = some (.int .i64 (0)) := (hb2.cell (by first | assumption | (simp <;> omega))).trans (by go_simp); have fr1_2 : w2.frozen? ⟨w.heap.size + 1 + 1, 1, none⟩ = false := (hb2.frozen (by first | assumption | (simp <;> omega))).trans (by go_simp); have cr2_2 : w2.cell? ⟨w.heap.size + 1 + 1, 2, none⟩ = some (.int .i64 (0)) := (hb2.cell (by first | assumption | (simp <;> omega))).trans (by go_simp); have fr2_2 : w2.frozen? ⟨w.heap.size + 1 + 1, 2, none⟩ = false := (hb2.frozen (by first | assumption | (simp <;> omega))).trans (by go_simp)))
    exact bodyPost_ret (v := R4 (0, 0, 0, 3)) (by simp [results, Try.results9, go_sem, R4, cr0_2, cr1_2, cr2_2]) rfl ⟨by rw [HR.out], (by repeat (first | exact Below.refl _ _ | assumption | refine below_drewN ?_ _ | refine Below.drew ?_ | refine below_new ?_ _ | refine Below.setCell ?_ (by first | omega | (simp <;> omega)) _ | refine below_then (by assumption) ?_))⟩
  · simp only [Bool.not_eq_true] at h1
    clear k
    have HR := Lib.hid (move_no1 (s := s) (h := h) h1)
    go_enter Try.func9, Try.ntmps9
    go_wp2_with (first
      | (go_at_call 10; with_reducible refine (right_any l a o _).mono ?_; rintro e w1 ⟨rfl, hb1⟩; have hz1 := hb1.size; (try simp at hz1); have zp1 : w.heap.size < w1.heap.size := (by first | omega | (simp; omega)); have cp0_1 : w1.cell? ⟨w.heap.size, 0, none⟩ = some (.int .i64 (l)) := (hb1.cell (by first | assumption | (simp <;> omega))).trans (by go_simp); have cp1_1 : w1.cell? ⟨w.heap.size, 1, none⟩ = some (.int .i64 (a)) := (hb1.cell (by first | assumption | (simp <;> omega))).trans (by go_simp); have cp2_1 : w1.cell? ⟨w.heap.size, 2, none⟩ = some (.int .i64 (o)) := (hb1.cell (by first | assumption | (simp <;> omega))).trans (by go_simp); have zi1 : w.heap.size + 1 < w1.heap.size := (by first | omega | (simp; omega)); have ci0_1 : w1.cell? ⟨w.heap.size + 1, 0, none⟩ = some (.int .i64 (s)) := (hb1.cell (by first | assumption | (simp <;> omega))).trans (by go_simp); have ci1_1 : w1.cell? ⟨w.heap.size + 1, 1, none⟩ = some (.int .i64 (h)) := (hb1.cell (by first | assumption | (simp <;> omega))).trans (by go_simp); have zr1 : w.heap.size + 1 + 1 < w1.heap.size := (by first | omega | (simp; omega)); have cr0_1 : w1.cell? ⟨w.heap.size + 1 + 1, 0, none⟩ = some (.int .i64 (0)) := (hb1.cell (by first | assumption | (simp <;> omega))).trans (by go_simp); have fr0_1 : w1.frozen? ⟨w.heap.size + 1 + 1, 0, none⟩ = false := (hb1.frozen (by first | assumption | (simp <;> omega))).trans (by go_simp); have cr1_1 : w1.cell? ⟨w.heap.size + 1 + 1, 1, none⟩ = some (.int .i64 (0)) := (hb1.cell (by first | assumption | (simp <;> omega))).trans (by go_simp); have fr1_1 : w1.frozen? ⟨w.heap.size + 1 + 1, 1, none⟩ = false := (hb1.frozen (by first | assumption | (simp <;> omega))).trans (by go_simp); have cr2_1 : w1.cell? ⟨w.heap.size + 1 + 1, 2, none⟩ = some (.int .i64 (0)) := (hb1.cell (by first | assumption | (simp <;> omega))).trans (by go_simp); have fr2_1 : w1.frozen? ⟨w.heap.size + 1 + 1, 2, none⟩ = false := (hb1.frozen (by first | assumption | (simp <;> omega))).trans (by go_simp)))
    exact bodyPost_ret (v := R4 (0, 0, 0, 2)) (by simp [results, Try.results9, go_sem, R4, cr0_1, cr1_1, cr2_1]) rfl ⟨by rw [HR.out], (by repeat (first | exact Below.refl _ _ | assumption | refine below_drewN ?_ _ | refine Below.drew ?_ | refine below_new ?_ _ | refine Below.setCell ?_ (by first | omega | (simp <;> omega)) _ | refine below_then (by assumption) ?_))⟩

theorem at_yes {S H : Int} (k : rightB (S % 7) (H - halves (S % 7) 0 (S / 7)) (S / 7) = true) : at_ S H = (S % 7, H - halves (S % 7) 0 (S / 7), S / 7, 0) := by
  have e : H - halves (S % 7) 0 (S / 7) = H - (12 * (S / 7) + nat7 (S % 7)) := by unfold halves; omega
  rw [e] at k ⊢
  unfold at_
  rw [if_pos k]
theorem at_no {S H : Int} (k : rightB (S % 7) (H - halves (S % 7) 0 (S / 7)) (S / 7) = false) : at_ S H = (0, 0, 0, 3) := by
  have e : H - halves (S % 7) 0 (S / 7) = H - (12 * (S / 7) + nat7 (S % 7)) := by unfold halves; omega
  rw [e] at k
  unfold at_
  rw [if_neg (by rw [k]; exact Bool.false_ne_true)]
theorem halves_bd (S : Int) (h : -1000 ≤ S ∧ S ≤ 1000) : -2000 ≤ halves (S % 7) 0 (S / 7) ∧ halves (S % 7) 0 (S / 7) ≤ 2000 := by
  have := nat7_range (S % 7)
  unfold halves
  omega
theorem floor_is (n : Int) (w : World) (h1 : -1000 ≤ n) (h2 : n ≤ 1000) :
    Calls Try.prog 22 #[.int .i64 n, .int .i64 7] w fun e w' => e = .returned (.tuple #[.int .i64 (n / 7), .int .i64 (n % 7)]) ∧ ∃ k, w' = w.drewN k := floor_any n w h1 h2

set_option maxHeartbeats 4000000 in
theorem move_yes (l a o s h : Int) (w : World) (i1 : I64 s) (i2 : I64 h) (k1 : rightB l a o = true) (k2 : withinB s h = true)
    (S H : Int) (eS : steps l o + s = S) (eH : halves l a o + h = H) (k3 : rightB (S % 7) (H - halves (S % 7) 0 (S / 7)) (S / 7) = true) :
    Calls Try.prog 9 #[.agg #[.int .i64 l, .int .i64 a, .int .i64 o], .agg #[.int .i64 s, .int .i64 h]] w fun e w' =>
      e = .returned (R4 (move l a o s h)) ∧ Below w.heap.size w w' := by
  have HR := Lib.hid (show move l a o s h = (S % 7, H - halves (S % 7) 0 (S / 7), S / 7, 0) by rw [move_at k1 k2, eS, eH, at_yes k3])
  have b1 := bounds k1
  have b2 := withinB_iff.1 k2
  have b3 := rightB_iff.1 k1
  have bS : -1000 ≤ S ∧ S ≤ 1000 := by omega
  have bH : -10000 ≤ H ∧ H ≤ 10000 := by omega
  have bh := halves_bd S bS
  have bL : 0 ≤ S % 7 ∧ S % 7 ≤ 6 := by omega
  have bO : -1000 ≤ S / 7 ∧ S / 7 ≤ 1000 := by omega
  have hwS : IntKind.i64.wrap (steps l o + s) = S := by rw [eS]; exact IntWalk.i64_in _ (by omega)
  have hwH : IntKind.i64.wrap (halves l a o + h) = H := by rw [eH]; exact IntWalk.i64_in _ (by omega)
  have HS := Lib.hid eS
  have HH := Lib.hid eH
  clear eS eH
  go_enter Try.func9, Try.ntmps9
  go_wp2_with (first
    | (go_at_call 10; with_reducible refine (right_any l a o _).mono ?_; rintro e w1 ⟨rfl, hb1⟩; have hz1 := hb1.size; (try simp at hz1); have zp1 : w.heap.size < w1.heap.size := (by first | omega | (simp; omega)); have cp0_1 : w1.cell? ⟨w.heap.size, 0, none⟩ = some (.int .i64 (l)) := (hb1.cell (by first | assumption | (simp <;> omega))).trans (by go_simp); have cp1_1 : w1.cell? ⟨w.heap.size, 1, none⟩ = some (.int .i64 (a)) := (hb1.cell (by first | assumption | (simp <;> omega))).trans (by go_simp); have cp2_1 : w1.cell? ⟨w.heap.size, 2, none⟩ = some (.int .i64 (o)) := (hb1.cell (by first | assumption | (simp <;> omega))).trans (by go_simp); have zi1 : w.heap.size + 1 < w1.heap.size := (by first | omega | (simp; omega)); have ci0_1 : w1.cell? ⟨w.heap.size + 1, 0, none⟩ = some (.int .i64 (s)) := (hb1.cell (by first | assumption | (simp <;> omega))).trans (by go_simp); have ci1_1 : w1.cell? ⟨w.heap.size + 1, 1, none⟩ = some (.int .i64 (h)) := (hb1.cell (by first | assumption | (simp <;> omega))).trans (by go_simp); have zr1 : w.heap.size + 1 + 1 < w1.heap.size := (by first | omega | (simp; omega)); have cr0_1 : w1.cell? ⟨w.heap.size + 1 + 1, 0, none⟩ = some (.int .i64 (0)) := (hb1.cell (by first | assumption | (simp <;> omega))).trans (by go_simp); have fr0_1 : w1.frozen? ⟨w.heap.size + 1 + 1, 0, none⟩ = false := (hb1.frozen (by first | assumption | (simp <;> omega))).trans (by go_simp); have cr1_1 : w1.cell? ⟨w.heap.size + 1 + 1, 1, none⟩ = some (.int .i64 (0)) := (hb1.cell (by first | assumption | (simp <;> omega))).trans (by go_simp); have fr1_1 : w1.frozen? ⟨w.heap.size + 1 + 1, 1, none⟩ = false := (hb1.frozen (by first | assumption | (simp <;> omega))).trans (by go_simp); have cr2_1 : w1.cell? ⟨w.heap.size + 1 + 1, 2, none⟩ = some (.int .i64 (0)) := (hb1.cell (by first | assumption | (simp <;> omega))).trans (by go_simp); have fr2_1 : w1.frozen? ⟨w.heap.size + 1 + 1, 2, none⟩ = false := (hb1.frozen (by first | assumption | (simp <;> omega))).trans (by go_simp))
    | (go_at_call 21; with_reducible refine (within_any s h _ i1 i2).mono ?_; rintro e w2 ⟨rfl, hb2⟩; have hz2 := hb2.size; (try simp at hz2); have zp2 : w.heap.size < w2.heap.size := (by first | omega | (simp; omega)); have cp0_2 : w2.cell? ⟨w.heap.size, 0, none⟩ = some (.int .i64 (l)) := (hb2.cell (by first | assumption | (simp <;> omega))).trans (by go_simp); have cp1_2 : w2.cell? ⟨w.heap.size, 1, none⟩ = some (.int .i64 (a)) := (hb2.cell (by first | assumption | (simp <;> omega))).trans (by go_simp); have cp2_2 : w2.cell? ⟨w.heap.size, 2, none⟩ = some (.int .i64 (o)) := (hb2.cell (by first | assumption | (simp <;> omega))).trans (by go_simp); have zi2 : w.heap.size + 1 < w2.heap.size := (by first | omega | (simp; omega)); have ci0_2 : w2.cell? ⟨w.heap.size + 1, 0, none⟩ = some (.int .i64 (s)) := (hb2.cell (by first | assumption | (simp <;> omega))).trans (by go_simp); have ci1_2 : w2.cell? ⟨w.heap.size + 1, 1, none⟩ = some (.int .i64 (h)) := (hb2.cell (by first | assumption | (simp <;> omega))).trans (by go_simp); have zr2 : w.heap.size + 1 + 1 < w2.heap.size := (by first | omega | (simp; omega)); have cr0_2 : w2.cell? ⟨w.heap.size + 1 + 1, 0, none⟩ = some (.int .i64 (0)) := (hb2.cell (by first | assumption | (simp <;> omega))).trans (by go_simp); have fr0_2 : w2.frozen? ⟨w.heap.size + 1 + 1, 0, none⟩ = false := (hb2.frozen (by first | assumption | (simp <;> omega))).trans (by go_simp); have cr1_2 : w2.cell? ⟨w.heap.size + 1 + 1, 1, none⟩ = some (.int .i64 (0)) := (hb2.cell (by first | assumption | (simp <;> omega))).trans (by go_simp); have fr1_2 : w2.frozen? ⟨w.heap.size + 1 + 1, 1, none⟩ = false := (hb2.frozen (by first | assumption | (simp <;> omega))).trans (by go_simp); have cr2_2 : w2.cell? ⟨w.heap.size + 1 + 1, 2, none⟩ = some (.int .i64 (0)) := (hb2.cell (by first | assumption | (simp <;> omega))).trans (by go_simp); have fr2_2 : w2.frozen? ⟨w.heap.size + 1 + 1, 2, none⟩ = false := (hb2.frozen (by first | assumption | (simp <;> omega))).trans (by go_simp)))
  obtain ⟨W, hW⟩ : ∃ W, W = w2.alloc (Obj.cells #[Value.int .i64 0, Value.int .i64 0, Value.int .i64 0] 23) := ⟨_, rfl⟩
  have zr : w.heap.size + 1 + 1 < W.heap.size := by rw [hW]; simp; omega
  have zq : w2.heap.size < W.heap.size := by rw [hW]; simp
  have zqw : w.heap.size + 1 + 1 < w2.heap.size := by omega
  have cp0 : W.cell? ⟨w.heap.size, 0, none⟩ = some (.int .i64 (l)) := by rw [hW]; go_simp
  have cp1 : W.cell? ⟨w.heap.size, 1, none⟩ = some (.int .i64 (a)) := by rw [hW]; go_simp
  have cp2 : W.cell? ⟨w.heap.size, 2, none⟩ = some (.int .i64 (o)) := by rw [hW]; go_simp
  have ci0 : W.cell? ⟨w.heap.size + 1, 0, none⟩ = some (.int .i64 (s)) := by rw [hW]; go_simp
  have ci1 : W.cell? ⟨w.heap.size + 1, 1, none⟩ = some (.int .i64 (h)) := by rw [hW]; go_simp
  have cr0 : W.cell? ⟨w.heap.size + 1 + 1, 0, none⟩ = some (.int .i64 (0)) := by rw [hW]; go_simp
  have fr0 : W.frozen? ⟨w.heap.size + 1 + 1, 0, none⟩ = false := by rw [hW]; go_simp
  have cr1 : W.cell? ⟨w.heap.size + 1 + 1, 1, none⟩ = some (.int .i64 (0)) := by rw [hW]; go_simp
  have fr1 : W.frozen? ⟨w.heap.size + 1 + 1, 1, none⟩ = false := by rw [hW]; go_simp
  have cr2 : W.cell? ⟨w.heap.size + 1 + 1, 2, none⟩ = some (.int .i64 (0)) := by rw [hW]; go_simp
  have fr2 : W.frozen? ⟨w.heap.size + 1 + 1, 2, none⟩ = false := by rw [hW]; go_simp
  have cq0 : W.cell? ⟨w2.heap.size, 0, none⟩ = some (.int .i64 (0)) := by rw [hW]; go_simp
  have fq0 : W.frozen? ⟨w2.heap.size, 0, none⟩ = false := by rw [hW]; go_simp
  have cq1 : W.cell? ⟨w2.heap.size, 1, none⟩ = some (.int .i64 (0)) := by rw [hW]; go_simp
  have fq1 : W.frozen? ⟨w2.heap.size, 1, none⟩ = false := by rw [hW]; go_simp
  have cq2 : W.cell? ⟨w2.heap.size, 2, none⟩ = some (.int .i64 (0)) := by rw [hW]; go_simp
  have fq2 : W.frozen? ⟨w2.heap.size, 2, none⟩ = false := by rw [hW]; go_simp
  have hBW : Below w.heap.size w W := by rw [hW]; exact (by repeat (first | exact Below.refl _ _ | assumption | refine below_drewN ?_ _ | refine Below.drew ?_ | refine below_new ?_ _ | refine Below.setCell ?_ (by first | omega | (simp <;> omega)) _ | refine below_then (by assumption) ?_))
  have HB := Lib.hid hBW
  rw [← hW]
  clear hBW hW hb1 hb2 hz1 hz2 cp0_1 cp1_1 cp2_1 ci0_1 ci1_1 cr0_1 cr1_1 cr2_1 fr0_1 fr1_1 fr2_1 cp0_2 cp1_2 cp2_2 ci0_2 ci1_2 cr0_2 cr1_2 cr2_2 fr0_2 fr1_2 fr2_2
  have ne0 : w2.heap.size ≠ w.heap.size := by omega
  have ne1 : w2.heap.size ≠ w.heap.size + 1 := by omega
  have ne2 : w2.heap.size ≠ w.heap.size + 1 + 1 := by omega
  go_region_held3 (fun w' => w'.cell? ⟨w.heap.size, 0, none⟩ = some (.int .i64 l) ∧ w'.cell? ⟨w.heap.size, 1, none⟩ = some (.int .i64 a) ∧ w'.cell? ⟨w.heap.size, 2, none⟩ = some (.int .i64 o)
      ∧ w'.cell? ⟨w.heap.size + 1, 0, none⟩ = some (.int .i64 s) ∧ w'.cell? ⟨w.heap.size + 1, 1, none⟩ = some (.int .i64 h))
    (first
      | exact ⟨cp0, cp1, cp2, ci0, ci1⟩
      | exact ⟨cell_then cp0 hbn, cell_then cp1 hbn, cell_then cp2 hbn, cell_then ci0 hbn, cell_then ci1 hbn⟩
      | go_keep
      | (go_split_ands; (repeat' apply And.intro) <;> go_simp))
    (first
      | (go_at_call 19; (with_reducible refine (steps_any l a o _ k1).mono ?_); rintro e wn ⟨rfl, hbn0⟩; have hbn : Below W.heap.size W wn := ((Below.refl _ _).drew).trans hbn0; have nq0 := cell_then cq0 hbn; have nq1 := cell_then cq1 hbn; have nq2 := cell_then cq2 hbn; have mq0 := (hbn.frozen zq).trans fq0; have mq1 := (hbn.frozen zq).trans fq1; have mq2 := (hbn.frozen zq).trans fq2)
      | (go_at_call 22; (with_reducible refine (floor_is S _ (by omega) (by omega)).mono ?_); rintro e wf ⟨rfl, n, rfl⟩))
  obtain ⟨V, hV⟩ : ∃ V, V = ((wn.drewN n).setCell ⟨w2.heap.size, 2, none⟩ (.int .i64 (S / 7))).setCell ⟨w2.heap.size, 0, none⟩ (.int .i64 (S % 7)) := ⟨_, rfl⟩
  have gp0 := cell_then cp0 hbn
  have gp1 := cell_then cp1 hbn
  have gp2 := cell_then cp2 hbn
  have gi0 := cell_then ci0 hbn
  have gi1 := cell_then ci1 hbn
  have gr0 := cell_then cr0 hbn
  have gr1 := cell_then cr1 hbn
  have gr2 := cell_then cr2 hbn
  have hr0 := (hbn.frozen zr).trans fr0
  have hr1 := (hbn.frozen zr).trans fr1
  have hr2 := (hbn.frozen zr).trans fr2
  have zqn : w2.heap.size < wn.heap.size := Nat.lt_of_lt_of_le zq hbn.size
  have zqV : w2.heap.size < V.heap.size := by rw [hV]; simp [World.setCell]; exact zqn
  have cp'0 : V.cell? ⟨w.heap.size, 0, none⟩ = some (.int .i64 (l)) := by rw [hV]; go_simp
  have cp'1 : V.cell? ⟨w.heap.size, 1, none⟩ = some (.int .i64 (a)) := by rw [hV]; go_simp
  have cp'2 : V.cell? ⟨w.heap.size, 2, none⟩ = some (.int .i64 (o)) := by rw [hV]; go_simp
  have ci'0 : V.cell? ⟨w.heap.size + 1, 0, none⟩ = some (.int .i64 (s)) := by rw [hV]; go_simp
  have ci'1 : V.cell? ⟨w.heap.size + 1, 1, none⟩ = some (.int .i64 (h)) := by rw [hV]; go_simp
  have cr'0 : V.cell? ⟨w.heap.size + 1 + 1, 0, none⟩ = some (.int .i64 (0)) := by rw [hV]; go_simp
  have fr'0 : V.frozen? ⟨w.heap.size + 1 + 1, 0, none⟩ = false := by rw [hV]; go_simp
  have cr'1 : V.cell? ⟨w.heap.size + 1 + 1, 1, none⟩ = some (.int .i64 (0)) := by rw [hV]; go_simp
  have fr'1 : V.frozen? ⟨w.heap.size + 1 + 1, 1, none⟩ = false := by rw [hV]; go_simp
  have cr'2 : V.cell? ⟨w.heap.size + 1 + 1, 2, none⟩ = some (.int .i64 (0)) := by rw [hV]; go_simp
  have fr'2 : V.frozen? ⟨w.heap.size + 1 + 1, 2, none⟩ = false := by rw [hV]; go_simp
  have cq'0 : V.cell? ⟨w2.heap.size, 0, none⟩ = some (.int .i64 (S % 7)) := by rw [hV]; go_simp
  have fq'0 : V.frozen? ⟨w2.heap.size, 0, none⟩ = false := by rw [hV]; go_simp
  have cq'1 : V.cell? ⟨w2.heap.size, 1, none⟩ = some (.int .i64 (0)) := by rw [hV]; go_simp
  have fq'1 : V.frozen? ⟨w2.heap.size, 1, none⟩ = false := by rw [hV]; go_simp
  have cq'2 : V.cell? ⟨w2.heap.size, 2, none⟩ = some (.int .i64 (S / 7)) := by rw [hV]; go_simp
  have fq'2 : V.frozen? ⟨w2.heap.size, 2, none⟩ = false := by rw [hV]; go_simp
  have hBV : Below w.heap.size w V := by
    rw [hV]
    have hb := HB.out
    exact (by repeat (first | exact Below.refl _ _ | assumption | refine below_drewN ?_ _ | refine Below.drew ?_ | refine below_new ?_ _ | refine Below.setCell ?_ (by first | omega | (simp <;> omega)) _ | refine below_then (by assumption) ?_))
  have HBV := Lib.hid hBV
  rw [← hV]
  have zrV : w.heap.size + 1 + 1 < V.heap.size := by omega
  clear hBV hV HB hbn0 gp0 gp1 gp2 gi0 gi1 gr0 gr1 gr2 hr0 hr1 hr2 nq0 nq1 nq2 mq0 mq1 mq2 cp0 cp1 cp2 ci0 ci1 cr0 cr1 cr2 fr0 fr1 fr2 cq0 cq1 cq2 fq0 fq1 fq2
  go_wp2_with fail
  have hE := Ext.cells V
  have cp0' := cp'0; have cp1' := cp'1; have cp2' := cp'2; have ci0' := ci'0; have ci1' := ci'1; have cq0' := cq'0; have cq1' := cq'1; have cq2' := cq'2
  have zpV : w.heap.size < V.heap.size := by omega
  have ziV : w.heap.size + 1 < V.heap.size := by omega
  refine wp_region_ext_tail 9 (by kernel_rfl) (by kernel_rfl) ?_
  simp only [List.take_succ_cons, List.take_zero, List.drop_succ_cons, List.drop_zero]
  repeat go_big_quiet_step ((first | (go_at_call 20; with_reducible refine ext_call (halves_any l a o _ (by omega) (by omega))) | (go_at_call 20; with_reducible refine ext_call (halves_any (S % 7) 0 (S / 7) _ (by omega) (by omega)))))
  refine wpQuiet_nil ?_
  rintro wd ⟨⟨_, hbd⟩, rfl⟩
  have hcd := hbd.cell (p := ⟨w2.heap.size, 1, none⟩) zqV
  rw [cq'1] at hcd
  have hfd := (hbd.frozen (p := ⟨w2.heap.size, 1, none⟩) zqV).trans fq'1
  have kq0 := cell_then cq'0 hbd
  have kq2 := cell_then cq'2 hbd
  have kr0 := cell_then cr'0 hbd
  have kr1 := cell_then cr'1 hbd
  have kr2 := cell_then cr'2 hbd
  have lr0 := (hbd.frozen (p := ⟨w.heap.size + 1 + 1, 0, none⟩) zrV).trans fr'0
  have lr1 := (hbd.frozen (p := ⟨w.heap.size + 1 + 1, 1, none⟩) zrV).trans fr'1
  have lr2 := (hbd.frozen (p := ⟨w.heap.size + 1 + 1, 2, none⟩) zrV).trans fr'2
  have zrd : w.heap.size + 1 + 1 < wd.heap.size := Nat.lt_of_lt_of_le zrV hbd.size
  have zqd : w2.heap.size < wd.heap.size := Nat.lt_of_lt_of_le zqV hbd.size
  have ne3 : w.heap.size + 1 + 1 ≠ w2.heap.size := by omega
  go_wp2_with (first
    | (go_at_call 10; with_reducible refine (right_any (S % 7) (H - halves (S % 7) 0 (S / 7)) (S / 7) _).mono ?_; rintro e w3 ⟨rfl, hb3⟩; have hz3 := hb3.size; (try simp at hz3); have zr3 : w.heap.size + 1 + 1 < w3.heap.size := (by first | omega | (simp; omega)); have cr0_3 : w3.cell? ⟨w.heap.size + 1 + 1, 0, none⟩ = some (.int .i64 (0)) := (hb3.cell (by first | assumption | (simp <;> omega))).trans (by go_simp); have fr0_3 : w3.frozen? ⟨w.heap.size + 1 + 1, 0, none⟩ = false := (hb3.frozen (by first | assumption | (simp <;> omega))).trans (by go_simp); have cr1_3 : w3.cell? ⟨w.heap.size + 1 + 1, 1, none⟩ = some (.int .i64 (0)) := (hb3.cell (by first | assumption | (simp <;> omega))).trans (by go_simp); have fr1_3 : w3.frozen? ⟨w.heap.size + 1 + 1, 1, none⟩ = false := (hb3.frozen (by first | assumption | (simp <;> omega))).trans (by go_simp); have cr2_3 : w3.cell? ⟨w.heap.size + 1 + 1, 2, none⟩ = some (.int .i64 (0)) := (hb3.cell (by first | assumption | (simp <;> omega))).trans (by go_simp); have fr2_3 : w3.frozen? ⟨w.heap.size + 1 + 1, 2, none⟩ = false := (hb3.frozen (by first | assumption | (simp <;> omega))).trans (by go_simp); have zq3 : w2.heap.size < w3.heap.size := (by first | omega | (simp; omega)); have cq0_3 : w3.cell? ⟨w2.heap.size, 0, none⟩ = some (.int .i64 (S % 7)) := (hb3.cell (by first | assumption | (simp <;> omega))).trans (by go_simp); have cq1_3 : w3.cell? ⟨w2.heap.size, 1, none⟩ = some (.int .i64 (H - halves (S % 7) 0 (S / 7))) := (hb3.cell (by first | assumption | (simp <;> omega))).trans (by go_simp); have cq2_3 : w3.cell? ⟨w2.heap.size, 2, none⟩ = some (.int .i64 (S / 7)) := (hb3.cell (by first | assumption | (simp <;> omega))).trans (by go_simp)))
  have hB3 : Below w.heap.size w w3 := (HBV.out.trans ((hbd.mono HBV.out.size).trans (((Below.refl _ _).setCell (p := ⟨w2.heap.size, 1, none⟩) (by simp; omega) _).trans (hb3.mono (by simp [World.setCell]; have := hbd.size; have := HBV.out.size; omega)))))
  exact bodyPost_ret (v := R4 (S % 7, H - halves (S % 7) 0 (S / 7), S / 7, 0)) (by simp [results, Try.results9, go_sem, R4, cr0_3, cr1_3, cr2_3]) rfl ⟨by rw [HR.out], (by repeat (first | exact Below.refl _ _ | assumption | refine below_drewN ?_ _ | refine Below.drew ?_ | refine below_new ?_ _ | refine Below.setCell ?_ (by first | omega | (simp <;> omega)) _ | refine below_then (by assumption) ?_))⟩

set_option maxHeartbeats 4000000 in
theorem move_no3 (l a o s h : Int) (w : World) (i1 : I64 s) (i2 : I64 h) (k1 : rightB l a o = true) (k2 : withinB s h = true)
    (S H : Int) (eS : steps l o + s = S) (eH : halves l a o + h = H) (k3 : rightB (S % 7) (H - halves (S % 7) 0 (S / 7)) (S / 7) = false) :
    Calls Try.prog 9 #[.agg #[.int .i64 l, .int .i64 a, .int .i64 o], .agg #[.int .i64 s, .int .i64 h]] w fun e w' =>
      e = .returned (R4 (move l a o s h)) ∧ Below w.heap.size w w' := by
  have HR := Lib.hid (show move l a o s h = (0, 0, 0, 3) by rw [move_at k1 k2, eS, eH, at_no k3])
  have b1 := bounds k1
  have b2 := withinB_iff.1 k2
  have b3 := rightB_iff.1 k1
  have bS : -1000 ≤ S ∧ S ≤ 1000 := by omega
  have bH : -10000 ≤ H ∧ H ≤ 10000 := by omega
  have bh := halves_bd S bS
  have bL : 0 ≤ S % 7 ∧ S % 7 ≤ 6 := by omega
  have bO : -1000 ≤ S / 7 ∧ S / 7 ≤ 1000 := by omega
  have hwS : IntKind.i64.wrap (steps l o + s) = S := by rw [eS]; exact IntWalk.i64_in _ (by omega)
  have hwH : IntKind.i64.wrap (halves l a o + h) = H := by rw [eH]; exact IntWalk.i64_in _ (by omega)
  have HS := Lib.hid eS
  have HH := Lib.hid eH
  clear eS eH
  go_enter Try.func9, Try.ntmps9
  go_wp2_with (first
    | (go_at_call 10; with_reducible refine (right_any l a o _).mono ?_; rintro e w1 ⟨rfl, hb1⟩; have hz1 := hb1.size; (try simp at hz1); have zp1 : w.heap.size < w1.heap.size := (by first | omega | (simp; omega)); have cp0_1 : w1.cell? ⟨w.heap.size, 0, none⟩ = some (.int .i64 (l)) := (hb1.cell (by first | assumption | (simp <;> omega))).trans (by go_simp); have cp1_1 : w1.cell? ⟨w.heap.size, 1, none⟩ = some (.int .i64 (a)) := (hb1.cell (by first | assumption | (simp <;> omega))).trans (by go_simp); have cp2_1 : w1.cell? ⟨w.heap.size, 2, none⟩ = some (.int .i64 (o)) := (hb1.cell (by first | assumption | (simp <;> omega))).trans (by go_simp); have zi1 : w.heap.size + 1 < w1.heap.size := (by first | omega | (simp; omega)); have ci0_1 : w1.cell? ⟨w.heap.size + 1, 0, none⟩ = some (.int .i64 (s)) := (hb1.cell (by first | assumption | (simp <;> omega))).trans (by go_simp); have ci1_1 : w1.cell? ⟨w.heap.size + 1, 1, none⟩ = some (.int .i64 (h)) := (hb1.cell (by first | assumption | (simp <;> omega))).trans (by go_simp); have zr1 : w.heap.size + 1 + 1 < w1.heap.size := (by first | omega | (simp; omega)); have cr0_1 : w1.cell? ⟨w.heap.size + 1 + 1, 0, none⟩ = some (.int .i64 (0)) := (hb1.cell (by first | assumption | (simp <;> omega))).trans (by go_simp); have fr0_1 : w1.frozen? ⟨w.heap.size + 1 + 1, 0, none⟩ = false := (hb1.frozen (by first | assumption | (simp <;> omega))).trans (by go_simp); have cr1_1 : w1.cell? ⟨w.heap.size + 1 + 1, 1, none⟩ = some (.int .i64 (0)) := (hb1.cell (by first | assumption | (simp <;> omega))).trans (by go_simp); have fr1_1 : w1.frozen? ⟨w.heap.size + 1 + 1, 1, none⟩ = false := (hb1.frozen (by first | assumption | (simp <;> omega))).trans (by go_simp); have cr2_1 : w1.cell? ⟨w.heap.size + 1 + 1, 2, none⟩ = some (.int .i64 (0)) := (hb1.cell (by first | assumption | (simp <;> omega))).trans (by go_simp); have fr2_1 : w1.frozen? ⟨w.heap.size + 1 + 1, 2, none⟩ = false := (hb1.frozen (by first | assumption | (simp <;> omega))).trans (by go_simp))
    | (go_at_call 21; with_reducible refine (within_any s h _ i1 i2).mono ?_; rintro e w2 ⟨rfl, hb2⟩; have hz2 := hb2.size; (try simp at hz2); have zp2 : w.heap.size < w2.heap.size := (by first | omega | (simp; omega)); have cp0_2 : w2.cell? ⟨w.heap.size, 0, none⟩ = some (.int .i64 (l)) := (hb2.cell (by first | assumption | (simp <;> omega))).trans (by go_simp); have cp1_2 : w2.cell? ⟨w.heap.size, 1, none⟩ = some (.int .i64 (a)) := (hb2.cell (by first | assumption | (simp <;> omega))).trans (by go_simp); have cp2_2 : w2.cell? ⟨w.heap.size, 2, none⟩ = some (.int .i64 (o)) := (hb2.cell (by first | assumption | (simp <;> omega))).trans (by go_simp); have zi2 : w.heap.size + 1 < w2.heap.size := (by first | omega | (simp; omega)); have ci0_2 : w2.cell? ⟨w.heap.size + 1, 0, none⟩ = some (.int .i64 (s)) := (hb2.cell (by first | assumption | (simp <;> omega))).trans (by go_simp); have ci1_2 : w2.cell? ⟨w.heap.size + 1, 1, none⟩ = some (.int .i64 (h)) := (hb2.cell (by first | assumption | (simp <;> omega))).trans (by go_simp); have zr2 : w.heap.size + 1 + 1 < w2.heap.size := (by first | omega | (simp; omega)); have cr0_2 : w2.cell? ⟨w.heap.size + 1 + 1, 0, none⟩ = some (.int .i64 (0)) := (hb2.cell (by first | assumption | (simp <;> omega))).trans (by go_simp); have fr0_2 : w2.frozen? ⟨w.heap.size + 1 + 1, 0, none⟩ = false := (hb2.frozen (by first | assumption | (simp <;> omega))).trans (by go_simp); have cr1_2 : w2.cell? ⟨w.heap.size + 1 + 1, 1, none⟩ = some (.int .i64 (0)) := (hb2.cell (by first | assumption | (simp <;> omega))).trans (by go_simp); have fr1_2 : w2.frozen? ⟨w.heap.size + 1 + 1, 1, none⟩ = false := (hb2.frozen (by first | assumption | (simp <;> omega))).trans (by go_simp); have cr2_2 : w2.cell? ⟨w.heap.size + 1 + 1, 2, none⟩ = some (.int .i64 (0)) := (hb2.cell (by first | assumption | (simp <;> omega))).trans (by go_simp); have fr2_2 : w2.frozen? ⟨w.heap.size + 1 + 1, 2, none⟩ = false := (hb2.frozen (by first | assumption | (simp <;> omega))).trans (by go_simp)))
  obtain ⟨W, hW⟩ : ∃ W, W = w2.alloc (Obj.cells #[Value.int .i64 0, Value.int .i64 0, Value.int .i64 0] 23) := ⟨_, rfl⟩
  have zr : w.heap.size + 1 + 1 < W.heap.size := by rw [hW]; simp; omega
  have zq : w2.heap.size < W.heap.size := by rw [hW]; simp
  have zqw : w.heap.size + 1 + 1 < w2.heap.size := by omega
  have cp0 : W.cell? ⟨w.heap.size, 0, none⟩ = some (.int .i64 (l)) := by rw [hW]; go_simp
  have cp1 : W.cell? ⟨w.heap.size, 1, none⟩ = some (.int .i64 (a)) := by rw [hW]; go_simp
  have cp2 : W.cell? ⟨w.heap.size, 2, none⟩ = some (.int .i64 (o)) := by rw [hW]; go_simp
  have ci0 : W.cell? ⟨w.heap.size + 1, 0, none⟩ = some (.int .i64 (s)) := by rw [hW]; go_simp
  have ci1 : W.cell? ⟨w.heap.size + 1, 1, none⟩ = some (.int .i64 (h)) := by rw [hW]; go_simp
  have cr0 : W.cell? ⟨w.heap.size + 1 + 1, 0, none⟩ = some (.int .i64 (0)) := by rw [hW]; go_simp
  have fr0 : W.frozen? ⟨w.heap.size + 1 + 1, 0, none⟩ = false := by rw [hW]; go_simp
  have cr1 : W.cell? ⟨w.heap.size + 1 + 1, 1, none⟩ = some (.int .i64 (0)) := by rw [hW]; go_simp
  have fr1 : W.frozen? ⟨w.heap.size + 1 + 1, 1, none⟩ = false := by rw [hW]; go_simp
  have cr2 : W.cell? ⟨w.heap.size + 1 + 1, 2, none⟩ = some (.int .i64 (0)) := by rw [hW]; go_simp
  have fr2 : W.frozen? ⟨w.heap.size + 1 + 1, 2, none⟩ = false := by rw [hW]; go_simp
  have cq0 : W.cell? ⟨w2.heap.size, 0, none⟩ = some (.int .i64 (0)) := by rw [hW]; go_simp
  have fq0 : W.frozen? ⟨w2.heap.size, 0, none⟩ = false := by rw [hW]; go_simp
  have cq1 : W.cell? ⟨w2.heap.size, 1, none⟩ = some (.int .i64 (0)) := by rw [hW]; go_simp
  have fq1 : W.frozen? ⟨w2.heap.size, 1, none⟩ = false := by rw [hW]; go_simp
  have cq2 : W.cell? ⟨w2.heap.size, 2, none⟩ = some (.int .i64 (0)) := by rw [hW]; go_simp
  have fq2 : W.frozen? ⟨w2.heap.size, 2, none⟩ = false := by rw [hW]; go_simp
  have hBW : Below w.heap.size w W := by rw [hW]; exact (by repeat (first | exact Below.refl _ _ | assumption | refine below_drewN ?_ _ | refine Below.drew ?_ | refine below_new ?_ _ | refine Below.setCell ?_ (by first | omega | (simp <;> omega)) _ | refine below_then (by assumption) ?_))
  have HB := Lib.hid hBW
  rw [← hW]
  clear hBW hW hb1 hb2 hz1 hz2 cp0_1 cp1_1 cp2_1 ci0_1 ci1_1 cr0_1 cr1_1 cr2_1 fr0_1 fr1_1 fr2_1 cp0_2 cp1_2 cp2_2 ci0_2 ci1_2 cr0_2 cr1_2 cr2_2 fr0_2 fr1_2 fr2_2
  have ne0 : w2.heap.size ≠ w.heap.size := by omega
  have ne1 : w2.heap.size ≠ w.heap.size + 1 := by omega
  have ne2 : w2.heap.size ≠ w.heap.size + 1 + 1 := by omega
  go_region_held3 (fun w' => w'.cell? ⟨w.heap.size, 0, none⟩ = some (.int .i64 l) ∧ w'.cell? ⟨w.heap.size, 1, none⟩ = some (.int .i64 a) ∧ w'.cell? ⟨w.heap.size, 2, none⟩ = some (.int .i64 o)
      ∧ w'.cell? ⟨w.heap.size + 1, 0, none⟩ = some (.int .i64 s) ∧ w'.cell? ⟨w.heap.size + 1, 1, none⟩ = some (.int .i64 h))
    (first
      | exact ⟨cp0, cp1, cp2, ci0, ci1⟩
      | exact ⟨cell_then cp0 hbn, cell_then cp1 hbn, cell_then cp2 hbn, cell_then ci0 hbn, cell_then ci1 hbn⟩
      | go_keep
      | (go_split_ands; (repeat' apply And.intro) <;> go_simp))
    (first
      | (go_at_call 19; (with_reducible refine (steps_any l a o _ k1).mono ?_); rintro e wn ⟨rfl, hbn0⟩; have hbn : Below W.heap.size W wn := ((Below.refl _ _).drew).trans hbn0; have nq0 := cell_then cq0 hbn; have nq1 := cell_then cq1 hbn; have nq2 := cell_then cq2 hbn; have mq0 := (hbn.frozen zq).trans fq0; have mq1 := (hbn.frozen zq).trans fq1; have mq2 := (hbn.frozen zq).trans fq2)
      | (go_at_call 22; (with_reducible refine (floor_is S _ (by omega) (by omega)).mono ?_); rintro e wf ⟨rfl, n, rfl⟩))
  obtain ⟨V, hV⟩ : ∃ V, V = ((wn.drewN n).setCell ⟨w2.heap.size, 2, none⟩ (.int .i64 (S / 7))).setCell ⟨w2.heap.size, 0, none⟩ (.int .i64 (S % 7)) := ⟨_, rfl⟩
  have gp0 := cell_then cp0 hbn
  have gp1 := cell_then cp1 hbn
  have gp2 := cell_then cp2 hbn
  have gi0 := cell_then ci0 hbn
  have gi1 := cell_then ci1 hbn
  have gr0 := cell_then cr0 hbn
  have gr1 := cell_then cr1 hbn
  have gr2 := cell_then cr2 hbn
  have hr0 := (hbn.frozen zr).trans fr0
  have hr1 := (hbn.frozen zr).trans fr1
  have hr2 := (hbn.frozen zr).trans fr2
  have zqn : w2.heap.size < wn.heap.size := Nat.lt_of_lt_of_le zq hbn.size
  have zqV : w2.heap.size < V.heap.size := by rw [hV]; simp [World.setCell]; exact zqn
  have cp'0 : V.cell? ⟨w.heap.size, 0, none⟩ = some (.int .i64 (l)) := by rw [hV]; go_simp
  have cp'1 : V.cell? ⟨w.heap.size, 1, none⟩ = some (.int .i64 (a)) := by rw [hV]; go_simp
  have cp'2 : V.cell? ⟨w.heap.size, 2, none⟩ = some (.int .i64 (o)) := by rw [hV]; go_simp
  have ci'0 : V.cell? ⟨w.heap.size + 1, 0, none⟩ = some (.int .i64 (s)) := by rw [hV]; go_simp
  have ci'1 : V.cell? ⟨w.heap.size + 1, 1, none⟩ = some (.int .i64 (h)) := by rw [hV]; go_simp
  have cr'0 : V.cell? ⟨w.heap.size + 1 + 1, 0, none⟩ = some (.int .i64 (0)) := by rw [hV]; go_simp
  have fr'0 : V.frozen? ⟨w.heap.size + 1 + 1, 0, none⟩ = false := by rw [hV]; go_simp
  have cr'1 : V.cell? ⟨w.heap.size + 1 + 1, 1, none⟩ = some (.int .i64 (0)) := by rw [hV]; go_simp
  have fr'1 : V.frozen? ⟨w.heap.size + 1 + 1, 1, none⟩ = false := by rw [hV]; go_simp
  have cr'2 : V.cell? ⟨w.heap.size + 1 + 1, 2, none⟩ = some (.int .i64 (0)) := by rw [hV]; go_simp
  have fr'2 : V.frozen? ⟨w.heap.size + 1 + 1, 2, none⟩ = false := by rw [hV]; go_simp
  have cq'0 : V.cell? ⟨w2.heap.size, 0, none⟩ = some (.int .i64 (S % 7)) := by rw [hV]; go_simp
  have fq'0 : V.frozen? ⟨w2.heap.size, 0, none⟩ = false := by rw [hV]; go_simp
  have cq'1 : V.cell? ⟨w2.heap.size, 1, none⟩ = some (.int .i64 (0)) := by rw [hV]; go_simp
  have fq'1 : V.frozen? ⟨w2.heap.size, 1, none⟩ = false := by rw [hV]; go_simp
  have cq'2 : V.cell? ⟨w2.heap.size, 2, none⟩ = some (.int .i64 (S / 7)) := by rw [hV]; go_simp
  have fq'2 : V.frozen? ⟨w2.heap.size, 2, none⟩ = false := by rw [hV]; go_simp
  have hBV : Below w.heap.size w V := by
    rw [hV]
    have hb := HB.out
    exact (by repeat (first | exact Below.refl _ _ | assumption | refine below_drewN ?_ _ | refine Below.drew ?_ | refine below_new ?_ _ | refine Below.setCell ?_ (by first | omega | (simp <;> omega)) _ | refine below_then (by assumption) ?_))
  have HBV := Lib.hid hBV
  rw [← hV]
  have zrV : w.heap.size + 1 + 1 < V.heap.size := by omega
  clear hBV hV HB hbn0 gp0 gp1 gp2 gi0 gi1 gr0 gr1 gr2 hr0 hr1 hr2 nq0 nq1 nq2 mq0 mq1 mq2 cp0 cp1 cp2 ci0 ci1 cr0 cr1 cr2 fr0 fr1 fr2 cq0 cq1 cq2 fq0 fq1 fq2
  go_wp2_with fail
  have hE := Ext.cells V
  have cp0' := cp'0; have cp1' := cp'1; have cp2' := cp'2; have ci0' := ci'0; have ci1' := ci'1; have cq0' := cq'0; have cq1' := cq'1; have cq2' := cq'2
  have zpV : w.heap.size < V.heap.size := by omega
  have ziV : w.heap.size + 1 < V.heap.size := by omega
  refine wp_region_ext_tail 9 (by kernel_rfl) (by kernel_rfl) ?_
  simp only [List.take_succ_cons, List.take_zero, List.drop_succ_cons, List.drop_zero]
  repeat go_big_quiet_step ((first | (go_at_call 20; with_reducible refine ext_call (halves_any l a o _ (by omega) (by omega))) | (go_at_call 20; with_reducible refine ext_call (halves_any (S % 7) 0 (S / 7) _ (by omega) (by omega)))))
  refine wpQuiet_nil ?_
  rintro wd ⟨⟨_, hbd⟩, rfl⟩
  have hcd := hbd.cell (p := ⟨w2.heap.size, 1, none⟩) zqV
  rw [cq'1] at hcd
  have hfd := (hbd.frozen (p := ⟨w2.heap.size, 1, none⟩) zqV).trans fq'1
  have kq0 := cell_then cq'0 hbd
  have kq2 := cell_then cq'2 hbd
  have kr0 := cell_then cr'0 hbd
  have kr1 := cell_then cr'1 hbd
  have kr2 := cell_then cr'2 hbd
  have lr0 := (hbd.frozen (p := ⟨w.heap.size + 1 + 1, 0, none⟩) zrV).trans fr'0
  have lr1 := (hbd.frozen (p := ⟨w.heap.size + 1 + 1, 1, none⟩) zrV).trans fr'1
  have lr2 := (hbd.frozen (p := ⟨w.heap.size + 1 + 1, 2, none⟩) zrV).trans fr'2
  have zrd : w.heap.size + 1 + 1 < wd.heap.size := Nat.lt_of_lt_of_le zrV hbd.size
  have zqd : w2.heap.size < wd.heap.size := Nat.lt_of_lt_of_le zqV hbd.size
  have ne3 : w.heap.size + 1 + 1 ≠ w2.heap.size := by omega
  go_wp2_with (first
    | (go_at_call 10; with_reducible refine (right_any (S % 7) (H - halves (S % 7) 0 (S / 7)) (S / 7) _).mono ?_; rintro e w3 ⟨rfl, hb3⟩; have hz3 := hb3.size; (try simp at hz3); have zr3 : w.heap.size + 1 + 1 < w3.heap.size := (by first | omega | (simp; omega)); have cr0_3 : w3.cell? ⟨w.heap.size + 1 + 1, 0, none⟩ = some (.int .i64 (0)) := (hb3.cell (by first | assumption | (simp <;> omega))).trans (by go_simp); have fr0_3 : w3.frozen? ⟨w.heap.size + 1 + 1, 0, none⟩ = false := (hb3.frozen (by first | assumption | (simp <;> omega))).trans (by go_simp); have cr1_3 : w3.cell? ⟨w.heap.size + 1 + 1, 1, none⟩ = some (.int .i64 (0)) := (hb3.cell (by first | assumption | (simp <;> omega))).trans (by go_simp); have fr1_3 : w3.frozen? ⟨w.heap.size + 1 + 1, 1, none⟩ = false := (hb3.frozen (by first | assumption | (simp <;> omega))).trans (by go_simp); have cr2_3 : w3.cell? ⟨w.heap.size + 1 + 1, 2, none⟩ = some (.int .i64 (0)) := (hb3.cell (by first | assumption | (simp <;> omega))).trans (by go_simp); have fr2_3 : w3.frozen? ⟨w.heap.size + 1 + 1, 2, none⟩ = false := (hb3.frozen (by first | assumption | (simp <;> omega))).trans (by go_simp); have zq3 : w2.heap.size < w3.heap.size := (by first | omega | (simp; omega)); have cq0_3 : w3.cell? ⟨w2.heap.size, 0, none⟩ = some (.int .i64 (S % 7)) := (hb3.cell (by first | assumption | (simp <;> omega))).trans (by go_simp); have cq1_3 : w3.cell? ⟨w2.heap.size, 1, none⟩ = some (.int .i64 (H - halves (S % 7) 0 (S / 7))) := (hb3.cell (by first | assumption | (simp <;> omega))).trans (by go_simp); have cq2_3 : w3.cell? ⟨w2.heap.size, 2, none⟩ = some (.int .i64 (S / 7)) := (hb3.cell (by first | assumption | (simp <;> omega))).trans (by go_simp)))
  have hB3 : Below w.heap.size w w3 := (HBV.out.trans ((hbd.mono HBV.out.size).trans (((Below.refl _ _).setCell (p := ⟨w2.heap.size, 1, none⟩) (by simp; omega) _).trans (hb3.mono (by simp [World.setCell]; have := hbd.size; have := HBV.out.size; omega)))))
  exact bodyPost_ret (v := R4 (0, 0, 0, 3)) (by simp [results, Try.results9, go_sem, R4, cr0_3, cr1_3, cr2_3]) rfl ⟨by rw [HR.out], (by repeat (first | exact Below.refl _ _ | assumption | refine below_drewN ?_ _ | refine Below.drew ?_ | refine below_new ?_ _ | refine Below.setCell ?_ (by first | omega | (simp <;> omega)) _ | refine below_then (by assumption) ?_))⟩


theorem move_any (l a o s h : Int) (w : World) (i1 : I64 s) (i2 : I64 h) :
    Calls Try.prog 9 #[.agg #[.int .i64 l, .int .i64 a, .int .i64 o], .agg #[.int .i64 s, .int .i64 h]] w fun e w' =>
      e = .returned (R4 (move l a o s h)) ∧ Below w.heap.size w w' := by
  by_cases k : (rightB l a o && withinB s h) = true
  · have k' := k
    rw [Bool.and_eq_true] at k'
    by_cases k3 : rightB ((steps l o + s) % 7) (halves l a o + h - halves ((steps l o + s) % 7) 0 ((steps l o + s) / 7)) ((steps l o + s) / 7) = true
    · exact move_yes l a o s h w i1 i2 k'.1 k'.2 _ _ rfl rfl k3
    · exact move_no3 l a o s h w i1 i2 k'.1 k'.2 _ _ rfl rfl (by simpa only [Bool.not_eq_true] using k3)
  · exact move_bad l a o s h w i1 i2 (by simpa only [Bool.not_eq_true] using k)

theorem between_is (l a o l' a' o' : Int) {r : Int × Int × Int} (w : World) (h : between l a o l' a' o' = r) :
    Calls Try.prog 8 #[.agg #[.int .i64 l, .int .i64 a, .int .i64 o], .agg #[.int .i64 l', .int .i64 a', .int .i64 o']] w fun e w' =>
      e = .returned (R3 r) ∧ Below w.heap.size w w' := h ▸ between_any l a o l' a' o' w

set_option maxHeartbeats 1000000 in
theorem mirror_yes (l a o l' a' o' : Int) (w : World) (k1 : rightB l a o = true) (k2 : rightB l' a' o' = true) :
    Calls Try.prog 7 #[.agg #[.int .i64 l, .int .i64 a, .int .i64 o], .agg #[.int .i64 l', .int .i64 a', .int .i64 o']] w fun e w' =>
      e = .returned (R4 (mirror l a o l' a' o')) ∧ Below w.heap.size w w' := by
  have HR := Lib.hid (mirror_of k1 k2)
  have HB := Lib.hid (between_of k1 k2)
  obtain ⟨S, eS⟩ : ∃ S, S = steps l' o' - steps l o := ⟨_, rfl⟩
  obtain ⟨H, eH⟩ : ∃ H, H = halves l' a' o' - halves l a o := ⟨_, rfl⟩
  have b1 := bounds k1
  have b2 := bounds k2
  rw [← eS, ← eH] at HR HB
  have iS : I64 S := by unfold I64; omega
  have iH : I64 H := by unfold I64; omega
  clear eS eH b1 b2
  go_enter Try.func7, Try.ntmps7
  go_wp2_with (first
    | (go_at_call 8; with_reducible refine (between_is l a o l' a' o' _ HB.out).mono ?_; rintro e w1 ⟨rfl, hb1⟩; rw [R3]; have hz1 := hb1.size; (try simp at hz1); have zp1 : w.heap.size < w1.heap.size := (by first | omega | (simp; omega)); have cp0_1 : w1.cell? ⟨w.heap.size, 0, none⟩ = some (.int .i64 (l)) := (hb1.cell (by first | assumption | (simp <;> omega))).trans (by go_simp); have cp1_1 : w1.cell? ⟨w.heap.size, 1, none⟩ = some (.int .i64 (a)) := (hb1.cell (by first | assumption | (simp <;> omega))).trans (by go_simp); have cp2_1 : w1.cell? ⟨w.heap.size, 2, none⟩ = some (.int .i64 (o)) := (hb1.cell (by first | assumption | (simp <;> omega))).trans (by go_simp); have zx1 : w.heap.size + 1 < w1.heap.size := (by first | omega | (simp; omega)); have cx0_1 : w1.cell? ⟨w.heap.size + 1, 0, none⟩ = some (.int .i64 (l')) := (hb1.cell (by first | assumption | (simp <;> omega))).trans (by go_simp); have cx1_1 : w1.cell? ⟨w.heap.size + 1, 1, none⟩ = some (.int .i64 (a')) := (hb1.cell (by first | assumption | (simp <;> omega))).trans (by go_simp); have cx2_1 : w1.cell? ⟨w.heap.size + 1, 2, none⟩ = some (.int .i64 (o')) := (hb1.cell (by first | assumption | (simp <;> omega))).trans (by go_simp); have zr1 : w.heap.size + 1 + 1 < w1.heap.size := (by first | omega | (simp; omega)); have cr0_1 : w1.cell? ⟨w.heap.size + 1 + 1, 0, none⟩ = some (.int .i64 (0)) := (hb1.cell (by first | assumption | (simp <;> omega))).trans (by go_simp); have fr0_1 : w1.frozen? ⟨w.heap.size + 1 + 1, 0, none⟩ = false := (hb1.frozen (by first | assumption | (simp <;> omega))).trans (by go_simp); have cr1_1 : w1.cell? ⟨w.heap.size + 1 + 1, 1, none⟩ = some (.int .i64 (0)) := (hb1.cell (by first | assumption | (simp <;> omega))).trans (by go_simp); have fr1_1 : w1.frozen? ⟨w.heap.size + 1 + 1, 1, none⟩ = false := (hb1.frozen (by first | assumption | (simp <;> omega))).trans (by go_simp); have cr2_1 : w1.cell? ⟨w.heap.size + 1 + 1, 2, none⟩ = some (.int .i64 (0)) := (hb1.cell (by first | assumption | (simp <;> omega))).trans (by go_simp); have fr2_1 : w1.frozen? ⟨w.heap.size + 1 + 1, 2, none⟩ = false := (hb1.frozen (by first | assumption | (simp <;> omega))).trans (by go_simp))
    | (go_at_call 9; with_reducible refine (move_any l' a' o' S H _ iS iH).mono ?_; rintro e w2 ⟨rfl, hb2⟩; rw [R4]; have hz2 := hb2.size; (try simp at hz2); have zp2 : w.heap.size < w2.heap.size := (by first | omega | (simp; omega)); have cp0_2 : w2.cell? ⟨w.heap.size, 0, none⟩ = some (.int .i64 (l)) := (hb2.cell (by first | assumption | (simp <;> omega))).trans (by go_simp); have cp1_2 : w2.cell? ⟨w.heap.size, 1, none⟩ = some (.int .i64 (a)) := (hb2.cell (by first | assumption | (simp <;> omega))).trans (by go_simp); have cp2_2 : w2.cell? ⟨w.heap.size, 2, none⟩ = some (.int .i64 (o)) := (hb2.cell (by first | assumption | (simp <;> omega))).trans (by go_simp); have zx2 : w.heap.size + 1 < w2.heap.size := (by first | omega | (simp; omega)); have cx0_2 : w2.cell? ⟨w.heap.size + 1, 0, none⟩ = some (.int .i64 (l')) := (hb2.cell (by first | assumption | (simp <;> omega))).trans (by go_simp); have cx1_2 : w2.cell? ⟨w.heap.size + 1, 1, none⟩ = some (.int .i64 (a')) := (hb2.cell (by first | assumption | (simp <;> omega))).trans (by go_simp); have cx2_2 : w2.cell? ⟨w.heap.size + 1, 2, none⟩ = some (.int .i64 (o')) := (hb2.cell (by first | assumption | (simp <;> omega))).trans (by go_simp); have zr2 : w.heap.size + 1 + 1 < w2.heap.size := (by first | omega | (simp; omega)); have cr0_2 : w2.cell? ⟨w.heap.size + 1 + 1, 0, none⟩ = some (.int .i64 (0)) := (hb2.cell (by first | assumption | (simp <;> omega))).trans (by go_simp); have fr0_2 : w2.frozen? ⟨w.heap.size + 1 + 1, 0, none⟩ = false := (hb2.frozen (by first | assumption | (simp <;> omega))).trans (by go_simp); have cr1_2 : w2.cell? ⟨w.heap.size + 1 + 1, 1, none⟩ = some (.int .i64 (0)) := (hb2.cell (by first | assumption | (simp <;> omega))).trans (by go_simp); have fr1_2 : w2.frozen? ⟨w.heap.size + 1 + 1, 1, none⟩ = false := (hb2.frozen (by first | assumption | (simp <;> omega))).trans (by go_simp); have cr2_2 : w2.cell? ⟨w.heap.size + 1 + 1, 2, none⟩ = some (.int .i64 (0)) := (hb2.cell (by first | assumption | (simp <;> omega))).trans (by go_simp); have fr2_2 : w2.frozen? ⟨w.heap.size + 1 + 1, 2, none⟩ = false := (hb2.frozen (by first | assumption | (simp <;> omega))).trans (by go_simp); have zi2 : w1.heap.size < w2.heap.size := (by first | omega | (simp; omega)); have ci0_2 : w2.cell? ⟨w1.heap.size, 0, none⟩ = some (.int .i64 (S)) := (hb2.cell (by first | assumption | (simp <;> omega))).trans (by go_simp); have ci1_2 : w2.cell? ⟨w1.heap.size, 1, none⟩ = some (.int .i64 (H)) := (hb2.cell (by first | assumption | (simp <;> omega))).trans (by go_simp)))
  exact bodyPost_ret (v := R4 (move l' a' o' S H)) (by simp [results, Try.results7, go_sem, R4, cr0_2, cr1_2, cr2_2]) rfl ⟨by rw [HR.out], (by repeat (first | exact Below.refl _ _ | assumption | refine below_drewN ?_ _ | refine Below.drew ?_ | refine below_new ?_ _ | refine Below.setCell ?_ (by first | omega | (simp <;> omega)) _ | refine below_then (by assumption) ?_))⟩

set_option maxHeartbeats 1000000 in
theorem mirror_no (l a o l' a' o' : Int) (w : World) (h : (rightB l a o && rightB l' a' o') = false) :
    Calls Try.prog 7 #[.agg #[.int .i64 l, .int .i64 a, .int .i64 o], .agg #[.int .i64 l', .int .i64 a', .int .i64 o']] w fun e w' =>
      e = .returned (R4 (mirror l a o l' a' o')) ∧ Below w.heap.size w w' := by
  have HR := Lib.hid (show mirror l a o l' a' o' = (0, 0, 0, 2) by simp [mirror, h])
  have HB := Lib.hid (show between l a o l' a' o' = (0, 0, 2) by simp [between, h])
  clear h
  go_enter Try.func7, Try.ntmps7
  go_wp2_with (first
    | (go_at_call 8; with_reducible refine (between_is l a o l' a' o' _ HB.out).mono ?_; rintro e w1 ⟨rfl, hb1⟩; rw [R3]; have hz1 := hb1.size; (try simp at hz1); have zp1 : w.heap.size < w1.heap.size := (by first | omega | (simp; omega)); have cp0_1 : w1.cell? ⟨w.heap.size, 0, none⟩ = some (.int .i64 (l)) := (hb1.cell (by first | assumption | (simp <;> omega))).trans (by go_simp); have cp1_1 : w1.cell? ⟨w.heap.size, 1, none⟩ = some (.int .i64 (a)) := (hb1.cell (by first | assumption | (simp <;> omega))).trans (by go_simp); have cp2_1 : w1.cell? ⟨w.heap.size, 2, none⟩ = some (.int .i64 (o)) := (hb1.cell (by first | assumption | (simp <;> omega))).trans (by go_simp); have zx1 : w.heap.size + 1 < w1.heap.size := (by first | omega | (simp; omega)); have cx0_1 : w1.cell? ⟨w.heap.size + 1, 0, none⟩ = some (.int .i64 (l')) := (hb1.cell (by first | assumption | (simp <;> omega))).trans (by go_simp); have cx1_1 : w1.cell? ⟨w.heap.size + 1, 1, none⟩ = some (.int .i64 (a')) := (hb1.cell (by first | assumption | (simp <;> omega))).trans (by go_simp); have cx2_1 : w1.cell? ⟨w.heap.size + 1, 2, none⟩ = some (.int .i64 (o')) := (hb1.cell (by first | assumption | (simp <;> omega))).trans (by go_simp); have zr1 : w.heap.size + 1 + 1 < w1.heap.size := (by first | omega | (simp; omega)); have cr0_1 : w1.cell? ⟨w.heap.size + 1 + 1, 0, none⟩ = some (.int .i64 (0)) := (hb1.cell (by first | assumption | (simp <;> omega))).trans (by go_simp); have fr0_1 : w1.frozen? ⟨w.heap.size + 1 + 1, 0, none⟩ = false := (hb1.frozen (by first | assumption | (simp <;> omega))).trans (by go_simp); have cr1_1 : w1.cell? ⟨w.heap.size + 1 + 1, 1, none⟩ = some (.int .i64 (0)) := (hb1.cell (by first | assumption | (simp <;> omega))).trans (by go_simp); have fr1_1 : w1.frozen? ⟨w.heap.size + 1 + 1, 1, none⟩ = false := (hb1.frozen (by first | assumption | (simp <;> omega))).trans (by go_simp); have cr2_1 : w1.cell? ⟨w.heap.size + 1 + 1, 2, none⟩ = some (.int .i64 (0)) := (hb1.cell (by first | assumption | (simp <;> omega))).trans (by go_simp); have fr2_1 : w1.frozen? ⟨w.heap.size + 1 + 1, 2, none⟩ = false := (hb1.frozen (by first | assumption | (simp <;> omega))).trans (by go_simp)))
  exact bodyPost_ret (v := R4 (0, 0, 0, 2)) (by simp [results, Try.results7, go_sem, R4, cr0_1, cr1_1, cr2_1, zr1]) rfl ⟨by rw [HR.out], (by repeat (first | exact Below.refl _ _ | assumption | refine below_drewN ?_ _ | refine Below.drew ?_ | refine below_new ?_ _ | refine Below.setCell ?_ (by first | omega | (simp <;> omega)) _ | refine below_then (by assumption) ?_))⟩

theorem mirror_any (l a o l' a' o' : Int) (w : World) :
    Calls Try.prog 7 #[.agg #[.int .i64 l, .int .i64 a, .int .i64 o], .agg #[.int .i64 l', .int .i64 a', .int .i64 o']] w fun e w' =>
      e = .returned (R4 (mirror l a o l' a' o')) ∧ Below w.heap.size w w' := by
  by_cases h : (rightB l a o && rightB l' a' o') = true
  · rw [Bool.and_eq_true] at h; exact mirror_yes l a o l' a' o' w h.1 h.2
  · exact mirror_no l a o l' a' o' w (by simpa only [Bool.not_eq_true] using h)

end Go.Proofs.Ytkhdpepcpmjhcaa.Pi
