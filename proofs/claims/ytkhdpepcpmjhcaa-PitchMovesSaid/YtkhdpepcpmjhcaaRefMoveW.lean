/-
  THE WALK of the reference's Move.
-/
import Derived.Test.YtkhdpepcpmjhcaaRefPitchV
import Derived.Test.YtkhdpepcpmjhcaaLoose
namespace Go.Proofs.Ytkhdpepcpmjhcaa.Pi
open Go.RowKit


set_option maxHeartbeats 4000000 in
theorem ref_move_good (l a o s h : Int) (w : World) (ha : I64 a) (k1 : rightB l a o = true) (k2 : withinB s h = true)
    (S H : Int) (eS : steps l o + s = S) (eH : halves l a o + h = H) (k3 : rightB (S % 7) (H - white S) (S / 7) = true) :
    Calls Try.prog 16 #[.agg #[.int .i64 l, .int .i64 a, .int .i64 o], .agg #[.int .i64 s, .int .i64 h]] w fun e w' =>
      e = .returned (R4 (move l a o s h)) ∧ Below w.heap.size w w' := by
  have HR := Lib.hid (show move l a o s h = at_ S H by rw [move_at k1 k2, eS, eH])
  have b1 := bounds k1
  have b2 := withinB_iff.1 k2
  have bS : -1000 ≤ S ∧ S ≤ 1000 := by omega
  have bH : -100000 ≤ H ∧ H ≤ 100000 := by omega
  have hwS : IntKind.i64.wrap (steps l o + s) = S := by rw [eS]; exact IntWalk.i64_in _ (by omega)
  have hwH : IntKind.i64.wrap (halves l a o + h) = H := by rw [eH]; exact IntWalk.i64_in _ (by omega)
  clear eS eH
  have HA := Lib.hid (show at_ S H = (S % 7, H - white S, S / 7, 0) by rw [at_white, if_pos k3])
  have HK := Lib.hid k3
  clear k3
  go_enter Try.func16, Try.ntmps16
  go_wp2_with (first
    | (go_at_call 14; with_reducible refine (ref_right_any l a o _ ha).mono ?_; rintro e w1 ⟨rfl, hb1⟩; have hz1 := hb1.size; (try simp at hz1); have zp1 : w.heap.size < w1.heap.size := (by first | omega | (simp; omega)); have cp0_1 : w1.cell? ⟨w.heap.size, 0, none⟩ = some (.int .i64 (l)) := (hb1.cell (by first | assumption | (simp <;> omega))).trans (by go_simp); have cp1_1 : w1.cell? ⟨w.heap.size, 1, none⟩ = some (.int .i64 (a)) := (hb1.cell (by first | assumption | (simp <;> omega))).trans (by go_simp); have cp2_1 : w1.cell? ⟨w.heap.size, 2, none⟩ = some (.int .i64 (o)) := (hb1.cell (by first | assumption | (simp <;> omega))).trans (by go_simp); have zi1 : w.heap.size + 1 < w1.heap.size := (by first | omega | (simp; omega)); have ci0_1 : w1.cell? ⟨w.heap.size + 1, 0, none⟩ = some (.int .i64 (s)) := (hb1.cell (by first | assumption | (simp <;> omega))).trans (by go_simp); have ci1_1 : w1.cell? ⟨w.heap.size + 1, 1, none⟩ = some (.int .i64 (h)) := (hb1.cell (by first | assumption | (simp <;> omega))).trans (by go_simp); have zr1 : w.heap.size + 1 + 1 < w1.heap.size := (by first | omega | (simp; omega)); have cr0_1 : w1.cell? ⟨w.heap.size + 1 + 1, 0, none⟩ = some (.int .i64 (0)) := (hb1.cell (by first | assumption | (simp <;> omega))).trans (by go_simp); have fr0_1 : w1.frozen? ⟨w.heap.size + 1 + 1, 0, none⟩ = false := (hb1.frozen (by first | assumption | (simp <;> omega))).trans (by go_simp); have cr1_1 : w1.cell? ⟨w.heap.size + 1 + 1, 1, none⟩ = some (.int .i64 (0)) := (hb1.cell (by first | assumption | (simp <;> omega))).trans (by go_simp); have fr1_1 : w1.frozen? ⟨w.heap.size + 1 + 1, 1, none⟩ = false := (hb1.frozen (by first | assumption | (simp <;> omega))).trans (by go_simp); have cr2_1 : w1.cell? ⟨w.heap.size + 1 + 1, 2, none⟩ = some (.int .i64 (0)) := (hb1.cell (by first | assumption | (simp <;> omega))).trans (by go_simp); have fr2_1 : w1.frozen? ⟨w.heap.size + 1 + 1, 2, none⟩ = false := (hb1.frozen (by first | assumption | (simp <;> omega))).trans (by go_simp))
    | (go_at_call 26; with_reducible refine (ref_within_any s h _).mono ?_; rintro e w2 ⟨rfl, hb2⟩; have hz2 := hb2.size; (try simp at hz2); have zp2 : w.heap.size < w2.heap.size := (by first | omega | (simp; omega)); have cp0_2 : w2.cell? ⟨w.heap.size, 0, none⟩ = some (.int .i64 (l)) := (hb2.cell (by first | assumption | (simp <;> omega))).trans (by go_simp); have cp1_2 : w2.cell? ⟨w.heap.size, 1, none⟩ = some (.int .i64 (a)) := (hb2.cell (by first | assumption | (simp <;> omega))).trans (by go_simp); have cp2_2 : w2.cell? ⟨w.heap.size, 2, none⟩ = some (.int .i64 (o)) := (hb2.cell (by first | assumption | (simp <;> omega))).trans (by go_simp); have zi2 : w.heap.size + 1 < w2.heap.size := (by first | omega | (simp; omega)); have ci0_2 : w2.cell? ⟨w.heap.size + 1, 0, none⟩ = some (.int .i64 (s)) := (hb2.cell (by first | assumption | (simp <;> omega))).trans (by go_simp); have ci1_2 : w2.cell? ⟨w.heap.size + 1, 1, none⟩ = some (.int .i64 (h)) := (hb2.cell (by first | assumption | (simp <;> omega))).trans (by go_simp); have zr2 : w.heap.size + 1 + 1 < w2.heap.size := (by first | omega | (simp; omega)); have cr0_2 : w2.cell? ⟨w.heap.size + 1 + 1, 0, none⟩ = some (.int .i64 (0)) := (hb2.cell (by first | assumption | (simp <;> omega))).trans (by go_simp); have fr0_2 : w2.frozen? ⟨w.heap.size + 1 + 1, 0, none⟩ = false := (hb2.frozen (by first | assumption | (simp <;> omega))).trans (by go_simp); have cr1_2 : w2.cell? ⟨w.heap.size + 1 + 1, 1, none⟩ = some (.int .i64 (0)) := (hb2.cell (by first | assumption | (simp <;> omega))).trans (by go_simp); have fr1_2 : w2.frozen? ⟨w.heap.size + 1 + 1, 1, none⟩ = false := (hb2.frozen (by first | assumption | (simp <;> omega))).trans (by go_simp); have cr2_2 : w2.cell? ⟨w.heap.size + 1 + 1, 2, none⟩ = some (.int .i64 (0)) := (hb2.cell (by first | assumption | (simp <;> omega))).trans (by go_simp); have fr2_2 : w2.frozen? ⟨w.heap.size + 1 + 1, 2, none⟩ = false := (hb2.frozen (by first | assumption | (simp <;> omega))).trans (by go_simp)))
  clear cp0_1 cp1_1 cp2_1 ci0_1 ci1_1 cr0_1 cr1_1 cr2_1 fr0_1 fr1_1 fr2_1
  have hE := Ext.cells w2
  refine wp_region_loose_alloc [(13, 15)] 14 #[.int .i64 0, .int .i64 0, .int .i64 0] 23 (by kernel_rfl) (by kernel_rfl) (by kernel_rfl) rfl rfl (fun _ _ => by rfl) ?_
  simp only [List.take_succ_cons, List.take_zero, List.drop_succ_cons, List.drop_zero]
  repeat (
    refine wpSq_step (fun K hK => ?_)
    simp [sq, go_sem, *]
    first
      | (refine hK _ ?_; clear hK K)
      | (apply Exists.intro
         refine ⟨fun _ => ?_, hK _ ?_⟩
         (first
          | (go_at_call 25; with_reducible refine sq_call (ref_steps_any l a o _ k1))
          | (go_at_call 23; with_reducible refine sq_call (ref_halves_any l a o _ k1))
          | (go_at_call 27; with_reducible refine sq_call (ref_at_is S H _ bS bH HK.out)))
         clear hK K))
  clear hE
  refine wpSq_nil ?_
  rintro _ wd ⟨hbd, b, rfl, hb0, hnew⟩
  have n0 := new_cell hnew 0 _ rfl
  have n1 := new_cell hnew 1 _ rfl
  have n2 := new_cell hnew 2 _ rfl
  have m0 := new_free hnew 0
  have m1 := new_free hnew 1
  have m2 := new_free hnew 2
  have r0 := cell_then cr0_2 hbd
  have r1 := cell_then cr1_2 hbd
  have r2 := cell_then cr2_2 hbd
  have g0 := (hbd.frozen (p := ⟨w.heap.size + 1 + 1, 0, none⟩) zr2).trans fr0_2
  have g1 := (hbd.frozen (p := ⟨w.heap.size + 1 + 1, 1, none⟩) zr2).trans fr1_2
  have g2 := (hbd.frozen (p := ⟨w.heap.size + 1 + 1, 2, none⟩) zr2).trans fr2_2
  have hne : w.heap.size + 1 + 1 ≠ b := by omega
  have hle : w.heap.size ≤ b := by omega
  have hBd : Below w.heap.size w wd := below_then hbd (below_then hb2 (below_then hb1 (below_new (below_new (below_new (Below.refl _ _) _) _) _)))
  clear hnew cp0_2 cp1_2 cp2_2 ci0_2 ci1_2 cr0_2 cr1_2 cr2_2 fr0_2 fr1_2 fr2_2
  go_wp2
  refine ⟨rfl, ?_⟩
  go_wp2
  exact bodyPost_ret (v := R4 (S % 7, H - white S, S / 7, 0)) (by simp [results, Try.results16, go_sem, R4, r0, r1, r2]) rfl ⟨by rw [HR.out, HA.out], by (repeat refine Below.setCell ?_ (by first | exact hle | (show w.heap.size ≤ w.heap.size + 1 + 1; omega)) _); exact hBd⟩

set_option maxHeartbeats 4000000 in
theorem ref_move_far (l a o s h : Int) (w : World) (ha : I64 a) (k1 : rightB l a o = true) (k2 : withinB s h = true)
    (S H : Int) (eS : steps l o + s = S) (eH : halves l a o + h = H) (k3 : rightB (S % 7) (H - white S) (S / 7) = false) :
    Calls Try.prog 16 #[.agg #[.int .i64 l, .int .i64 a, .int .i64 o], .agg #[.int .i64 s, .int .i64 h]] w fun e w' =>
      e = .returned (R4 (move l a o s h)) ∧ Below w.heap.size w w' := by
  have HR := Lib.hid (show move l a o s h = at_ S H by rw [move_at k1 k2, eS, eH])
  have b1 := bounds k1
  have b2 := withinB_iff.1 k2
  have bS : -1000 ≤ S ∧ S ≤ 1000 := by omega
  have bH : -100000 ≤ H ∧ H ≤ 100000 := by omega
  have hwS : IntKind.i64.wrap (steps l o + s) = S := by rw [eS]; exact IntWalk.i64_in _ (by omega)
  have hwH : IntKind.i64.wrap (halves l a o + h) = H := by rw [eH]; exact IntWalk.i64_in _ (by omega)
  clear eS eH
  have HA := Lib.hid (show at_ S H = (0, 0, 0, 3) by rw [at_white, if_neg (by rw [k3]; decide)])
  have HK := Lib.hid k3
  clear k3
  go_enter Try.func16, Try.ntmps16
  go_wp2_with (first
    | (go_at_call 14; with_reducible refine (ref_right_any l a o _ ha).mono ?_; rintro e w1 ⟨rfl, hb1⟩; have hz1 := hb1.size; (try simp at hz1); have zp1 : w.heap.size < w1.heap.size := (by first | omega | (simp; omega)); have cp0_1 : w1.cell? ⟨w.heap.size, 0, none⟩ = some (.int .i64 (l)) := (hb1.cell (by first | assumption | (simp <;> omega))).trans (by go_simp); have cp1_1 : w1.cell? ⟨w.heap.size, 1, none⟩ = some (.int .i64 (a)) := (hb1.cell (by first | assumption | (simp <;> omega))).trans (by go_simp); have cp2_1 : w1.cell? ⟨w.heap.size, 2, none⟩ = some (.int .i64 (o)) := (hb1.cell (by first | assumption | (simp <;> omega))).trans (by go_simp); have zi1 : w.heap.size + 1 < w1.heap.size := (by first | omega | (simp; omega)); have ci0_1 : w1.cell? ⟨w.heap.size + 1, 0, none⟩ = some (.int .i64 (s)) := (hb1.cell (by first | assumption | (simp <;> omega))).trans (by go_simp); have ci1_1 : w1.cell? ⟨w.heap.size + 1, 1, none⟩ = some (.int .i64 (h)) := (hb1.cell (by first | assumption | (simp <;> omega))).trans (by go_simp); have zr1 : w.heap.size + 1 + 1 < w1.heap.size := (by first | omega | (simp; omega)); have cr0_1 : w1.cell? ⟨w.heap.size + 1 + 1, 0, none⟩ = some (.int .i64 (0)) := (hb1.cell (by first | assumption | (simp <;> omega))).trans (by go_simp); have fr0_1 : w1.frozen? ⟨w.heap.size + 1 + 1, 0, none⟩ = false := (hb1.frozen (by first | assumption | (simp <;> omega))).trans (by go_simp); have cr1_1 : w1.cell? ⟨w.heap.size + 1 + 1, 1, none⟩ = some (.int .i64 (0)) := (hb1.cell (by first | assumption | (simp <;> omega))).trans (by go_simp); have fr1_1 : w1.frozen? ⟨w.heap.size + 1 + 1, 1, none⟩ = false := (hb1.frozen (by first | assumption | (simp <;> omega))).trans (by go_simp); have cr2_1 : w1.cell? ⟨w.heap.size + 1 + 1, 2, none⟩ = some (.int .i64 (0)) := (hb1.cell (by first | assumption | (simp <;> omega))).trans (by go_simp); have fr2_1 : w1.frozen? ⟨w.heap.size + 1 + 1, 2, none⟩ = false := (hb1.frozen (by first | assumption | (simp <;> omega))).trans (by go_simp))
    | (go_at_call 26; with_reducible refine (ref_within_any s h _).mono ?_; rintro e w2 ⟨rfl, hb2⟩; have hz2 := hb2.size; (try simp at hz2); have zp2 : w.heap.size < w2.heap.size := (by first | omega | (simp; omega)); have cp0_2 : w2.cell? ⟨w.heap.size, 0, none⟩ = some (.int .i64 (l)) := (hb2.cell (by first | assumption | (simp <;> omega))).trans (by go_simp); have cp1_2 : w2.cell? ⟨w.heap.size, 1, none⟩ = some (.int .i64 (a)) := (hb2.cell (by first | assumption | (simp <;> omega))).trans (by go_simp); have cp2_2 : w2.cell? ⟨w.heap.size, 2, none⟩ = some (.int .i64 (o)) := (hb2.cell (by first | assumption | (simp <;> omega))).trans (by go_simp); have zi2 : w.heap.size + 1 < w2.heap.size := (by first | omega | (simp; omega)); have ci0_2 : w2.cell? ⟨w.heap.size + 1, 0, none⟩ = some (.int .i64 (s)) := (hb2.cell (by first | assumption | (simp <;> omega))).trans (by go_simp); have ci1_2 : w2.cell? ⟨w.heap.size + 1, 1, none⟩ = some (.int .i64 (h)) := (hb2.cell (by first | assumption | (simp <;> omega))).trans (by go_simp); have zr2 : w.heap.size + 1 + 1 < w2.heap.size := (by first | omega | (simp; omega)); have cr0_2 : w2.cell? ⟨w.heap.size + 1 + 1, 0, none⟩ = some (.int .i64 (0)) := (hb2.cell (by first | assumption | (simp <;> omega))).trans (by go_simp); have fr0_2 : w2.frozen? ⟨w.heap.size + 1 + 1, 0, none⟩ = false := (hb2.frozen (by first | assumption | (simp <;> omega))).trans (by go_simp); have cr1_2 : w2.cell? ⟨w.heap.size + 1 + 1, 1, none⟩ = some (.int .i64 (0)) := (hb2.cell (by first | assumption | (simp <;> omega))).trans (by go_simp); have fr1_2 : w2.frozen? ⟨w.heap.size + 1 + 1, 1, none⟩ = false := (hb2.frozen (by first | assumption | (simp <;> omega))).trans (by go_simp); have cr2_2 : w2.cell? ⟨w.heap.size + 1 + 1, 2, none⟩ = some (.int .i64 (0)) := (hb2.cell (by first | assumption | (simp <;> omega))).trans (by go_simp); have fr2_2 : w2.frozen? ⟨w.heap.size + 1 + 1, 2, none⟩ = false := (hb2.frozen (by first | assumption | (simp <;> omega))).trans (by go_simp)))
  clear cp0_1 cp1_1 cp2_1 ci0_1 ci1_1 cr0_1 cr1_1 cr2_1 fr0_1 fr1_1 fr2_1
  have hE := Ext.cells w2
  refine wp_region_loose_alloc [(13, 15)] 14 #[.int .i64 0, .int .i64 0, .int .i64 0] 23 (by kernel_rfl) (by kernel_rfl) (by kernel_rfl) rfl rfl (fun _ _ => by rfl) ?_
  simp only [List.take_succ_cons, List.take_zero, List.drop_succ_cons, List.drop_zero]
  repeat (
    refine wpSq_step (fun K hK => ?_)
    simp [sq, go_sem, *]
    first
      | (refine hK _ ?_; clear hK K)
      | (apply Exists.intro
         refine ⟨fun _ => ?_, hK _ ?_⟩
         (first
          | (go_at_call 25; with_reducible refine sq_call (ref_steps_any l a o _ k1))
          | (go_at_call 23; with_reducible refine sq_call (ref_halves_any l a o _ k1))
          | (go_at_call 27; with_reducible refine sq_call (ref_at_is S H _ bS bH HK.out)))
         clear hK K))
  clear hE
  refine wpSq_nil ?_
  rintro _ wd ⟨hbd, b, rfl, hb0, hnew⟩
  have n0 := new_cell hnew 0 _ rfl
  have n1 := new_cell hnew 1 _ rfl
  have n2 := new_cell hnew 2 _ rfl
  have m0 := new_free hnew 0
  have m1 := new_free hnew 1
  have m2 := new_free hnew 2
  have r0 := cell_then cr0_2 hbd
  have r1 := cell_then cr1_2 hbd
  have r2 := cell_then cr2_2 hbd
  have g0 := (hbd.frozen (p := ⟨w.heap.size + 1 + 1, 0, none⟩) zr2).trans fr0_2
  have g1 := (hbd.frozen (p := ⟨w.heap.size + 1 + 1, 1, none⟩) zr2).trans fr1_2
  have g2 := (hbd.frozen (p := ⟨w.heap.size + 1 + 1, 2, none⟩) zr2).trans fr2_2
  have hne : w.heap.size + 1 + 1 ≠ b := by omega
  have hle : w.heap.size ≤ b := by omega
  have hBd : Below w.heap.size w wd := below_then hbd (below_then hb2 (below_then hb1 (below_new (below_new (below_new (Below.refl _ _) _) _) _)))
  clear hnew cp0_2 cp1_2 cp2_2 ci0_2 ci1_2 cr0_2 cr1_2 cr2_2 fr0_2 fr1_2 fr2_2
  go_wp2
  refine ⟨rfl, ?_⟩
  go_wp2
  exact bodyPost_ret (v := R4 (0, 0, 0, 3)) (by simp [results, Try.results16, go_sem, R4, r0, r1, r2]) rfl ⟨by rw [HR.out, HA.out], by (repeat refine Below.setCell ?_ (by first | exact hle | (show w.heap.size ≤ w.heap.size + 1 + 1; omega)) _); exact hBd⟩

theorem ref_move_any (l a o s h : Int) (w : World) (ha : I64 a) :
    Calls Try.prog 16 #[.agg #[.int .i64 l, .int .i64 a, .int .i64 o], .agg #[.int .i64 s, .int .i64 h]] w fun e w' =>
      e = .returned (R4 (move l a o s h)) ∧ Below w.heap.size w w' := by
  by_cases k : (rightB l a o && withinB s h) = true
  · rw [Bool.and_eq_true] at k
    by_cases k3 : rightB ((steps l o + s) % 7) ((halves l a o + h) - white (steps l o + s)) ((steps l o + s) / 7) = true
    · exact ref_move_good l a o s h w ha k.1 k.2 _ _ rfl rfl k3
    · exact ref_move_far l a o s h w ha k.1 k.2 _ _ rfl rfl (by simpa using k3)
  · exact ref_move_bad l a o s h w ha (by simpa using k)

end Go.Proofs.Ytkhdpepcpmjhcaa.Pi
