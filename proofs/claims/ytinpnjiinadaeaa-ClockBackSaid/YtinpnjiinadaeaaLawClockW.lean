/-
  THE WALKS of the laws ClockTells, ClockBack. (Printed by gen/clocklaws.py.)
-/
import Derived.Test.YtinpnjiinadaeaaRefClockV
namespace Go.Proofs.Ytinpnjiinadaeaa.Cl
open Go.RowKit

set_option maxHeartbeats 8000000 in
set_option maxRecDepth 100000 in
theorem tells_wrong {p : Option Addr} {n : Nat} {A P : Nat → Int} {R : Nat → Bool} (cap : Nat) (x pl u d : Int) (w : World) (ha : Arg w p n A P R) (hu : I64 u) (hd : I64 d) {v a b c e r : Int} (HW : Hid (wrong n A P = v)) (z : (v != 0) = true) (HT : Hid (twice n A P R x = (0, v))) (HP : Hid (place n A P R x u d = (a, b)))
    (hr : wrong n A P = 0 → rated u d = 0 → IsBack (smp n A P R u d) pl r) (HK : Hid (backR n A P u d r = (c, e))) :
    Calls Try.prog 5 #[.slice p n cap, .int .i64 x, .int .i64 pl, .agg #[.int .i64 u, .int .i64 d]] w fun e w' => e = .returned (.bool true) ∧ Below w.heap.size w w' := by
  have h0 : ∀ o' : Obj, Arg (w.alloc o') p n A P R := fun o' => ha.below (below_new (Below.refl _ _) o')
  have HR := Lib.hid hr
  go_enter Try.func5, Try.ntmps5
  go_wp2_with (first
    | (go_at_call 9; with_reducible refine (wrong_is cap _ (h0 _) HW.out).mono ?_; rintro e w1 ⟨rfl, hb1⟩; have hz1 := hb1.size; (try simp at hz1); have zx1 : w.heap.size < w1.heap.size := (by first | omega | (simp; omega)); have cx0_1 : w1.cell? ⟨w.heap.size, 0, none⟩ = some (.int .i64 (u)) := (hb1.cell (by first | assumption | (simp <;> omega))).trans (by go_simp); have cx1_1 : w1.cell? ⟨w.heap.size, 1, none⟩ = some (.int .i64 (d)) := (hb1.cell (by first | assumption | (simp <;> omega))).trans (by go_simp); have hB1 : Below w.heap.size w w1 := below_then hb1 (below_new (Below.refl _ _) _); have ha1 := ha.below hB1)
    | (go_at_call 10; with_reducible refine (ref_wrong_is cap _ ha1 HW.out).mono ?_; rintro e w2 ⟨rfl, hb2⟩; have hz2 := hb2.size; (try simp at hz2); have zx2 : w.heap.size < w2.heap.size := (by first | omega | (simp; omega)); have cx0_2 : w2.cell? ⟨w.heap.size, 0, none⟩ = some (.int .i64 (u)) := (hb2.cell (by first | assumption | (simp <;> omega))).trans (by go_simp); have cx1_2 : w2.cell? ⟨w.heap.size, 1, none⟩ = some (.int .i64 (d)) := (hb2.cell (by first | assumption | (simp <;> omega))).trans (by go_simp); (try clear cx0_1 cx1_1); have hB2 : Below w.heap.size w w2 := below_then hb2 hB1; have ha2 := ha.below hB2)
    | (go_at_call 8; with_reducible refine (twice_is cap x _ ha2 HT.out).mono ?_; rintro e w3 ⟨rfl, hb3⟩; have hz3 := hb3.size; (try simp at hz3); have zx3 : w.heap.size < w3.heap.size := (by first | omega | (simp; omega)); have cx0_3 : w3.cell? ⟨w.heap.size, 0, none⟩ = some (.int .i64 (u)) := (hb3.cell (by first | assumption | (simp <;> omega))).trans (by go_simp); have cx1_3 : w3.cell? ⟨w.heap.size, 1, none⟩ = some (.int .i64 (d)) := (hb3.cell (by first | assumption | (simp <;> omega))).trans (by go_simp); (try clear cx0_2 cx1_2); have hB3 : Below w.heap.size w w3 := below_then hb3 hB2; have ha3 := ha.below hB3)
    | (go_at_call 10; with_reducible refine (ref_wrong_is cap _ ha3 HW.out).mono ?_; rintro e w4 ⟨rfl, hb4⟩; have hz4 := hb4.size; (try simp at hz4); have zx4 : w.heap.size < w4.heap.size := (by first | omega | (simp; omega)); have cx0_4 : w4.cell? ⟨w.heap.size, 0, none⟩ = some (.int .i64 (u)) := (hb4.cell (by first | assumption | (simp <;> omega))).trans (by go_simp); have cx1_4 : w4.cell? ⟨w.heap.size, 1, none⟩ = some (.int .i64 (d)) := (hb4.cell (by first | assumption | (simp <;> omega))).trans (by go_simp); (try clear cx0_3 cx1_3); have hB4 : Below w.heap.size w w4 := below_then hb4 hB3; have ha4 := ha.below hB4)
    | (go_at_call 12; with_reducible refine (place_is cap x u d _ ha4 hu hd HP.out).mono ?_; rintro e w5 ⟨rfl, hb5⟩; have hz5 := hb5.size; (try simp at hz5); have zx5 : w.heap.size < w5.heap.size := (by first | omega | (simp; omega)); have cx0_5 : w5.cell? ⟨w.heap.size, 0, none⟩ = some (.int .i64 (u)) := (hb5.cell (by first | assumption | (simp <;> omega))).trans (by go_simp); have cx1_5 : w5.cell? ⟨w.heap.size, 1, none⟩ = some (.int .i64 (d)) := (hb5.cell (by first | assumption | (simp <;> omega))).trans (by go_simp); (try clear cx0_4 cx1_4); have hB5 : Below w.heap.size w w5 := below_then hb5 hB4; have ha5 := ha.below hB5)
    | (go_at_call 13; with_reducible refine (ref_place_is cap x u d _ ha5 hu hd HP.out).mono ?_; rintro e w6 ⟨rfl, hb6⟩; have hz6 := hb6.size; (try simp at hz6); have zx6 : w.heap.size < w6.heap.size := (by first | omega | (simp; omega)); have cx0_6 : w6.cell? ⟨w.heap.size, 0, none⟩ = some (.int .i64 (u)) := (hb6.cell (by first | assumption | (simp <;> omega))).trans (by go_simp); have cx1_6 : w6.cell? ⟨w.heap.size, 1, none⟩ = some (.int .i64 (d)) := (hb6.cell (by first | assumption | (simp <;> omega))).trans (by go_simp); (try clear cx0_5 cx1_5); have hB6 : Below w.heap.size w w6 := below_then hb6 hB5; have ha6 := ha.below hB6)
    | (go_at_call 14; with_reducible refine (back_is cap pl u d r _ ha6 hu hd hr HK.out).mono ?_; rintro e w7 ⟨rfl, hb7⟩; have hz7 := hb7.size; (try simp at hz7); have zx7 : w.heap.size < w7.heap.size := (by first | omega | (simp; omega)); have cx0_7 : w7.cell? ⟨w.heap.size, 0, none⟩ = some (.int .i64 (u)) := (hb7.cell (by first | assumption | (simp <;> omega))).trans (by go_simp); have cx1_7 : w7.cell? ⟨w.heap.size, 1, none⟩ = some (.int .i64 (d)) := (hb7.cell (by first | assumption | (simp <;> omega))).trans (by go_simp); (try clear cx0_6 cx1_6); have hB7 : Below w.heap.size w w7 := below_then hb7 hB6; have ha7 := ha.below hB7)
    | (go_at_call 15; with_reducible refine (ref_back_is cap pl u d r _ ha7 hu hd hr HK.out).mono ?_; rintro e w8 ⟨rfl, hb8⟩; have hz8 := hb8.size; (try simp at hz8); have zx8 : w.heap.size < w8.heap.size := (by first | omega | (simp; omega)); have cx0_8 : w8.cell? ⟨w.heap.size, 0, none⟩ = some (.int .i64 (u)) := (hb8.cell (by first | assumption | (simp <;> omega))).trans (by go_simp); have cx1_8 : w8.cell? ⟨w.heap.size, 1, none⟩ = some (.int .i64 (d)) := (hb8.cell (by first | assumption | (simp <;> omega))).trans (by go_simp); (try clear cx0_7 cx1_7); have hB8 : Below w.heap.size w w8 := below_then hb8 hB7; have ha8 := ha.below hB8))
  go_ret
  exact ⟨ret_bool (by simp), hB8⟩

set_option maxHeartbeats 8000000 in
set_option maxRecDepth 100000 in
theorem tells_range {p : Option Addr} {n : Nat} {A P : Nat → Int} {R : Nat → Bool} (cap : Nat) (x pl u d : Int) (w : World) (ha : Arg w p n A P R) (hu : I64 u) (hd : I64 d) {a b c e r : Int} (HW : Hid (wrong n A P = 0)) (q : x < 0 ∨ ¬ x < 0 ∧ 1048576 < x) (HT : Hid (twice n A P R x = (0, 3))) (HP : Hid (place n A P R x u d = (a, b)))
    (hr : wrong n A P = 0 → rated u d = 0 → IsBack (smp n A P R u d) pl r) (HK : Hid (backR n A P u d r = (c, e))) :
    Calls Try.prog 5 #[.slice p n cap, .int .i64 x, .int .i64 pl, .agg #[.int .i64 u, .int .i64 d]] w fun e w' => e = .returned (.bool true) ∧ Below w.heap.size w w' := by
  have h0 : ∀ o' : Obj, Arg (w.alloc o') p n A P R := fun o' => ha.below (below_new (Below.refl _ _) o')
  rcases q with q | ⟨q, q1⟩
  all_goals
    go_enter Try.func5, Try.ntmps5
    go_wp2_with (first
      | (go_at_call 9; with_reducible refine (wrong_is cap _ (h0 _) HW.out).mono ?_; rintro e w1 ⟨rfl, hb1⟩; have hz1 := hb1.size; (try simp at hz1); have zx1 : w.heap.size < w1.heap.size := (by first | omega | (simp; omega)); have cx0_1 : w1.cell? ⟨w.heap.size, 0, none⟩ = some (.int .i64 (u)) := (hb1.cell (by first | assumption | (simp <;> omega))).trans (by go_simp); have cx1_1 : w1.cell? ⟨w.heap.size, 1, none⟩ = some (.int .i64 (d)) := (hb1.cell (by first | assumption | (simp <;> omega))).trans (by go_simp); have hB1 : Below w.heap.size w w1 := below_then hb1 (below_new (Below.refl _ _) _); have ha1 := ha.below hB1)
      | (go_at_call 10; with_reducible refine (ref_wrong_is cap _ ha1 HW.out).mono ?_; rintro e w2 ⟨rfl, hb2⟩; have hz2 := hb2.size; (try simp at hz2); have zx2 : w.heap.size < w2.heap.size := (by first | omega | (simp; omega)); have cx0_2 : w2.cell? ⟨w.heap.size, 0, none⟩ = some (.int .i64 (u)) := (hb2.cell (by first | assumption | (simp <;> omega))).trans (by go_simp); have cx1_2 : w2.cell? ⟨w.heap.size, 1, none⟩ = some (.int .i64 (d)) := (hb2.cell (by first | assumption | (simp <;> omega))).trans (by go_simp); (try clear cx0_1 cx1_1); have hB2 : Below w.heap.size w w2 := below_then hb2 hB1; have ha2 := ha.below hB2)
      | (go_at_call 8; with_reducible refine (twice_is cap x _ ha2 HT.out).mono ?_; rintro e w3 ⟨rfl, hb3⟩; have hz3 := hb3.size; (try simp at hz3); have zx3 : w.heap.size < w3.heap.size := (by first | omega | (simp; omega)); have cx0_3 : w3.cell? ⟨w.heap.size, 0, none⟩ = some (.int .i64 (u)) := (hb3.cell (by first | assumption | (simp <;> omega))).trans (by go_simp); have cx1_3 : w3.cell? ⟨w.heap.size, 1, none⟩ = some (.int .i64 (d)) := (hb3.cell (by first | assumption | (simp <;> omega))).trans (by go_simp); (try clear cx0_2 cx1_2); have hB3 : Below w.heap.size w w3 := below_then hb3 hB2; have ha3 := ha.below hB3)
      | (go_at_call 10; with_reducible refine (ref_wrong_is cap _ ha3 HW.out).mono ?_; rintro e w4 ⟨rfl, hb4⟩; have hz4 := hb4.size; (try simp at hz4); have zx4 : w.heap.size < w4.heap.size := (by first | omega | (simp; omega)); have cx0_4 : w4.cell? ⟨w.heap.size, 0, none⟩ = some (.int .i64 (u)) := (hb4.cell (by first | assumption | (simp <;> omega))).trans (by go_simp); have cx1_4 : w4.cell? ⟨w.heap.size, 1, none⟩ = some (.int .i64 (d)) := (hb4.cell (by first | assumption | (simp <;> omega))).trans (by go_simp); (try clear cx0_3 cx1_3); have hB4 : Below w.heap.size w w4 := below_then hb4 hB3; have ha4 := ha.below hB4)
      | (go_at_call 12; with_reducible refine (place_is cap x u d _ ha4 hu hd HP.out).mono ?_; rintro e w5 ⟨rfl, hb5⟩; have hz5 := hb5.size; (try simp at hz5); have zx5 : w.heap.size < w5.heap.size := (by first | omega | (simp; omega)); have cx0_5 : w5.cell? ⟨w.heap.size, 0, none⟩ = some (.int .i64 (u)) := (hb5.cell (by first | assumption | (simp <;> omega))).trans (by go_simp); have cx1_5 : w5.cell? ⟨w.heap.size, 1, none⟩ = some (.int .i64 (d)) := (hb5.cell (by first | assumption | (simp <;> omega))).trans (by go_simp); (try clear cx0_4 cx1_4); have hB5 : Below w.heap.size w w5 := below_then hb5 hB4; have ha5 := ha.below hB5)
      | (go_at_call 13; with_reducible refine (ref_place_is cap x u d _ ha5 hu hd HP.out).mono ?_; rintro e w6 ⟨rfl, hb6⟩; have hz6 := hb6.size; (try simp at hz6); have zx6 : w.heap.size < w6.heap.size := (by first | omega | (simp; omega)); have cx0_6 : w6.cell? ⟨w.heap.size, 0, none⟩ = some (.int .i64 (u)) := (hb6.cell (by first | assumption | (simp <;> omega))).trans (by go_simp); have cx1_6 : w6.cell? ⟨w.heap.size, 1, none⟩ = some (.int .i64 (d)) := (hb6.cell (by first | assumption | (simp <;> omega))).trans (by go_simp); (try clear cx0_5 cx1_5); have hB6 : Below w.heap.size w w6 := below_then hb6 hB5; have ha6 := ha.below hB6)
      | (go_at_call 14; with_reducible refine (back_is cap pl u d r _ ha6 hu hd hr HK.out).mono ?_; rintro e w7 ⟨rfl, hb7⟩; have hz7 := hb7.size; (try simp at hz7); have zx7 : w.heap.size < w7.heap.size := (by first | omega | (simp; omega)); have cx0_7 : w7.cell? ⟨w.heap.size, 0, none⟩ = some (.int .i64 (u)) := (hb7.cell (by first | assumption | (simp <;> omega))).trans (by go_simp); have cx1_7 : w7.cell? ⟨w.heap.size, 1, none⟩ = some (.int .i64 (d)) := (hb7.cell (by first | assumption | (simp <;> omega))).trans (by go_simp); (try clear cx0_6 cx1_6); have hB7 : Below w.heap.size w w7 := below_then hb7 hB6; have ha7 := ha.below hB7)
      | (go_at_call 15; with_reducible refine (ref_back_is cap pl u d r _ ha7 hu hd hr HK.out).mono ?_; rintro e w8 ⟨rfl, hb8⟩; have hz8 := hb8.size; (try simp at hz8); have zx8 : w.heap.size < w8.heap.size := (by first | omega | (simp; omega)); have cx0_8 : w8.cell? ⟨w.heap.size, 0, none⟩ = some (.int .i64 (u)) := (hb8.cell (by first | assumption | (simp <;> omega))).trans (by go_simp); have cx1_8 : w8.cell? ⟨w.heap.size, 1, none⟩ = some (.int .i64 (d)) := (hb8.cell (by first | assumption | (simp <;> omega))).trans (by go_simp); (try clear cx0_7 cx1_7); have hB8 : Below w.heap.size w w8 := below_then hb8 hB7; have ha8 := ha.below hB8))
    go_ret
    exact ⟨ret_bool (by simp), hB8⟩

set_option maxHeartbeats 8000000 in
set_option maxRecDepth 100000 in
theorem tells_fine {b o : Nat} {n : Nat} {A P : Nat → Int} {R : Nat → Bool} (cap : Nat) (x pl u d : Int) (w : World) (ha : Arg w (some ⟨b, o, none⟩) n A P R) (hu : I64 u) (hd : I64 d) {a1 b1 c e r : Int} (hk : Ok n A P) (hm : Marks w b o n A P R) (HW : Hid (wrong n A P = 0)) (hx : 0 ≤ x ∧ x ≤ 1048576) (HT : Hid (twice n A P R x = (tw n A P R x, 0))) (HP : Hid (place n A P R x u d = (a1, b1)))
    (hr : wrong n A P = 0 → rated u d = 0 → IsBack (smp n A P R u d) pl r) (HK : Hid (backR n A P u d r = (c, e))) :
    Calls Try.prog 5 #[.slice (some ⟨b, o, none⟩) n cap, .int .i64 x, .int .i64 pl, .agg #[.int .i64 u, .int .i64 d]] w fun e w' => e = .returned (.bool true) ∧ Below w.heap.size w w' := by
  have h0 : ∀ o' : Obj, Arg (w.alloc o') (some ⟨b, o, none⟩) n A P R := fun o' => ha.below (below_new (Below.refl _ _) o')
  have q : ¬ x < 0 := by omega
  have q1 : ¬ 1048576 < x := by omega
  go_enter Try.func5, Try.ntmps5
  go_wp2_with (first
    | (go_at_call 9; with_reducible refine (wrong_is cap _ (h0 _) HW.out).mono ?_; rintro e w1 ⟨rfl, hb1⟩; have hz1 := hb1.size; (try simp at hz1); have zx1 : w.heap.size < w1.heap.size := (by first | omega | (simp; omega)); have cx0_1 : w1.cell? ⟨w.heap.size, 0, none⟩ = some (.int .i64 (u)) := (hb1.cell (by first | assumption | (simp <;> omega))).trans (by go_simp); have cx1_1 : w1.cell? ⟨w.heap.size, 1, none⟩ = some (.int .i64 (d)) := (hb1.cell (by first | assumption | (simp <;> omega))).trans (by go_simp); have hB1 : Below w.heap.size w w1 := below_then hb1 (below_new (Below.refl _ _) _); have ha1 := ha.below hB1)
    | (go_at_call 10; with_reducible refine (ref_wrong_is cap _ ha1 HW.out).mono ?_; rintro e w2 ⟨rfl, hb2⟩; have hz2 := hb2.size; (try simp at hz2); have zx2 : w.heap.size < w2.heap.size := (by first | omega | (simp; omega)); have cx0_2 : w2.cell? ⟨w.heap.size, 0, none⟩ = some (.int .i64 (u)) := (hb2.cell (by first | assumption | (simp <;> omega))).trans (by go_simp); have cx1_2 : w2.cell? ⟨w.heap.size, 1, none⟩ = some (.int .i64 (d)) := (hb2.cell (by first | assumption | (simp <;> omega))).trans (by go_simp); (try clear cx0_1 cx1_1); have hB2 : Below w.heap.size w w2 := below_then hb2 hB1; have ha2 := ha.below hB2)
    | (go_at_call 8; with_reducible refine (twice_is cap x _ ha2 HT.out).mono ?_; rintro e w3 ⟨rfl, hb3⟩; have hz3 := hb3.size; (try simp at hz3); have zx3 : w.heap.size < w3.heap.size := (by first | omega | (simp; omega)); have cx0_3 : w3.cell? ⟨w.heap.size, 0, none⟩ = some (.int .i64 (u)) := (hb3.cell (by first | assumption | (simp <;> omega))).trans (by go_simp); have cx1_3 : w3.cell? ⟨w.heap.size, 1, none⟩ = some (.int .i64 (d)) := (hb3.cell (by first | assumption | (simp <;> omega))).trans (by go_simp); (try clear cx0_2 cx1_2); have hB3 : Below w.heap.size w w3 := below_then hb3 hB2; have ha3 := ha.below hB3)
    | (go_at_call 10; with_reducible refine (ref_wrong_is cap _ ha3 HW.out).mono ?_; rintro e w4 ⟨rfl, hb4⟩; have hz4 := hb4.size; (try simp at hz4); have zx4 : w.heap.size < w4.heap.size := (by first | omega | (simp; omega)); have cx0_4 : w4.cell? ⟨w.heap.size, 0, none⟩ = some (.int .i64 (u)) := (hb4.cell (by first | assumption | (simp <;> omega))).trans (by go_simp); have cx1_4 : w4.cell? ⟨w.heap.size, 1, none⟩ = some (.int .i64 (d)) := (hb4.cell (by first | assumption | (simp <;> omega))).trans (by go_simp); (try clear cx0_3 cx1_3); have hB4 : Below w.heap.size w w4 := below_then hb4 hB3; have ha4 := ha.below hB4)
    | (go_at_call 11; with_reducible refine (ref_twice_any cap hk x _ hx (hm.below hB4)).mono ?_; rintro e w5 ⟨rfl, hb5⟩; have hz5 := hb5.size; (try simp at hz5); have zx5 : w.heap.size < w5.heap.size := (by first | omega | (simp; omega)); have cx0_5 : w5.cell? ⟨w.heap.size, 0, none⟩ = some (.int .i64 (u)) := (hb5.cell (by first | assumption | (simp <;> omega))).trans (by go_simp); have cx1_5 : w5.cell? ⟨w.heap.size, 1, none⟩ = some (.int .i64 (d)) := (hb5.cell (by first | assumption | (simp <;> omega))).trans (by go_simp); (try clear cx0_4 cx1_4); have hB5 : Below w.heap.size w w5 := below_then hb5 hB4; have ha5 := ha.below hB5)
    | (go_at_call 12; with_reducible refine (place_is cap x u d _ ha5 hu hd HP.out).mono ?_; rintro e w6 ⟨rfl, hb6⟩; have hz6 := hb6.size; (try simp at hz6); have zx6 : w.heap.size < w6.heap.size := (by first | omega | (simp; omega)); have cx0_6 : w6.cell? ⟨w.heap.size, 0, none⟩ = some (.int .i64 (u)) := (hb6.cell (by first | assumption | (simp <;> omega))).trans (by go_simp); have cx1_6 : w6.cell? ⟨w.heap.size, 1, none⟩ = some (.int .i64 (d)) := (hb6.cell (by first | assumption | (simp <;> omega))).trans (by go_simp); (try clear cx0_5 cx1_5); have hB6 : Below w.heap.size w w6 := below_then hb6 hB5; have ha6 := ha.below hB6)
    | (go_at_call 13; with_reducible refine (ref_place_is cap x u d _ ha6 hu hd HP.out).mono ?_; rintro e w7 ⟨rfl, hb7⟩; have hz7 := hb7.size; (try simp at hz7); have zx7 : w.heap.size < w7.heap.size := (by first | omega | (simp; omega)); have cx0_7 : w7.cell? ⟨w.heap.size, 0, none⟩ = some (.int .i64 (u)) := (hb7.cell (by first | assumption | (simp <;> omega))).trans (by go_simp); have cx1_7 : w7.cell? ⟨w.heap.size, 1, none⟩ = some (.int .i64 (d)) := (hb7.cell (by first | assumption | (simp <;> omega))).trans (by go_simp); (try clear cx0_6 cx1_6); have hB7 : Below w.heap.size w w7 := below_then hb7 hB6; have ha7 := ha.below hB7)
    | (go_at_call 14; with_reducible refine (back_is cap pl u d r _ ha7 hu hd hr HK.out).mono ?_; rintro e w8 ⟨rfl, hb8⟩; have hz8 := hb8.size; (try simp at hz8); have zx8 : w.heap.size < w8.heap.size := (by first | omega | (simp; omega)); have cx0_8 : w8.cell? ⟨w.heap.size, 0, none⟩ = some (.int .i64 (u)) := (hb8.cell (by first | assumption | (simp <;> omega))).trans (by go_simp); have cx1_8 : w8.cell? ⟨w.heap.size, 1, none⟩ = some (.int .i64 (d)) := (hb8.cell (by first | assumption | (simp <;> omega))).trans (by go_simp); (try clear cx0_7 cx1_7); have hB8 : Below w.heap.size w w8 := below_then hb8 hB7; have ha8 := ha.below hB8)
    | (go_at_call 15; with_reducible refine (ref_back_is cap pl u d r _ ha8 hu hd hr HK.out).mono ?_; rintro e w9 ⟨rfl, hb9⟩; have hz9 := hb9.size; (try simp at hz9); have zx9 : w.heap.size < w9.heap.size := (by first | omega | (simp; omega)); have cx0_9 : w9.cell? ⟨w.heap.size, 0, none⟩ = some (.int .i64 (u)) := (hb9.cell (by first | assumption | (simp <;> omega))).trans (by go_simp); have cx1_9 : w9.cell? ⟨w.heap.size, 1, none⟩ = some (.int .i64 (d)) := (hb9.cell (by first | assumption | (simp <;> omega))).trans (by go_simp); (try clear cx0_8 cx1_8); have hB9 : Below w.heap.size w w9 := below_then hb9 hB8; have ha9 := ha.below hB9))
  go_ret
  exact ⟨ret_bool (by simp), hB9⟩

theorem law_tells {p : Option Addr} {n : Nat} {A P : Nat → Int} {R : Nat → Bool} (cap : Nat) (x pl u d : Int) (w : World) (ha : Arg w p n A P R) (hu : I64 u) (hd : I64 d) :
    Calls Try.prog 5 #[.slice p n cap, .int .i64 x, .int .i64 pl, .agg #[.int .i64 u, .int .i64 d]] w fun e w' => e = .returned (.bool true) ∧ Below w.heap.size w w' := by
  obtain ⟨r, hr⟩ := some_back n A P R u d pl
  by_cases z : wrong n A P = 0
  · by_cases q : x < 0 ∨ 1048576 < x
    · exact tells_range cap x pl u d w ha hu hd z (by omega) (show twice n A P R x = (0, 3) by unfold twice; rw [if_pos z, if_pos q]) rfl hr rfl
    · have hk := ok_of z
      obtain ⟨b, o, rfl, hm⟩ := ha.marks (by have := hk.pos; omega)
      exact tells_fine cap x pl u d w ha hu hd hk hm z (in_range q) (twice_of hk (in_range q).1 (in_range q).2) rfl hr rfl
  · exact tells_wrong cap x pl u d w ha hu hd rfl (by simpa using z) (show twice n A P R x = (0, wrong n A P) by unfold twice; rw [if_neg z]) rfl hr rfl

set_option maxHeartbeats 4000000 in
theorem back_bad {p : Option Addr} {n : Nat} {A P : Nat → Int} {R : Nat → Bool} (cap : Nat) (x pl u d : Int) (w : World) (ha : Arg w p n A P R) (hu : I64 u) (hd : I64 d) {a b : Int} (HP : Hid (place n A P R x u d = (a, b))) (z : (b != 0) = true) :
    Calls Try.prog 6 #[.slice p n cap, .int .i64 x, .int .i64 pl, .agg #[.int .i64 u, .int .i64 d]] w fun e w' => e = .returned (.bool true) ∧ Below w.heap.size w w' := by
  go_enter Try.func6, Try.ntmps6
  go_wp2_with (first
    | (go_at_call 7; with_reducible refine (alive_any _).mono ?_; rintro e w1 ⟨rfl, hb1⟩; have hz1 := hb1.size; (try simp at hz1); have zx1 : w.heap.size < w1.heap.size := (by first | omega | (simp; omega)); have cx0_1 : w1.cell? ⟨w.heap.size, 0, none⟩ = some (.int .i64 (u)) := (hb1.cell (by first | assumption | (simp <;> omega))).trans (by go_simp); have cx1_1 : w1.cell? ⟨w.heap.size, 1, none⟩ = some (.int .i64 (d)) := (hb1.cell (by first | assumption | (simp <;> omega))).trans (by go_simp); have hB1 : Below w.heap.size w w1 := below_then hb1 (below_new (Below.refl _ _) _); have ha1 := ha.below hB1)
    | (go_at_call 12; with_reducible refine (place_is cap x u d _ ha1 hu hd HP.out).mono ?_; rintro e w2 ⟨rfl, hb2⟩; have hz2 := hb2.size; (try simp at hz2); have zx2 : w.heap.size < w2.heap.size := (by first | omega | (simp; omega)); have cx0_2 : w2.cell? ⟨w.heap.size, 0, none⟩ = some (.int .i64 (u)) := (hb2.cell (by first | assumption | (simp <;> omega))).trans (by go_simp); have cx1_2 : w2.cell? ⟨w.heap.size, 1, none⟩ = some (.int .i64 (d)) := (hb2.cell (by first | assumption | (simp <;> omega))).trans (by go_simp); (try clear cx0_1 cx1_1); have hB2 : Below w.heap.size w w2 := below_then hb2 hB1; have ha2 := ha.below hB2))
  go_ret
  exact ⟨rfl, hB2⟩
set_option maxHeartbeats 4000000 in
theorem back_good {p : Option Addr} {n : Nat} {A P : Nat → Int} {R : Nat → Bool} (cap : Nat) (x pl u d : Int) (w : World) (ha : Arg w p n A P R) (hu : I64 u) (hd : I64 d) {a c e r : Int} (HP : Hid (place n A P R x u d = (a, 0)))
    (hr : wrong n A P = 0 → rated u d = 0 → IsBack (smp n A P R u d) pl r) (HK : Hid (backR n A P u d r = (c, e)))
    (hz : (e != 0) = true ∧ (e == 6) = true ∧ a < pl ∨ (e != 0) = false ∧ 0 ≤ c ∧ (pl ≤ a ∧ c ≤ x ∨ a < pl ∧ x < c)) :
    Calls Try.prog 6 #[.slice p n cap, .int .i64 x, .int .i64 pl, .agg #[.int .i64 u, .int .i64 d]] w fun e w' => e = .returned (.bool true) ∧ Below w.heap.size w w' := by
  rcases hz with ⟨z1, z2, z3⟩ | ⟨z1, z2, ⟨z3, z4⟩ | ⟨z3, z4⟩⟩
  all_goals
    go_enter Try.func6, Try.ntmps6
    go_wp2_with (first
      | (go_at_call 7; with_reducible refine (alive_any _).mono ?_; rintro e w1 ⟨rfl, hb1⟩; have hz1 := hb1.size; (try simp at hz1); have zx1 : w.heap.size < w1.heap.size := (by first | omega | (simp; omega)); have cx0_1 : w1.cell? ⟨w.heap.size, 0, none⟩ = some (.int .i64 (u)) := (hb1.cell (by first | assumption | (simp <;> omega))).trans (by go_simp); have cx1_1 : w1.cell? ⟨w.heap.size, 1, none⟩ = some (.int .i64 (d)) := (hb1.cell (by first | assumption | (simp <;> omega))).trans (by go_simp); have hB1 : Below w.heap.size w w1 := below_then hb1 (below_new (Below.refl _ _) _); have ha1 := ha.below hB1)
      | (go_at_call 12; with_reducible refine (place_is cap x u d _ ha1 hu hd HP.out).mono ?_; rintro e w2 ⟨rfl, hb2⟩; have hz2 := hb2.size; (try simp at hz2); have zx2 : w.heap.size < w2.heap.size := (by first | omega | (simp; omega)); have cx0_2 : w2.cell? ⟨w.heap.size, 0, none⟩ = some (.int .i64 (u)) := (hb2.cell (by first | assumption | (simp <;> omega))).trans (by go_simp); have cx1_2 : w2.cell? ⟨w.heap.size, 1, none⟩ = some (.int .i64 (d)) := (hb2.cell (by first | assumption | (simp <;> omega))).trans (by go_simp); (try clear cx0_1 cx1_1); have hB2 : Below w.heap.size w w2 := below_then hb2 hB1; have ha2 := ha.below hB2)
      | (go_at_call 14; with_reducible refine (back_is cap pl u d r _ ha2 hu hd hr HK.out).mono ?_; rintro e w3 ⟨rfl, hb3⟩; have hz3 := hb3.size; (try simp at hz3); have zx3 : w.heap.size < w3.heap.size := (by first | omega | (simp; omega)); have cx0_3 : w3.cell? ⟨w.heap.size, 0, none⟩ = some (.int .i64 (u)) := (hb3.cell (by first | assumption | (simp <;> omega))).trans (by go_simp); have cx1_3 : w3.cell? ⟨w.heap.size, 1, none⟩ = some (.int .i64 (d)) := (hb3.cell (by first | assumption | (simp <;> omega))).trans (by go_simp); (try clear cx0_2 cx1_2); have hB3 : Below w.heap.size w w3 := below_then hb3 hB2; have ha3 := ha.below hB3))
    go_ret
    exact ⟨ret_bool (by simp [*] <;> omega), hB3⟩

theorem law_back {p : Option Addr} {n : Nat} {A P : Nat → Int} {R : Nat → Bool} (cap : Nat) (x pl u d : Int) (w : World) (ha : Arg w p n A P R) (hu : I64 u) (hd : I64 d) :
    Calls Try.prog 6 #[.slice p n cap, .int .i64 x, .int .i64 pl, .agg #[.int .i64 u, .int .i64 d]] w fun e w' => e = .returned (.bool true) ∧ Below w.heap.size w w' := by
  obtain ⟨r, hr⟩ := some_back n A P R u d pl
  obtain ⟨a, b, hp⟩ : ∃ a b, place n A P R x u d = (a, b) := ⟨_, _, rfl⟩
  by_cases z : b = 0
  · subst z
    have hp' := hp
    have ht : twice n A P R x = ((twice n A P R x).1, 0) := by
      unfold place at hp'
      split at hp'
      · rename_i h; rw [← h]
      · rename_i h; simp only [Prod.mk.injEq] at hp'; exact absurd hp'.2 h
    obtain ⟨hk, hx0, hx1, _⟩ := twice_ok ht
    have hg : rated u d = 0 := by
      unfold place at hp'
      rw [ht, if_pos rfl] at hp'
      split at hp'
      · assumption
      · rename_i h; simp only [Prod.mk.injEq] at hp'; exact absurd hp'.2 h
    have hB := hr (wrong_of hk) hg
    have hav : a = smp n A P R u d x := by rw [place_fine hk hx0 hx1 hg] at hp; simp only [Prod.mk.injEq, and_true] at hp; exact hp.symm
    have hlo := hB.lo
    by_cases c : 1048576 < r
    · refine back_good cap x pl u d w ha hu hd hp hr (show backR n A P u d r = (0, 6) by unfold backR; rw [if_pos (wrong_of hk), if_pos hg, if_pos c]) (.inl ⟨rfl, rfl, ?_⟩)
      rw [hav]; exact hB.below x hx0 (by omega)
    · refine back_good cap x pl u d w ha hu hd hp hr (show backR n A P u d r = (r, 0) by unfold backR; rw [if_pos (wrong_of hk), if_pos hg, if_neg c]) (.inr ⟨rfl, hlo, ?_⟩)
      rw [hav]
      by_cases hrx : r ≤ x
      · exact .inl ⟨hB.above x hrx hx1, hrx⟩
      · exact .inr ⟨hB.below x hx0 (by omega), by omega⟩
  · exact back_bad cap x pl u d w ha hu hd hp (by simpa using z)

theorem law_tells' {p : Option Addr} {n : Nat} {A P : Nat → Int} {R : Nat → Bool} (cap : Nat) (x pl u d : Int) (w : World) (ha : Arg w p n A P R) (_ : I64 x) (_ : I64 pl) (hu : I64 u) (hd : I64 d) :
    Calls Try.prog 5 #[.slice p n cap, .int .i64 x, .int .i64 pl, .agg #[.int .i64 u, .int .i64 d]] w fun e w' => e = .returned (.bool true) ∧ Below w.heap.size w w' := law_tells cap x pl u d w ha hu hd
theorem law_back' {p : Option Addr} {n : Nat} {A P : Nat → Int} {R : Nat → Bool} (cap : Nat) (x pl u d : Int) (w : World) (ha : Arg w p n A P R) (_ : I64 x) (_ : I64 pl) (hu : I64 u) (hd : I64 d) :
    Calls Try.prog 6 #[.slice p n cap, .int .i64 x, .int .i64 pl, .agg #[.int .i64 u, .int .i64 d]] w fun e w' => e = .returned (.bool true) ∧ Below w.heap.size w w' := law_back cap x pl u d w ha hu hd

end Go.Proofs.Ytinpnjiinadaeaa.Cl
