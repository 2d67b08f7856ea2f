/-
  THE WALKS of the reference's clock: Place, Back. (Printed by gen/refclockv.py.)
-/
import Derived.Test.YtinpnjiinadaeaaRefClockW
namespace Go.Proofs.Ytinpnjiinadaeaa.Cl
open Go.RowKit

theorem place_wrong {n : Nat} {A P : Nat → Int} {R : Nat → Bool} {x u d v : Int} (hv : wrong n A P = v) (z : v ≠ 0) : place n A P R x u d = (0, v) := by
  have h : twice n A P R x = (0, v) := by unfold twice; rw [if_neg (by rw [hv]; exact z), hv]
  unfold place; rw [h, if_neg z]
theorem place_range {n : Nat} {A P : Nat → Int} {R : Nat → Bool} {x u d : Int} (hv : wrong n A P = 0) (z : x < 0 ∨ 1048576 < x) : place n A P R x u d = (0, 3) := by
  have h : twice n A P R x = (0, 3) := by unfold twice; rw [if_pos hv, if_pos z]
  unfold place; rw [h, if_neg (by decide)]
theorem place_rated {n : Nat} {A P : Nat → Int} {R : Nat → Bool} {x u d v : Int} (hk : Ok n A P) (h0 : 0 ≤ x) (h1 : x ≤ 1048576) (hv : rated u d = v) (z : v ≠ 0) : place n A P R x u d = (0, v) := by
  unfold place; rw [twice_of hk h0 h1, if_pos rfl, if_neg (by rw [hv]; exact z), hv]
theorem place_fine {n : Nat} {A P : Nat → Int} {R : Nat → Bool} {x u d : Int} (hk : Ok n A P) (h0 : 0 ≤ x) (h1 : x ≤ 1048576) (hv : rated u d = 0) : place n A P R x u d = (tw n A P R x * u / d, 0) := by
  unfold place; rw [twice_of hk h0 h1, if_pos rfl, if_pos hv]
theorem in_range {x : Int} (h : ¬ (x < 0 ∨ 1048576 < x)) : 0 ≤ x ∧ x ≤ 1048576 := by omega

set_option maxHeartbeats 4000000 in
theorem ref_place_any {p : Option Addr} {n : Nat} {A P : Nat → Int} {R : Nat → Bool} (cap : Nat) (x u d : Int) (w : World) (h : Arg w p n A P R) (hu : I64 u) (hd : I64 d) :
    Calls Try.prog 13 #[.slice p n cap, .int .i64 x, .agg #[.int .i64 u, .int .i64 d]] w fun e w' => e = .returned (R2 (place n A P R x u d)) ∧ Below w.heap.size w w' := by
  have h0 : ∀ o : Obj, Arg (w.alloc o) p n A P R := fun o => h.below (below_new (Below.refl _ _) o)
  obtain ⟨v, hv⟩ : ∃ v, wrong n A P = v := ⟨_, rfl⟩
  have HW := Lib.hid hv
  by_cases z : v = 0
  · subst z
    by_cases q : x < 0 ∨ 1048576 < x
    · have HP := Lib.hid (place_range (R := R) (u := u) (d := d) hv q)
      have q' : x < 0 ∨ ¬ x < 0 ∧ 1048576 < x := by omega
      clear q hv
      rcases q' with q | ⟨q, q1⟩
      all_goals
        go_enter Try.func13, Try.ntmps13
        go_wp2_with (first
          | (go_at_call 10; with_reducible refine (ref_wrong_is cap _ (h0 _) HW.out).mono ?_; rintro e w1 ⟨rfl, hb1⟩; have hz1 := hb1.size; (try simp at hz1); have zx1 : w.heap.size < w1.heap.size := (by first | omega | (simp; omega)); have cx0_1 : w1.cell? ⟨w.heap.size, 0, none⟩ = some (.int .i64 (u)) := (hb1.cell (by first | assumption | (simp <;> omega))).trans (by go_simp); have cx1_1 : w1.cell? ⟨w.heap.size, 1, none⟩ = some (.int .i64 (d)) := (hb1.cell (by first | assumption | (simp <;> omega))).trans (by go_simp)))
        go_ret2
        exact ⟨ret_R2 HP.out, (by repeat (first | exact Below.refl _ _ | assumption | refine below_drewN ?_ _ | refine Below.drew ?_ | refine below_new ?_ _ | refine Below.setCell ?_ (by first | omega | (simp <;> omega)) _ | refine below_then (by assumption) ?_))⟩
    · have hx := in_range q
      have hk := ok_of hv
      have q1 : ¬ x < 0 := fun h => q (.inl h)
      have q2 : ¬ 1048576 < x := fun h => q (.inr h)
      obtain ⟨g, hg⟩ : ∃ v, rated u d = v := ⟨_, rfl⟩
      have HG := Lib.hid hg
      by_cases z2 : g = 0
      · subst z2
        obtain ⟨bu, bd⟩ := rated_ok hg
        have HP := Lib.hid (place_fine (R := R) hk hx.1 hx.2 hg)
        obtain ⟨b, o, rfl, hm⟩ := h.marks (by have := hk.pos; omega)
        have bt := tw_bd (R := R) hk hx.1
        obtain ⟨⟨b1, b2⟩, b3, b4⟩ := smp_bd (t := tw n A P R x) (u := u) (d := d) (by omega) bu bd.1
        clear q hv hg
        go_enter Try.func13, Try.ntmps13
        go_wp2_with (first
          | (go_at_call 10; with_reducible refine (ref_wrong_is cap _ (h0 _) HW.out).mono ?_; rintro e w1 ⟨rfl, hb1⟩; have hz1 := hb1.size; (try simp at hz1); have zx1 : w.heap.size < w1.heap.size := (by first | omega | (simp; omega)); have cx0_1 : w1.cell? ⟨w.heap.size, 0, none⟩ = some (.int .i64 (u)) := (hb1.cell (by first | assumption | (simp <;> omega))).trans (by go_simp); have cx1_1 : w1.cell? ⟨w.heap.size, 1, none⟩ = some (.int .i64 (d)) := (hb1.cell (by first | assumption | (simp <;> omega))).trans (by go_simp))
          | (go_at_call 19; with_reducible refine (ref_rated_is u d _ hu hd HG.out).mono ?_; rintro e w2 ⟨rfl, hb2⟩; have hz2 := hb2.size; (try simp at hz2); have zx2 : w.heap.size < w2.heap.size := (by first | omega | (simp; omega)); have cx0_2 : w2.cell? ⟨w.heap.size, 0, none⟩ = some (.int .i64 (u)) := (hb2.cell (by first | assumption | (simp <;> omega))).trans (by go_simp); have cx1_2 : w2.cell? ⟨w.heap.size, 1, none⟩ = some (.int .i64 (d)) := (hb2.cell (by first | assumption | (simp <;> omega))).trans (by go_simp)))
        have hm2 : Marks w2 b o n A P R := (hm.below (below_new (Below.refl _ _) _)).below (below_then hb2 hb1)
        have hE := Ext.cells w2
        refine wp_region_ext (by kernel_rfl) (by kernel_rfl) ?_
        repeat go_big_quiet_step ((go_at_call 11; with_reducible refine ext_call (ref_twice_any cap hk x _ hx (hm2.below (Ext.h _)))))
        refine wpQuiet_nil ?_
        rintro wd ⟨⟨_, hbd⟩, rfl⟩
        go_wp2
        go_ret2
        exact ⟨ret_R2 HP.out, (by repeat (first | exact Below.refl _ _ | assumption | refine below_drewN ?_ _ | refine Below.drew ?_ | refine below_new ?_ _ | refine Below.setCell ?_ (by first | omega | (simp <;> omega)) _ | refine below_then (by assumption) ?_))⟩
      · have HP := Lib.hid (place_rated (R := R) hk hx.1 hx.2 hg z2)
        have z3 : (g != 0) = true := by simpa using z2
        clear q hv hg z2
        go_enter Try.func13, Try.ntmps13
        go_wp2_with (first
          | (go_at_call 10; with_reducible refine (ref_wrong_is cap _ (h0 _) HW.out).mono ?_; rintro e w1 ⟨rfl, hb1⟩; have hz1 := hb1.size; (try simp at hz1); have zx1 : w.heap.size < w1.heap.size := (by first | omega | (simp; omega)); have cx0_1 : w1.cell? ⟨w.heap.size, 0, none⟩ = some (.int .i64 (u)) := (hb1.cell (by first | assumption | (simp <;> omega))).trans (by go_simp); have cx1_1 : w1.cell? ⟨w.heap.size, 1, none⟩ = some (.int .i64 (d)) := (hb1.cell (by first | assumption | (simp <;> omega))).trans (by go_simp))
          | (go_at_call 19; with_reducible refine (ref_rated_is u d _ hu hd HG.out).mono ?_; rintro e w2 ⟨rfl, hb2⟩; have hz2 := hb2.size; (try simp at hz2); have zx2 : w.heap.size < w2.heap.size := (by first | omega | (simp; omega)); have cx0_2 : w2.cell? ⟨w.heap.size, 0, none⟩ = some (.int .i64 (u)) := (hb2.cell (by first | assumption | (simp <;> omega))).trans (by go_simp); have cx1_2 : w2.cell? ⟨w.heap.size, 1, none⟩ = some (.int .i64 (d)) := (hb2.cell (by first | assumption | (simp <;> omega))).trans (by go_simp)))
        go_ret2
        exact ⟨ret_R2 HP.out, (by repeat (first | exact Below.refl _ _ | assumption | refine below_drewN ?_ _ | refine Below.drew ?_ | refine below_new ?_ _ | refine Below.setCell ?_ (by first | omega | (simp <;> omega)) _ | refine below_then (by assumption) ?_))⟩
  · have HP := Lib.hid (place_wrong (R := R) (x := x) (u := u) (d := d) hv z)
    have z3 : (v != 0) = true := by simpa using z
    clear hv z
    go_enter Try.func13, Try.ntmps13
    go_wp2_with (first
      | (go_at_call 10; with_reducible refine (ref_wrong_is cap _ (h0 _) HW.out).mono ?_; rintro e w1 ⟨rfl, hb1⟩; have hz1 := hb1.size; (try simp at hz1); have zx1 : w.heap.size < w1.heap.size := (by first | omega | (simp; omega)); have cx0_1 : w1.cell? ⟨w.heap.size, 0, none⟩ = some (.int .i64 (u)) := (hb1.cell (by first | assumption | (simp <;> omega))).trans (by go_simp); have cx1_1 : w1.cell? ⟨w.heap.size, 1, none⟩ = some (.int .i64 (d)) := (hb1.cell (by first | assumption | (simp <;> omega))).trans (by go_simp)))
    go_ret2
    exact ⟨ret_R2 HP.out, (by repeat (first | exact Below.refl _ _ | assumption | refine below_drewN ?_ _ | refine Below.drew ?_ | refine below_new ?_ _ | refine Below.setCell ?_ (by first | omega | (simp <;> omega)) _ | refine below_then (by assumption) ?_))⟩
theorem ref_place_is {p : Option Addr} {n : Nat} {A P : Nat → Int} {R : Nat → Bool} (cap : Nat) (x u d : Int) (w : World) (h : Arg w p n A P R) (hu : I64 u) (hd : I64 d) {a b : Int} (k : place n A P R x u d = (a, b)) :
    Calls Try.prog 13 #[.slice p n cap, .int .i64 x, .agg #[.int .i64 u, .int .i64 d]] w fun e w' => e = .returned (.tuple #[.int .i64 a, .int .i64 b]) ∧ Below w.heap.size w w' := by
  refine (ref_place_any cap x u d w h hu hd).mono fun e w' h => ?_
  rw [k] at h; exact h

set_option maxHeartbeats 4000000 in
theorem ref_back_fine {b o n : Nat} {A P : Nat → Int} {R : Nat → Bool} (cap : Nat) (pl u d r : Int) (w : World) (hk : Ok n A P) (hm : Marks w b o n A P R) (hu : I64 u) (hd : I64 d) (hg : rated u d = 0) (hr : IsBack (smp n A P R u d) pl r) :
    Calls Try.prog 15 #[.slice (some ⟨b, o, none⟩) n cap, .int .i64 pl, .agg #[.int .i64 u, .int .i64 d]] w fun e w' => e = .returned (R2 (backR n A P u d r)) ∧ Below w.heap.size w w' := by
  have ha : Arg w (some ⟨b, o, none⟩) n A P R := ⟨by have := hk.le; omega, fun _ => ⟨b, o, rfl, hm⟩⟩
  have h0 : ∀ o' : Obj, Arg (w.alloc o') (some ⟨b, o, none⟩) n A P R := fun o' => ha.below (below_new (Below.refl _ _) o')
  have HW := Lib.hid (wrong_of hk)
  have HG := Lib.hid hg
  have HP := Lib.hid (show backR n A P u d r = if 1048576 < r then (0, 6) else (r, 0) by unfold backR; rw [if_pos (wrong_of hk), if_pos hg])
  obtain ⟨bu, bd⟩ := rated_ok hg
  have r0 := hr.lo
  have r1 := hr.hi
  clear hg
  go_enter Try.func15, Try.ntmps15
  go_wp2_with (first
    | (go_at_call 10; with_reducible refine (ref_wrong_is cap _ (h0 _) HW.out).mono ?_; rintro e w1 ⟨rfl, hb1⟩; have hz1 := hb1.size; (try simp at hz1); have zx1 : w.heap.size < w1.heap.size := (by first | omega | (simp; omega)); have cx0_1 : w1.cell? ⟨w.heap.size, 0, none⟩ = some (.int .i64 (u)) := (hb1.cell (by first | assumption | (simp <;> omega))).trans (by go_simp); have cx1_1 : w1.cell? ⟨w.heap.size, 1, none⟩ = some (.int .i64 (d)) := (hb1.cell (by first | assumption | (simp <;> omega))).trans (by go_simp))
    | (go_at_call 19; with_reducible refine (ref_rated_is u d _ hu hd HG.out).mono ?_; rintro e w2 ⟨rfl, hb2⟩; have hz2 := hb2.size; (try simp at hz2); have zx2 : w.heap.size < w2.heap.size := (by first | omega | (simp; omega)); have cx0_2 : w2.cell? ⟨w.heap.size, 0, none⟩ = some (.int .i64 (u)) := (hb2.cell (by first | assumption | (simp <;> omega))).trans (by go_simp); have cx1_2 : w2.cell? ⟨w.heap.size, 1, none⟩ = some (.int .i64 (d)) := (hb2.cell (by first | assumption | (simp <;> omega))).trans (by go_simp)))
  have hm2 : Marks w2 b o n A P R := (hm.below (below_new (Below.refl _ _) _)).below (below_then hb2 hb1)
  have hB2 : Below w.heap.size w w2 := (by repeat (first | exact Below.refl _ _ | assumption | refine below_drewN ?_ _ | refine Below.drew ?_ | refine below_new ?_ _ | refine Below.setCell ?_ (by first | omega | (simp <;> omega)) _ | refine below_then (by assumption) ?_))
  clear cx0_1 cx1_1 hb1 hb2
  go_loopw [10, 11] (fun v10 v11 wr => ∃ (i j : Int), v10 = .int .i64 i ∧ v11 = .int .i64 j ∧ -1 ≤ i ∧ i < r ∧ r ≤ j ∧ j ≤ 1048577 ∧ Below w2.heap.size w2 wr)
    (fun v10 v11 _ => (intOf v11 - intOf v10).toNat)
  case atStart => exact ⟨-1, 1048577, rfl, rfl, by omega, by omega, r1, by omega, Below.refl _ _⟩
  case round =>
    obtain ⟨i, j, rfl, rfl, hi0, hir, hrj, hj, hbr⟩ := hrel
    by_cases hl : 1 < j - i
    · have k0 : 0 ≤ i + j := by omega
      have k1 : i < (i + j) / 2 ∧ (i + j) / 2 < j := by omega
      have hh : 0 ≤ (i + j) / 2 ∧ (i + j) / 2 ≤ 1048576 := by omega
      have cx0 := cell_then cx0_2 hbr
      have cx1 := cell_then cx1_2 hbr
      have hmr := hm2.below hbr
      have bt := tw_bd (R := R) hk hh.1
      obtain ⟨⟨b1, b2⟩, b3, b4⟩ := smp_bd (t := tw n A P R ((i + j) / 2)) (u := u) (d := d) (by omega) bu bd.1
      by_cases hc : (i + j) / 2 < r
      · have hs : tw n A P R ((i + j) / 2) * u / d < pl := hr.below _ hh.1 hc
        go_wp2
        have zx : w.heap.size < wr.heap.size := World.block_lt_of_cell? wr _ cx0
        have hE := Ext.cells wr
        refine wp_region_ext (by kernel_rfl) (by kernel_rfl) ?_
        repeat go_big_quiet_step ((go_at_call 11; with_reducible refine ext_call (ref_twice_any cap hk ((i + j) / 2) _ hh (hmr.below (Ext.h _)))))
        refine wpQuiet_nil ?_
        rintro wd ⟨⟨_, hbd⟩, rfl⟩
        go_wp2
        go_roundw
        case rel => exact ⟨(i + j) / 2, j, rfl, rfl, by omega, hc, hrj, hj, below_then hbd hbr⟩
        case measure => simp [intOf]; omega
      · have hs : ¬ tw n A P R ((i + j) / 2) * u / d < pl := fun h => by have := hr.above _ (by omega : r ≤ (i + j) / 2) hh.2; unfold smp at this; omega
        go_wp2
        have zx : w.heap.size < wr.heap.size := World.block_lt_of_cell? wr _ cx0
        have hE := Ext.cells wr
        refine wp_region_ext (by kernel_rfl) (by kernel_rfl) ?_
        repeat go_big_quiet_step ((go_at_call 11; with_reducible refine ext_call (ref_twice_any cap hk ((i + j) / 2) _ hh (hmr.below (Ext.h _)))))
        refine wpQuiet_nil ?_
        rintro wd ⟨⟨_, hbd⟩, rfl⟩
        go_wp2
        go_roundw
        case rel => exact ⟨i, (i + j) / 2, rfl, rfl, hi0, hir, by omega, by omega, below_then hbd hbr⟩
        case measure => simp [intOf]; omega
    · obtain rfl : j = r := by omega
      have hBr : Below w.heap.size w wr := below_then hbr hB2
      by_cases c : j = 1048577
      · have HQ := Lib.hid (show backR n A P u d j = (0, 6) by rw [HP.out, if_pos (by omega)])
        have e : (j == 1048577) = true := by simpa using c
        clear c
        go_wp2
        go_ret2
        exact ⟨ret_R2 HQ.out, hBr⟩
      · have HQ := Lib.hid (show backR n A P u d j = (j, 0) by rw [HP.out, if_neg (by omega)])
        have e : (j == 1048577) = false := by simpa using c
        clear c
        go_wp2
        go_ret2
        exact ⟨ret_R2 HQ.out, hBr⟩

set_option maxHeartbeats 4000000 in
theorem ref_back_any {p : Option Addr} {n : Nat} {A P : Nat → Int} {R : Nat → Bool} (cap : Nat) (pl u d r : Int) (w : World) (h : Arg w p n A P R) (hu : I64 u) (hd : I64 d) (hr : wrong n A P = 0 → rated u d = 0 → IsBack (smp n A P R u d) pl r) :
    Calls Try.prog 15 #[.slice p n cap, .int .i64 pl, .agg #[.int .i64 u, .int .i64 d]] w fun e w' => e = .returned (R2 (backR n A P u d r)) ∧ Below w.heap.size w w' := by
  have h0 : ∀ o' : Obj, Arg (w.alloc o') p n A P R := fun o' => h.below (below_new (Below.refl _ _) o')
  obtain ⟨v, hv⟩ : ∃ v, wrong n A P = v := ⟨_, rfl⟩
  have HW := Lib.hid hv
  by_cases z : v = 0
  · subst z
    have hk := ok_of hv
    obtain ⟨g, hg⟩ : ∃ v, rated u d = v := ⟨_, rfl⟩
    have HG := Lib.hid hg
    by_cases z2 : g = 0
    · subst z2
      obtain ⟨b, o, rfl, hm⟩ := h.marks (by have := hk.pos; omega)
      exact ref_back_fine cap pl u d r w hk hm hu hd hg (hr hv hg)
    · have HP := Lib.hid (show backR n A P u d r = (0, g) by unfold backR; rw [if_pos hv, hg, if_neg z2])
      have z3 : (g != 0) = true := by simpa using z2
      clear hv hg z2 hr
      go_enter Try.func15, Try.ntmps15
      go_wp2_with (first
        | (go_at_call 10; with_reducible refine (ref_wrong_is cap _ (h0 _) HW.out).mono ?_; rintro e w1 ⟨rfl, hb1⟩; have hz1 := hb1.size; (try simp at hz1); have zx1 : w.heap.size < w1.heap.size := (by first | omega | (simp; omega)); have cx0_1 : w1.cell? ⟨w.heap.size, 0, none⟩ = some (.int .i64 (u)) := (hb1.cell (by first | assumption | (simp <;> omega))).trans (by go_simp); have cx1_1 : w1.cell? ⟨w.heap.size, 1, none⟩ = some (.int .i64 (d)) := (hb1.cell (by first | assumption | (simp <;> omega))).trans (by go_simp))
        | (go_at_call 19; with_reducible refine (ref_rated_is u d _ hu hd HG.out).mono ?_; rintro e w2 ⟨rfl, hb2⟩; have hz2 := hb2.size; (try simp at hz2); have zx2 : w.heap.size < w2.heap.size := (by first | omega | (simp; omega)); have cx0_2 : w2.cell? ⟨w.heap.size, 0, none⟩ = some (.int .i64 (u)) := (hb2.cell (by first | assumption | (simp <;> omega))).trans (by go_simp); have cx1_2 : w2.cell? ⟨w.heap.size, 1, none⟩ = some (.int .i64 (d)) := (hb2.cell (by first | assumption | (simp <;> omega))).trans (by go_simp)))
      go_ret2
      exact ⟨ret_R2 HP.out, (by repeat (first | exact Below.refl _ _ | assumption | refine below_drewN ?_ _ | refine Below.drew ?_ | refine below_new ?_ _ | refine Below.setCell ?_ (by first | omega | (simp <;> omega)) _ | refine below_then (by assumption) ?_))⟩
  · have HP := Lib.hid (show backR n A P u d r = (0, v) by unfold backR; rw [if_neg (by rw [hv]; exact z), hv])
    have z3 : (v != 0) = true := by simpa using z
    clear hv z hr
    go_enter Try.func15, Try.ntmps15
    go_wp2_with (first
      | (go_at_call 10; with_reducible refine (ref_wrong_is cap _ (h0 _) HW.out).mono ?_; rintro e w1 ⟨rfl, hb1⟩; have hz1 := hb1.size; (try simp at hz1); have zx1 : w.heap.size < w1.heap.size := (by first | omega | (simp; omega)); have cx0_1 : w1.cell? ⟨w.heap.size, 0, none⟩ = some (.int .i64 (u)) := (hb1.cell (by first | assumption | (simp <;> omega))).trans (by go_simp); have cx1_1 : w1.cell? ⟨w.heap.size, 1, none⟩ = some (.int .i64 (d)) := (hb1.cell (by first | assumption | (simp <;> omega))).trans (by go_simp)))
    go_ret2
    exact ⟨ret_R2 HP.out, (by repeat (first | exact Below.refl _ _ | assumption | refine below_drewN ?_ _ | refine Below.drew ?_ | refine below_new ?_ _ | refine Below.setCell ?_ (by first | omega | (simp <;> omega)) _ | refine below_then (by assumption) ?_))⟩
theorem ref_back_is {p : Option Addr} {n : Nat} {A P : Nat → Int} {R : Nat → Bool} (cap : Nat) (pl u d r : Int) (w : World) (h : Arg w p n A P R) (hu : I64 u) (hd : I64 d) (hr : wrong n A P = 0 → rated u d = 0 → IsBack (smp n A P R u d) pl r) {a c : Int} (k : backR n A P u d r = (a, c)) :
    Calls Try.prog 15 #[.slice p n cap, .int .i64 pl, .agg #[.int .i64 u, .int .i64 d]] w fun e w' => e = .returned (.tuple #[.int .i64 a, .int .i64 c]) ∧ Below w.heap.size w w' := by
  refine (ref_back_any cap pl u d r w h hu hd hr).mono fun e w' h => ?_
  rw [k] at h; exact h
theorem some_back (n : Nat) (A P : Nat → Int) (R : Nat → Bool) (u d pl : Int) : ∃ r, wrong n A P = 0 → rated u d = 0 → IsBack (smp n A P R u d) pl r := by
  by_cases h : wrong n A P = 0 ∧ rated u d = 0
  · obtain ⟨bu, bd⟩ := rated_ok h.2
    obtain ⟨r, hr⟩ := back_exists (smp_mono (R := R) (ok_of h.1) bu.1 bd.1) pl
    exact ⟨r, fun _ _ => hr⟩
  · exact ⟨0, fun h1 h2 => absurd ⟨h1, h2⟩ h⟩

end Go.Proofs.Ytinpnjiinadaeaa.Cl
