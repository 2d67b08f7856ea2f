/-
  THE WALKS of clock.Back: its closure, sort.Search at it.
-/
import Derived.Test.YtinpnjiinadaeaaRateW
namespace Go.Proofs.Ytinpnjiinadaeaa.Cl
open Go.RowKit

/-- The first tick that doesn't fall ahead of a sample; 1048577: there is none. -/
structure IsBack (f : Int → Int) (pl r : Int) : Prop where
  lo : 0 ≤ r
  hi : r ≤ 1048577
  below : ∀ y, 0 ≤ y → y < r → f y < pl
  above : ∀ y, r ≤ y → y ≤ 1048576 → pl ≤ f y
theorem back_first (f : Int → Int) (pl : Int) : ∀ N : Nat, ∃ r : Nat, r ≤ N ∧ (∀ y : Nat, y < r → f y < pl) ∧ (r < N → pl ≤ f r)
  | 0 => ⟨0, by omega, fun y hy => by omega, fun h => by omega⟩
  | N + 1 => by
    obtain ⟨r, h1, h2, h3⟩ := back_first f pl N
    by_cases hr : r < N
    · exact ⟨r, by omega, h2, fun _ => h3 hr⟩
    · obtain rfl : r = N := by omega
      by_cases hf : pl ≤ f r
      · exact ⟨r, by omega, h2, fun _ => hf⟩
      · refine ⟨r + 1, by omega, fun y hy => ?_, fun h => by omega⟩
        by_cases hy' : y < r
        · exact h2 y hy'
        · obtain rfl : y = r := by omega
          omega
theorem back_exists {f : Int → Int} (hf : ∀ x y, 0 ≤ x → x ≤ y → f x ≤ f y) (pl : Int) : ∃ r, IsBack f pl r := by
  obtain ⟨r, h1, h2, h3⟩ := back_first f pl 1048577
  refine ⟨r, by omega, by omega, fun y hy hyr => ?_, fun y hr hy => ?_⟩
  · have := h2 y.toNat (by omega)
    rwa [show ((y.toNat : Nat) : Int) = y by omega] at this
  · exact Int.le_trans (h3 (by omega)) (hf _ _ (by omega) hr)
theorem IsBack.uniq {f : Int → Int} {pl r s : Int} (h1 : IsBack f pl r) (h2 : IsBack f pl s) : r = s := by
  rcases Int.lt_trichotomy r s with h | h | h
  · have a := h2.below r h1.lo h
    have b := h1.above r (Int.le_refl _) (by have := h2.hi; omega)
    omega
  · exact h
  · have a := h1.below s h2.lo h
    have b := h2.above s (Int.le_refl _) (by have := h1.hi; omega)
    omega
theorem IsBack.test {f : Int → Int} {pl r y : Int} (h : IsBack f pl r) (h0 : 0 ≤ y) (h1 : y ≤ 1048576) : decide (pl ≤ f y) = decide (r ≤ y) := by
  rw [decide_eq_decide]
  constructor
  · intro hy
    by_cases hr : r ≤ y
    · exact hr
    · have := h.below y h0 (by omega); omega
  · intro hr; exact h.above y hr h1

def smp (n : Nat) (A P : Nat → Int) (R : Nat → Bool) (u d : Int) (x : Int) : Int := tw n A P R x * u / d
theorem smp_mono {n : Nat} {A P : Nat → Int} {R : Nat → Bool} (hk : Ok n A P) {u d : Int} (hu : 1 ≤ u) (hd : 1 ≤ d) : ∀ x y, 0 ≤ x → x ≤ y → smp n A P R u d x ≤ smp n A P R u d y := by
  intro x y hx hxy
  have h := tw_rises (R := R) hk hx hxy
  unfold smp
  exact Int.ediv_le_ediv (by omega) (Int.mul_le_mul_of_nonneg_right (by omega) (by omega))

set_option maxHeartbeats 2000000 in
theorem pred_any {b o n b3 b4 b5 : Nat} {A P : Nat → Int} {R : Nat → Bool} (cap : Nat) (hk : Ok n A P) (x u d pl : Int) (w : World) (hx : 0 ≤ x ∧ x ≤ 1048576) (hm : Marks w b o n A P R) (hu : 1 ≤ u ∧ u ≤ 4096) (hd : 1 ≤ d ∧ d ≤ 4096)
    (cl : w.cell? ⟨b3, 0, none⟩ = some (.slice (some ⟨b, o, none⟩) n cap)) (cu : w.cell? ⟨b5, 0, none⟩ = some (.int .i64 u)) (cd : w.cell? ⟨b5, 1, none⟩ = some (.int .i64 d)) (cp : w.cell? ⟨b4, 0, none⟩ = some (.int .i64 pl)) :
    Calls Try.prog 21 #[.int .i64 x, .pointer (some ⟨b3, 0, none⟩), .pointer (some ⟨b5, 0, none⟩), .pointer (some ⟨b4, 0, none⟩)] w fun e w' =>
      e = .returned (.bool (decide (pl ≤ smp n A P R u d x))) ∧ Below w.heap.size w w' := by
  have h3 : b3 < w.heap.size := World.block_lt_of_cell? w _ cl
  have h4 : b4 < w.heap.size := World.block_lt_of_cell? w _ cp
  have h5 : b5 < w.heap.size := World.block_lt_of_cell? w _ cu
  have bt := tw_bd (R := R) hk hx.1
  obtain ⟨⟨q1, q2⟩, q3, q4⟩ := smp_bd (t := tw n A P R x) (u := u) (d := d) (by omega) hu hd.1
  have hE := Ext.cells w
  go_enter Try.func21, Try.ntmps21
  go_wp2
  refine wp_region_ext (by kernel_rfl) (by kernel_rfl) ?_
  repeat go_big_quiet_step ((go_at_call 16; with_reducible refine ext_call (twice_any cap hk x _ hx (hm.below (Ext.h _)))))
  refine wpQuiet_nil ?_
  rintro wd ⟨⟨_, hbd⟩, rfl⟩
  go_wp2
  go_ret
  exact ⟨rfl, hbd⟩

theorem half_ {i j : Int} (h1 : i < j) : i ≤ (i + j) / 2 ∧ (i + j) / 2 < j := by omega

set_option maxHeartbeats 2000000 in
theorem search_any {b o n b3 b4 b5 : Nat} {A P : Nat → Int} {R : Nat → Bool} (cap : Nat) (hk : Ok n A P) (u d pl r : Int) (w : World) (hm : Marks w b o n A P R) (hu : 1 ≤ u ∧ u ≤ 4096) (hd : 1 ≤ d ∧ d ≤ 4096)
    (cl : w.cell? ⟨b3, 0, none⟩ = some (.slice (some ⟨b, o, none⟩) n cap)) (cu : w.cell? ⟨b5, 0, none⟩ = some (.int .i64 u)) (cd : w.cell? ⟨b5, 1, none⟩ = some (.int .i64 d)) (cp : w.cell? ⟨b4, 0, none⟩ = some (.int .i64 pl))
    (hr : IsBack (smp n A P R u d) pl r) :
    Calls Try.prog 20 #[.int .i64 1048577, .func (.func 21) #[] #[.pointer (some ⟨b3, 0, none⟩), .pointer (some ⟨b5, 0, none⟩), .pointer (some ⟨b4, 0, none⟩)]] w fun e w' =>
      e = .returned (.int .i64 r) ∧ Below w.heap.size w w' := by
  have r0 := hr.lo
  have r1 := hr.hi
  go_enter Try.func20, Try.ntmps20
  go_wp2
  go_loopw [5, 6] (fun v5 v6 wr => ∃ (i j : Int), v5 = .int .i64 i ∧ v6 = .int .i64 j ∧ 0 ≤ i ∧ i ≤ r ∧ r ≤ j ∧ j ≤ 1048577 ∧ Below w.heap.size w wr)
    (fun v5 v6 _ => (intOf v6 - intOf v5).toNat)
  case atStart => exact ⟨0, 1048577, rfl, rfl, by omega, r0, r1, by omega, Below.refl _ _⟩
  case round =>
    obtain ⟨i, j, rfl, rfl, hi0, hir, hrj, hj, hbr⟩ := hrel
    by_cases hl : i < j
    · obtain ⟨k1, k2⟩ := half_ hl
      have hT := Lib.hid (hr.test (y := (i + j) / 2) (by omega) (by omega))
      have hbb := hbr
      have cl' := cell_then cl hbr
      have cu' := cell_then cu hbr
      have cd' := cell_then cd hbr
      have cp' := cell_then cp hbr
      have hm' := hm.below hbr
      have hh : 0 ≤ (i + j) / 2 ∧ (i + j) / 2 ≤ 1048576 := by omega
      by_cases hc : r ≤ (i + j) / 2
      · have hc' : decide (r ≤ (i + j) / 2) = true := by simpa using hc
        go_wp2_with (go_at_call 21; with_reducible refine (pred_any cap hk ((i + j) / 2) u d pl _ hh hm' hu hd cl' cu' cd' cp').mono ?_; rw [hT.out, hc']; rintro e w1 ⟨rfl, hb1⟩)
        go_roundw
        case rel => exact ⟨i, (i + j) / 2, rfl, rfl, hi0, hir, hc, by omega, below_then hb1 hbr⟩
        case measure => simp [intOf]; omega
      · have hc' : decide (r ≤ (i + j) / 2) = false := by simpa using hc
        go_wp2_with (go_at_call 21; with_reducible refine (pred_any cap hk ((i + j) / 2) u d pl _ hh hm' hu hd cl' cu' cd' cp').mono ?_; rw [hT.out, hc']; rintro e w1 ⟨rfl, hb1⟩)
        go_roundw
        case rel => exact ⟨(i + j) / 2 + 1, j, rfl, rfl, by omega, by omega, hrj, hj, below_then hb1 hbr⟩
        case measure => simp [intOf]; omega
    · obtain rfl : i = r := by omega
      obtain rfl : i = j := by omega
      go_wp2
      go_ret
      exact ⟨rfl, hbr⟩

/-- What Back answers. -/
def backR (n : Nat) (A P : Nat → Int) (u d r : Int) : Int × Int :=
  if wrong n A P = 0 then (if rated u d = 0 then (if 1048576 < r then (0, 6) else (r, 0)) else (0, rated u d)) else (0, wrong n A P)

set_option maxHeartbeats 4000000 in
theorem back_any {p : Option Addr} {n : Nat} {A P : Nat → Int} {R : Nat → Bool} (cap : Nat) (pl u d r : Int) (w : World) (h : Arg w p n A P R) (hu : I64 u) (hd : I64 d) (hr : wrong n A P = 0 → rated u d = 0 → IsBack (smp n A P R u d) pl r) :
    Calls Try.prog 14 #[.slice p n cap, .int .i64 pl, .agg #[.int .i64 u, .int .i64 d]] w fun e w' => e = .returned (R2 (backR n A P u d r)) ∧ Below w.heap.size w w' := by
  have h0 : ∀ o o' o'' : Obj, Arg (((w.alloc o).alloc o').alloc o'') p n A P R := fun o o' o'' => h.below (below_new (below_new (below_new (Below.refl _ _) o) o') o'')
  by_cases z : wrong n A P = 0
  · have hk := ok_of z
    obtain ⟨v, hv⟩ : ∃ v, rated u d = v := ⟨_, rfl⟩
    obtain ⟨b, o, rfl, hm⟩ := h.marks (by have := hk.pos; omega)
    have HW := Lib.hid z
    have HV := Lib.hid hv
    by_cases z2 : v = 0
    · subst z2
      obtain ⟨bu, bd⟩ := rated_ok hv
      have hB := hr z hv
      have r1 := hB.hi
      by_cases c : 1048576 < r
      · have HP := Lib.hid (show backR n A P u d r = (0, 6) by unfold backR; rw [if_pos z, if_pos hv, if_pos c])
        clear hr z hv
        go_enter Try.func14, Try.ntmps14
        go_wp2_with (first
          | (go_at_call 9; with_reducible refine (wrong_is cap _ (h0 _ _ _) HW.out).mono ?_; rintro e w1 ⟨rfl, hb1⟩; have hz1 := hb1.size; (try simp at hz1); have zl1 : w.heap.size < w1.heap.size := (by first | omega | (simp; omega)); have cl0_1 : w1.cell? ⟨w.heap.size, 0, none⟩ = some (.slice (some ⟨b, o, none⟩) n cap) := (hb1.cell (by first | assumption | (simp <;> omega))).trans (by go_simp); have zq1 : w.heap.size + 1 < w1.heap.size := (by first | omega | (simp; omega)); have cq0_1 : w1.cell? ⟨w.heap.size + 1, 0, none⟩ = some (.int .i64 (pl)) := (hb1.cell (by first | assumption | (simp <;> omega))).trans (by go_simp); have zx1 : w.heap.size + 1 + 1 < w1.heap.size := (by first | omega | (simp; omega)); have cx0_1 : w1.cell? ⟨w.heap.size + 1 + 1, 0, none⟩ = some (.int .i64 (u)) := (hb1.cell (by first | assumption | (simp <;> omega))).trans (by go_simp); have cx1_1 : w1.cell? ⟨w.heap.size + 1 + 1, 1, none⟩ = some (.int .i64 (d)) := (hb1.cell (by first | assumption | (simp <;> omega))).trans (by go_simp))
          | (go_at_call 18; with_reducible refine (rated_is u d _ hu hd HV.out).mono ?_; rintro e w2 ⟨rfl, hb2⟩; have hz2 := hb2.size; (try simp at hz2); have zl2 : w.heap.size < w2.heap.size := (by first | omega | (simp; omega)); have cl0_2 : w2.cell? ⟨w.heap.size, 0, none⟩ = some (.slice (some ⟨b, o, none⟩) n cap) := (hb2.cell (by first | assumption | (simp <;> omega))).trans (by go_simp); have zq2 : w.heap.size + 1 < w2.heap.size := (by first | omega | (simp; omega)); have cq0_2 : w2.cell? ⟨w.heap.size + 1, 0, none⟩ = some (.int .i64 (pl)) := (hb2.cell (by first | assumption | (simp <;> omega))).trans (by go_simp); have zx2 : w.heap.size + 1 + 1 < w2.heap.size := (by first | omega | (simp; omega)); have cx0_2 : w2.cell? ⟨w.heap.size + 1 + 1, 0, none⟩ = some (.int .i64 (u)) := (hb2.cell (by first | assumption | (simp <;> omega))).trans (by go_simp); have cx1_2 : w2.cell? ⟨w.heap.size + 1 + 1, 1, none⟩ = some (.int .i64 (d)) := (hb2.cell (by first | assumption | (simp <;> omega))).trans (by go_simp))
          | (go_at_call 20; with_reducible refine (search_any cap hk u d pl r _ (hm.below (by repeat (first | exact Below.refl _ _ | assumption | refine below_drewN ?_ _ | refine Below.drew ?_ | refine below_new ?_ _ | refine Below.setCell ?_ (by first | omega | (simp <;> omega)) _ | refine below_then (by assumption) ?_))) bu bd cl0_2 cx0_2 cx1_2 cq0_2 hB).mono ?_; rintro e w3 ⟨rfl, hb3⟩))
        go_ret2
        exact ⟨ret_R2 HP.out, (by repeat (first | exact Below.refl _ _ | assumption | refine below_drewN ?_ _ | refine Below.drew ?_ | refine below_new ?_ _ | refine Below.setCell ?_ (by first | omega | (simp <;> omega)) _ | refine below_then (by assumption) ?_))⟩
      · have HP := Lib.hid (show backR n A P u d r = (r, 0) by unfold backR; rw [if_pos z, if_pos hv, if_neg c])
        clear hr z hv
        go_enter Try.func14, Try.ntmps14
        go_wp2_with (first
          | (go_at_call 9; with_reducible refine (wrong_is cap _ (h0 _ _ _) HW.out).mono ?_; rintro e w1 ⟨rfl, hb1⟩; have hz1 := hb1.size; (try simp at hz1); have zl1 : w.heap.size < w1.heap.size := (by first | omega | (simp; omega)); have cl0_1 : w1.cell? ⟨w.heap.size, 0, none⟩ = some (.slice (some ⟨b, o, none⟩) n cap) := (hb1.cell (by first | assumption | (simp <;> omega))).trans (by go_simp); have zq1 : w.heap.size + 1 < w1.heap.size := (by first | omega | (simp; omega)); have cq0_1 : w1.cell? ⟨w.heap.size + 1, 0, none⟩ = some (.int .i64 (pl)) := (hb1.cell (by first | assumption | (simp <;> omega))).trans (by go_simp); have zx1 : w.heap.size + 1 + 1 < w1.heap.size := (by first | omega | (simp; omega)); have cx0_1 : w1.cell? ⟨w.heap.size + 1 + 1, 0, none⟩ = some (.int .i64 (u)) := (hb1.cell (by first | assumption | (simp <;> omega))).trans (by go_simp); have cx1_1 : w1.cell? ⟨w.heap.size + 1 + 1, 1, none⟩ = some (.int .i64 (d)) := (hb1.cell (by first | assumption | (simp <;> omega))).trans (by go_simp))
          | (go_at_call 18; with_reducible refine (rated_is u d _ hu hd HV.out).mono ?_; rintro e w2 ⟨rfl, hb2⟩; have hz2 := hb2.size; (try simp at hz2); have zl2 : w.heap.size < w2.heap.size := (by first | omega | (simp; omega)); have cl0_2 : w2.cell? ⟨w.heap.size, 0, none⟩ = some (.slice (some ⟨b, o, none⟩) n cap) := (hb2.cell (by first | assumption | (simp <;> omega))).trans (by go_simp); have zq2 : w.heap.size + 1 < w2.heap.size := (by first | omega | (simp; omega)); have cq0_2 : w2.cell? ⟨w.heap.size + 1, 0, none⟩ = some (.int .i64 (pl)) := (hb2.cell (by first | assumption | (simp <;> omega))).trans (by go_simp); have zx2 : w.heap.size + 1 + 1 < w2.heap.size := (by first | omega | (simp; omega)); have cx0_2 : w2.cell? ⟨w.heap.size + 1 + 1, 0, none⟩ = some (.int .i64 (u)) := (hb2.cell (by first | assumption | (simp <;> omega))).trans (by go_simp); have cx1_2 : w2.cell? ⟨w.heap.size + 1 + 1, 1, none⟩ = some (.int .i64 (d)) := (hb2.cell (by first | assumption | (simp <;> omega))).trans (by go_simp))
          | (go_at_call 20; with_reducible refine (search_any cap hk u d pl r _ (hm.below (by repeat (first | exact Below.refl _ _ | assumption | refine below_drewN ?_ _ | refine Below.drew ?_ | refine below_new ?_ _ | refine Below.setCell ?_ (by first | omega | (simp <;> omega)) _ | refine below_then (by assumption) ?_))) bu bd cl0_2 cx0_2 cx1_2 cq0_2 hB).mono ?_; rintro e w3 ⟨rfl, hb3⟩))
        go_ret2
        exact ⟨ret_R2 HP.out, (by repeat (first | exact Below.refl _ _ | assumption | refine below_drewN ?_ _ | refine Below.drew ?_ | refine below_new ?_ _ | refine Below.setCell ?_ (by first | omega | (simp <;> omega)) _ | refine below_then (by assumption) ?_))⟩
    · have HP := Lib.hid (show backR n A P u d r = (0, v) by unfold backR; rw [if_pos z, hv, if_neg z2])
      have z3 : (v != 0) = true := by simpa using z2
      clear hr z hv z2
      go_enter Try.func14, Try.ntmps14
      go_wp2_with (first
        | (go_at_call 9; with_reducible refine (wrong_is cap _ (h0 _ _ _) HW.out).mono ?_; rintro e w1 ⟨rfl, hb1⟩; have hz1 := hb1.size; (try simp at hz1); have zl1 : w.heap.size < w1.heap.size := (by first | omega | (simp; omega)); have cl0_1 : w1.cell? ⟨w.heap.size, 0, none⟩ = some (.slice (some ⟨b, o, none⟩) n cap) := (hb1.cell (by first | assumption | (simp <;> omega))).trans (by go_simp); have zq1 : w.heap.size + 1 < w1.heap.size := (by first | omega | (simp; omega)); have cq0_1 : w1.cell? ⟨w.heap.size + 1, 0, none⟩ = some (.int .i64 (pl)) := (hb1.cell (by first | assumption | (simp <;> omega))).trans (by go_simp); have zx1 : w.heap.size + 1 + 1 < w1.heap.size := (by first | omega | (simp; omega)); have cx0_1 : w1.cell? ⟨w.heap.size + 1 + 1, 0, none⟩ = some (.int .i64 (u)) := (hb1.cell (by first | assumption | (simp <;> omega))).trans (by go_simp); have cx1_1 : w1.cell? ⟨w.heap.size + 1 + 1, 1, none⟩ = some (.int .i64 (d)) := (hb1.cell (by first | assumption | (simp <;> omega))).trans (by go_simp))
        | (go_at_call 18; with_reducible refine (rated_is u d _ hu hd HV.out).mono ?_; rintro e w2 ⟨rfl, hb2⟩; have hz2 := hb2.size; (try simp at hz2); have zl2 : w.heap.size < w2.heap.size := (by first | omega | (simp; omega)); have cl0_2 : w2.cell? ⟨w.heap.size, 0, none⟩ = some (.slice (some ⟨b, o, none⟩) n cap) := (hb2.cell (by first | assumption | (simp <;> omega))).trans (by go_simp); have zq2 : w.heap.size + 1 < w2.heap.size := (by first | omega | (simp; omega)); have cq0_2 : w2.cell? ⟨w.heap.size + 1, 0, none⟩ = some (.int .i64 (pl)) := (hb2.cell (by first | assumption | (simp <;> omega))).trans (by go_simp); have zx2 : w.heap.size + 1 + 1 < w2.heap.size := (by first | omega | (simp; omega)); have cx0_2 : w2.cell? ⟨w.heap.size + 1 + 1, 0, none⟩ = some (.int .i64 (u)) := (hb2.cell (by first | assumption | (simp <;> omega))).trans (by go_simp); have cx1_2 : w2.cell? ⟨w.heap.size + 1 + 1, 1, none⟩ = some (.int .i64 (d)) := (hb2.cell (by first | assumption | (simp <;> omega))).trans (by go_simp)))
      go_ret2
      exact ⟨ret_R2 HP.out, (by repeat (first | exact Below.refl _ _ | assumption | refine below_drewN ?_ _ | refine Below.drew ?_ | refine below_new ?_ _ | refine Below.setCell ?_ (by first | omega | (simp <;> omega)) _ | refine below_then (by assumption) ?_))⟩
  · obtain ⟨v, hv⟩ : ∃ v, wrong n A P = v := ⟨_, rfl⟩
    have HP := Lib.hid (show backR n A P u d r = (0, v) by unfold backR; rw [if_neg z, hv])
    have z3 : (v != 0) = true := by rw [← hv]; simpa using z
    have HW := Lib.hid hv
    clear hr z hv
    go_enter Try.func14, Try.ntmps14
    go_wp2_with (first
      | (go_at_call 9; with_reducible refine (wrong_is cap _ (h0 _ _ _) HW.out).mono ?_; rintro e w1 ⟨rfl, hb1⟩; have hz1 := hb1.size; (try simp at hz1); have zl1 : w.heap.size < w1.heap.size := (by first | omega | (simp; omega)); have cl0_1 : w1.cell? ⟨w.heap.size, 0, none⟩ = some (.slice p n cap) := (hb1.cell (by first | assumption | (simp <;> omega))).trans (by go_simp); have zq1 : w.heap.size + 1 < w1.heap.size := (by first | omega | (simp; omega)); have cq0_1 : w1.cell? ⟨w.heap.size + 1, 0, none⟩ = some (.int .i64 (pl)) := (hb1.cell (by first | assumption | (simp <;> omega))).trans (by go_simp); have zx1 : w.heap.size + 1 + 1 < w1.heap.size := (by first | omega | (simp; omega)); have cx0_1 : w1.cell? ⟨w.heap.size + 1 + 1, 0, none⟩ = some (.int .i64 (u)) := (hb1.cell (by first | assumption | (simp <;> omega))).trans (by go_simp); have cx1_1 : w1.cell? ⟨w.heap.size + 1 + 1, 1, none⟩ = some (.int .i64 (d)) := (hb1.cell (by first | assumption | (simp <;> omega))).trans (by go_simp)))
    go_ret2
    exact ⟨ret_R2 HP.out, (by repeat (first | exact Below.refl _ _ | assumption | refine below_drewN ?_ _ | refine Below.drew ?_ | refine below_new ?_ _ | refine Below.setCell ?_ (by first | omega | (simp <;> omega)) _ | refine below_then (by assumption) ?_))⟩
theorem back_is {p : Option Addr} {n : Nat} {A P : Nat → Int} {R : Nat → Bool} (cap : Nat) (pl u d r : Int) (w : World) (h : Arg w p n A P R) (hu : I64 u) (hd : I64 d) (hr : wrong n A P = 0 → rated u d = 0 → IsBack (smp n A P R u d) pl r) {a c : Int} (k : backR n A P u d r = (a, c)) :
    Calls Try.prog 14 #[.slice p n cap, .int .i64 pl, .agg #[.int .i64 u, .int .i64 d]] w fun e w' => e = .returned (.tuple #[.int .i64 a, .int .i64 c]) ∧ Below w.heap.size w w' := by
  refine (back_any cap pl u d r w h hu hd hr).mono fun e w' h => ?_
  rw [k] at h; exact h
end Go.Proofs.Ytinpnjiinadaeaa.Cl
