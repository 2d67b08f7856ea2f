/-
  THE WALKS of clock: rated, Place.
-/
import Derived.Test.YtinpnjiinadaeaaClockV
import Derived.Test.YtinpnjiinadaeaaFracW
namespace Go.Proofs.Ytinpnjiinadaeaa.Cl
open Go.RowKit

def rated (u d : Int) : Int := if Fr.rightB u d then (if u < 1 ∨ 4096 < u ∨ 4096 < d then 3 else 0) else 2
theorem right_is (u d : Int) (w : World) (hu : I64 u) (hd : I64 d) {v : Bool} (k : Fr.rightB u d = v) :
    Calls Try.prog 23 #[.agg #[.int .i64 u, .int .i64 d]] w fun e w' => e = .returned (.bool v) ∧ Below w.heap.size w w' := k ▸ Fr.right_any u d w hu hd
theorem ref_right_is (u d : Int) (w : World) (hu : I64 u) (hd : I64 d) {v : Bool} (k : Fr.rightB u d = v) :
    Calls Try.prog 24 #[.agg #[.int .i64 u, .int .i64 d]] w fun e w' => e = .returned (.bool v) ∧ Below w.heap.size w w' := k ▸ Fr.ref_right_any u d w hu hd

set_option maxHeartbeats 2000000 in
theorem rated_any (u d : Int) (w : World) (hu : I64 u) (hd : I64 d) :
    Calls Try.prog 18 #[.agg #[.int .i64 u, .int .i64 d]] w fun e w' => e = .returned (.int .i64 (rated u d)) ∧ Below w.heap.size w w' := by
  cases hr : Fr.rightB u d with
  | false =>
    have HV := Lib.hid (show (2 : Int) = rated u d by unfold rated; rw [hr]; rfl)
    have HR := Lib.hid hr
    clear hr
    go_enter Try.func18, Try.ntmps18
    go_wp2_with (first
      | (go_at_call 23; with_reducible refine (right_is u d _ hu hd HR.out).mono ?_; rintro e w1 ⟨rfl, hb1⟩; have hz1 := hb1.size; (try simp at hz1); have zx1 : w.heap.size < w1.heap.size := (by first | omega | (simp; omega)); have cx0_1 : w1.cell? ⟨w.heap.size, 0, none⟩ = some (.int .i64 (u)) := (hb1.cell (by first | assumption | (simp <;> omega))).trans (by go_simp); have cx1_1 : w1.cell? ⟨w.heap.size, 1, none⟩ = some (.int .i64 (d)) := (hb1.cell (by first | assumption | (simp <;> omega))).trans (by go_simp)))
    go_ret
    exact ⟨ret_int HV.out, (by repeat (first | exact Below.refl _ _ | assumption | refine below_drewN ?_ _ | refine Below.drew ?_ | refine below_new ?_ _ | refine Below.setCell ?_ (by first | omega | (simp <;> omega)) _ | refine below_then (by assumption) ?_))⟩
  | true =>
    have HR := Lib.hid hr
    by_cases q : u < 1 ∨ 4096 < u ∨ 4096 < d
    · have HV := Lib.hid (show (3 : Int) = rated u d by unfold rated; rw [hr, if_pos q]; rfl)
      have q' : u < 1 ∨ ¬ u < 1 ∧ 4096 < u ∨ ¬ u < 1 ∧ ¬ 4096 < u ∧ 4096 < d := by omega
      clear q hr
      rcases q' with q | ⟨q, q1⟩ | ⟨q, q1, q2⟩
      all_goals
        go_enter Try.func18, Try.ntmps18
        go_wp2_with (first
          | (go_at_call 23; with_reducible refine (right_is u d _ hu hd HR.out).mono ?_; rintro e w1 ⟨rfl, hb1⟩; have hz1 := hb1.size; (try simp at hz1); have zx1 : w.heap.size < w1.heap.size := (by first | omega | (simp; omega)); have cx0_1 : w1.cell? ⟨w.heap.size, 0, none⟩ = some (.int .i64 (u)) := (hb1.cell (by first | assumption | (simp <;> omega))).trans (by go_simp); have cx1_1 : w1.cell? ⟨w.heap.size, 1, none⟩ = some (.int .i64 (d)) := (hb1.cell (by first | assumption | (simp <;> omega))).trans (by go_simp)))
        go_ret
        exact ⟨ret_int HV.out, (by repeat (first | exact Below.refl _ _ | assumption | refine below_drewN ?_ _ | refine Below.drew ?_ | refine below_new ?_ _ | refine Below.setCell ?_ (by first | omega | (simp <;> omega)) _ | refine below_then (by assumption) ?_))⟩
    · have HV := Lib.hid (show (0 : Int) = rated u d by unfold rated; rw [hr, if_neg q]; rfl)
      have q1 : ¬ u < 1 := fun h => q (.inl h)
      have q2 : ¬ 4096 < u := fun h => q (.inr (.inl h))
      have q3 : ¬ 4096 < d := fun h => q (.inr (.inr h))
      clear q hr
      go_enter Try.func18, Try.ntmps18
      go_wp2_with (first
        | (go_at_call 23; with_reducible refine (right_is u d _ hu hd HR.out).mono ?_; rintro e w1 ⟨rfl, hb1⟩; have hz1 := hb1.size; (try simp at hz1); have zx1 : w.heap.size < w1.heap.size := (by first | omega | (simp; omega)); have cx0_1 : w1.cell? ⟨w.heap.size, 0, none⟩ = some (.int .i64 (u)) := (hb1.cell (by first | assumption | (simp <;> omega))).trans (by go_simp); have cx1_1 : w1.cell? ⟨w.heap.size, 1, none⟩ = some (.int .i64 (d)) := (hb1.cell (by first | assumption | (simp <;> omega))).trans (by go_simp)))
      go_ret
      exact ⟨ret_int HV.out, (by repeat (first | exact Below.refl _ _ | assumption | refine below_drewN ?_ _ | refine Below.drew ?_ | refine below_new ?_ _ | refine Below.setCell ?_ (by first | omega | (simp <;> omega)) _ | refine below_then (by assumption) ?_))⟩
theorem rated_is (u d : Int) (w : World) (hu : I64 u) (hd : I64 d) {v : Int} (k : rated u d = v) :
    Calls Try.prog 18 #[.agg #[.int .i64 u, .int .i64 d]] w fun e w' => e = .returned (.int .i64 v) ∧ Below w.heap.size w w' := k ▸ rated_any u d w hu hd
theorem rated_ok {u d : Int} (k : rated u d = 0) : (1 ≤ u ∧ u ≤ 4096) ∧ (1 ≤ d ∧ d ≤ 4096) := by
  unfold rated at k
  split at k
  · rename_i hr
    have := Fr.rightB_iff.1 hr
    split at k
    · omega
    · omega
  · omega

set_option maxHeartbeats 2000000 in
theorem ref_rated_any (u d : Int) (w : World) (hu : I64 u) (hd : I64 d) :
    Calls Try.prog 19 #[.agg #[.int .i64 u, .int .i64 d]] w fun e w' => e = .returned (.int .i64 (rated u d)) ∧ Below w.heap.size w w' := by
  cases hr : Fr.rightB u d with
  | false =>
    have HV := Lib.hid (show (2 : Int) = rated u d by unfold rated; rw [hr]; rfl)
    have HR := Lib.hid hr
    clear hr
    go_enter Try.func19, Try.ntmps19
    go_wp2_with (first
      | (go_at_call 24; with_reducible refine (ref_right_is u d _ hu hd HR.out).mono ?_; rintro e w1 ⟨rfl, hb1⟩; have hz1 := hb1.size; (try simp at hz1); have zx1 : w.heap.size < w1.heap.size := (by first | omega | (simp; omega)); have cx0_1 : w1.cell? ⟨w.heap.size, 0, none⟩ = some (.int .i64 (u)) := (hb1.cell (by first | assumption | (simp <;> omega))).trans (by go_simp); have cx1_1 : w1.cell? ⟨w.heap.size, 1, none⟩ = some (.int .i64 (d)) := (hb1.cell (by first | assumption | (simp <;> omega))).trans (by go_simp)))
    go_ret
    exact ⟨ret_int HV.out, (by repeat (first | exact Below.refl _ _ | assumption | refine below_drewN ?_ _ | refine Below.drew ?_ | refine below_new ?_ _ | refine Below.setCell ?_ (by first | omega | (simp <;> omega)) _ | refine below_then (by assumption) ?_))⟩
  | true =>
    have HR := Lib.hid hr
    by_cases q : u < 1 ∨ 4096 < u ∨ 4096 < d
    · have HV := Lib.hid (show (3 : Int) = rated u d by unfold rated; rw [hr, if_pos q]; rfl)
      have q' : u < 1 ∨ ¬ u < 1 ∧ 4096 < u ∨ ¬ u < 1 ∧ ¬ 4096 < u ∧ 4096 < d := by omega
      clear q hr
      rcases q' with q | ⟨q, q1⟩ | ⟨q, q1, q2⟩
      all_goals
        go_enter Try.func19, Try.ntmps19
        go_wp2_with (first
          | (go_at_call 24; with_reducible refine (ref_right_is u d _ hu hd HR.out).mono ?_; rintro e w1 ⟨rfl, hb1⟩; have hz1 := hb1.size; (try simp at hz1); have zx1 : w.heap.size < w1.heap.size := (by first | omega | (simp; omega)); have cx0_1 : w1.cell? ⟨w.heap.size, 0, none⟩ = some (.int .i64 (u)) := (hb1.cell (by first | assumption | (simp <;> omega))).trans (by go_simp); have cx1_1 : w1.cell? ⟨w.heap.size, 1, none⟩ = some (.int .i64 (d)) := (hb1.cell (by first | assumption | (simp <;> omega))).trans (by go_simp)))
        go_ret
        exact ⟨ret_int HV.out, (by repeat (first | exact Below.refl _ _ | assumption | refine below_drewN ?_ _ | refine Below.drew ?_ | refine below_new ?_ _ | refine Below.setCell ?_ (by first | omega | (simp <;> omega)) _ | refine below_then (by assumption) ?_))⟩
    · have HV := Lib.hid (show (0 : Int) = rated u d by unfold rated; rw [hr, if_neg q]; rfl)
      have q1 : ¬ u < 1 := fun h => q (.inl h)
      have q2 : ¬ 4096 < u := fun h => q (.inr (.inl h))
      have q3 : ¬ 4096 < d := fun h => q (.inr (.inr h))
      clear q hr
      go_enter Try.func19, Try.ntmps19
      go_wp2_with (first
        | (go_at_call 24; with_reducible refine (ref_right_is u d _ hu hd HR.out).mono ?_; rintro e w1 ⟨rfl, hb1⟩; have hz1 := hb1.size; (try simp at hz1); have zx1 : w.heap.size < w1.heap.size := (by first | omega | (simp; omega)); have cx0_1 : w1.cell? ⟨w.heap.size, 0, none⟩ = some (.int .i64 (u)) := (hb1.cell (by first | assumption | (simp <;> omega))).trans (by go_simp); have cx1_1 : w1.cell? ⟨w.heap.size, 1, none⟩ = some (.int .i64 (d)) := (hb1.cell (by first | assumption | (simp <;> omega))).trans (by go_simp)))
      go_ret
      exact ⟨ret_int HV.out, (by repeat (first | exact Below.refl _ _ | assumption | refine below_drewN ?_ _ | refine Below.drew ?_ | refine below_new ?_ _ | refine Below.setCell ?_ (by first | omega | (simp <;> omega)) _ | refine below_then (by assumption) ?_))⟩
theorem ref_rated_is (u d : Int) (w : World) (hu : I64 u) (hd : I64 d) {v : Int} (k : rated u d = v) :
    Calls Try.prog 19 #[.agg #[.int .i64 u, .int .i64 d]] w fun e w' => e = .returned (.int .i64 v) ∧ Below w.heap.size w w' := k ▸ ref_rated_any u d w hu hd

/-- The sample of a tick. -/
def place (n : Nat) (A P : Nat → Int) (R : Nat → Bool) (x u d : Int) : Int × Int :=
  if (twice n A P R x).2 = 0 then (if rated u d = 0 then (tw n A P R x * u / d, 0) else (0, rated u d)) else (0, (twice n A P R x).2)
theorem smp_bd {t u d : Int} (ht : 0 ≤ t ∧ t ≤ 137438953472) (hu : 1 ≤ u ∧ u ≤ 4096) (hd : 1 ≤ d) : (0 ≤ t * u ∧ t * u ≤ 562949953421312) ∧ 0 ≤ t * u / d ∧ t * u / d ≤ 562949953421312 := by
  have h1 : 0 ≤ t * u ∧ t * u ≤ 137438953472 * 4096 := prod_hi ht (by omega)
  exact ⟨by omega, ediv_hi (by omega) hd⟩

set_option maxHeartbeats 2000000 in
theorem place_any {p : Option Addr} {n : Nat} {A P : Nat → Int} {R : Nat → Bool} (cap : Nat) (x u d : Int) (w : World) (h : Arg w p n A P R) (hu : I64 u) (hd : I64 d) :
    Calls Try.prog 12 #[.slice p n cap, .int .i64 x, .agg #[.int .i64 u, .int .i64 d]] w fun e w' => e = .returned (R2 (place n A P R x u d)) ∧ Below w.heap.size w w' := by
  obtain ⟨t, e1, H1⟩ : ∃ t e, twice n A P R x = (t, e) := ⟨_, _, rfl⟩
  have h0 : ∀ o : Obj, Arg (w.alloc o) p n A P R := fun o => h.below (below_new (Below.refl _ _) o)
  by_cases z : e1 = 0
  · subst z
    obtain ⟨hk, hx0, hx1, ht⟩ := twice_ok H1
    obtain ⟨v, hv⟩ : ∃ v, rated u d = v := ⟨_, rfl⟩
    by_cases z2 : v = 0
    · subst z2
      obtain ⟨bu, bd⟩ := rated_ok hv
      have bt := tw_bd (R := R) hk hx0
      rw [← ht] at bt
      have hp : place n A P R x u d = (t * u / d, 0) := by unfold place; rw [if_pos (by rw [H1]), if_pos hv, ← ht]
      obtain ⟨⟨b1, b2⟩, b3, b4⟩ := smp_bd (t := t) (u := u) (d := d) (by omega) bu bd.1
      have HP := Lib.hid hp
      have HT := Lib.hid H1
      have HV := Lib.hid hv
      clear H1 ht hv hp
      go_enter Try.func12, Try.ntmps12
      go_wp2_with (first
        | (go_at_call 8; with_reducible refine (twice_is cap x _ (h0 _) HT.out).mono ?_; rintro e w1 ⟨rfl, hb1⟩; have hz1 := hb1.size; (try simp at hz1); have zx1 : w.heap.size < w1.heap.size := (by first | omega | (simp; omega)); have cx0_1 : w1.cell? ⟨w.heap.size, 0, none⟩ = some (.int .i64 (u)) := (hb1.cell (by first | assumption | (simp <;> omega))).trans (by go_simp); have cx1_1 : w1.cell? ⟨w.heap.size, 1, none⟩ = some (.int .i64 (d)) := (hb1.cell (by first | assumption | (simp <;> omega))).trans (by go_simp))
        | (go_at_call 18; with_reducible refine (rated_is u d _ hu hd HV.out).mono ?_; rintro e w2 ⟨rfl, hb2⟩; have hz2 := hb2.size; (try simp at hz2); have zx2 : w.heap.size < w2.heap.size := (by first | omega | (simp; omega)); have cx0_2 : w2.cell? ⟨w.heap.size, 0, none⟩ = some (.int .i64 (u)) := (hb2.cell (by first | assumption | (simp <;> omega))).trans (by go_simp); have cx1_2 : w2.cell? ⟨w.heap.size, 1, none⟩ = some (.int .i64 (d)) := (hb2.cell (by first | assumption | (simp <;> omega))).trans (by go_simp)))
      go_ret2
      exact ⟨ret_R2 HP.out, (by repeat (first | exact Below.refl _ _ | assumption | refine below_drewN ?_ _ | refine Below.drew ?_ | refine below_new ?_ _ | refine Below.setCell ?_ (by first | omega | (simp <;> omega)) _ | refine below_then (by assumption) ?_))⟩
    · have hp : place n A P R x u d = (0, v) := by unfold place; rw [if_pos (by rw [H1]), if_neg (by rw [hv]; exact z2), hv]
      have z3 : (v != 0) = true := by simpa using z2
      have HP := Lib.hid hp
      have HT := Lib.hid H1
      have HV := Lib.hid hv
      clear H1 ht hv hp z2
      go_enter Try.func12, Try.ntmps12
      go_wp2_with (first
        | (go_at_call 8; with_reducible refine (twice_is cap x _ (h0 _) HT.out).mono ?_; rintro e w1 ⟨rfl, hb1⟩; have hz1 := hb1.size; (try simp at hz1); have zx1 : w.heap.size < w1.heap.size := (by first | omega | (simp; omega)); have cx0_1 : w1.cell? ⟨w.heap.size, 0, none⟩ = some (.int .i64 (u)) := (hb1.cell (by first | assumption | (simp <;> omega))).trans (by go_simp); have cx1_1 : w1.cell? ⟨w.heap.size, 1, none⟩ = some (.int .i64 (d)) := (hb1.cell (by first | assumption | (simp <;> omega))).trans (by go_simp))
        | (go_at_call 18; with_reducible refine (rated_is u d _ hu hd HV.out).mono ?_; rintro e w2 ⟨rfl, hb2⟩; have hz2 := hb2.size; (try simp at hz2); have zx2 : w.heap.size < w2.heap.size := (by first | omega | (simp; omega)); have cx0_2 : w2.cell? ⟨w.heap.size, 0, none⟩ = some (.int .i64 (u)) := (hb2.cell (by first | assumption | (simp <;> omega))).trans (by go_simp); have cx1_2 : w2.cell? ⟨w.heap.size, 1, none⟩ = some (.int .i64 (d)) := (hb2.cell (by first | assumption | (simp <;> omega))).trans (by go_simp)))
      go_ret2
      exact ⟨ret_R2 HP.out, (by repeat (first | exact Below.refl _ _ | assumption | refine below_drewN ?_ _ | refine Below.drew ?_ | refine below_new ?_ _ | refine Below.setCell ?_ (by first | omega | (simp <;> omega)) _ | refine below_then (by assumption) ?_))⟩
  · have hp : place n A P R x u d = (0, e1) := by unfold place; rw [if_neg (by rw [H1]; exact z), H1]
    have z3 : (e1 != 0) = true := by simpa using z
    have HP := Lib.hid hp
    have HT := Lib.hid H1
    clear H1 hp z
    go_enter Try.func12, Try.ntmps12
    go_wp2_with (first
      | (go_at_call 8; with_reducible refine (twice_is cap x _ (h0 _) HT.out).mono ?_; rintro e w1 ⟨rfl, hb1⟩; have hz1 := hb1.size; (try simp at hz1); have zx1 : w.heap.size < w1.heap.size := (by first | omega | (simp; omega)); have cx0_1 : w1.cell? ⟨w.heap.size, 0, none⟩ = some (.int .i64 (u)) := (hb1.cell (by first | assumption | (simp <;> omega))).trans (by go_simp); have cx1_1 : w1.cell? ⟨w.heap.size, 1, none⟩ = some (.int .i64 (d)) := (hb1.cell (by first | assumption | (simp <;> omega))).trans (by go_simp)))
    go_ret2
    exact ⟨ret_R2 HP.out, (by repeat (first | exact Below.refl _ _ | assumption | refine below_drewN ?_ _ | refine Below.drew ?_ | refine below_new ?_ _ | refine Below.setCell ?_ (by first | omega | (simp <;> omega)) _ | refine below_then (by assumption) ?_))⟩
theorem place_is {p : Option Addr} {n : Nat} {A P : Nat → Int} {R : Nat → Bool} (cap : Nat) (x u d : Int) (w : World) (h : Arg w p n A P R) (hu : I64 u) (hd : I64 d) {a b : Int} (k : place n A P R x u d = (a, b)) :
    Calls Try.prog 12 #[.slice p n cap, .int .i64 x, .agg #[.int .i64 u, .int .i64 d]] w fun e w' => e = .returned (.tuple #[.int .i64 a, .int .i64 b]) ∧ Below w.heap.size w w' := by
  refine (place_any cap x u d w h hu hd).mono fun e w' h => ?_
  rw [k] at h; exact h

end Go.Proofs.Ytinpnjiinadaeaa.Cl
