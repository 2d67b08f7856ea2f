/-
  THE WALKS of pitches: of the package.
-/
import Derived.Test.YtdboencinnlebaaKit
import Derived.Test.YtdboencinnlebaaPitch
import Derived.Test.YtdboencinnlebaaTail
import Derived.Deep.RegionHeld3
import Derived.Deep.RegionWith
namespace Go.Proofs.Ytdboencinnlebaa.Pi
open Go.RowKit

def I64 (n : Int) : Prop := -9223372036854775808 ≤ n ∧ n ≤ 9223372036854775807
theorem one_ {n m : Nat} (h : n + 1 ≤ m) : n < m := h
theorem nat7_0 : nat7 0 = 0 := rfl

set_option maxHeartbeats 1000000 in
theorem natural_any (l : Int) (w : World) :
    Calls Try.prog 38 #[.int .i64 l] w fun e w' => e = .returned (.int .i64 (nat7 l)) ∧ w = w' := by
  have h : l = 0 ∨ l = 1 ∨ l = 2 ∨ l = 3 ∨ l = 4 ∨ l = 5 ∨ (¬ l = 0 ∧ ¬ l = 1 ∧ ¬ l = 2 ∧ ¬ l = 3 ∧ ¬ l = 4 ∧ ¬ l = 5) := by omega
  rcases h with rfl | rfl | rfl | rfl | rfl | rfl | ⟨h0, h1, h2, h3, h4, h5⟩
  all_goals
    go_enter Try.func38, Try.ntmps38
    go_wp2
    go_ret
    exact ⟨ret_int (by unfold nat7; omega), rfl⟩

set_option maxHeartbeats 1000000 in
theorem right_any (l a o : Int) (w : World) :
    Calls Try.prog 12 #[.agg #[.int .i64 l, .int .i64 a, .int .i64 o]] w fun e w' => e = .returned (.bool (rightB l a o)) ∧ Below w.heap.size w w' := by
  by_cases h1 : 0 ≤ l
  · by_cases h2 : l < 7
    · by_cases h3 : -3 ≤ a
      · by_cases h4 : a ≤ 3
        · by_cases h5 : -12 ≤ o
          · go_enter Try.func12, Try.ntmps12
            go_wp2
            go_ret
            refine ⟨ret_bool ?_, (by repeat (first | exact Below.refl _ _ | assumption | refine below_drewN ?_ _ | refine Below.drew ?_ | refine below_new ?_ _ | refine Below.setCell ?_ (by first | omega | (simp <;> omega)) _ | refine below_then (by assumption) ?_))⟩
            rw [Bool.eq_iff_iff, rightB_iff]; simp; omega
          · go_enter Try.func12, Try.ntmps12
            go_wp2
            go_ret
            refine ⟨ret_bool ?_, (by repeat (first | exact Below.refl _ _ | assumption | refine below_drewN ?_ _ | refine Below.drew ?_ | refine below_new ?_ _ | refine Below.setCell ?_ (by first | omega | (simp <;> omega)) _ | refine below_then (by assumption) ?_))⟩
            rw [eq_comm, ← Bool.not_eq_true, rightB_iff]; omega
        · go_enter Try.func12, Try.ntmps12
          go_wp2
          go_ret
          refine ⟨ret_bool ?_, (by repeat (first | exact Below.refl _ _ | assumption | refine below_drewN ?_ _ | refine Below.drew ?_ | refine below_new ?_ _ | refine Below.setCell ?_ (by first | omega | (simp <;> omega)) _ | refine below_then (by assumption) ?_))⟩
          rw [eq_comm, ← Bool.not_eq_true, rightB_iff]; omega
      · go_enter Try.func12, Try.ntmps12
        go_wp2
        go_ret
        refine ⟨ret_bool ?_, (by repeat (first | exact Below.refl _ _ | assumption | refine below_drewN ?_ _ | refine Below.drew ?_ | refine below_new ?_ _ | refine Below.setCell ?_ (by first | omega | (simp <;> omega)) _ | refine below_then (by assumption) ?_))⟩
        rw [eq_comm, ← Bool.not_eq_true, rightB_iff]; omega
    · go_enter Try.func12, Try.ntmps12
      go_wp2
      go_ret
      refine ⟨ret_bool ?_, (by repeat (first | exact Below.refl _ _ | assumption | refine below_drewN ?_ _ | refine Below.drew ?_ | refine below_new ?_ _ | refine Below.setCell ?_ (by first | omega | (simp <;> omega)) _ | refine below_then (by assumption) ?_))⟩
      rw [eq_comm, ← Bool.not_eq_true, rightB_iff]; omega
  · go_enter Try.func12, Try.ntmps12
    go_wp2
    go_ret
    refine ⟨ret_bool ?_, (by repeat (first | exact Below.refl _ _ | assumption | refine below_drewN ?_ _ | refine Below.drew ?_ | refine below_new ?_ _ | refine Below.setCell ?_ (by first | omega | (simp <;> omega)) _ | refine below_then (by assumption) ?_))⟩
    rw [eq_comm, ← Bool.not_eq_true, rightB_iff]; omega

set_option maxHeartbeats 1000000 in
theorem steps_any (l a o : Int) (w : World) (h : rightB l a o = true) :
    Calls Try.prog 42 #[.agg #[.int .i64 l, .int .i64 a, .int .i64 o]] w fun e w' => e = .returned (.int .i64 (steps l o)) ∧ Below w.heap.size w w' := by
  have hr := rightB_iff.1 h
  go_enter Try.func42, Try.ntmps42
  go_wp2
  go_ret
  exact ⟨ret_int rfl, (by repeat (first | exact Below.refl _ _ | assumption | refine below_drewN ?_ _ | refine Below.drew ?_ | refine below_new ?_ _ | refine Below.setCell ?_ (by first | omega | (simp <;> omega)) _ | refine below_then (by assumption) ?_))⟩

theorem nat7_lo (l : Int) : 0 ≤ nat7 l := (nat7_range l).1
theorem nat7_hi (l : Int) : nat7 l ≤ 11 := (nat7_range l).2

set_option maxHeartbeats 1000000 in
theorem halves_any (l a o : Int) (w : World) (ha : -1000000 ≤ a ∧ a ≤ 1000000) (ho : -1000000 ≤ o ∧ o ≤ 1000000) :
    Calls Try.prog 24 #[.agg #[.int .i64 l, .int .i64 a, .int .i64 o]] w fun e w' => e = .returned (.int .i64 (halves l a o)) ∧ Below w.heap.size w w' := by
  have h1 := nat7_lo l
  have h2 := nat7_hi l
  go_enter Try.func24, Try.ntmps24
  go_wp2
  go_quiet ((go_at_call 38; exact quiet_left (natural_any l _)))
  go_wp2
  go_ret
  exact ⟨ret_int rfl, (by repeat (first | exact Below.refl _ _ | assumption | refine below_drewN ?_ _ | refine Below.drew ?_ | refine below_new ?_ _ | refine Below.setCell ?_ (by first | omega | (simp <;> omega)) _ | refine below_then (by assumption) ?_))⟩


end Go.Proofs.Ytdboencinnlebaa.Pi
