/-
  THE WALK of the law ClockRises.
-/
import Derived.Test.YtinpnjiinadaeaaClockV
namespace Go.Proofs.Ytinpnjiinadaeaa.Cl
open Go.RowKit

set_option maxHeartbeats 2000000 in
theorem law_rises {p : Option Addr} {n : Nat} {A P : Nat → Int} {R : Nat → Bool} (cap : Nat) (x m : Int) (w : World) (h : Arg w p n A P R) (ix : I64 x) (im : I64 m) :
    Calls Try.prog 3 #[.slice p n cap, .int .i64 x, .int .i64 m] w fun e w' => e = .returned (.bool true) ∧ Below w.heap.size w w' := by
  unfold I64 at ix im
  by_cases q : x < 0 ∨ m < 1 ∨ 1048576 < x ∨ 1048576 - x < m
  · have q' : x < 0 ∨ ¬ x < 0 ∧ m < 1 ∨ ¬ x < 0 ∧ ¬ m < 1 ∧ 1048576 < x ∨ ¬ x < 0 ∧ ¬ m < 1 ∧ ¬ 1048576 < x ∧ 1048576 - x < m := by omega
    clear q
    rcases q' with q | ⟨q, q1⟩ | ⟨q, q1, q2⟩ | ⟨q, q1, q2, q3⟩
    all_goals
      go_enter Try.func3, Try.ntmps3
      go_wp2_with (go_at_call 7; with_reducible refine (alive_any _).mono ?_; rintro e w1 ⟨rfl, hb1⟩)
      go_ret
      exact ⟨rfl, hb1⟩
  · have q0 : 0 ≤ x := by omega
    have q1 : 1 ≤ m := by omega
    have q2 : x ≤ 1048576 := by omega
    have q3 : m ≤ 1048576 - x := by omega
    clear q
    obtain ⟨u, e1, H1⟩ : ∃ u e, twice n A P R x = (u, e) := ⟨_, _, rfl⟩
    by_cases z : e1 = 0
    · subst z
      obtain ⟨hk, _, _, hu⟩ := twice_ok H1
      obtain ⟨v, hv⟩ : ∃ v, v = tw n A P R (x + m) := ⟨_, rfl⟩
      have H2 := Lib.hid (show twice n A P R (x + m) = (v, 0) by rw [hv]; exact twice_of hk (by omega) (by omega))
      have r1 := tw_rises (R := R) hk q0 (show x ≤ x + m by omega)
      have r2 := tw_lo (R := R) hk q0
      have r3 := (tw_bd (R := R) hk q0).2
      have r4 := (tw_bd (R := R) hk (x := x + m) (by omega)).2
      rw [← hu] at r1 r2 r3
      rw [← hv] at r1 r4
      have H1 := Lib.hid H1
      clear hu hv hk
      go_enter Try.func3, Try.ntmps3
      go_wp2_with (first
        | (go_at_call 7; with_reducible refine (alive_any _).mono ?_; rintro e w1 ⟨rfl, hb1⟩; have h1 := h.below hb1)
        | (go_at_call 8; with_reducible refine (twice_is cap x _ h1 H1.out).mono ?_; rintro e w2 ⟨rfl, hb2⟩; have h2 := h1.below hb2)
        | (go_at_call 8; with_reducible refine (twice_is cap (x + m) _ h2 H2.out).mono ?_; rintro e w3 ⟨rfl, hb3⟩))
      go_ret
      exact ⟨ret_bool (by simp; omega), below_then hb3 (below_then hb2 hb1)⟩
    · have z' : (e1 != 0) = true := by simpa using z
      have H1 := Lib.hid H1
      clear z
      go_enter Try.func3, Try.ntmps3
      go_wp2_with (first
        | (go_at_call 7; with_reducible refine (alive_any _).mono ?_; rintro e w1 ⟨rfl, hb1⟩; have h1 := h.below hb1)
        | (go_at_call 8; with_reducible refine (twice_is cap x _ h1 H1.out).mono ?_; rintro e w2 ⟨rfl, hb2⟩))
      go_ret
      exact ⟨rfl, below_then hb2 hb1⟩

end Go.Proofs.Ytinpnjiinadaeaa.Cl
