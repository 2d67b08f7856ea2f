/-
  THE WALKS of clock.Wrong, Twice of whatever marks; of the law's alive.
-/
import Derived.Test.YtinpnjiinadaeaaClockW
namespace Go.Proofs.Ytinpnjiinadaeaa.Cl
open Go.RowKit

/-- A slice of marks. -/
structure Arg (w : World) (p : Option Addr) (n : Nat) (A P : Nat → Int) (R : Nat → Bool) : Prop where
  len : n ≤ 9223372036854775807
  marks : 0 < n → ∃ b o, p = some ⟨b, o, none⟩ ∧ Marks w b o n A P R
theorem Arg.below {w w' : World} {p : Option Addr} {n : Nat} {A P : Nat → Int} {R : Nat → Bool} (h : Arg w p n A P R) (hb : Below w.heap.size w w') : Arg w' p n A P R :=
  ⟨h.len, fun hn => by obtain ⟨b, o, hp, hm⟩ := h.marks hn; exact ⟨b, o, hp, hm.below hb⟩⟩
theorem wrong_any {p : Option Addr} {n : Nat} {A P : Nat → Int} {R : Nat → Bool} (cap : Nat) (w : World) (h : Arg w p n A P R) :
    Calls Try.prog 9 #[.slice p n cap] w fun e w' => e = .returned (.int .i64 (wrong n A P)) ∧ Below w.heap.size w w' := by
  by_cases hn : n = 0 ∨ 256 < n
  · exact wrong_many p n cap A P w h.len hn
  · obtain ⟨b, o, rfl, hm⟩ := h.marks (by omega)
    exact wrong_in cap w (by omega) (by omega) hm
theorem wrong_is {p : Option Addr} {n : Nat} {A P : Nat → Int} {R : Nat → Bool} (cap : Nat) (w : World) (h : Arg w p n A P R) {v : Int} (k : wrong n A P = v) :
    Calls Try.prog 9 #[.slice p n cap] w fun e w' => e = .returned (.int .i64 v) ∧ Below w.heap.size w w' := k ▸ wrong_any cap w h

def R2 (r : Int × Int) : Value := .tuple #[.int .i64 r.1, .int .i64 r.2]
theorem ret_R2 {r : Int × Int} {a b : Int} (h : r = (a, b)) : Ending.returned (.tuple #[.int .i64 a, .int .i64 b]) = .returned (R2 r) := by rw [h]; rfl
def twice (n : Nat) (A P : Nat → Int) (R : Nat → Bool) (x : Int) : Int × Int :=
  if wrong n A P = 0 then (if x < 0 ∨ 1048576 < x then (0, 3) else (tw n A P R x, 0)) else (0, wrong n A P)

set_option maxHeartbeats 1000000 in
theorem twice_call {p : Option Addr} {n : Nat} {A P : Nat → Int} {R : Nat → Bool} (cap : Nat) (x : Int) (w : World) (h : Arg w p n A P R) :
    Calls Try.prog 8 #[.slice p n cap, .int .i64 x] w fun e w' => e = .returned (R2 (twice n A P R x)) ∧ Below w.heap.size w w' := by
  by_cases hw : wrong n A P = 0
  · have hk := ok_of hw
    obtain ⟨b, o, rfl, hm⟩ := h.marks (by have := hk.pos; omega)
    have HW := Lib.hid hw
    by_cases h1 : x < 0
    · have HR := Lib.hid (show twice n A P R x = (0, 3) by unfold twice; rw [if_pos hw, if_pos (.inl h1)])
      clear hw
      go_enter Try.func8, Try.ntmps8
      go_wp2_with (go_at_call 9; with_reducible refine (wrong_is cap _ h HW.out).mono ?_; rintro e w1 ⟨rfl, hb1⟩)
      go_ret2
      exact ⟨ret_R2 HR.out, hb1⟩
    · by_cases h2 : 1048576 < x
      · have HR := Lib.hid (show twice n A P R x = (0, 3) by unfold twice; rw [if_pos hw, if_pos (.inr h2)])
        clear hw
        go_enter Try.func8, Try.ntmps8
        go_wp2_with (go_at_call 9; with_reducible refine (wrong_is cap _ h HW.out).mono ?_; rintro e w1 ⟨rfl, hb1⟩)
        go_ret2
        exact ⟨ret_R2 HR.out, hb1⟩
      · have HR := Lib.hid (show twice n A P R x = (tw n A P R x, 0) by unfold twice; rw [if_pos hw, if_neg (by omega)])
        have hx : 0 ≤ x ∧ x ≤ 1048576 := by omega
        clear hw
        go_enter Try.func8, Try.ntmps8
        go_wp2_with (first
          | (go_at_call 9; with_reducible refine (wrong_is cap _ h HW.out).mono ?_; rintro e w1 ⟨rfl, hb1⟩; have hm1 := hm.below hb1)
          | (go_at_call 16; with_reducible refine (twice_any cap hk x _ hx hm1).mono ?_; rintro e w2 ⟨rfl, hb2⟩))
        go_ret2
        exact ⟨ret_R2 HR.out, below_then hb2 hb1⟩
  · have HW := Lib.hid (rfl : wrong n A P = wrong n A P)
    have hne : (wrong n A P != 0) = true := by simpa using hw
    have HR := Lib.hid (show twice n A P R x = (0, wrong n A P) by unfold twice; rw [if_neg hw])
    clear hw
    go_enter Try.func8, Try.ntmps8
    go_wp2_with (go_at_call 9; with_reducible refine (wrong_is cap _ h HW.out).mono ?_; rintro e w1 ⟨rfl, hb1⟩)
    go_ret2
    exact ⟨ret_R2 HR.out, hb1⟩
theorem twice_is {p : Option Addr} {n : Nat} {A P : Nat → Int} {R : Nat → Bool} (cap : Nat) (x : Int) (w : World) (h : Arg w p n A P R) {u v : Int} (k : twice n A P R x = (u, v)) :
    Calls Try.prog 8 #[.slice p n cap, .int .i64 x] w fun e w' => e = .returned (.tuple #[.int .i64 u, .int .i64 v]) ∧ Below w.heap.size w w' := by
  refine (twice_call cap x w h).mono fun e w' h => ?_
  rw [k] at h; exact h
theorem twice_ok {n : Nat} {A P : Nat → Int} {R : Nat → Bool} {x u : Int} (k : twice n A P R x = (u, 0)) : Ok n A P ∧ 0 ≤ x ∧ x ≤ 1048576 ∧ u = tw n A P R x := by
  unfold twice at k
  split at k
  · rename_i hw
    split at k
    · simp at k
    · simp only [Prod.mk.injEq, and_true] at k
      exact ⟨ok_of hw, by omega, by omega, k.symm⟩
  · rename_i hw
    simp only [Prod.mk.injEq] at k
    exact absurd k.2 hw
theorem twice_of {n : Nat} {A P : Nat → Int} {R : Nat → Bool} {x : Int} (h : Ok n A P) (h0 : 0 ≤ x) (h1 : x ≤ 1048576) : twice n A P R x = (tw n A P R x, 0) := by
  unfold twice; rw [if_pos (wrong_of h), if_neg (by omega)]

theorem ok_one : Ok 1 (fun _ => 0) (fun _ => 3) := ⟨by omega, by omega, fun _ _ => by omega, fun _ _ => by omega, rfl, fun i hi => by omega⟩
theorem one_twice : twice 1 (fun _ => 0) (fun _ => 3) (fun _ => false) 2 = (12, 0) := by
  rw [twice_of ok_one (by omega) (by omega)]; rfl
theorem one_arg (w : World) (t : TypeId) : Arg (w.alloc (.cells #[.int .i64 0, .int .i64 3, .bool false] t)) (some ⟨w.heap.size, 0, none⟩) 1 (fun _ => 0) (fun _ => 3) (fun _ => false) :=
  ⟨by omega, fun _ => ⟨w.heap.size, 0, rfl, fun i hi => by
    obtain rfl : i = 0 := by omega
    refine ⟨?_, ?_, ?_⟩ <;> simp [go_sem]⟩⟩
set_option maxHeartbeats 1000000 in
theorem alive_any (w : World) : Calls Try.prog 7 #[] w fun e w' => e = .returned (.bool true) ∧ Below w.heap.size w w' := by
  have H := Lib.hid one_twice
  go_enter Try.func7, Try.ntmps7
  go_wp2_with (go_at_call 8; with_reducible refine (twice_is 1 2 _ (one_arg w _) H.out).mono ?_; rintro e w1 ⟨rfl, hb1⟩)
  go_ret
  exact ⟨rfl, (by repeat (first | exact Below.refl _ _ | assumption | refine below_drewN ?_ _ | refine Below.drew ?_ | refine below_new ?_ _ | refine Below.setCell ?_ (by first | omega | (simp <;> omega)) _ | refine below_then (by assumption) ?_))⟩

end Go.Proofs.Ytinpnjiinadaeaa.Cl
