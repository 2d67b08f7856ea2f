/-
  THE WALKS of the laws' own helpers: alive, two.
-/
import Derived.Test.YtkcbbnphhiiaiaaOrderW
namespace Go.Proofs.Ytkcbbnphhiiaiaa.Fr
open Go.RowKit Gcd

/-- A sum or a product. -/
def op2 (p : Bool) (a b c d : Int) : Int × Int × Int := if p then plus a b c d else times a b c d
/-- What two answers. -/
def R2b (r : Int × Int × Int) : Value := .tuple #[.agg #[.int .i64 r.1, .int .i64 r.2.1], .bool (r.2.2 == 0)]

set_option maxHeartbeats 1000000 in
theorem two_true (a b c d : Int) (w : World) (ha : I64 a) (hb : I64 b) (hc : I64 c) (hd : I64 d) :
    Calls Try.prog 14 #[.bool true, .agg #[.int .i64 a, .int .i64 b], .agg #[.int .i64 c, .int .i64 d]] w fun e w' =>
      e = .returned (R2b (plus a b c d)) ∧ Below w.heap.size w w' := by
  go_enter Try.func14, Try.ntmps14
  go_wp2_with (go_at_call 18; refine (plus_any a b c d _ ha hb hc hd).mono ?_; rintro e w1 ⟨rfl, hb1⟩; rw [R3]; obtain ⟨hcc, hff⟩ := bcell hb1; have hz := hb1.size; simp at hz; obtain ⟨z1, z2, z3⟩ := three hz)
  exact bodyPost_ret (v := R2b (plus a b c d)) (by simp [results, Try.results14, go_sem, R2b, hcc, z3]) rfl ⟨rfl, (by repeat (first | exact Below.refl _ _ | assumption | refine below_drewN ?_ _ | refine Below.drew ?_ | refine below_new ?_ _ | refine Below.setCell ?_ (by first | omega | (simp <;> omega)) _ | refine below_then (by assumption) ?_))⟩

set_option maxHeartbeats 1000000 in
theorem two_false (a b c d : Int) (w : World) (ha : I64 a) (hb : I64 b) (hc : I64 c) (hd : I64 d) :
    Calls Try.prog 14 #[.bool false, .agg #[.int .i64 a, .int .i64 b], .agg #[.int .i64 c, .int .i64 d]] w fun e w' =>
      e = .returned (R2b (times a b c d)) ∧ Below w.heap.size w w' := by
  go_enter Try.func14, Try.ntmps14
  go_wp2_with (go_at_call 21; refine (times_any a b c d _ ha hb hc hd).mono ?_; rintro e w1 ⟨rfl, hb1⟩; rw [R3]; obtain ⟨hcc, hff⟩ := bcell hb1; have hz := hb1.size; simp at hz; obtain ⟨z1, z2, z3⟩ := three hz)
  exact bodyPost_ret (v := R2b (times a b c d)) (by simp [results, Try.results14, go_sem, R2b, hcc, z3]) rfl ⟨rfl, (by repeat (first | exact Below.refl _ _ | assumption | refine below_drewN ?_ _ | refine Below.drew ?_ | refine below_new ?_ _ | refine Below.setCell ?_ (by first | omega | (simp <;> omega)) _ | refine below_then (by assumption) ?_))⟩

set_option maxHeartbeats 1000000 in
theorem alive_any (w : World) :
    Calls Try.prog 13 #[] w fun e w' => e = .returned (.bool true) ∧ Below w.heap.size w w' := by
  have hm : make 2 4 = (1, 2, 0) := by decide
  go_enter Try.func13, Try.ntmps13
  go_wp2_with (go_at_call 7; refine (make_any 2 4 _ (I64_of (by omega)) (I64_of (by omega))).mono ?_; rintro e w1 ⟨rfl, hb1⟩; rw [makeV_eq, hm, R3]; obtain ⟨hcc, hff⟩ := bcell hb1; have hz := hb1.size)
  go_ret
  exact ⟨ret_bool (by simp), (by repeat (first | exact Below.refl _ _ | assumption | refine below_drewN ?_ _ | refine Below.drew ?_ | refine below_new ?_ _ | refine Below.setCell ?_ (by first | omega | (simp <;> omega)) _ | refine below_then (by assumption) ?_))⟩

end Go.Proofs.Ytkcbbnphhiiaiaa.Fr
