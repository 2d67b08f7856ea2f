/-
  THE WALKS of fractions: Order, Floor, Sign: of the package and of the reference.
-/
import Derived.Test.YtccpefbfjahfnaaReckW
namespace Go.Proofs.Ytccpefbfjahfnaa.Fr
open Go.RowKit Gcd

/-- What Order, Floor answer, as a value. -/
def R2 (r : Int × Int) : Value := .tuple #[.int .i64 r.1, .int .i64 r.2]
theorem ret_R2 {r : Int × Int} {a b : Int} (h : r = (a, b)) : Ending.returned (.tuple #[.int .i64 a, .int .i64 b]) = .returned (R2 r) := by rw [h]; rfl

set_option maxHeartbeats 1000000 in
theorem sign_any (a b c d : Int) (w : World) (h1 : rightB a b = true) (h2 : rightB c d = true) :
    Calls Try.prog 13 #[.agg #[.int .i64 a, .int .i64 b], .agg #[.int .i64 c, .int .i64 d]] w fun e w' =>
      e = .returned (.int .i64 (signI (a * d - c * b))) ∧ Below w.heap.size w w' := by
  have k1 := right_bd h1
  have k2 := right_bd h2
  have p1 := prod_bd k1.1 (y := d) (by omega)
  have p2 := prod_bd k2.1 (y := b) (by omega)
  clear h1 h2
  go_enter Try.func13, Try.ntmps13
  go_wp2
  all_goals
    go_ret
    refine ⟨ret_int ?_, (by repeat (first | exact Below.refl _ _ | assumption | refine below_drewN ?_ _ | refine Below.drew ?_ | refine below_new ?_ _ | refine Below.setCell ?_ (by first | omega | (simp <;> omega)) _ | refine below_then (by assumption) ?_))⟩
    first
      | rw [signI_lt (by omega)]
      | rw [signI_gt (by omega)]
      | rw [signI_eq (by omega)]

theorem tdiv_bd (a b : Int) (ha : -1073741824 ≤ a ∧ a ≤ 1073741824) (_hb : 1 ≤ b) : -1073741824 ≤ a.tdiv b ∧ a.tdiv b ≤ 1073741824 := by
  have h : (a.tdiv b).natAbs ≤ a.natAbs := by rw [Int.natAbs_tdiv]; exact Nat.div_le_self _ _
  omega
theorem one_ {n m : Nat} (h : n + 1 ≤ m) : n < m := h

theorem floor_low (a b : Int) (hb : 1 ≤ b) : a / b * b ≤ a ∧ a < (a / b + 1) * b := ⟨Int.ediv_mul_le a (by omega), Int.lt_ediv_add_one_mul_self a (by omega)⟩
theorem floor_start (a b : Int) (hb : 1 ≤ b) : Value.int .i64 (a.tdiv b) = .int .i64 (a / b) ∨ Value.int .i64 (a.tdiv b) = .int .i64 (a / b + 1) := by
  rcases Int.lt_or_le (a.tmod b) 0 with h | h
  · right; rw [← tmod_neg hb h]; congr 1; omega
  · left; rw [tmod_nonneg hb h]

end Go.Proofs.Ytccpefbfjahfnaa.Fr
