/-
  THE WALK of the law FracMakes.
-/
import Derived.Test.YtkcbbnphhiiaiaaOrderW
import Derived.Test.YtkcbbnphhiiaiaaRefReckW
import Derived.Deep.RegionHeld3
namespace Go.Proofs.Ytkcbbnphhiiaiaa.Fr
open Go.RowKit Gcd

set_option maxHeartbeats 1000000 in
theorem law_makes (up down u d : Int) (w : World) (h1 : I64 up) (h2 : I64 down) (h3 : I64 u) (h4 : I64 d) :
    Calls Try.prog 3 #[.int .i64 up, .int .i64 down, .agg #[.int .i64 u, .int .i64 d]] w fun e w' =>
      e = .returned (.bool true) ∧ Below w.heap.size w w' := by
  go_enter Try.func3, Try.ntmps3
  go_wp2_with (first
    | (go_at_call 7; refine (make_any up down _ h1 h2).mono ?_; rintro e w1 ⟨rfl, hb1⟩; rw [makeV_eq, R3]; obtain ⟨hcc, hff⟩ := bcell hb1; have hz := hb1.size; simp at hz; have z1 := one_ hz)
    | (go_at_call 8; refine (ref_make_all up down _ h1 h2).mono ?_; rintro e w2 ⟨rfl, hb2⟩; rw [makeV_eq, R3]; obtain ⟨hcc2, hff2⟩ := bcell hb2; have hz2 := hb2.size; simp at hz2; have z2 : w.heap.size < w2.heap.size := (by omega); have z22 := one_ hz2))
  obtain ⟨W, hW⟩ : ∃ W, W = w2.alloc (Obj.cells #[Value.int .i64 (make up down).1, Value.int .i64 (make up down).2.1] 23) := ⟨_, rfl⟩
  have c1 : W.cell? ⟨w.heap.size, 0, none⟩ = some (.int .i64 u) := by subst hW; simp [go_sem, hcc2, hcc, z1, z2]
  have c2 : W.cell? ⟨w.heap.size, 1, none⟩ = some (.int .i64 d) := by subst hW; simp [go_sem, hcc2, hcc, z1, z2]
  have c3 : W.cell? ⟨w1.heap.size, 0, none⟩ = some (.int .i64 (make up down).1) := by subst hW; simp [go_sem, hcc2, z22]
  have c4 : W.cell? ⟨w1.heap.size, 1, none⟩ = some (.int .i64 (make up down).2.1) := by subst hW; simp [go_sem, hcc2, z22]
  have c5 : W.cell? ⟨w2.heap.size, 0, none⟩ = some (.int .i64 (make up down).1) := by subst hW; simp
  have c6 : W.cell? ⟨w2.heap.size, 1, none⟩ = some (.int .i64 (make up down).2.1) := by subst hW; simp
  have hBW : Below w.heap.size w W := by subst hW; exact (by repeat (first | exact Below.refl _ _ | assumption | refine below_drewN ?_ _ | refine Below.drew ?_ | refine below_new ?_ _ | refine Below.setCell ?_ (by first | omega | (simp <;> omega)) _ | refine below_then (by assumption) ?_))
  have HB := Lib.hid hBW
  rw [← hW]
  clear hBW hW hcc hff hcc2 hff2 hb1 hb2 hz hz2 z1 z2 z22
  go_region_held3 (fun w' => Below W.heap.size W w' ∧ w'.cell? ⟨w.heap.size, 0, none⟩ = some (.int .i64 u) ∧ w'.cell? ⟨w.heap.size, 1, none⟩ = some (.int .i64 d)
      ∧ w'.cell? ⟨w1.heap.size, 0, none⟩ = some (.int .i64 (make up down).1) ∧ w'.cell? ⟨w1.heap.size, 1, none⟩ = some (.int .i64 (make up down).2.1)
      ∧ w'.cell? ⟨w2.heap.size, 0, none⟩ = some (.int .i64 (make up down).1) ∧ w'.cell? ⟨w2.heap.size, 1, none⟩ = some (.int .i64 (make up down).2.1))
    (first
      | exact ⟨(Below.refl _ _).drew, c1, c2, c3, c4, c5, c6⟩
      | (go_split_ands; refine ⟨below_then hbn (by assumption), ?_⟩; (repeat' apply And.intro) <;> exact cell_then (by assumption) hbn)
      | go_keep)
    (first
      | (go_at_call 9; refine (right_any u d _ h3 h4).mono ?_; rintro e wn ⟨rfl, hbn⟩)
      | (go_at_call 10; refine (ref_right_any u d _ h3 h4).mono ?_; rintro e wn ⟨rfl, hbn⟩))
  all_goals
    go_split_ands
    clear c1 c2 c3 c4 c5 c6
    have zn : w.heap.size < wn.heap.size := World.block_lt_of_cell? wn ⟨w.heap.size, 0, none⟩ (by assumption)
    have HW := Lib.hid (HB.out.trans (Below.mono (B' := w.heap.size) (by assumption : Below W.heap.size W wn) HB.out.size))
    go_wp2_with (first
      | (go_at_call 11; refine (floor_any u d _ h3 h4).mono ?_; rintro e wf ⟨rfl, hbf⟩; rw [R2]; obtain ⟨hcf, hff⟩ := bcell hbf)
      | (go_at_call 12; refine (ref_floor_any u d _ h3 h4).mono ?_; rintro e wg ⟨rfl, hbg⟩; rw [R2]))
    go_ret
    have hW := HW.out
    exact ⟨ret_bool (by simp), (by repeat (first | exact Below.refl _ _ | assumption | refine below_drewN ?_ _ | refine Below.drew ?_ | refine below_new ?_ _ | refine Below.setCell ?_ (by first | omega | (simp <;> omega)) _ | refine below_then (by assumption) ?_))⟩

end Go.Proofs.Ytkcbbnphhiiaiaa.Fr
