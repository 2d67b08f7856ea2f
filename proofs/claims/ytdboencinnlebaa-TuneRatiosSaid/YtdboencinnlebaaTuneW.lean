/-
  THE WALK of tune.Ratio.
-/
import Derived.Test.YtdboencinnlebaaTune
import Derived.Test.YtdboencinnlebaaReckW
import Derived.Test.YtdboencinnlebaaPitchV
import Derived.LoopTactic
namespace Go.Proofs.Ytdboencinnlebaa.Tu
open Go.RowKit
open _root_.Go.Proofs.Ytdboencinnlebaa.Pi (I64)

theorem sum_zero (s h : Int) : Pi.sum s h 0 0 = if Pi.withinB s h then (s, h, 0) else (0, 0, 3) := by
  unfold Pi.sum
  by_cases h1 : Pi.withinB s h = true
  · rw [Int.add_zero, Int.add_zero, h1, show Pi.withinB 0 0 = true by decide]; rfl
  · simp [h1]
theorem sum_zero_is (s h : Int) (w : World) (i1 : I64 s) (i2 : I64 h) {r : Int × Int × Int} (k : (if Pi.withinB s h then (s, h, 0) else (0, 0, 3)) = r) :
    Calls Try.prog 8 #[.agg #[.int .i64 s, .int .i64 h], .agg #[.int .i64 0, .int .i64 0]] w fun e w' =>
      e = .returned (Pi.R3 r) ∧ Below w.heap.size w w' := by
  rw [← k, ← sum_zero]
  exact Pi.sum_any s h 0 0 w i1 i2 (by unfold I64; omega) (by unfold I64; omega)

theorem make_is (u d : Int) (w : World) (hu : 1 ≤ u ∧ u ≤ 3221225472) (hd : 1 ≤ d ∧ d ≤ 3221225472) {p q e : Int} (k : Fr.make u d = (p, q, e)) :
    Calls Try.prog 18 #[.int .i64 u, .int .i64 d] w fun e' w' =>
      e' = .returned (.tuple #[.agg #[.int .i64 p, .int .i64 q], .int .i64 e]) ∧ Below w.heap.size w w' := by
  refine (Fr.make_any u d w (by unfold Fr.I64; omega) (by unfold Fr.I64; omega)).mono fun e' w' h => ?_
  unfold Fr.makeV at h
  rw [k] at h
  exact h

set_option maxHeartbeats 1000000 in
theorem ratio_no (s h : Int) (w : World) (i1 : I64 s) (i2 : I64 h) (k : Pi.withinB s h = false) :
    Calls Try.prog 7 #[.agg #[.int .i64 s, .int .i64 h]] w fun e w' => e = .returned (Pi.R3 (ratio s h)) ∧ Below w.heap.size w w' := by
  have HR := Lib.hid (show ratio s h = (0, 0, 3) by unfold ratio; rw [if_neg (by rw [k]; decide)])
  have HS := Lib.hid (show (if Pi.withinB s h then (s, h, 0) else (0, 0, 3)) = ((0, 0, 3) : Int × Int × Int) by rw [if_neg (by rw [k]; decide)])
  clear k
  go_enter Try.func7, Try.ntmps7
  go_wp2_with (first
    | (go_at_call 8; with_reducible refine (sum_zero_is s h _ i1 i2 HS.out).mono ?_; rintro e w1 ⟨rfl, hb1⟩; rw [Pi.R3]; have hz1 := hb1.size; (try simp at hz1); have zx1 : w.heap.size < w1.heap.size := (by first | omega | (simp; omega)); have cx0_1 : w1.cell? ⟨w.heap.size, 0, none⟩ = some (.int .i64 (s)) := (hb1.cell (by first | assumption | (simp <;> omega))).trans (by go_simp); have cx1_1 : w1.cell? ⟨w.heap.size, 1, none⟩ = some (.int .i64 (h)) := (hb1.cell (by first | assumption | (simp <;> omega))).trans (by go_simp); have zr1 : w.heap.size + 1 < w1.heap.size := (by first | omega | (simp; omega)); have cr0_1 : w1.cell? ⟨w.heap.size + 1, 0, none⟩ = some (.int .i64 (0)) := (hb1.cell (by first | assumption | (simp <;> omega))).trans (by go_simp); have fr0_1 : w1.frozen? ⟨w.heap.size + 1, 0, none⟩ = false := (hb1.frozen (by first | assumption | (simp <;> omega))).trans (by go_simp); have cr1_1 : w1.cell? ⟨w.heap.size + 1, 1, none⟩ = some (.int .i64 (0)) := (hb1.cell (by first | assumption | (simp <;> omega))).trans (by go_simp); have fr1_1 : w1.frozen? ⟨w.heap.size + 1, 1, none⟩ = false := (hb1.frozen (by first | assumption | (simp <;> omega))).trans (by go_simp)))
  exact bodyPost_ret (v := Pi.R3 (0, 0, 3)) (by simp [results, Try.results7, go_sem, Pi.R3, cr0_1, cr1_1, zr1]) rfl ⟨by rw [HR.out], (by repeat (first | exact Below.refl _ _ | assumption | refine below_drewN ?_ _ | refine Below.drew ?_ | refine below_new ?_ _ | refine Below.setCell ?_ (by first | omega | (simp <;> omega)) _ | refine below_then (by assumption) ?_))⟩


/-- A loop over what is above 0. -/
def Run (b u0 F f1 u : Int) : Prop := Part b u0 F.toNat u f1.toNat ∧ (-f1).toNat = (-F).toNat ∧ (F ≤ 100000 → f1 ≤ 100000) ∧ (-100000 ≤ F → -100000 ≤ f1)
theorem Run.start {b u0 F : Int} (h : 1 ≤ u0 ∧ u0 ≤ 3221225472) : Run b u0 F F u0 := ⟨Part.start h, rfl, id, id⟩
theorem Run.step {b u0 F f u : Int} (hb : b = 2 ∨ b = 3) (h : Run b u0 F f u) (hf : 0 < f) (hu : u ≤ 1073741824) : Run b u0 F (f - 1) (u * b) := by
  obtain ⟨h1, h2, h3, h4⟩ := h
  rw [show f.toNat = (f - 1).toNat + 1 by omega] at h1
  exact ⟨h1.step hb hu, by omega, by omega, by omega⟩
/-- .. below 0. -/
def Ruf (b u0 F f1 u : Int) : Prop := Part b u0 (-F).toNat u (-f1).toNat ∧ (F ≤ 100000 → f1 ≤ 100000) ∧ (-100000 ≤ F → -100000 ≤ f1)
theorem Ruf.start {b u0 F f : Int} (h : 1 ≤ u0 ∧ u0 ≤ 3221225472) (hf : (-f).toNat = (-F).toNat) (h1 : F ≤ 100000 → f ≤ 100000) (h2 : -100000 ≤ F → -100000 ≤ f) : Ruf b u0 F f u0 := ⟨by rw [hf]; exact Part.start h, h1, h2⟩
theorem Ruf.step {b u0 F f u : Int} (hb : b = 2 ∨ b = 3) (h : Ruf b u0 F f u) (hf : f < 0) (hu : u ≤ 1073741824) : Ruf b u0 F (f + 1) (u * b) := by
  obtain ⟨h1, h3, h4⟩ := h
  rw [show (-f).toNat = (-(f + 1)).toNat + 1 by omega] at h1
  exact ⟨h1.step hb hu, by omega, by omega⟩
theorem ratio_end {F T f1 f2 t1 t2 u1 d1 u d : Int} (h1 : Run 3 1 F f1 u1) (h2 : Ruf 3 1 F f2 d1) (h3 : Run 2 u1 T t1 u) (h4 : Ruf 2 d1 T t2 d)
    (e1 : ¬ (0 < f1 ∧ u1 ≤ 1073741824)) (e2 : ¬ (f2 < 0 ∧ d1 ≤ 1073741824)) (e3 : ¬ (0 < t1 ∧ u ≤ 1073741824)) (e4 : ¬ (t2 < 0 ∧ d ≤ 1073741824)) :
    Fr.make u d = Fr.make (num F T) (num (-F) (-T)) :=
  make_same (part_end h1.1 h3.1 e1 e3) (part_end h2.1 h4.1 (by omega) (by omega)) (part_form h1.1 h3.1) (part_form h2.1 h4.1)

set_option maxHeartbeats 4000000 in
theorem ratio_yes (s h : Int) (w : World) (i1 : I64 s) (i2 : I64 h) (k : Pi.withinB s h = true) :
    Calls Try.prog 7 #[.agg #[.int .i64 s, .int .i64 h]] w fun e w' => e = .returned (Pi.R3 (ratio s h)) ∧ Below w.heap.size w w' := by
  have HR := Lib.hid (show ratio s h = Fr.make (num (7 * h - 12 * s) (19 * s - 11 * h)) (num (-(7 * h - 12 * s)) (-(19 * s - 11 * h))) by unfold ratio; rw [if_pos k])
  have HS := Lib.hid (show (if Pi.withinB s h then (s, h, 0) else (0, 0, 3)) = ((s, h, 0) : Int × Int × Int) by rw [if_pos k])
  have b1 := Pi.withinB_iff.1 k
  clear k
  go_enter Try.func7, Try.ntmps7
  go_wp2_with (first
    | (go_at_call 8; with_reducible refine (sum_zero_is s h _ i1 i2 HS.out).mono ?_; rintro e w1 ⟨rfl, hb1⟩; rw [Pi.R3]; have hz1 := hb1.size; (try simp at hz1); have zx1 : w.heap.size < w1.heap.size := (by first | omega | (simp; omega)); have cx0_1 : w1.cell? ⟨w.heap.size, 0, none⟩ = some (.int .i64 (s)) := (hb1.cell (by first | assumption | (simp <;> omega))).trans (by go_simp); have cx1_1 : w1.cell? ⟨w.heap.size, 1, none⟩ = some (.int .i64 (h)) := (hb1.cell (by first | assumption | (simp <;> omega))).trans (by go_simp); have zr1 : w.heap.size + 1 < w1.heap.size := (by first | omega | (simp; omega)); have cr0_1 : w1.cell? ⟨w.heap.size + 1, 0, none⟩ = some (.int .i64 (0)) := (hb1.cell (by first | assumption | (simp <;> omega))).trans (by go_simp); have fr0_1 : w1.frozen? ⟨w.heap.size + 1, 0, none⟩ = false := (hb1.frozen (by first | assumption | (simp <;> omega))).trans (by go_simp); have cr1_1 : w1.cell? ⟨w.heap.size + 1, 1, none⟩ = some (.int .i64 (0)) := (hb1.cell (by first | assumption | (simp <;> omega))).trans (by go_simp); have fr1_1 : w1.frozen? ⟨w.heap.size + 1, 1, none⟩ = false := (hb1.frozen (by first | assumption | (simp <;> omega))).trans (by go_simp)))
  obtain ⟨F, hF⟩ : ∃ F, F = 7 * h - 12 * s := ⟨_, rfl⟩
  obtain ⟨T, hT⟩ : ∃ T, T = 7 * s - 4 * h - (7 * h - 12 * s) := ⟨_, rfl⟩
  rw [← hT, ← hF]
  have bF : -100000 ≤ F ∧ F ≤ 100000 := by omega
  have bT : -100000 ≤ T ∧ T ≤ 100000 := by omega
  have HT := Lib.hid (show T = 19 * s - 11 * h by omega)
  have HF := Lib.hid hF
  clear hF hT
  go_loop [6, 8] (fun vf vu => ∃ f u : Int, vf = .int .i64 f ∧ vu = .int .i64 u ∧ Run 3 1 F f u ∧ 1 ≤ u ∧ u ≤ 3221225472 ∧ -100000 ≤ f ∧ f ≤ 100000) (fun vf _ => (intOf vf).toNat)
  case atStart => exact ⟨F, 1, rfl, rfl, Run.start (by omega), by omega, by omega, bF.1, bF.2⟩
  case round =>
    obtain ⟨f1, u1, rfl, rfl, h1, bu1, bu1', bf1, bf1'⟩ := hrel
    by_cases c1 : 0 < f1 ∧ u1 ≤ 1073741824
    · obtain ⟨c1a, c1b⟩ := c1
      go_wp2
      go_round
      case rel => exact ⟨f1 - 1, u1 * 3, rfl, rfl, h1.step (.inr rfl) c1a c1b, by omega, by omega, by omega, by omega⟩
      case measure => simp [intOf]; omega
    · have HC1 := Lib.hid c1
      by_cases c1a : 0 < f1
      all_goals
        (try have c1b : ¬ u1 ≤ 1073741824 := fun h => c1 ⟨c1a, h⟩)
        clear c1
        go_wp2
        go_loop [6, 9] (fun vf vu => ∃ f u : Int, vf = .int .i64 f ∧ vu = .int .i64 u ∧ Ruf 3 1 F f u ∧ 1 ≤ u ∧ u ≤ 3221225472 ∧ -100000 ≤ f ∧ f ≤ 100000) (fun vf _ => (-intOf vf).toNat)
        case atStart => exact ⟨f1, 1, rfl, rfl, Ruf.start (by omega) h1.2.1 h1.2.2.1 h1.2.2.2, by omega, by omega, bf1, bf1'⟩
        case round =>
          obtain ⟨f2, d1, rfl, rfl, h2, bd1, bd1', bf2, bf2'⟩ := hrel
          clear c1a
          (try clear c1b)
          by_cases c2 : f2 < 0 ∧ d1 ≤ 1073741824
          · obtain ⟨c2a, c2b⟩ := c2
            go_wp2
            go_round
            case rel => exact ⟨f2 + 1, d1 * 3, rfl, rfl, h2.step (.inr rfl) c2a c2b, by omega, by omega, by omega, by omega⟩
            case measure => simp [intOf]; omega
          · have HC2 := Lib.hid c2
            by_cases c2a : f2 < 0
            all_goals
              (try have c2b : ¬ d1 ≤ 1073741824 := fun h => c2 ⟨c2a, h⟩)
              clear c2
              go_wp2
              go_loop [7, 8] (fun vf vu => ∃ f u : Int, vf = .int .i64 f ∧ vu = .int .i64 u ∧ Run 2 u1 T f u ∧ 1 ≤ u ∧ u ≤ 3221225472 ∧ -100000 ≤ f ∧ f ≤ 100000) (fun vf _ => (intOf vf).toNat)
              case atStart => exact ⟨T, u1, rfl, rfl, Run.start ⟨bu1, bu1'⟩, bu1, bu1', bT.1, bT.2⟩
              case round =>
                obtain ⟨t1, u, rfl, rfl, h3, bu, bu', bt1, bt1'⟩ := hrel
                clear c2a
                (try clear c2b)
                by_cases c3 : 0 < t1 ∧ u ≤ 1073741824
                · obtain ⟨c3a, c3b⟩ := c3
                  go_wp2
                  go_round
                  case rel => exact ⟨t1 - 1, u * 2, rfl, rfl, h3.step (.inl rfl) c3a c3b, by omega, by omega, by omega, by omega⟩
                  case measure => simp [intOf]; omega
                · have HC3 := Lib.hid c3
                  by_cases c3a : 0 < t1
                  all_goals
                    (try have c3b : ¬ u ≤ 1073741824 := fun h => c3 ⟨c3a, h⟩)
                    clear c3
                    go_wp2
                    go_loop [7, 9] (fun vf vu => ∃ f u : Int, vf = .int .i64 f ∧ vu = .int .i64 u ∧ Ruf 2 d1 T f u ∧ 1 ≤ u ∧ u ≤ 3221225472 ∧ -100000 ≤ f ∧ f ≤ 100000) (fun vf _ => (-intOf vf).toNat)
                    case atStart => exact ⟨t1, d1, rfl, rfl, Ruf.start ⟨bd1, bd1'⟩ h3.2.1 h3.2.2.1 h3.2.2.2, bd1, bd1', bt1, bt1'⟩
                    case round =>
                      obtain ⟨t2, d, rfl, rfl, h4, bd, bd', bt2, bt2'⟩ := hrel
                      clear c3a
                      (try clear c3b)
                      by_cases c4 : t2 < 0 ∧ d ≤ 1073741824
                      · obtain ⟨c4a, c4b⟩ := c4
                        go_wp2
                        go_round
                        case rel => exact ⟨t2 + 1, d * 2, rfl, rfl, h4.step (.inl rfl) c4a c4b, by omega, by omega, by omega, by omega⟩
                        case measure => simp [intOf]; omega
                      · obtain ⟨p, q, e9, HM⟩ : ∃ p q e, Hid (Fr.make u d = (p, q, e)) := ⟨_, _, _, rfl⟩
                        have HE := Lib.hid (show ratio s h = (p, q, e9) by
                          have hm := ratio_end h1 h2 h3 h4 HC1.out HC2.out HC3.out c4
                          rw [HR.out, ← HM.out, hm, HF.out, HT.out])
                        clear HC1 HC2 HC3 h1 h2 h3 h4 HR HF HT
                        by_cases c4a : t2 < 0
                        all_goals
                          (try have c4b : ¬ d ≤ 1073741824 := fun h => c4 ⟨c4a, h⟩)
                          clear c4
                          go_wp2_with (first
                            | (go_at_call 18; with_reducible refine (make_is u d _ ⟨bu, bu'⟩ ⟨bd, bd'⟩ HM.out).mono ?_; rintro e w2 ⟨rfl, hb2⟩; have hz2 := hb2.size; (try simp at hz2); have zx2 : w.heap.size < w2.heap.size := (by first | omega | (simp; omega)); have cx0_2 : w2.cell? ⟨w.heap.size, 0, none⟩ = some (.int .i64 (s)) := (hb2.cell (by first | assumption | (simp <;> omega))).trans (by go_simp); have cx1_2 : w2.cell? ⟨w.heap.size, 1, none⟩ = some (.int .i64 (h)) := (hb2.cell (by first | assumption | (simp <;> omega))).trans (by go_simp); have zr2 : w.heap.size + 1 < w2.heap.size := (by first | omega | (simp; omega)); have cr0_2 : w2.cell? ⟨w.heap.size + 1, 0, none⟩ = some (.int .i64 (0)) := (hb2.cell (by first | assumption | (simp <;> omega))).trans (by go_simp); have fr0_2 : w2.frozen? ⟨w.heap.size + 1, 0, none⟩ = false := (hb2.frozen (by first | assumption | (simp <;> omega))).trans (by go_simp); have cr1_2 : w2.cell? ⟨w.heap.size + 1, 1, none⟩ = some (.int .i64 (0)) := (hb2.cell (by first | assumption | (simp <;> omega))).trans (by go_simp); have fr1_2 : w2.frozen? ⟨w.heap.size + 1, 1, none⟩ = false := (hb2.frozen (by first | assumption | (simp <;> omega))).trans (by go_simp)))
                          exact bodyPost_ret (v := Pi.R3 (p, q, e9)) (by simp [results, Try.results7, go_sem, Pi.R3, cr0_2, cr1_2]) rfl ⟨by rw [HE.out], (by repeat (first | exact Below.refl _ _ | assumption | refine below_drewN ?_ _ | refine Below.drew ?_ | refine below_new ?_ _ | refine Below.setCell ?_ (by first | omega | (simp <;> omega)) _ | refine below_then (by assumption) ?_))⟩

theorem ratio_any (s h : Int) (w : World) (i1 : I64 s) (i2 : I64 h) :
    Calls Try.prog 7 #[.agg #[.int .i64 s, .int .i64 h]] w fun e w' => e = .returned (Pi.R3 (ratio s h)) ∧ Below w.heap.size w w' := by
  by_cases k : Pi.withinB s h = true
  · exact ratio_yes s h w i1 i2 k
  · exact ratio_no s h w i1 i2 (by simpa using k)
theorem ratio_is (s h : Int) (w : World) (i1 : I64 s) (i2 : I64 h) {r : Int × Int × Int} (k : ratio s h = r) :
    Calls Try.prog 7 #[.agg #[.int .i64 s, .int .i64 h]] w fun e w' => e = .returned (Pi.R3 r) ∧ Below w.heap.size w w' := k ▸ ratio_any s h w i1 i2

set_option maxHeartbeats 1000000 in
theorem alive_any (w : World) : Calls Try.prog 6 #[] w fun e w' => e = .returned (.bool true) ∧ Below w.heap.size w w' := by
  have i4 : I64 4 := by unfold I64; omega
  have i7 : I64 7 := by unfold I64; omega
  have H := Lib.hid ratio_one
  go_enter Try.func6, Try.ntmps6
  go_wp2_with (first
    | (go_at_call 7; with_reducible refine (ratio_is 4 7 _ i4 i7 H.out).mono ?_; rintro e w1 ⟨rfl, hb1⟩; rw [Pi.R3]; have hz1 := hb1.size; (try simp at hz1); ))
  go_ret
  exact ⟨rfl, (by repeat (first | exact Below.refl _ _ | assumption | refine below_drewN ?_ _ | refine Below.drew ?_ | refine below_new ?_ _ | refine Below.setCell ?_ (by first | omega | (simp <;> omega)) _ | refine below_then (by assumption) ?_))⟩

end Go.Proofs.Ytdboencinnlebaa.Tu
