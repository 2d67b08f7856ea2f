/-
  THE WALK of the codec: best.
-/
import Derived.Test.YtfoiadlaekknpaaMissW
namespace Go.Proofs.Ytfoiadlaekknpaa.Co
open Go.RowKit

theorem missFrom_get {l : List Int} {o : Nat} : ∀ {m i j : Nat}, j < m → X (missFrom l o m i) j = miss l o (i + j)
  | m + 1, i, 0, _ => rfl
  | m + 1, i, j + 1, h => by
    have := missFrom_get (l := l) (o := o) (m := m) (i := i + 1) (j := j) (by omega)
    rw [show i + (j + 1) = i + 1 + j by omega, ← this]; rfl
theorem misses_length (l : List Int) (o : Nat) : (misses l o).length = l.length - o := missFrom_length _ _ _ _
theorem miss_cells {w : World} {base : Nat} {v : Value} {l : List Int} {o : Nat} (h : w.ownsRow base 3 1 v (l.length - o) (rowsOf (missV l o) (l.length - o))) :
    ∃ p cap, v = .slice p (misses l o).length cap ∧ Cells w p (misses l o) := by
  obtain ⟨p, cap, hv, h1, h2, h3⟩ := own_form (missV_len l o) h
  rw [misses_length]
  refine ⟨p, cap, hv, fun hn => ?_⟩
  rw [misses_length] at hn
  obtain ⟨g, hp, _, _, hc⟩ := h3 hn
  refine ⟨g, 0, hp, fun i hi => ?_⟩
  rw [misses_length] at hi
  have := hc i hi 0 (by omega)
  rw [Nat.mul_one, Nat.add_zero] at this
  rw [Nat.zero_add, this]
  show some (Value.int .i64 (miss l o (o + i))) = _
  rw [← missFrom_get (m := l.length - o) hi]; rfl
theorem costs_drop {k : Nat} : ∀ {ms : List Int} {j : Nat}, j < ms.length → costs k (ms.drop j) = cost k (X ms j) + costs k (ms.drop (j + 1))
  | x :: r, 0, _ => rfl
  | x :: r, j + 1, h => by
    have := costs_drop (k := k) (ms := r) (j := j) (by simpa using h)
    simpa [X] using this
theorem misses_bd {l : List Int} (hs : Small l) {o j : Nat} (hj : j < (misses l o).length) : 0 ≤ X (misses l o) j ∧ X (misses l o) j ≤ 524288 := by
  rw [misses_length] at hj
  unfold misses
  rw [missFrom_get hj]
  exact miss_bd hs o _

def BestPost (w : World) (l : List Int) (e : Ending) (w' : World) : Prop :=
  e = .returned (.tuple #[.int .i64 ((bestTo l 64).2.1 : Int), .int .i64 ((bestTo l 64).2.2 : Int)]) ∧ Below w.heap.size w w'

set_option maxHeartbeats 8000000 in
theorem best_any (p : Option Addr) (l : List Int) (cap : Nat) (w : World) (h : Cells w p l) (hl : l.length ≤ 256) (hs : Small l) :
    Calls Try.prog 29 #[.slice p l.length cap] w (BestPost w l) := by
  go_enter Try.func29, Try.ntmps29
  go_wp2
  go_loopw [2, 3, 4, 11] (fun v2 v3 v4 v11 wr => ∃ (o x y : Nat) (b : Int), v11 = .int .i64 o ∧ v2 = .int .i64 x ∧ v3 = .int .i64 y ∧ v4 = .int .i64 b ∧ o ≤ 4 ∧ -1 ≤ b ∧ b ≤ 1000000000 ∧ Hid (bestTo l (16 * o) = (b, x, y)) ∧ Below w.heap.size w wr) (fun _ _ _ v11 _ => 4 - (intOf v11).toNat)
  case atStart => exact ⟨0, 0, 0, -1, rfl, rfl, rfl, rfl, by omega, by omega, by omega, rfl, Below.refl _ _⟩
  case round =>
    obtain ⟨o, x, y, b, rfl, rfl, rfl, rfl, ho, hb0, hb1, HB, hbr⟩ := hrel
    by_cases hlt : o < 4
    · have e1 : (o : Int) < 4 := by omega
      have hcr := h.below hbr
      go_wp2_with (go_at_call 30; (with_reducible refine (misses_any p l cap o _ hcr (by omega) (by omega) hs).mono ?_); rintro e wm ⟨v6, rfl, hown, hbm⟩; obtain ⟨pm, capm, rfl, hcm⟩ := miss_cells hown)
      have hml : (misses l o).length ≤ 256 := by rw [misses_length]; omega
      have hbw : Below w.heap.size w wm := below_then hbm hbr
      clear hown hcr
      go_loop [2, 3, 4, 17] (fun v2 v3 v4 v17 => ∃ (k x y : Nat) (b : Int), v17 = .int .i64 k ∧ v2 = .int .i64 x ∧ v3 = .int .i64 y ∧ v4 = .int .i64 b ∧ k ≤ 16 ∧ -1 ≤ b ∧ b ≤ 1000000000 ∧ Hid (bestTo l (16 * o + k) = (b, x, y))) (fun _ _ _ v17 => 16 - (intOf v17).toNat)
      case atStart => exact ⟨0, x, y, b, rfl, rfl, rfl, rfl, by omega, hb0, hb1, HB⟩
      case round =>
        obtain ⟨k, x, y, b, rfl, rfl, rfl, rfl, hk, hb0, hb1, HB⟩ := hrel
        by_cases hkt : k < 16
        · have e2 : (k : Int) < 16 := by omega
          by_cases hol : o ≤ l.length
          · have hol' : (o : Int) ≤ l.length := by omega
            go_wp2
            have e3 : (16 : Int) * (o : Int) = 16 * ((min o l.length : Nat) : Int) := by omega
            have HL := Lib.hid (show (16 : Int) * (o : Int) + costs k ((misses l o).drop 0) = long l o k by rw [e3]; rfl)
            clear e3
            go_loop [8, 27] (fun v8 v27 => ∃ (j : Nat) (n : Int), v8 = .int .i64 n ∧ v27 = .int .i64 j ∧ j ≤ (misses l o).length ∧ 0 ≤ n ∧ n ≤ 5000 + 524304 * j ∧ Hid (n + costs k ((misses l o).drop j) = long l o k)) (fun _ v27 => (misses l o).length - (intOf v27).toNat)
            case atStart => exact ⟨0, _, rfl, rfl, by omega, by omega, by omega, HL⟩
            case round =>
              obtain ⟨j, n, rfl, rfl, hj, hn0, hn1, HN⟩ := hrel
              by_cases hjt : j < (misses l o).length
              · obtain ⟨bm, om, rfl, hc⟩ := hcm (by omega)
                have c1 := hc j hjt
                have y1 := misses_bd hs hjt
                have y2 : 0 ≤ X (misses l o) j / 2 ^ k := Int.ediv_nonneg y1.1 (Int.le_of_lt (Int.pow_pos (by omega)))
                have y3 : X (misses l o) j / 2 ^ k ≤ X (misses l o) j := Int.ediv_le_self _ y1.1
                have e4 : (j : Int) < ((misses l o).length : Int) := by omega
                have HM := Lib.hid (show n + (X (misses l o) j / 2 ^ k + 1 + k) + costs k ((misses l o).drop (j + 1)) = long l o k by rw [← HN.out, costs_drop hjt, Int.add_assoc]; rfl)
                clear hc HN
                go_wp2
                go_round
                case rel => exact ⟨j + 1, _, rfl, by go_num, by omega, by omega, by omega, HM⟩
                case measure => simp [intOf]; omega
              · have hn : n = long l o k := by
                  have := HN.out
                  rw [List.drop_eq_nil_of_le (by omega)] at this
                  simpa [costs] using this
                have e4 : ¬ (j : Int) < ((misses l o).length : Int) := by omega
                have HX := Lib.hid (show bestTo l (16 * o + (k + 1)) = if b < 0 ∨ n < b then (n, o, k) else (b, x, y) by
                  rw [show 16 * o + (k + 1) = (16 * o + k) + 1 by omega, bestTo, HB.out, show (16 * o + k) / 16 = o by omega, show (16 * o + k) % 16 = k by omega, ← hn])
                have hnb : n ≤ 1000000000 := by omega
                clear HN HB hn HL
                have hq : b < 0 ∨ ¬ b < 0 ∧ n < b ∨ ¬ b < 0 ∧ ¬ n < b := by omega
                rcases hq with q | ⟨q, q1⟩ | ⟨q, q1⟩
                · have HY := Lib.hid (show bestTo l (16 * o + (k + 1)) = (n, o, k) by rw [HX.out, if_pos (.inl q)])
                  clear HX
                  go_wp2
                  go_round
                  case rel => exact ⟨k + 1, o, k, n, by go_num, rfl, rfl, rfl, by omega, by omega, hnb, HY⟩
                  case measure => simp [intOf]; omega
                · have HY := Lib.hid (show bestTo l (16 * o + (k + 1)) = (n, o, k) by rw [HX.out, if_pos (.inr q1)])
                  clear HX
                  go_wp2
                  go_round
                  case rel => exact ⟨k + 1, o, k, n, by go_num, rfl, rfl, rfl, by omega, by omega, hnb, HY⟩
                  case measure => simp [intOf]; omega
                · have HY := Lib.hid (show bestTo l (16 * o + (k + 1)) = (b, x, y) by rw [HX.out, if_neg (fun h => h.elim q q1)])
                  clear HX
                  go_wp2
                  go_round
                  case rel => exact ⟨k + 1, x, y, b, by go_num, rfl, rfl, rfl, by omega, by omega, by omega, HY⟩
                  case measure => simp [intOf]; omega
          · have hol' : ¬ (o : Int) ≤ l.length := by omega
            go_wp2
            have e3 : (16 : Int) * (l.length : Int) = 16 * ((min o l.length : Nat) : Int) := by omega
            have HL := Lib.hid (show (16 : Int) * (l.length : Int) + costs k ((misses l o).drop 0) = long l o k by rw [e3]; rfl)
            clear e3
            go_loop [8, 27] (fun v8 v27 => ∃ (j : Nat) (n : Int), v8 = .int .i64 n ∧ v27 = .int .i64 j ∧ j ≤ (misses l o).length ∧ 0 ≤ n ∧ n ≤ 5000 + 524304 * j ∧ Hid (n + costs k ((misses l o).drop j) = long l o k)) (fun _ v27 => (misses l o).length - (intOf v27).toNat)
            case atStart => exact ⟨0, _, rfl, rfl, by omega, by omega, by omega, HL⟩
            case round =>
              obtain ⟨j, n, rfl, rfl, hj, hn0, hn1, HN⟩ := hrel
              by_cases hjt : j < (misses l o).length
              · obtain ⟨bm, om, rfl, hc⟩ := hcm (by omega)
                have c1 := hc j hjt
                have y1 := misses_bd hs hjt
                have y2 : 0 ≤ X (misses l o) j / 2 ^ k := Int.ediv_nonneg y1.1 (Int.le_of_lt (Int.pow_pos (by omega)))
                have y3 : X (misses l o) j / 2 ^ k ≤ X (misses l o) j := Int.ediv_le_self _ y1.1
                have e4 : (j : Int) < ((misses l o).length : Int) := by omega
                have HM := Lib.hid (show n + (X (misses l o) j / 2 ^ k + 1 + k) + costs k ((misses l o).drop (j + 1)) = long l o k by rw [← HN.out, costs_drop hjt, Int.add_assoc]; rfl)
                clear hc HN
                go_wp2
                go_round
                case rel => exact ⟨j + 1, _, rfl, by go_num, by omega, by omega, by omega, HM⟩
                case measure => simp [intOf]; omega
              · have hn : n = long l o k := by
                  have := HN.out
                  rw [List.drop_eq_nil_of_le (by omega)] at this
                  simpa [costs] using this
                have e4 : ¬ (j : Int) < ((misses l o).length : Int) := by omega
                have HX := Lib.hid (show bestTo l (16 * o + (k + 1)) = if b < 0 ∨ n < b then (n, o, k) else (b, x, y) by
                  rw [show 16 * o + (k + 1) = (16 * o + k) + 1 by omega, bestTo, HB.out, show (16 * o + k) / 16 = o by omega, show (16 * o + k) % 16 = k by omega, ← hn])
                have hnb : n ≤ 1000000000 := by omega
                clear HN HB hn HL
                have hq : b < 0 ∨ ¬ b < 0 ∧ n < b ∨ ¬ b < 0 ∧ ¬ n < b := by omega
                rcases hq with q | ⟨q, q1⟩ | ⟨q, q1⟩
                · have HY := Lib.hid (show bestTo l (16 * o + (k + 1)) = (n, o, k) by rw [HX.out, if_pos (.inl q)])
                  clear HX
                  go_wp2
                  go_round
                  case rel => exact ⟨k + 1, o, k, n, by go_num, rfl, rfl, rfl, by omega, by omega, hnb, HY⟩
                  case measure => simp [intOf]; omega
                · have HY := Lib.hid (show bestTo l (16 * o + (k + 1)) = (n, o, k) by rw [HX.out, if_pos (.inr q1)])
                  clear HX
                  go_wp2
                  go_round
                  case rel => exact ⟨k + 1, o, k, n, by go_num, rfl, rfl, rfl, by omega, by omega, hnb, HY⟩
                  case measure => simp [intOf]; omega
                · have HY := Lib.hid (show bestTo l (16 * o + (k + 1)) = (b, x, y) by rw [HX.out, if_neg (fun h => h.elim q q1)])
                  clear HX
                  go_wp2
                  go_round
                  case rel => exact ⟨k + 1, x, y, b, by go_num, rfl, rfl, rfl, by omega, by omega, by omega, HY⟩
                  case measure => simp [intOf]; omega
        · have hk16 : k = 16 := by omega
          have HB' := Lib.hid (show bestTo l (16 * (o + 1)) = (b, x, y) by rw [← HB.out, hk16]; rfl)
          have e2 : ¬ (k : Int) < 16 := by omega
          clear HB hk16
          go_wp2
          go_roundw
          case rel => exact ⟨o + 1, x, y, b, by go_num, rfl, rfl, rfl, by omega, by omega, by omega, HB', hbw⟩
          case measure => simp [intOf]; omega
    · have ho4 : o = 4 := by omega
      have HB' := Lib.hid (show bestTo l 64 = (b, x, y) by rw [← HB.out, ho4])
      have e1 : ¬ (o : Int) < 4 := by omega
      clear HB ho4
      go_wp2
      go_ret2
      exact ⟨by rw [HB'.out]; rfl, hbr⟩
end Go.Proofs.Ytfoiadlaekknpaa.Co
