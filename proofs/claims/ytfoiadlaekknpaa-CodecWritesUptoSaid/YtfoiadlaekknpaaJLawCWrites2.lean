/-
  THE WALK of the codec: best. | THE WALK of the codec: the writer's frame. | THE WALK of codec.Encode. | THE VALUE MACHINE (G): what is made and written. No program in sight. | THE VALUE MACHINE (H): rows made, stored into, appended to, copied. No program in sight. | THE VALUE MACHINE (I): append, copy, functions as values, the greater of two. No program in sight. | THE VALUE MACHINE (P): structs compared. No program in sight. | THE VALUE MACHINE (Q): copy. No program in sight. | THE VALUE MACHINE (J): contracts by values; calls. No program in sight. | THE VALUE MACHINE (K): a call, by its contract. No program in sight. | THE VALUE MACHINE (V): pointers held against nil; the greatest of three. No program in sight. | THE VALUE MACHINE (X): rows laid down for good, by themselves and at a call. No program in sight. | THE VALUE MACHINE (W): atomic loads and stores (functions without a body). No program in sight. | THE VALUE MACHINE (Z): bytes laid down for good, as a string. No program in sight. | THE VALUE MACHINE (L): regions reckoned; the rules of a walk by values. No program in sight. | THE VALUE MACHINE (M): a walk by values: what is left to run, states said anew, loops, whole functions. No program in sight.
-/
import Derived.Test.YtfoiadlaekknpaaJLawCWrites1
import Derived.Great.BuildSlice
import Derived.Laws.MakeOwn
import Derived.Laws.CopyOwn
import Derived.Laws.StructEq
import Derived.Laws.LoneSync
import Derived.Laws.BytesArg
namespace Go.Proofs.Ytfoiadlaekknpaa.Co
open Go.RowKit

theorem missFrom_get {l : List Int} {o : Nat} : ∀ {m i j : Nat}, j < m → X (missFrom l o m i) j = miss l o (i + j)
  | m + 1, i, 0, _ => rfl
  | m + 1, i, j + 1, h => by
    have := missFrom_get (l := l) (o := o) (m := m) (i := i + 1) (j := j) (by omega)
    rw [show i + (j + 1) = i + 1 + j by omega, ← this]; rfl
theorem misses_length (l : List Int) (o : Nat) : (misses l o).length = l.length - o := missFrom_length _ _ _ _
theorem miss_cells {w : World} {base : Nat} {v : Value} {l : List Int} {o : Nat} (h : w.ownsRow base 3 1 v (l.length - o) (rowsOf (missV l o) (l.length - o))) :
    ∃ p cap, v = .slice p (misses l o).length cap ∧ Cells w p (misses l o) := by
  obtain ⟨p, cap, hv, h1, h2, h3⟩ := own_form (missV_len l o) h
  rw [misses_length]
  refine ⟨p, cap, hv, fun hn => ?_⟩
  rw [misses_length] at hn
  obtain ⟨g, hp, _, _, hc⟩ := h3 hn
  refine ⟨g, 0, hp, fun i hi => ?_⟩
  rw [misses_length] at hi
  have := hc i hi 0 (by omega)
  rw [Nat.mul_one, Nat.add_zero] at this
  rw [Nat.zero_add, this]
  show some (Value.int .i64 (miss l o (o + i))) = _
  rw [← missFrom_get (m := l.length - o) hi]; rfl
theorem costs_drop {k : Nat} : ∀ {ms : List Int} {j : Nat}, j < ms.length → costs k (ms.drop j) = cost k (X ms j) + costs k (ms.drop (j + 1))
  | x :: r, 0, _ => rfl
  | x :: r, j + 1, h => by
    have := costs_drop (k := k) (ms := r) (j := j) (by simpa using h)
    simpa [X] using this
theorem misses_bd {l : List Int} (hs : Small l) {o j : Nat} (hj : j < (misses l o).length) : 0 ≤ X (misses l o) j ∧ X (misses l o) j ≤ 524288 := by
  rw [misses_length] at hj
  unfold misses
  rw [missFrom_get hj]
  exact miss_bd hs o _

def BestPost (w : World) (l : List Int) (e : Ending) (w' : World) : Prop :=
  e = .returned (.tuple #[.int .i64 ((bestTo l 64).2.1 : Int), .int .i64 ((bestTo l 64).2.2 : Int)]) ∧ Below w.heap.size w w'

set_option maxHeartbeats 8000000 in
theorem best_any (p : Option Addr) (l : List Int) (cap : Nat) (w : World) (h : Cells w p l) (hl : l.length ≤ 256) (hs : Small l) :
    Calls Try.prog 29 #[.slice p l.length cap] w (BestPost w l) := by
  go_enter Try.func29, Try.ntmps29
  go_wp2
  go_loopw [2, 3, 4, 11] (fun v2 v3 v4 v11 wr => ∃ (o x y : Nat) (b : Int), v11 = .int .i64 o ∧ v2 = .int .i64 x ∧ v3 = .int .i64 y ∧ v4 = .int .i64 b ∧ o ≤ 4 ∧ -1 ≤ b ∧ b ≤ 1000000000 ∧ Hid (bestTo l (16 * o) = (b, x, y)) ∧ Below w.heap.size w wr) (fun _ _ _ v11 _ => 4 - (intOf v11).toNat)
  case atStart => exact ⟨0, 0, 0, -1, rfl, rfl, rfl, rfl, by omega, by omega, by omega, rfl, Below.refl _ _⟩
  case round =>
    obtain ⟨o, x, y, b, rfl, rfl, rfl, rfl, ho, hb0, hb1, HB, hbr⟩ := hrel
    by_cases hlt : o < 4
    · have e1 : (o : Int) < 4 := by omega
      have hcr := h.below hbr
      go_wp2_with (go_at_call 30; (with_reducible refine (misses_any p l cap o _ hcr (by omega) (by omega) hs).mono ?_); rintro e wm ⟨v6, rfl, hown, hbm⟩; obtain ⟨pm, capm, rfl, hcm⟩ := miss_cells hown)
      have hml : (misses l o).length ≤ 256 := by rw [misses_length]; omega
      have hbw : Below w.heap.size w wm := below_then hbm hbr
      clear hown hcr
      go_loop [2, 3, 4, 17] (fun v2 v3 v4 v17 => ∃ (k x y : Nat) (b : Int), v17 = .int .i64 k ∧ v2 = .int .i64 x ∧ v3 = .int .i64 y ∧ v4 = .int .i64 b ∧ k ≤ 16 ∧ -1 ≤ b ∧ b ≤ 1000000000 ∧ Hid (bestTo l (16 * o + k) = (b, x, y))) (fun _ _ _ v17 => 16 - (intOf v17).toNat)
      case atStart => exact ⟨0, x, y, b, rfl, rfl, rfl, rfl, by omega, hb0, hb1, HB⟩
      case round =>
        obtain ⟨k, x, y, b, rfl, rfl, rfl, rfl, hk, hb0, hb1, HB⟩ := hrel
        by_cases hkt : k < 16
        · have e2 : (k : Int) < 16 := by omega
          by_cases hol : o ≤ l.length
          · have hol' : (o : Int) ≤ l.length := by omega
            go_wp2
            have e3 : (16 : Int) * (o : Int) = 16 * ((min o l.length : Nat) : Int) := by omega
            have HL := Lib.hid (show (16 : Int) * (o : Int) + costs k ((misses l o).drop 0) = long l o k by rw [e3]; rfl)
            clear e3
            go_loop [8, 27] (fun v8 v27 => ∃ (j : Nat) (n : Int), v8 = .int .i64 n ∧ v27 = .int .i64 j ∧ j ≤ (misses l o).length ∧ 0 ≤ n ∧ n ≤ 5000 + 524304 * j ∧ Hid (n + costs k ((misses l o).drop j) = long l o k)) (fun _ v27 => (misses l o).length - (intOf v27).toNat)
            case atStart => exact ⟨0, _, rfl, rfl, by omega, by omega, by omega, HL⟩
            case round =>
              obtain ⟨j, n, rfl, rfl, hj, hn0, hn1, HN⟩ := hrel
              by_cases hjt : j < (misses l o).length
              · obtain ⟨bm, om, rfl, hc⟩ := hcm (by omega)
                have c1 := hc j hjt
                have y1 := misses_bd hs hjt
                have y2 : 0 ≤ X (misses l o) j / 2 ^ k := Int.ediv_nonneg y1.1 (Int.le_of_lt (Int.pow_pos (by omega)))
                have y3 : X (misses l o) j / 2 ^ k ≤ X (misses l o) j := Int.ediv_le_self _ y1.1
                have e4 : (j : Int) < ((misses l o).length : Int) := by omega
                have HM := Lib.hid (show n + (X (misses l o) j / 2 ^ k + 1 + k) + costs k ((misses l o).drop (j + 1)) = long l o k by rw [← HN.out, costs_drop hjt, Int.add_assoc]; rfl)
                clear hc HN
                go_wp2
                go_round
                case rel => exact ⟨j + 1, _, rfl, by go_num, by omega, by omega, by omega, HM⟩
                case measure => simp [intOf]; omega
              · have hn : n = long l o k := by
                  have := HN.out
                  rw [List.drop_eq_nil_of_le (by omega)] at this
                  simpa [costs] using this
                have e4 : ¬ (j : Int) < ((misses l o).length : Int) := by omega
                have HX := Lib.hid (show bestTo l (16 * o + (k + 1)) = if b < 0 ∨ n < b then (n, o, k) else (b, x, y) by
                  rw [show 16 * o + (k + 1) = (16 * o + k) + 1 by omega, bestTo, HB.out, show (16 * o + k) / 16 = o by omega, show (16 * o + k) % 16 = k by omega, ← hn])
                have hnb : n ≤ 1000000000 := by omega
                clear HN HB hn HL
                have hq : b < 0 ∨ ¬ b < 0 ∧ n < b ∨ ¬ b < 0 ∧ ¬ n < b := by omega
                rcases hq with q | ⟨q, q1⟩ | ⟨q, q1⟩
                · have HY := Lib.hid (show bestTo l (16 * o + (k + 1)) = (n, o, k) by rw [HX.out, if_pos (.inl q)])
                  clear HX
                  go_wp2
                  go_round
                  case rel => exact ⟨k + 1, o, k, n, by go_num, rfl, rfl, rfl, by omega, by omega, hnb, HY⟩
                  case measure => simp [intOf]; omega
                · have HY := Lib.hid (show bestTo l (16 * o + (k + 1)) = (n, o, k) by rw [HX.out, if_pos (.inr q1)])
                  clear HX
                  go_wp2
                  go_round
                  case rel => exact ⟨k + 1, o, k, n, by go_num, rfl, rfl, rfl, by omega, by omega, hnb, HY⟩
                  case measure => simp [intOf]; omega
                · have HY := Lib.hid (show bestTo l (16 * o + (k + 1)) = (b, x, y) by rw [HX.out, if_neg (fun h => h.elim q q1)])
                  clear HX
                  go_wp2
                  go_round
                  case rel => exact ⟨k + 1, x, y, b, by go_num, rfl, rfl, rfl, by omega, by omega, by omega, HY⟩
                  case measure => simp [intOf]; omega
          · have hol' : ¬ (o : Int) ≤ l.length := by omega
            go_wp2
            have e3 : (16 : Int) * (l.length : Int) = 16 * ((min o l.length : Nat) : Int) := by omega
            have HL := Lib.hid (show (16 : Int) * (l.length : Int) + costs k ((misses l o).drop 0) = long l o k by rw [e3]; rfl)
            clear e3
            go_loop [8, 27] (fun v8 v27 => ∃ (j : Nat) (n : Int), v8 = .int .i64 n ∧ v27 = .int .i64 j ∧ j ≤ (misses l o).length ∧ 0 ≤ n ∧ n ≤ 5000 + 524304 * j ∧ Hid (n + costs k ((misses l o).drop j) = long l o k)) (fun _ v27 => (misses l o).length - (intOf v27).toNat)
            case atStart => exact ⟨0, _, rfl, rfl, by omega, by omega, by omega, HL⟩
            case round =>
              obtain ⟨j, n, rfl, rfl, hj, hn0, hn1, HN⟩ := hrel
              by_cases hjt : j < (misses l o).length
              · obtain ⟨bm, om, rfl, hc⟩ := hcm (by omega)
                have c1 := hc j hjt
                have y1 := misses_bd hs hjt
                have y2 : 0 ≤ X (misses l o) j / 2 ^ k := Int.ediv_nonneg y1.1 (Int.le_of_lt (Int.pow_pos (by omega)))
                have y3 : X (misses l o) j / 2 ^ k ≤ X (misses l o) j := Int.ediv_le_self _ y1.1
                have e4 : (j : Int) < ((misses l o).length : Int) := by omega
                have HM := Lib.hid (show n + (X (misses l o) j / 2 ^ k + 1 + k) + costs k ((misses l o).drop (j + 1)) = long l o k by rw [← HN.out, costs_drop hjt, Int.add_assoc]; rfl)
                clear hc HN
                go_wp2
                go_round
                case rel => exact ⟨j + 1, _, rfl, by go_num, by omega, by omega, by omega, HM⟩
                case measure => simp [intOf]; omega
              · have hn : n = long l o k := by
                  have := HN.out
                  rw [List.drop_eq_nil_of_le (by omega)] at this
                  simpa [costs] using this
                have e4 : ¬ (j : Int) < ((misses l o).length : Int) := by omega
                have HX := Lib.hid (show bestTo l (16 * o + (k + 1)) = if b < 0 ∨ n < b then (n, o, k) else (b, x, y) by
                  rw [show 16 * o + (k + 1) = (16 * o + k) + 1 by omega, bestTo, HB.out, show (16 * o + k) / 16 = o by omega, show (16 * o + k) % 16 = k by omega, ← hn])
                have hnb : n ≤ 1000000000 := by omega
                clear HN HB hn HL
                have hq : b < 0 ∨ ¬ b < 0 ∧ n < b ∨ ¬ b < 0 ∧ ¬ n < b := by omega
                rcases hq with q | ⟨q, q1⟩ | ⟨q, q1⟩
                · have HY := Lib.hid (show bestTo l (16 * o + (k + 1)) = (n, o, k) by rw [HX.out, if_pos (.inl q)])
                  clear HX
                  go_wp2
                  go_round
                  case rel => exact ⟨k + 1, o, k, n, by go_num, rfl, rfl, rfl, by omega, by omega, hnb, HY⟩
                  case measure => simp [intOf]; omega
                · have HY := Lib.hid (show bestTo l (16 * o + (k + 1)) = (n, o, k) by rw [HX.out, if_pos (.inr q1)])
                  clear HX
                  go_wp2
                  go_round
                  case rel => exact ⟨k + 1, o, k, n, by go_num, rfl, rfl, rfl, by omega, by omega, hnb, HY⟩
                  case measure => simp [intOf]; omega
                · have HY := Lib.hid (show bestTo l (16 * o + (k + 1)) = (b, x, y) by rw [HX.out, if_neg (fun h => h.elim q q1)])
                  clear HX
                  go_wp2
                  go_round
                  case rel => exact ⟨k + 1, x, y, b, by go_num, rfl, rfl, rfl, by omega, by omega, by omega, HY⟩
                  case measure => simp [intOf]; omega
        · have hk16 : k = 16 := by omega
          have HB' := Lib.hid (show bestTo l (16 * (o + 1)) = (b, x, y) by rw [← HB.out, hk16]; rfl)
          have e2 : ¬ (k : Int) < 16 := by omega
          clear HB hk16
          go_wp2
          go_roundw
          case rel => exact ⟨o + 1, x, y, b, by go_num, rfl, rfl, rfl, by omega, by omega, by omega, HB', hbw⟩
          case measure => simp [intOf]; omega
    · have ho4 : o = 4 := by omega
      have HB' := Lib.hid (show bestTo l 64 = (b, x, y) by rw [← HB.out, ho4])
      have e1 : ¬ (o : Int) < 4 := by omega
      clear HB ho4
      go_wp2
      go_ret2
      exact ⟨by rw [HB'.out]; rfl, hbr⟩
end Go.Proofs.Ytfoiadlaekknpaa.Co
namespace Go.Proofs.Ytfoiadlaekknpaa.Co
open Go.RowKit

theorem Wr.below {base bw : Nat} {w w' : World} {L : List Bool} {v : Value} (h : Wr base w bw L v) (hb : Below w.heap.size w w') : Wr base w' bw L v := ⟨blk_below h.blk hb, own_below h.own hb, h.lo⟩
theorem Grew.ints {base bw : Nat} {w w' : World} {v : Value} {c b0 : Nat} {xs : List Value} (h : w.ownsRow b0 3 1 v c xs) (hg : Grew base bw w w') (hw : ∀ z m, w.heap[bw]? ≠ some (.cells z 3 m)) : w'.ownsRow b0 3 1 v c xs := by
  refine ⟨h.1, ?_⟩
  rcases h.2 with hn | ⟨g, cap, cur, rfl, hb, hgg, rest⟩
  · exact .inl hn
  · exact .inr ⟨g, cap, cur, rfl, hb, hg.typ g cur _ _ hgg (by decide) (fun e => hw _ _ (e ▸ hgg)), rest⟩
theorem Wr.notInt {base bw : Nat} {w : World} {L : List Bool} {v : Value} (h : Wr base w bw L v) : ∀ z m, w.heap[bw]? ≠ some (.cells z 3 m) := fun z m he => by
  rw [h.blk] at he
  simp only [Option.some.injEq, Obj.cells.injEq] at he
  exact absurd he.2.1 (by decide)
/-- Numbers that lie below base. -/
structure Low (base : Nat) (w : World) (p : Option Addr) (l : List Int) : Prop where
  cells : Cells w p l
  low : ∀ a, p = some a → 0 < l.length → a.block < base
theorem Low.below {base : Nat} {w w' : World} {p : Option Addr} {l : List Int} (h : Low base w p l) (hb : Below base w w') : Low base w' p l := ⟨fun hn => by
  obtain ⟨b, o, hp, hc⟩ := h.cells hn
  exact ⟨b, o, hp, fun i hi => (hb.cell (p := ⟨b, o + i, none⟩) (show b < base from h.low _ hp hn)).trans (hc i hi)⟩, h.low⟩
theorem number_as (base bw : Nat) (n : Int) (k : Nat) (K : Int) (hK : (k : Int) = K) (L : List Bool) (v : Value) (w : World) (h : Wr base w bw L v) (hL : L.length + k ≤ 1000000000) (hn : 0 ≤ n ∧ n ≤ 9223372036854775807) (hk : k ≤ 63) :
    Calls Try.prog 13 #[.pointer (some ⟨bw, 0, none⟩), .int .i64 n, .int .i64 K] w (BitPost base bw w (L ++ bitsOf n k)) := hK ▸ number_any base bw n k L v w h hL hn hk
theorem rawBits_snoc {l : List Int} : ∀ {i : Nat}, i < l.length → rawBits (l.take (i + 1)) = rawBits (l.take i) ++ bitsOf (X l i + 32768) 16 := by
  induction l with
  | nil => intro i hi; simp at hi
  | cons x r ih =>
    intro i hi
    cases i with
    | zero => simp [rawBits, X]
    | succ i =>
      have := ih (i := i) (by simpa using hi)
      simp only [List.take_succ_cons, rawBits] at this ⊢
      rw [this, List.append_assoc]; rfl
theorem riceAll_snoc {k : Nat} {l : List Int} : ∀ {i : Nat}, i < l.length → riceAll k (l.take (i + 1)) = riceAll k (l.take i) ++ riceBits k (X l i) := by
  induction l with
  | nil => intro i hi; simp at hi
  | cons x r ih =>
    intro i hi
    cases i with
    | zero => simp [riceAll, X]
    | succ i =>
      have := ih (i := i) (by simpa using hi)
      simp only [List.take_succ_cons, riceAll] at this ⊢
      rw [this, List.append_assoc]; rfl
theorem riceAll_take_bd {k : Nat} (hk : k ≤ 15) {l : List Int} (h : ∀ x ∈ l, 0 ≤ x ∧ x ≤ 524288) (i : Nat) : ((riceAll k (l.take i)).length : Int) ≤ 524304 * l.length := by
  rw [riceAll_length fun x hx => h x (List.mem_of_mem_take hx)]
  have := (costs_bd hk (l := l.take i) fun x hx => h x (List.mem_of_mem_take hx)).2
  have hl : (l.take i).length ≤ l.length := by simp; omega
  omega

set_option maxHeartbeats 8000000 in
theorem frame_any (base bw : Nat) (p : Option Addr) (l : List Int) (cap : Nat) (L : List Bool) (v : Value) (w : World) (h : Wr base w bw L v) (hc : Low base w p l) (hl : l.length ≤ 256) (hs : Small l) (hL : L.length ≤ 500000000) (hbase : base ≤ w.heap.size) :
    Calls Try.prog 14 #[.pointer (some ⟨bw, 0, none⟩), .slice p l.length cap] w (BitPost base bw w (L ++ bestBits l)) := by
  obtain ⟨o, k, hok⟩ : ∃ o k, (o = (bestTo l 64).2.1 ∧ k = (bestTo l 64).2.2) := ⟨_, _, rfl, rfl⟩
  have hsp := bestTo_spec hs 64 (by omega)
  have HO := Lib.hid (show BestPost = fun (w : World) (l' : List Int) (e : Ending) (w' : World) => e = .returned (.tuple #[.int .i64 ((bestTo l' 64).2.1 : Int), .int .i64 ((bestTo l' 64).2.2 : Int)]) ∧ Below w.heap.size w w' from rfl)
  have ho3 : o ≤ 3 := by rw [hok.1]; omega
  have hk15 : k ≤ 15 := by rw [hok.2]; omega
  have HBB := Lib.hid (show bestBits l = bitsOf o 2 ++ bitsOf k 4 ++ rawBits (l.take o) ++ riceAll k (misses l o) by unfold bestBits frameBits; rw [← hok.1, ← hok.2])
  have hbest : ∀ w0, Cells w0 p l → Calls Try.prog 29 #[.slice p l.length cap] w0 fun e w' => e = .returned (.tuple #[.int .i64 (o : Int), .int .i64 (k : Int)]) ∧ Below w0.heap.size w0 w' := fun w0 hc0 => by
    have := best_any p l cap w0 hc0 hl hs
    unfold BestPost at this
    rw [← hok.1, ← hok.2] at this
    exact this
  have HBEST := Lib.hid hbest
  clear hok hsp HO hbest
  have ho3' : (o : Int) ≤ 3 := by omega
  have hk15' : (k : Int) ≤ 15 := by omega
  go_enter Try.func14, Try.ntmps14
  have hM24 : (L ++ bitsOf o 2).length + 4 ≤ 1000000000 := by rw [List.length_append, bitsOf_length]; omega
  by_cases hol : o ≤ l.length
  · have hol' : (o : Int) ≤ l.length := by omega
    go_wp2_with (first
      | (go_at_call 29; (with_reducible refine (HBEST.out _ hc.cells).mono ?_); rintro e w1 ⟨rfl, hb1⟩)
      | (go_at_call 13; (with_reducible refine (number_as base bw (o : Int) 2 2 rfl L v _ (h.below hb1) (by omega) (by omega) (by omega)).mono ?_); rintro e w2 ⟨rfl, u2, hM2, hG2⟩)
      | (go_at_call 13; (with_reducible refine (number_as base bw (k : Int) 4 4 rfl _ u2 _ hM2 hM24 (by omega) (by omega)).mono ?_); rintro e w3 ⟨rfl, u3, hM3, hG3⟩))
    have hG13 : Grew base bw w w3 := ((Grew.of_below hb1 hbase).trans hG2).trans hG3
    clear hM2 hb1 hG2 hG3
    go_loopw [24] (fun v24 wr => ∃ (i : Nat) (u : Value), v24 = .int .i64 i ∧ i ≤ o ∧ Wr base wr bw (L ++ bitsOf o 2 ++ bitsOf k 4 ++ rawBits (l.take i)) u ∧ Grew base bw w wr) (fun v24 _ => o - (intOf v24).toNat)
    case atStart => exact ⟨0, u3, rfl, by omega, by simpa [rawBits] using hM3, hG13⟩
    case round =>
      obtain ⟨i, u, rfl, hi, hM, hG⟩ := hrel
      have hlen : (L ++ bitsOf o 2 ++ bitsOf k 4 ++ rawBits (l.take i)).length ≤ 500010000 := by simp only [List.length_append, bitsOf_length, rawBits_length, List.length_take]; omega
      have hcr := hc.below hG.below
      by_cases hit : i < o
      · have hil : i < l.length := by omega
        obtain ⟨b, off, rfl, hcell⟩ := hcr.cells (by omega)
        have c1 := hcell i hil
        have x1 := X_bd hs i
        have e1 : (i : Int) < (o : Int) := by omega
        have e2 : (i : Int) < l.length := by omega
        have HN := Lib.hid (show L ++ bitsOf o 2 ++ bitsOf k 4 ++ rawBits (l.take i) ++ bitsOf (X l i + 32768) 16 = L ++ bitsOf o 2 ++ bitsOf k 4 ++ rawBits (l.take (i + 1)) by rw [rawBits_snoc hil, List.append_assoc])
        clear hcell
        go_wp2_with (go_at_call 13; (with_reducible refine (number_as base bw (X l i + 32768) 16 16 rfl _ u _ hM (by omega) (by omega) (by omega)).mono ?_); rintro e w4 ⟨rfl, u4, hM4, hG4⟩)
        go_roundw
        case rel => exact ⟨i + 1, u4, by go_num, by omega, HN.out ▸ hM4, hG.trans hG4⟩
        case measure => simp [intOf]; omega
      · have HT := Lib.hid (show l.take i = l.take o by
          have : i = o := by omega
          rw [this])
        have hbs : base ≤ wr.heap.size := Nat.le_trans hbase hG.size
        go_wp2_with (go_at_call 30; (with_reducible refine (misses_any _ l cap o _ hcr.cells (by omega) (by omega) hs).mono ?_); rintro e wm ⟨v9, rfl, hown, hbm⟩; obtain ⟨pm, capm, rfl, hcm⟩ := miss_cells hown)
        have hMm := hM.below hbm
        rw [HT.out] at hMm
        have hGm := hG.trans (Grew.of_below (bw := bw) hbm hbs)
        have hml : (misses l o).length ≤ 256 := by rw [misses_length]; omega
        have hlm : (L ++ bitsOf o 2 ++ bitsOf k 4 ++ rawBits (l.take o)).length ≤ 500010000 := by simp only [List.length_append, bitsOf_length, rawBits_length, List.length_take]; omega
        clear hM hcm hcr
        go_loopw [39] (fun v39 wq => ∃ (j : Nat) (u : Value), v39 = .int .i64 j ∧ j ≤ (misses l o).length ∧ Wr base wq bw (L ++ bitsOf o 2 ++ bitsOf k 4 ++ rawBits (l.take o) ++ riceAll k ((misses l o).take j)) u ∧ Grew base bw wm wq) (fun v39 _ => (misses l o).length - (intOf v39).toNat)
        case atStart => exact ⟨0, u, rfl, by omega, by simpa [riceAll] using hMm, Grew.refl _ _ _⟩
        case round =>
          obtain ⟨j, uj, rfl, hj, hMj, hGj⟩ := hrel
          by_cases hjt : j < (misses l o).length
          · have hown2 := Grew.ints hown hGj hMm.notInt
            obtain ⟨pm', capm', hpe, hcm2⟩ := miss_cells hown2
            simp only [Value.slice.injEq] at hpe
            obtain ⟨bq, oq, hpq, hcq⟩ := hcm2 (by omega)
            have c1 := hcq j hjt
            have hpp : pm = some ⟨bq, oq, none⟩ := hpe.1.trans hpq
            have y1 := misses_bd hs hjt
            have e4 : (j : Int) < ((misses l o).length : Int) := by omega
            have hrl := riceAll_take_bd hk15 (missFrom_bd hs o (l.length - o) o) j
            have hcb := cost_bd hk15 y1
            have hlr : ((L ++ bitsOf o 2 ++ bitsOf k 4 ++ rawBits (l.take o) ++ riceAll k ((misses l o).take j)).length : Int) + X (misses l o) j / 2 ^ k + 1 + k ≤ 1000000000 := by
              rw [List.length_append, Int.natCast_add]
              unfold cost at hcb
              rw [missFrom_length] at hrl
              have : (riceAll k ((misses l o).take j)).length = (riceAll k ((missFrom l o (l.length - o) o).take j)).length := rfl
              omega
            have HN := Lib.hid (show L ++ bitsOf o 2 ++ bitsOf k 4 ++ rawBits (l.take o) ++ riceAll k ((misses l o).take j) ++ riceBits k (X (misses l o) j) = L ++ bitsOf o 2 ++ bitsOf k 4 ++ rawBits (l.take o) ++ riceAll k ((misses l o).take (j + 1)) by rw [riceAll_snoc hjt, List.append_assoc])
            clear hcq hcm2 hown2 hpe hrl hcb
            subst hpp
            go_wp2_with (go_at_call 31; (with_reducible refine (rice_any base bw (X (misses l o) j) k _ uj _ hMj (by omega) hlr hk15).mono ?_); rintro e w5 ⟨rfl, u5, hM5, hG5⟩)
            go_roundw
            case rel => exact ⟨j + 1, u5, by go_num, by omega, HN.out ▸ hM5, hGj.trans hG5⟩
            case measure => simp [intOf]; omega
          · have e4 : ¬ (j : Int) < ((misses l o).length : Int) := by omega
            have HE := Lib.hid (show L ++ bitsOf o 2 ++ bitsOf k 4 ++ rawBits (l.take o) ++ riceAll k ((misses l o).take j) = L ++ bestBits l by
              rw [HBB.out, show (misses l o).take j = misses l o from List.take_of_length_le (by omega)]; simp only [List.append_assoc])
            go_wp2
            go_end0
            exact bitPost (HE.out ▸ hMj) (hGm.trans hGj)
  · have hol' : ¬ (o : Int) ≤ l.length := by omega
    go_wp2_with (first
      | (go_at_call 29; (with_reducible refine (HBEST.out _ hc.cells).mono ?_); rintro e w1 ⟨rfl, hb1⟩)
      | (go_at_call 13; (with_reducible refine (number_as base bw (o : Int) 2 2 rfl L v _ (h.below hb1) (by omega) (by omega) (by omega)).mono ?_); rintro e w2 ⟨rfl, u2, hM2, hG2⟩)
      | (go_at_call 13; (with_reducible refine (number_as base bw (k : Int) 4 4 rfl _ u2 _ hM2 hM24 (by omega) (by omega)).mono ?_); rintro e w3 ⟨rfl, u3, hM3, hG3⟩))
    have hG13 : Grew base bw w w3 := ((Grew.of_below hb1 hbase).trans hG2).trans hG3
    clear hM2 hb1 hG2 hG3
    go_loopw [24] (fun v24 wr => ∃ (i : Nat) (u : Value), v24 = .int .i64 i ∧ i ≤ l.length ∧ Wr base wr bw (L ++ bitsOf o 2 ++ bitsOf k 4 ++ rawBits (l.take i)) u ∧ Grew base bw w wr) (fun v24 _ => l.length - (intOf v24).toNat)
    case atStart => exact ⟨0, u3, rfl, by omega, by simpa [rawBits] using hM3, hG13⟩
    case round =>
      obtain ⟨i, u, rfl, hi, hM, hG⟩ := hrel
      have hlen : (L ++ bitsOf o 2 ++ bitsOf k 4 ++ rawBits (l.take i)).length ≤ 500010000 := by simp only [List.length_append, bitsOf_length, rawBits_length, List.length_take]; omega
      have hcr := hc.below hG.below
      by_cases hit : i < l.length
      · have hil : i < l.length := by omega
        obtain ⟨b, off, rfl, hcell⟩ := hcr.cells (by omega)
        have c1 := hcell i hil
        have x1 := X_bd hs i
        have e1 : (i : Int) < (l.length : Int) := by omega
        have e2 : (i : Int) < l.length := by omega
        have HN := Lib.hid (show L ++ bitsOf o 2 ++ bitsOf k 4 ++ rawBits (l.take i) ++ bitsOf (X l i + 32768) 16 = L ++ bitsOf o 2 ++ bitsOf k 4 ++ rawBits (l.take (i + 1)) by rw [rawBits_snoc hil, List.append_assoc])
        clear hcell
        go_wp2_with (go_at_call 13; (with_reducible refine (number_as base bw (X l i + 32768) 16 16 rfl _ u _ hM (by omega) (by omega) (by omega)).mono ?_); rintro e w4 ⟨rfl, u4, hM4, hG4⟩)
        go_roundw
        case rel => exact ⟨i + 1, u4, by go_num, by omega, HN.out ▸ hM4, hG.trans hG4⟩
        case measure => simp [intOf]; omega
      · have HT := Lib.hid (show l.take i = l.take o by
          have : i = l.length := by omega
          rw [List.take_of_length_le (by omega), List.take_of_length_le (by omega)])
        have hbs : base ≤ wr.heap.size := Nat.le_trans hbase hG.size
        go_wp2_with (go_at_call 30; (with_reducible refine (misses_any _ l cap o _ hcr.cells (by omega) (by omega) hs).mono ?_); rintro e wm ⟨v9, rfl, hown, hbm⟩; obtain ⟨pm, capm, rfl, hcm⟩ := miss_cells hown)
        have hMm := hM.below hbm
        rw [HT.out] at hMm
        have hGm := hG.trans (Grew.of_below (bw := bw) hbm hbs)
        have hml : (misses l o).length ≤ 256 := by rw [misses_length]; omega
        have hlm : (L ++ bitsOf o 2 ++ bitsOf k 4 ++ rawBits (l.take o)).length ≤ 500010000 := by simp only [List.length_append, bitsOf_length, rawBits_length, List.length_take]; omega
        clear hM hcm hcr
        go_loopw [39] (fun v39 wq => ∃ (j : Nat) (u : Value), v39 = .int .i64 j ∧ j ≤ (misses l o).length ∧ Wr base wq bw (L ++ bitsOf o 2 ++ bitsOf k 4 ++ rawBits (l.take o) ++ riceAll k ((misses l o).take j)) u ∧ Grew base bw wm wq) (fun v39 _ => (misses l o).length - (intOf v39).toNat)
        case atStart => exact ⟨0, u, rfl, by omega, by simpa [riceAll] using hMm, Grew.refl _ _ _⟩
        case round =>
          obtain ⟨j, uj, rfl, hj, hMj, hGj⟩ := hrel
          by_cases hjt : j < (misses l o).length
          · have hown2 := Grew.ints hown hGj hMm.notInt
            obtain ⟨pm', capm', hpe, hcm2⟩ := miss_cells hown2
            simp only [Value.slice.injEq] at hpe
            obtain ⟨bq, oq, hpq, hcq⟩ := hcm2 (by omega)
            have c1 := hcq j hjt
            have hpp : pm = some ⟨bq, oq, none⟩ := hpe.1.trans hpq
            have y1 := misses_bd hs hjt
            have e4 : (j : Int) < ((misses l o).length : Int) := by omega
            have hrl := riceAll_take_bd hk15 (missFrom_bd hs o (l.length - o) o) j
            have hcb := cost_bd hk15 y1
            have hlr : ((L ++ bitsOf o 2 ++ bitsOf k 4 ++ rawBits (l.take o) ++ riceAll k ((misses l o).take j)).length : Int) + X (misses l o) j / 2 ^ k + 1 + k ≤ 1000000000 := by
              rw [List.length_append, Int.natCast_add]
              unfold cost at hcb
              rw [missFrom_length] at hrl
              have : (riceAll k ((misses l o).take j)).length = (riceAll k ((missFrom l o (l.length - o) o).take j)).length := rfl
              omega
            have HN := Lib.hid (show L ++ bitsOf o 2 ++ bitsOf k 4 ++ rawBits (l.take o) ++ riceAll k ((misses l o).take j) ++ riceBits k (X (misses l o) j) = L ++ bitsOf o 2 ++ bitsOf k 4 ++ rawBits (l.take o) ++ riceAll k ((misses l o).take (j + 1)) by rw [riceAll_snoc hjt, List.append_assoc])
            clear hcq hcm2 hown2 hpe hrl hcb
            subst hpp
            go_wp2_with (go_at_call 31; (with_reducible refine (rice_any base bw (X (misses l o) j) k _ uj _ hMj (by omega) hlr hk15).mono ?_); rintro e w5 ⟨rfl, u5, hM5, hG5⟩)
            go_roundw
            case rel => exact ⟨j + 1, u5, by go_num, by omega, HN.out ▸ hM5, hGj.trans hG5⟩
            case measure => simp [intOf]; omega
          · have e4 : ¬ (j : Int) < ((misses l o).length : Int) := by omega
            have HE := Lib.hid (show L ++ bitsOf o 2 ++ bitsOf k 4 ++ rawBits (l.take o) ++ riceAll k ((misses l o).take j) = L ++ bestBits l by
              rw [HBB.out, show (misses l o).take j = misses l o from List.take_of_length_le (by omega)]; simp only [List.append_assoc])
            go_wp2
            go_end0
            exact bitPost (HE.out ▸ hMj) (hGm.trans hGj)
end Go.Proofs.Ytfoiadlaekknpaa.Co
namespace Go.Proofs.Ytfoiadlaekknpaa.Co
open Go.RowKit

def EncPost (w : World) (l : List Int) (e : Ending) (w' : World) : Prop := e = .returned (.tuple #[.string (enc l).1, .int .i64 (enc l).2]) ∧ Below w.heap.size w w'
theorem encPost {w w' : World} {l : List Int} {s : ByteArray} {c : Int} (h : enc l = (s, c)) (hb : Below w.heap.size w w') : EncPost w l (.returned (.tuple #[.string s, .int .i64 c])) w' := ⟨by rw [h], hb⟩

set_option maxHeartbeats 1000000 in
theorem encode_many (p : Option Addr) (l : List Int) (cap : Nat) (w : World) (h : 1048576 < l.length) (hl : l.length ≤ 9223372036854775807) :
    Calls Try.prog 7 #[.slice p l.length cap] w (EncPost w l) := by
  have HV := Lib.hid (show enc l = (⟨#[]⟩, 5) by unfold enc; rw [if_pos h])
  have h' : (1048576 : Int) < l.length := by omega
  go_enter Try.func7, Try.ntmps7
  go_wp2
  go_ret2
  exact encPost HV.out (Below.refl _ _)

set_option maxHeartbeats 4000000 in
theorem encode_bad (p : Option Addr) (l : List Int) (cap : Nat) (w : World) (h : l.length ≤ 1048576) (hc : Cells w p l) (hs : ¬ Small l) :
    Calls Try.prog 7 #[.slice p l.length cap] w (EncPost w l) := by
  have HV := Lib.hid (show enc l = (⟨#[]⟩, 3) by unfold enc; rw [if_neg (by omega), if_neg (by rw [smallB_iff]; exact hs)])
  have h' : ¬ (1048576 : Int) < l.length := by omega
  have HS := Lib.hid hs
  clear hs
  go_enter Try.func7, Try.ntmps7
  go_wp2
  go_loop [13] (fun v13 => ∃ k : Nat, v13 = .int .i64 k ∧ k ≤ l.length ∧ Hid (∀ i, i < k → -32768 ≤ X l i ∧ X l i ≤ 32767)) (fun v13 => l.length - (intOf v13).toNat)
  case atStart => exact ⟨0, rfl, by omega, fun i hi => absurd hi (by omega)⟩
  case round =>
    obtain ⟨k, rfl, hk, HK⟩ := hrel
    by_cases hkt : k < l.length
    · obtain ⟨b, o, rfl, hcell⟩ := hc (by omega)
      have c1 := hcell k hkt
      have e1 : (k : Int) < l.length := by omega
      clear hcell
      by_cases q : X l k < -32768
      · go_wp2
        go_ret2
        exact encPost HV.out (Below.refl _ _)
      · by_cases q2 : 32767 < X l k
        · go_wp2
          go_ret2
          exact encPost HV.out (Below.refl _ _)
        · have HN := Lib.hid (show ∀ i, i < k + 1 → -32768 ≤ X l i ∧ X l i ≤ 32767 from fun i hi => by
            by_cases hik : i = k
            · subst hik; omega
            · exact HK.out i (by omega))
          clear HK
          go_wp2
          go_round
          case rel => exact ⟨k + 1, by go_num, by omega, HN⟩
          case measure => simp [intOf]; omega
    · exact absurd (small_X.2 fun i hi => HK.out i (by omega)) HS.out

theorem wr_new {w : World} {t : TypeId} (ht : t = 36) : Wr w.heap.size (w.alloc (.cells #[.slice none 0 0, .int .i64 0] t)) w.heap.size [] (.slice none 0 0) := by
  subst ht
  exact ⟨by show (w.heap.push _)[w.heap.size]? = _; simp [nb], World.ownsRow_nil _ _ _ _, Nat.le_refl _⟩
theorem low_frame {base : Nat} {w : World} {p : Option Addr} {l : List Int} {b o : Nat} (h : Low base w p l) (hp : p = some ⟨b, o, none⟩) {t : Nat} (ht : 256 * t < l.length) : Low base w (some ⟨b, o + 256 * t, none⟩) (fr l t) := by
  obtain ⟨b', o', hp', hc⟩ := h.cells (by omega)
  rw [hp] at hp'
  simp only [Option.some.injEq, Addr.mk.injEq, and_true] at hp'
  obtain ⟨rfl, rfl⟩ := hp'
  refine ⟨fun _ => ⟨b, o + 256 * t, rfl, fun i hi => ?_⟩, fun a ha _ => ?_⟩
  · have := fr_length l t
    rw [X_fr hi, Nat.add_assoc]
    exact hc (256 * t + i) (by omega)
  · simp only [Option.some.injEq] at ha
    subst ha
    exact (show b < base from h.low _ hp (by omega))

theorem frame_as (base bw : Nat) (p : Option Addr) (l : List Int) (N cap : Nat) (hN : l.length = N) (L : List Bool) (v : Value) (w : World) (h : Wr base w bw L v) (hc : Low base w p l) (hl : l.length ≤ 256) (hs : Small l) (hL : L.length ≤ 500000000) (hbase : base ≤ w.heap.size) :
    Calls Try.prog 14 #[.pointer (some ⟨bw, 0, none⟩), .slice p N cap] w (BitPost base bw w (L ++ bestBits l)) := hN ▸ frame_any base bw p l cap L v w h hc hl hs hL hbase
theorem own_bytes {w : World} {base g c cap : Nat} {L : List Bool} (h : w.ownsRow base 5 1 (.slice (some ⟨g, 0, none⟩) c cap) c (rowsOf (byteV L) c)) (hc : c = nb L) :
    ∀ i, i < c → w.cell? ⟨g, 0 + i, none⟩ = some (.int .u8 ((packN L).getD i 0)) := fun i hi => by
  rw [Nat.zero_add, h.cellAt i (by omega)]
  have := rowsOf_get (byteV_len L) (c := c) (i := i) (j := 0) hi (by omega)
  rw [Nat.mul_one, Nat.add_zero] at this
  rw [this]
  unfold packN byteV
  rw [List.getD_eq_getElem?_getD, List.getElem?_map, List.getElem?_range (by omega)]
  rfl

set_option maxHeartbeats 8000000 in
theorem encode_ok (p : Option Addr) (l : List Int) (cap : Nat) (w : World) (h : l.length ≤ 1048576) (hcap : l.length ≤ cap) (hc : Low w.heap.size w p l) (hs : Small l) :
    Calls Try.prog 7 #[.slice p l.length cap] w (EncPost w l) := by
  have HV := Lib.hid (show enc l = (packS (encBits l), 0) by unfold enc; rw [if_neg (by omega), if_pos (smallB_iff.2 hs)])
  have h' : ¬ (1048576 : Int) < l.length := by omega
  have HS := Lib.hid hs
  clear hs
  go_enter Try.func7, Try.ntmps7
  go_wp2
  go_loop [13] (fun v13 => ∃ k : Nat, v13 = .int .i64 k ∧ k ≤ l.length) (fun v13 => l.length - (intOf v13).toNat)
  case atStart => exact ⟨0, rfl, by omega⟩
  case round =>
    obtain ⟨k, rfl, hk⟩ := hrel
    by_cases hkt : k < l.length
    · obtain ⟨b, o, rfl, hcell⟩ := hc.cells (by omega)
      have c1 := hcell k hkt
      have e1 : (k : Int) < l.length := by omega
      have x1 := X_bd HS.out k
      clear hcell
      go_wp2
      go_round
      case rel => exact ⟨k + 1, by go_num, by omega⟩
      case measure => simp [intOf]; omega
    · have e1 : ¬ (k : Int) < l.length := by omega
      go_wp2_with (go_at_call 13; (with_reducible refine (number_as w.heap.size w.heap.size (l.length : Int) 24 24 rfl [] (.slice none 0 0) _ (wr_new rfl) (by simp) (by omega) (by omega)).mono ?_); rintro e w1 ⟨rfl, u1, hM1, hG1⟩)
      have hGw : Grew w.heap.size w.heap.size w w1 := (Grew.of_below (below_new (Below.refl _ _) _) (Nat.le_refl _)).trans hG1
      clear hG1
      go_loopw [7] (fun v7 wr => ∃ (t : Nat) (u : Value), v7 = .int .i64 ((256 * t : Nat) : Int) ∧ 256 * t ≤ l.length + 255 ∧ Wr w.heap.size wr w.heap.size (bitsOf l.length 24 ++ encTo l t) u ∧ Grew w.heap.size w.heap.size w wr) (fun v7 _ => l.length + 256 - (intOf v7).toNat)
      case atStart => exact ⟨0, u1, rfl, by omega, by simpa [encTo] using hM1, hGw⟩
      case round =>
        obtain ⟨t, u, rfl, ht, hM, hG⟩ := hrel
        have hlen : (bitsOf l.length 24 ++ encTo l t).length ≤ 100000000 := by
          have := encTo_le HS.out t
          rw [List.length_append, bitsOf_length]; omega
        by_cases htl : 256 * t < l.length
        · obtain ⟨b, o, rfl, hcell⟩ := hc.cells (by omega)
          clear hcell
          have e2 : ((256 * t : Nat) : Int) < l.length := by omega
          have e3 : 256 * (t : Int) < l.length := by omega
          have hlf := low_frame (hc.below hG.below) rfl htl
          have hfl := fr_length l t
          have HN := Lib.hid (show bitsOf l.length 24 ++ encTo l t ++ bestBits (fr l t) = bitsOf l.length 24 ++ encTo l (t + 1) by rw [encTo, List.append_assoc])
          have hbs : w.heap.size ≤ wr.heap.size := hG.size
          by_cases hm : 256 * t + 256 ≤ l.length
          · have f1 : (256 : Int) * t + 256 ≤ l.length := by omega
            go_wp2_with (go_at_call 14; (with_reducible refine (frame_as w.heap.size w.heap.size _ (fr l t) 256 _ (by omega) _ u _ hM hlf (by omega) (HS.out.frame t) (by omega) hbs).mono ?_); rintro e w2 ⟨rfl, u2, hM2, hG2⟩)
            go_roundw
            case rel => exact ⟨t + 1, u2, (by congr 1 <;> omega), by omega, HN.out ▸ hM2, hG.trans hG2⟩
            case measure => simp [intOf]; omega
          · have f1 : ¬ (256 : Int) * t + 256 ≤ l.length := by omega
            go_wp2_with (go_at_call 14; (with_reducible refine (frame_as w.heap.size w.heap.size _ (fr l t) (l.length - 256 * t) _ (by omega) _ u _ hM hlf (by omega) (HS.out.frame t) (by omega) hbs).mono ?_); rintro e w2 ⟨rfl, u2, hM2, hG2⟩)
            go_roundw
            case rel => exact ⟨t + 1, u2, (by congr 1 <;> omega), by omega, HN.out ▸ hM2, hG.trans hG2⟩
            case measure => simp [intOf]; omega
        · have e2 : ¬ 256 * (t : Int) < l.length := by omega
          have HT := Lib.hid (show bitsOf l.length 24 ++ encTo l t = encBits l by unfold encBits; rw [show (l.length + 255) / 256 = t by omega])
          have hnb : 0 < nb (bitsOf l.length 24 ++ encTo l t) := by unfold nb; rw [List.length_append, bitsOf_length]; omega
          have hown := hM.own
          have hblk := hM.blk
          obtain ⟨g, capg, cur, rfl, _, _⟩ := own_slice hown hnb
          have c0 := blk_cell hblk 0 _ rfl
          rw [HT.out] at hown c0
          have kc := run_convert_bytes_arg (P := Try.prog) wr 34 5 Try.underlying34 Try.underlying5 g 0 (nb (encBits l)) capg (packN (encBits l)) (by unfold packN; simp) (own_bytes hown rfl) 9 Try.underlying9
          clear hblk hown hM
          go_wp2
          go_ret2
          exact encPost HV.out hG.below
theorem encode_any (p : Option Addr) (l : List Int) (cap : Nat) (w : World) (hcap : l.length ≤ cap) (hl : l.length ≤ 9223372036854775807) (hc : Cells w p l) :
    Calls Try.prog 7 #[.slice p l.length cap] w (EncPost w l) := by
  by_cases h : 1048576 < l.length
  · exact encode_many p l cap w h (by omega)
  · by_cases hs : Small l
    · exact encode_ok p l cap w (by omega) hcap ⟨hc, fun a ha hn => by
        obtain ⟨b, o, hp, hcell⟩ := hc hn
        rw [ha] at hp
        simp only [Option.some.injEq] at hp
        subst hp
        exact World.block_lt_of_cell? w _ (hcell 0 hn)⟩ hs
    · exact encode_bad p l cap w (by omega) hc hs
end Go.Proofs.Ytfoiadlaekknpaa.Co
namespace Go.Proofs.Ytfoiadlaekknpaa.Pm
open Go

/-- Cells, as a list of trees. -/
def RL (P : Program) (c : Cx) (cells : List PV) (arr : Array Value) : Prop := arr.size = cells.length ∧ ∀ i, i < cells.length → Rep P c (cells.getD i P0) (arr.getD i undef)
def pcells : PV → List PV
  | .agg cs => cs
  | .av v => v.cells.toList.map .av
  | p => [p]
theorem avs_rl {P : Program} {c : Cx} (vs : Array Value) : RL P c (vs.toList.map .av) vs := by
  refine ⟨by simp, fun i hi => ?_⟩
  have h : i < vs.size := by simpa using hi
  simp only [List.getD_eq_getElem?_getD, List.getElem?_map, Array.getElem?_toList, Array.getElem?_eq_getElem h, Option.map_some, Option.getD_some, Array.getD_eq_getD_getElem?]
  exact .sh (.av _)
theorem one_rl {P : Program} {c : Cx} {p : PV} {v : Value} (h : Rep P c p v) : RL P c [p] #[v] := by
  refine ⟨rfl, fun i hi => ?_⟩
  obtain rfl : i = 0 := by simpa using hi
  exact h
theorem pcells_rl {P : Program} {c : Cx} {p : PV} {v : Value} (h : Rep P c p v) : RL P c (pcells p) v.cells := by
  cases p with
  | av x => rw [rep_av h]; exact avs_rl _
  | agg cs =>
    obtain ⟨vs, rfl, h1, h2⟩ := rep_agg h
    exact ⟨h1, h2⟩
  | tup cs =>
    obtain ⟨vs, rfl, h1, h2⟩ := rep_tup h
    exact one_rl h
  | osl id off len =>
    obtain ⟨a, cap, hv⟩ := osl_len h
    subst hv
    exact one_rl h
  | opt id off =>
    obtain ⟨b, T, _, hv⟩ := rep_opt h
    subst hv
    exact one_rl h
  | ssl cs off len =>
    obtain ⟨a, cap, hv⟩ := ssl_len h
    subst hv
    exact one_rl h
  | spt cs off =>
    obtain ⟨b, a, vf, hv, _⟩ := rep_spt h
    subst hv
    exact one_rl h
  | fn f cs ds =>
    obtain ⟨vs, us, hv, _⟩ := rep_fn h
    subst hv
    exact one_rl h
theorem RL.mono {P : Program} {c c' : Cx} (hk : Keep c c') {cells : List PV} {arr : Array Value} (h : RL P c cells arr) : RL P c' cells arr := ⟨h.1, fun i hi => (h.2 i hi).mono hk⟩
theorem RL.append {P : Program} {c : Cx} {l m : List PV} {a b : Array Value} (h : RL P c l a) (k : RL P c m b) : RL P c (l ++ m) (a ++ b) := by
  refine ⟨by simp [h.1, k.1], fun i hi => ?_⟩
  have ha := h.1
  by_cases e : i < l.length
  · have := h.2 i e
    have h2 : i < a.size := by omega
    simpa [List.getD_eq_getElem?_getD, Array.getD_eq_getD_getElem?, List.getElem?_append_left e, Array.getElem?_append_left h2] using this
  · have h3 : l.length ≤ i := by omega
    have h4 : a.size ≤ i := by omega
    have := k.2 (i - l.length) (by simp at hi; omega)
    rw [← ha] at this
    simpa [List.getD_eq_getElem?_getD, Array.getD_eq_getD_getElem?, List.getElem?_append_right h3, Array.getElem?_append_right h4, ha] using this

/-- Other cells put over some. -/
def splice (cs : List PV) (off : Nat) (ps : List PV) : List PV := cs.take off ++ ps ++ cs.drop (off + ps.length)
theorem splice_length {cs ps : List PV} {off : Nat} (h : off + ps.length ≤ cs.length) : (splice cs off ps).length = cs.length := by simp [splice]; omega
theorem splice_get {cs ps : List PV} {off : Nat} (h : off + ps.length ≤ cs.length) (i : Nat) : (splice cs off ps).getD i P0 = if off ≤ i ∧ i < off + ps.length then ps.getD (i - off) P0 else cs.getD i P0 := by
  unfold splice
  simp only [List.getD_eq_getElem?_getD]
  by_cases h1 : i < off
  · rw [if_neg (by omega), List.append_assoc, List.getElem?_append_left (by simp; omega), List.getElem?_take_of_lt h1]
  · by_cases h2 : i < off + ps.length
    · rw [if_pos ⟨by omega, h2⟩, List.append_assoc, List.getElem?_append_right (by simp; omega), List.getElem?_append_left (by simp; omega)]
      simp only [List.length_take]
      rw [Nat.min_eq_left (by omega)]
    · rw [if_neg (by omega), List.getElem?_append_right (by simp only [List.length_append, List.length_take]; omega), List.getElem?_drop]
      simp only [List.length_append, List.length_take]
      rw [Nat.min_eq_left (by omega), show off + ps.length + (i - (off + ps.length)) = i by omega]
theorem ones_splice {cs ps : List PV} {off : Nat} (h : ones cs) (k : ones ps) : ones (splice cs off ps) := by
  intro p hp
  simp only [splice, List.mem_append] at hp
  rcases hp with (hp | hp) | hp
  · exact h p (List.mem_of_mem_take hp)
  · exact k p hp
  · exact h p (List.mem_of_mem_drop hp)
theorem fold_sets : ∀ (l : List Value) (off k : Nat) (cs : Array Value), off + k + l.length ≤ cs.size →
    ((l.zipIdx k).foldl (fun cs x => cs.setIfInBounds (off + x.2) x.1) cs).size = cs.size ∧
      ∀ i, ((l.zipIdx k).foldl (fun cs x => cs.setIfInBounds (off + x.2) x.1) cs).getD i undef = if off + k ≤ i ∧ i < off + k + l.length then l.getD (i - (off + k)) undef else cs.getD i undef
  | [], off, k, cs, _ => by
    refine ⟨rfl, fun i => ?_⟩
    rw [if_neg (by simp only [List.length_nil]; omega)]
    rfl
  | v :: l, off, k, cs, h => by
    simp only [List.zipIdx_cons, List.foldl_cons, List.length_cons] at h ⊢
    obtain ⟨h1, h2⟩ := fold_sets l off (k + 1) (cs.setIfInBounds (off + k) v) (by simp; omega)
    refine ⟨h1.trans (by simp), fun i => ?_⟩
    rw [h2 i]
    by_cases e1 : off + (k + 1) ≤ i ∧ i < off + (k + 1) + l.length
    · rw [if_pos e1, if_pos (by omega), show i - (off + k) = (i - (off + (k + 1))) + 1 by omega]
      rfl
    · rw [if_neg e1]
      by_cases e2 : i = off + k
      · subst e2
        rw [if_pos (by omega), Nat.sub_self]
        have h3 : off + k < cs.size := by omega
        simp [Array.getD_eq_getD_getElem?, h3]
      · rw [if_neg (by omega), Array.getD_eq_getD_getElem?, Array.getElem?_setIfInBounds_ne (Ne.symm e2), Array.getD_eq_getD_getElem?]
theorem splice_rl {P : Program} {c : Cx} {cs ps : List PV} {off : Nat} {arr vs : Array Value} (h : RL P c cs arr) (k : RL P c ps vs) (hl : off + ps.length ≤ cs.length) :
    RL P c (splice cs off ps) (vs.zipIdx.foldl (fun cs x => cs.setIfInBounds (off + x.2) x.1) arr) := by
  have e : vs.zipIdx.foldl (fun cs x => cs.setIfInBounds (off + x.2) x.1) arr = (vs.toList.zipIdx 0).foldl (fun cs x => cs.setIfInBounds (off + x.2) x.1) arr := by
    rw [← Array.foldl_toList, Array.toList_zipIdx]
  obtain ⟨h1, h2⟩ := fold_sets vs.toList off 0 arr (by have := h.1; have := k.1; simp; omega)
  rw [e]
  refine ⟨by rw [h1, splice_length hl]; exact h.1, fun i hi => ?_⟩
  rw [splice_length hl] at hi
  rw [h2 i, splice_get hl i]
  simp only [Nat.add_zero, Array.length_toList, k.1]
  by_cases e1 : off ≤ i ∧ i < off + ps.length
  · rw [if_pos e1, if_pos e1]
    have := k.2 (i - off) (by omega)
    simpa [List.getD_eq_getElem?_getD, Array.getD_eq_getD_getElem?] using this
  · rw [if_neg e1, if_neg e1]
    exact h.2 i hi

/-! ### parts -/
def RP (P : Program) (c : Cx) : List (Nat × PV) → List (Nat × Value) → Prop
  | [], [] => True
  | (i, p) :: l, (j, v) :: m => i = j ∧ Rep P c p v ∧ RP P c l m
  | _, _ => False
def opds : List (Nat × Operand) → (List (Nat × PV) → Plan) → Plan
  | [], k => k []
  | (i, x) :: l, k => opd x fun p => opds l fun r => k ((i, p) :: r)
theorem Res.opds {E : Env} {nx : Nat → Prop} {c : Cx} {g : St} {a : Act} (hi : Inv E nx c g a) : ∀ {l : List (Nat × Operand)} {k : List (Nat × PV) → Plan} {p : PV} {wb : L}, Res g (opds l k) p wb →
    ∃ ps, RP E.P c ps (l.map fun x => (x.1, a.eval x.2)) ∧ Res g (k ps) p wb
  | [], k, p, wb, h => ⟨[], trivial, h⟩
  | (i, x) :: l, k, p, wb, h => by
    obtain ⟨q, hq, h1⟩ := Res.opd hi h
    obtain ⟨ps, h2, h3⟩ := Res.opds hi h1
    exact ⟨(i, q) :: ps, ⟨rfl, hq, h2⟩, h3⟩
def pfill (place : Nat → Option (Nat × Nat)) (cells : List PV) : List (Nat × PV) → Option (List PV)
  | [] => some cells
  | (i, p) :: r => match place i with
    | none => none
    | some (off, size) => match Nat.beq (pcells p).length size, Nat.ble (off + (pcells p).length) cells.length with
      | true, true => pfill place (splice cells off (pcells p)) r
      | _, _ => none
theorem pfill_ok {P : Program} {c : Cx} {place : Nat → Option (Nat × Nat)} : ∀ {ps : List (Nat × PV)} {vs : List (Nat × Value)} {cells : List PV} {arr : Array Value} {cells' : List PV}, RP P c ps vs → RL P c cells arr → pfill place cells ps = some cells' →
    ∃ arr', Instr.fill place arr vs = some arr' ∧ RL P c cells' arr'
  | [], [], cells, arr, cells', _, h, hf => by
    simp only [pfill, Option.some.injEq] at hf
    subst hf
    exact ⟨arr, rfl, h⟩
  | (i, p) :: ps, (j, v) :: vs, cells, arr, cells', hp, h, hf => by
    obtain ⟨rfl, hr, hp'⟩ := hp
    simp only [pfill] at hf
    split at hf
    · cases hf
    · rename_i off size hpl
      split at hf
      · rename_i h1 h2
        have h1 := Nat.eq_of_beq_eq_true h1
        have h2 := Nat.le_of_ble_eq_true h2
        have hc := pcells_rl hr
        obtain ⟨arr', h3, h4⟩ := pfill_ok hp' (splice_rl h hc h2) hf
        refine ⟨arr', ?_, h4⟩
        have e1 : ¬ (v.cells.size ≠ size ∨ off + v.cells.size > arr.size) := by
          have := hc.1; have := h.1; omega
        unfold Instr.fill
        simp only [hpl, Bool.or_eq_true, decide_eq_true_eq, e1, if_false]
        exact h3
      · cases hf
  | [], _ :: _, _, _, _, hp, _, _ => hp.elim
  | _ :: _, [], _, _, _, hp, _, _ => hp.elim

def zeroP (P : Program) (T : TypeId) : Option (List PV) := match P.info? T with
  | some i => match i.zero with | some z => some (z.cells.toList.map .av) | none => none
  | none => none
theorem zeroP_ok {P : Program} {T : TypeId} {zs : List PV} (h : zeroP P T = some zs) : ∃ i z, P.info? T = some i ∧ i.zero = some z ∧ zs = z.cells.toList.map .av := by
  unfold zeroP at h
  cases hi : P.info? T with
  | none => simp [hi] at h
  | some i =>
    cases hz : i.zero with
    | none => simp [hi, hz] at h
    | some z =>
      simp only [hi, hz, Option.some.injEq] at h
      exact ⟨i, z, rfl, hz, h.symm⟩
def placesP (P : Program) : List Field → Option (List (Nat × Nat))
  | [] => some []
  | f :: fs => match P.info? f.type, placesP P fs with
    | some i, some r => some ((f.offset, i.size) :: r)
    | _, _ => none
theorem placesP_ok {P : Program} : ∀ {fs : List Field} {pl : List (Nat × Nat)}, placesP P fs = some pl → fs.mapM (fun f => (P.info? f.type).map fun i => (f.offset, i.size)) = some pl
  | [], pl, h => by simp only [placesP, Option.some.injEq] at h; subst h; rfl
  | f :: fs, pl, h => by
    simp only [placesP] at h
    split at h
    · rename_i i r hi hr
      simp only [Option.some.injEq] at h
      subst h
      simp [List.mapM_cons, hi, placesP_ok hr]
    · cases h
def aBuild (P : Program) (T : TypeId) (parts : List (Nat × Operand)) : Plan := opds parts fun ps => match zeroP P T, P.underlying T with
  | some zs, some (.struct fs) => match placesP P fs.toList with
    | some pl => match pfill (pl.toArray[·]?) zs ps with | some cs => .done (.agg cs) [] | none => .fail
    | none => .fail
  | some zs, some (.array _ e) => match P.info? e with
    | some ie => match pfill (fun i => some (i * ie.size, ie.size)) zs ps with | some cs => .done (.agg cs) [] | none => .fail
    | none => .fail
  | _, _ => .fail
theorem aBuild_ok {E : Env} {o : Oper} {id : Nat} {T : TypeId} {parts : Array (Nat × Operand)} (ho : o.op = .build T parts) (hd : ∀ x, o.dst = some x → x < E.n) : ActOk E o id (aBuild E.P T parts.toList) := by
  intro g p wb h nx c a K Q hn hI hK
  obtain ⟨ps, hp, h1⟩ := Res.opds hI h
  have hval : ∀ arr : Array Value, E.P.built T ((parts.map fun x => (x.1, a.eval x.2)).toList) = some arr → (execOp a.eval o).run E.P c.w = .ok (.value (.agg arr)) c.w := fun arr hb => by
    have := run_build (P := E.P) c.w T (parts.map fun x => (x.1, a.eval x.2)) arr hb
    simp only [execOp, ho, Sem.run_bind, this, Result.andThen_ok]
    rfl
  split at h1
  · rename_i zs fs hz hu
    obtain ⟨i, z, hi, hz', rfl⟩ := zeroP_ok hz
    split at h1
    · rename_i pl hpl
      split at h1
      · rename_i cs hf
        obtain ⟨rfl, rfl⟩ := Res.done h1
        obtain ⟨arr, h2, h3⟩ := pfill_ok hp (avs_rl z.cells) hf
        exact pure_step hd hI hK (.agg h3.1 h3.2) (hval arr (by simp only [Program.built, hi, hu, hz', placesP_ok hpl]; simpa using h2))
      · exact (Res.fail h1).elim
    · exact (Res.fail h1).elim
  · rename_i zs n e hz hu
    obtain ⟨i, z, hi, hz', rfl⟩ := zeroP_ok hz
    split at h1
    · rename_i ie hie
      split at h1
      · rename_i cs hf
        obtain ⟨rfl, rfl⟩ := Res.done h1
        obtain ⟨arr, h2, h3⟩ := pfill_ok hp (avs_rl z.cells) hf
        exact pure_step hd hI hK (.agg h3.1 h3.2) (hval arr (by simp only [Program.built, hi, hu, hz', hie]; simpa using h2))
      · exact (Res.fail h1).elim
    · exact (Res.fail h1).elim
  · exact (Res.fail h1).elim

/-! ### new blocks -/
/-- An operation that makes one block and yields what leads there. -/
theorem new_step {E : Env} {nx : Nat → Prop} {c : Cx} {g : St} {a : Act} {o : Oper} {id : Nat} {K : Act → World → Prop} {Q : Exit → Act → World → Prop} {T : TypeId} {cells : List PV} {arr : Array Value} {p : PV} {v : Value} {w' : World}
    (hd : ∀ x, o.dst = some x → x < E.n) (hn : ∀ t, t < 8 → ¬ nx (id + t)) (hI : Inv E nx c g a)
    (hK : ∀ c' a', Inv E (fun j => nx j ∨ (id ≤ j ∧ j < id + 8)) c' (over (wd o.dst p) (over [(kb id, some (.blk T cells))] g)) a' → K a' c'.w)
    (hw : w'.heap = c.w.heap.push (.cells arr T (0, 0))) (hos : w'.os = c.w.os) (htp : w'.tape = c.w.tape) (hou : w'.output = c.w.output)
    (ho : ones cells) (hl : cells.length ≤ arr.size) (hrl : ∀ j, j < cells.length → Rep E.P c (cells.getD j P0) (arr.getD j undef))
    (hv : ∀ own, own id = some (some c.w.heap.size, T) → Rep E.P ⟨w', c.S, own⟩ p v) (hr : (execOp a.eval o).run E.P c.w = .ok (.value v) w') : o.wp E.P a c.w K Q := by
  obtain ⟨hk, hh⟩ := heap_new hI.toHeap (hn 0 (by decide)) T arr cells w' hw hos htp hou ho hl hrl
  exact ow_val hr (hK _ _ (Inv.put hI hk _ (lk_b_s id _) { hh with ids := fun i x hx => (hh.ids i x hx).imp (fun h => h) fun h => (by omega) } o.dst hd fun _ => hv _ setOwn_same))
def newP (T : TypeId) (cells : List PV) (id : Nat) (p : PV) : Plan := match cells.all PV.one with
  | true => .done p [(kb id, some (.blk T cells))]
  | false => .fail
theorem newP_ok {T : TypeId} {cells : List PV} {id : Nat} {q p : PV} {g : St} {wb : L} (h : Res g (newP T cells id q) p wb) : ones cells ∧ p = q ∧ wb = [(kb id, some (.blk T cells))] := by
  unfold newP at h
  split at h
  · rename_i ha
    obtain ⟨rfl, rfl⟩ := Res.done h
    exact ⟨fun p hp => List.all_eq_true.1 ha p hp, rfl, rfl⟩
  · exact (Res.fail h).elim
def aAlloc (P : Program) (T : TypeId) (id : Nat) : Plan := match zeroP P T with
  | some zs => newP T zs id (.opt id 0)
  | none => .fail
theorem aAlloc_ok {E : Env} {o : Oper} {id : Nat} {T : TypeId} (ho : o.op = .alloc T) (hd : ∀ x, o.dst = some x → x < E.n) : ActOk E o id (aAlloc E.P T id) := by
  intro g p wb h nx c a K Q hn hI hK
  unfold aAlloc at h
  split at h
  · rename_i zs hz
    obtain ⟨i, z, hi, hz', rfl⟩ := zeroP_ok hz
    obtain ⟨hone, rfl, rfl⟩ := newP_ok h
    refine new_step (w' := c.w.alloc (.cells z.cells T)) hd hn hI hK rfl rfl rfl rfl hone (by simp) (avs_rl z.cells).2 (v := .pointer (some ⟨c.w.heap.size, 0, none⟩)) (fun own h => .opt h) ?_
    simp [execOp, ho, Instr.alloc, zeroValue, typeInfo, hi, hz', newVar, newRow]
  · exact (Res.fail h).elim
def aBox (T : TypeId) (x : Operand) (id : Nat) : Plan := opd x fun p => newP T (pcells p) id (.opt id 0)
theorem aBox_ok {E : Env} {o : Oper} {id : Nat} {T : TypeId} {x : Operand} (ho : o.op = .box T x) (hd : ∀ x, o.dst = some x → x < E.n) : ActOk E o id (aBox T x id) := by
  intro g p wb h nx c a K Q hn hI hK
  obtain ⟨q, hq, h1⟩ := Res.opd hI h
  obtain ⟨hone, rfl, rfl⟩ := newP_ok h1
  have hrl := pcells_rl hq
  refine new_step (w' := c.w.alloc (.cells (a.eval x).cells T)) hd hn hI hK rfl rfl rfl rfl hone (by have := hrl.1; omega) hrl.2 (v := .pointer (some ⟨c.w.heap.size, 0, none⟩)) (fun own h => .opt h) ?_
  simp [execOp, ho, Instr.box, newVar, newRow]
/-- n times the zero of a type. -/
def zeros (zs : List PV) : Nat → List PV
  | 0 => []
  | n + 1 => zs ++ zeros zs n
theorem zeros_length (zs : List PV) : ∀ n, (zeros zs n).length = n * zs.length
  | 0 => by simp [zeros]
  | n + 1 => by rw [zeros, List.length_append, zeros_length zs n, Nat.succ_mul]; omega
theorem zeros_get (zs : List PV) (hz : 0 < zs.length) : ∀ (n i : Nat), i < n * zs.length → (zeros zs n).getD i P0 = zs.getD (i % zs.length) P0
  | 0, i, h => by simp at h
  | n + 1, i, h => by
    rw [zeros, List.getD_eq_getElem?_getD]
    by_cases e : i < zs.length
    · rw [List.getElem?_append_left e, Nat.mod_eq_of_lt e, List.getD_eq_getElem?_getD]
    · have h' : i < n * zs.length + zs.length := by rw [Nat.succ_mul] at h; exact h
      have h2 : (i - zs.length) % zs.length = i % zs.length := (Nat.mod_eq_sub_mod (by omega)).symm
      rw [List.getElem?_append_right (by omega), ← List.getD_eq_getElem?_getD, zeros_get zs hz n (i - zs.length) (by omega), h2]
theorem ones_zeros {zs : List PV} (h : ones zs) : ∀ n, ones (zeros zs n)
  | 0 => fun p hp => by cases hp
  | n + 1 => fun p hp => by
    rw [zeros, List.mem_append] at hp
    rcases hp with hp | hp
    · exact h p hp
    · exact ones_zeros h n p hp
theorem made_rl {P : Program} {c : Cx} {z : Value} (n m : Nat) (hm : m = n * z.cells.size) (hz : 0 < z.cells.size) : RL P c (zeros (z.cells.toList.map .av) n) ((Array.range m).map (z.cells[· % z.cells.size]!)) := by
  subst hm
  refine ⟨by rw [zeros_length]; simp, fun i hi => ?_⟩
  rw [zeros_length] at hi
  have hi' : i < n * z.cells.size := by simpa using hi
  rw [zeros_get _ (by simpa using hz) n i hi]
  have h1 : i % z.cells.size < z.cells.size := Nat.mod_lt _ hz
  have h2 := (avs_rl (P := P) (c := c) z.cells).2 (i % z.cells.size) (by simpa using h1)
  have e : ((Array.range (n * z.cells.size)).map (z.cells[· % z.cells.size]!)).getD i undef = z.cells.getD (i % z.cells.size) undef := by
    rw [Array.getD_eq_getD_getElem?, Array.getD_eq_getD_getElem?]
    simp [hi', h1]
  rw [e]
  simpa using h2
def aBuildSlice (P : Program) (T : TypeId) (len : Nat) (parts : List (Nat × Operand)) (id : Nat) : Plan := opds parts fun ps => match P.underlying T with
  | some (.slice e) => match P.info? e, zeroP P e with
    | some ie, some zs => match Nat.ble (len * ie.size) 16777216, Nat.beq ie.size zs.length, Nat.ble 1 zs.length with
      | true, true, true => match pfill (fun i => some (i * ie.size, ie.size)) (zeros zs len) ps with
        | some cs => newP e cs id (.osl id 0 len)
        | none => .fail
      | _, _, _ => .fail
    | _, _ => .fail
  | _ => .fail
theorem RP_cast {P : Program} {c : Cx} {ps : List (Nat × PV)} {parts : Array (Nat × Operand)} {a : Act} (h : RP P c ps (parts.toList.map fun x => (x.1, a.eval x.2))) : RP P c ps ((parts.map fun x => (x.1, a.eval x.2)).toList) := by
  simpa using h
theorem aBuildSlice_ok {E : Env} {o : Oper} {id : Nat} {T : TypeId} {len : Nat} {parts : Array (Nat × Operand)} (ho : o.op = .buildSlice T len parts) (hd : ∀ x, o.dst = some x → x < E.n) : ActOk E o id (aBuildSlice E.P T len parts.toList id) := by
  intro g p wb h nx c a K Q hn hI hK
  obtain ⟨ps, hp, h1⟩ := Res.opds hI h
  split at h1
  · rename_i e hu
    split at h1
    · rename_i ie zs hie hz
      obtain ⟨i, z, hi, hz', rfl⟩ := zeroP_ok hz
      rw [hie] at hi
      cases hi
      split at h1
      · rename_i h2 h3 h4
        have h2 := Nat.le_of_ble_eq_true h2
        have h3 := Nat.eq_of_beq_eq_true h3
        have h4 := Nat.le_of_ble_eq_true h4
        simp only [List.length_map, Array.length_toList] at h3 h4
        split at h1
        · rename_i cs hf
          obtain ⟨hone, rfl, rfl⟩ := newP_ok h1
          obtain ⟨arr, h5, h6⟩ := pfill_ok (RP_cast hp) (made_rl len (len * ie.size) (by rw [h3]) h4) hf
          refine new_step (arr := arr) (w' := c.w.alloc (.cells arr e)) hd hn hI hK rfl rfl rfl rfl hone (by have := h6.1; omega) h6.2 (v := .slice (some ⟨c.w.heap.size, 0, none⟩) len len) (fun own hw => .osl hw (.inr ⟨_, len, arr, rfl, rfl, alloc_heap_new _ _, Nat.le_refl _, ?_⟩)) ?_
          · have h7 : cs.length = len * ie.size := by
              have : ∀ {place : Nat → Option (Nat × Nat)} {ps : List (Nat × PV)} {cells cells' : List PV}, pfill place cells ps = some cells' → cells'.length = cells.length := by
                intro place ps
                induction ps with
                | nil => intro cells cells' h; simp only [pfill, Option.some.injEq] at h; rw [h]
                | cons x ps ih =>
                  obtain ⟨i, p⟩ := x
                  intro cells cells' h
                  simp only [pfill] at h
                  split at h
                  · cases h
                  · split at h
                    · rename_i q1 q2
                      rw [ih h, splice_length (Nat.le_of_ble_eq_true q2)]
                    · cases h
              rw [this hf, zeros_length]
              simp [h3]
            rw [cellsOf_info hie, h6.1, h7]
            omega
          · have hr := run_buildSlice (P := E.P) c.w T e len (parts.map fun x => (x.1, a.eval x.2)) arr ie z hu hie hz' (by omega)
            by_cases h0 : len * ie.size = 0
            · have hlen : len = 0 := by
                rcases Nat.mul_eq_zero.1 h0 with h | h
                · exact h
                · omega
              subst hlen
              have h5' : Instr.fill (fun i => some (i * ie.size, ie.size)) #[] (parts.map fun x => (x.1, a.eval x.2)).toList = some arr := by
                have h9 : (Array.range 0).map (z.cells[· % z.cells.size]!) = #[] := by simp [Array.range_zero']
                rw [Nat.zero_mul, h9] at h5
                exact h5
              have h8 : (Instr.buildSlice T 0 (parts.map fun x => (x.1, a.eval x.2))).run E.P c.w = .ok (.slice (some ⟨c.w.heap.size, 0, none⟩) 0 0) (c.w.alloc (.cells arr e)) := by
                simp only [Instr.buildSlice, Sem.run_bind, run_underlying hu, Result.andThen_ok, run_size hie]
                simp [Array.range_zero', newRow] at h5' ⊢
                simp [h5']
              simp only [execOp, ho, Sem.run_bind, h8, Result.andThen_ok]
              rfl
            · have hr := hr h0 h5
              simp only [execOp, ho, Sem.run_bind, hr, Result.andThen_ok]
              rfl
        · exact (Res.fail h1).elim
      · exact (Res.fail h1).elim
    · exact (Res.fail h1).elim
  · exact (Res.fail h1).elim
end Go.Proofs.Ytfoiadlaekknpaa.Pm
namespace Go.Proofs.Ytfoiadlaekknpaa.Pm
open Go

/-- Cells at the head of a row. -/
def RP1 (P : Program) (c : Cx) (cells : List PV) (arr : Array Value) : Prop := cells.length ≤ arr.size ∧ ∀ i, i < cells.length → Rep P c (cells.getD i P0) (arr.getD i undef)
theorem RL.head {P : Program} {c : Cx} {cells : List PV} {arr : Array Value} (h : RL P c cells arr) : RP1 P c cells arr := ⟨by rw [h.1]; exact Nat.le_refl _, h.2⟩
theorem row_get (cur : Array Value) (vs : List Value) (off i : Nat) (h : off + vs.length ≤ cur.size) :
    ((cur.toList.take off ++ vs ++ cur.toList.drop (off + vs.length)).toArray).getD i undef = if off ≤ i ∧ i < off + vs.length then vs.getD (i - off) undef else cur.getD i undef := by
  simp only [Array.getD_eq_getD_getElem?, List.getElem?_toArray, List.getD_eq_getElem?_getD]
  by_cases h1 : i < off
  · rw [if_neg (by omega), List.append_assoc, List.getElem?_append_left (by simp; omega), List.getElem?_take_of_lt h1, Array.getElem?_toList]
  · by_cases h2 : i < off + vs.length
    · rw [if_pos ⟨by omega, h2⟩, List.append_assoc, List.getElem?_append_right (by simp; omega), List.getElem?_append_left (by simp only [List.length_take, Array.length_toList]; omega)]
      simp only [List.length_take, Array.length_toList]
      rw [Nat.min_eq_left (by omega)]
    · rw [if_neg (by omega), List.getElem?_append_right (by simp only [List.length_append, List.length_take, Array.length_toList]; omega), List.getElem?_drop]
      simp only [List.length_append, List.length_take, Array.length_toList]
      rw [Nat.min_eq_left (by omega), show off + vs.length + (i - (off + vs.length)) = i by omega, Array.getElem?_toList]
theorem row_size (cur : Array Value) (vs : List Value) (off : Nat) (h : off + vs.length ≤ cur.size) : ((cur.toList.take off ++ vs ++ cur.toList.drop (off + vs.length)).toArray).size = cur.size := by
  simp; omega
theorem splice_row {P : Program} {c : Cx} {cells ps : List PV} {cur : Array Value} {vs : List Value} {off : Nat} (h : RP1 P c cells cur) (k : RL P c ps vs.toArray) (hl : off + ps.length ≤ cells.length) :
    RP1 P c (splice cells off ps) (cur.toList.take off ++ vs ++ cur.toList.drop (off + vs.length)).toArray := by
  have e : vs.length = ps.length := by simpa using k.1
  have h1 := h.1
  refine ⟨by rw [row_size _ _ _ (by omega), splice_length hl]; exact h.1, fun i hi => ?_⟩
  rw [splice_length hl] at hi
  rw [row_get _ _ _ _ (by omega), splice_get hl, e]
  by_cases e1 : off ≤ i ∧ i < off + ps.length
  · rw [if_pos e1, if_pos e1]
    have := k.2 (i - off) (by omega)
    simpa [Array.getD_eq_getD_getElem?, List.getD_eq_getElem?_getD] using this
  · rw [if_neg e1, if_neg e1]
    exact h.2 i hi
theorem append_row {P : Program} {c : Cx} {cells ps : List PV} {cur : Array Value} {vs : List Value} (h : RP1 P c cells cur) (k : RL P c ps vs.toArray) (hl : cells.length + ps.length ≤ cur.size) :
    RP1 P c (cells ++ ps) (cur.toList.take cells.length ++ vs ++ cur.toList.drop (cells.length + vs.length)).toArray := by
  have e : vs.length = ps.length := by simpa using k.1
  refine ⟨by rw [row_size _ _ _ (by omega)]; simpa using hl, fun i hi => ?_⟩
  rw [List.length_append] at hi
  rw [row_get _ _ _ _ (by omega), e]
  by_cases e1 : cells.length ≤ i ∧ i < cells.length + ps.length
  · rw [if_pos e1]
    have := k.2 (i - cells.length) (by omega)
    rw [List.getD_eq_getElem?_getD, List.getElem?_append_right (by omega), ← List.getD_eq_getElem?_getD]
    simpa [Array.getD_eq_getD_getElem?, List.getD_eq_getElem?_getD] using this
  · rw [if_neg e1]
    have := h.2 i (by omega)
    rw [List.getD_eq_getElem?_getD, List.getElem?_append_left (by omega), ← List.getD_eq_getElem?_getD]
    exact this

/-! ### stores -/
theorem all_one {l : List PV} (h : l.all PV.one = true) : ones l := fun p hp => List.all_eq_true.1 h p hp
theorem RL.oneCell {P : Program} {c : Cx} {ps : List PV} {vs : Array Value} (h : RL P c ps vs) (ho : ones ps) : ∀ v ∈ vs.toList, v.oneCell' = true := by
  intro v hv
  obtain ⟨i, hi, rfl⟩ := List.getElem_of_mem hv
  have h1 : i < vs.size := by simpa using hi
  have h2 : i < ps.length := by have := h.1; omega
  have h3 := h.2 i h2
  have e1 : vs.getD i undef = vs.toList[i] := by simp [Array.getD_eq_getD_getElem?, h1]
  have e2 : ps.getD i P0 = ps[i] := by simp [List.getD_eq_getElem?_getD, h2]
  rw [e1, e2] at h3
  exact h3.one (ho _ (List.getElem_mem h2))
def storeP (id : Nat) (T : TypeId) (cells : List PV) (off : Nat) (ps : List PV) (r : PV) (an : Ans) : Plan := match ps.all PV.one with
  | true => match an with
    | .cells l => .ob (off + ps.length ≤ cells.length ∧ splice cells off ps = l) (.done r [(kb id, some (.blk T l))])
    | _ => match Nat.ble (off + ps.length) cells.length with | true => .done r [(kb id, some (.blk T (splice cells off ps)))] | false => .fail
  | false => .fail
theorem storeP_ok {id : Nat} {T : TypeId} {cells ps : List PV} {off : Nat} {r p : PV} {an : Ans} {g : St} {wb : L} (h : Res g (storeP id T cells off ps r an) p wb) : ones ps ∧ off + ps.length ≤ cells.length ∧ p = r ∧ wb = [(kb id, some (.blk T (splice cells off ps)))] := by
  unfold storeP at h
  split at h
  · rename_i ha
    refine ⟨all_one ha, ?_⟩
    split at h
    · obtain ⟨⟨h1, rfl⟩, h2⟩ := Res.ob h
      obtain ⟨rfl, rfl⟩ := Res.done h2
      exact ⟨h1, rfl, rfl⟩
    · split at h
      · rename_i hb
        obtain ⟨rfl, rfl⟩ := Res.done h
        exact ⟨Nat.le_of_ble_eq_true hb, rfl, rfl⟩
      · exact (Res.fail h).elim
  · exact (Res.fail h).elim
/-- Writing into a row of the call's own. -/
theorem write_step {E : Env} {nx : Nat → Prop} {c : Cx} {g : St} {a : Act} {o : Oper} {id id1 : Nat} {K : Act → World → Prop} {T : TypeId} {cells ps : List PV} {off b : Nat} {vs : List Value} {p : PV} {v : Value}
    (hd : ∀ x, o.dst = some x → x < E.n) (hI : Inv E nx c g a) (hg : g (kb id1) = some (.blk T cells)) (hown : c.own id1 = some (some b, T)) (ho : ones ps) (hl : off + ps.length ≤ cells.length) (hrl : RL E.P c ps vs.toArray)
    (hK : ∀ c' a', Inv E (fun j => nx j ∨ (id ≤ j ∧ j < id + 8)) c' (over (wd o.dst p) (over [(kb id1, some (.blk T (splice cells off ps)))] g)) a' → K a' c'.w) (hv : ∀ c', Rep E.P c' p v) :
    ∃ cur, c.w.heap[b]? = some (.cells cur T (0, 0)) ∧ off + vs.length ≤ cur.size ∧ K (a.put o.dst v) (c.w.setRow b (cur.toList.take off ++ vs ++ cur.toList.drop (off + vs.length)).toArray) := by
  obtain ⟨ob', hown', hone, hb⟩ := hI.blk id1 T cells hg
  rw [hown] at hown'
  cases hown'
  rcases hb with ⟨hb, _⟩ | ⟨b', cur, hb1, hb2, hb3, hb4⟩
  · cases hb
  obtain rfl : b' = b := by simpa using hb1.symm
  have e : vs.length = ps.length := by simpa using hrl.1
  have hrow := splice_row ⟨hb3, hb4⟩ hrl hl
  obtain ⟨hk, hh⟩ := heap_upd hI.toHeap hg hown cur (cur.toList.take off ++ vs ++ cur.toList.drop (off + vs.length)).toArray (c.w.setRow b' (cur.toList.take off ++ vs ++ cur.toList.drop (off + vs.length)).toArray) hb2 (setRow_heap _ _ _ _ _ _ hb2)
    (row_size _ _ _ (by omega)) (fun k hk => setRow_other _ _ _ _ hk) (by simp [World.setRow]) rfl rfl rfl (ones_splice hone ho) (by rw [splice_length hl]; exact hb3) hrow.2
  refine ⟨cur, hb2, by omega, ?_⟩
  exact hK _ _ (Inv.put hI hk _ (lk_b_s id1 _) { hh with ids := fun i x hx => .inl (hh.ids i x hx) } o.dst hd fun _ => hv _)
def aStore (P : Program) (T : TypeId) (x y : Operand) (an : Ans) : Plan := opd x fun p => opd y fun q => match p, P.info? T with
  | .opt id off, some ti => .look (kb id) fun v => match v with
    | .blk B cells => match Nat.beq (pcells q).length ti.size with | true => storeP id B cells off (pcells q) P0 an | false => .fail
    | .pv _ => .fail
  | _, _ => .fail
theorem aStore_ok {E : Env} {o : Oper} {id : Nat} {T : TypeId} {x y : Operand} {an : Ans} (ho : o.op = .store T x y) (hd : ∀ x, o.dst = some x → x < E.n) : ActOk E o id (aStore E.P T x y an) := by
  intro g p wb h nx c a K Q hn hI hK
  obtain ⟨q1, hq1, h1⟩ := Res.opd hI h
  obtain ⟨q2, hq2, h2⟩ := Res.opd hI h1
  clear h h1
  split at h2
  · rename_i id1 off ti hin
    obtain ⟨bv, hg, h3⟩ := Res.look h2
    cases bv with
    | pv _ => exact (Res.fail h3).elim
    | blk B cells =>
      simp only at h3
      split at h3
      · rename_i hsz
        have hsz := Nat.eq_of_beq_eq_true hsz
        obtain ⟨hone, hl, rfl, rfl⟩ := storeP_ok h3
        obtain ⟨b, T2, hown, hv⟩ := rep_opt hq1
        obtain ⟨ob', hown', _⟩ := hI.blk id1 B cells hg
        have eT : T2 = B := by rw [hown] at hown'; cases hown'; rfl
        subst eT
        have hrl := pcells_rl hq2
        obtain ⟨cur, hc1, hc2, hKK⟩ := write_step (id := id) (vs := (a.eval y).cells.toList) (v := undef) hd hI hg hown hone hl hrl hK fun _ => .sh (.av _)
        refine ow_skip ?_ hKK
        have hst := run_storeCells_at E.P b off T2 (a.eval y).cells.toList 0 cur c.w hc1 (by simpa using hc2) (hrl.oneCell hone)
        have es : (a.eval y).cells.size = ti.size := by rw [hrl.1, hsz]
        simp only [Nat.add_zero] at hst
        simp [execOp, ho, hv, Instr.storeAt, Instr.sureAddr, storeVar, run_size hin, es, hst]
      · exact (Res.fail h3).elim
  · exact (Res.fail h2).elim

/-! ### make -/
def zs1 (l : List PV) (an : Ans) (k : List PV → Plan) : Plan := match an with
  | .cells m => .ob (l = m) (k m)
  | _ => k l
theorem zs1_ok {l : List PV} {an : Ans} {k : List PV → Plan} {g : St} {p : PV} {wb : L} (h : Res g (zs1 l an k) p wb) : Res g (k l) p wb := by
  unfold zs1 at h
  split at h
  · obtain ⟨rfl, h1⟩ := Res.ob h
    exact h1
  · exact h
def aMake (P : Program) (T : TypeId) (x y : Operand) (an : Ans) (id : Nat) : Plan := opd x fun p => opd y fun q => match p, q, P.underlying T with
  | .av (.int _ n), .av (.int _ m), some (.slice e) => match P.info? e, zeroP P e with
    | some ie, some zs => match Nat.beq ie.size zs.length, Nat.ble 1 zs.length, zs.all PV.one with
      | true, true, true => .ob (0 ≤ n ∧ n ≤ m ∧ m ≤ 140737488355328 ∧ (ie.bytes : Int) * m ≤ 140737488355328) (zs1 (zeros zs n.toNat) an fun l => .done (.osl id 0 n.toNat) [(kb id, some (.blk e l))])
      | _, _, _ => .fail
    | _, _ => .fail
  | _, _, _ => .fail
theorem aMake_ok {E : Env} {o : Oper} {id : Nat} {T : TypeId} {x y : Operand} {an : Ans} (ho : o.op = .makeSlice T x y) (hd : ∀ x, o.dst = some x → x < E.n) : ActOk E o id (aMake E.P T x y an id) := by
  intro g p wb h nx c a K Q hn hI hK
  obtain ⟨q1, hq1, h1⟩ := Res.opd hI h
  obtain ⟨q2, hq2, h2⟩ := Res.opd hI h1
  clear h h1
  split at h2
  · rename_i kn n km m e hu
    split at h2
    · rename_i ie zs hie hz
      obtain ⟨i, z, hi, hz', rfl⟩ := zeroP_ok hz
      rw [hie] at hi
      cases hi
      split at h2
      · rename_i h3 h4 h5
        have h3 := Nat.eq_of_beq_eq_true h3
        have h4 := Nat.le_of_ble_eq_true h4
        simp only [List.length_map, Array.length_toList] at h3 h4
        obtain ⟨⟨b1, b2, b3, b4⟩, h6⟩ := Res.ob h2
        obtain ⟨rfl, rfl⟩ := Res.done (zs1_ok h6)
        have hrl := made_rl (P := E.P) (c := c) (z := z) m.toNat (m.toNat * ie.size) (by rw [h3]) h4
        have hle : n.toNat * ie.size ≤ m.toNat * ie.size := Nat.mul_le_mul_right _ (by omega)
        have hlen : (zeros (z.cells.toList.map .av) n.toNat).length = n.toNat * ie.size := by rw [zeros_length, h3]; simp
        refine new_step (arr := madeCells z.cells (m.toNat * ie.size)) (w' := c.w.alloc (.cells (madeCells z.cells (m.toNat * ie.size)) e)) hd hn hI hK rfl rfl rfl rfl (ones_zeros (all_one h5) _) (by rw [hlen, size_madeCells]; exact hle) (fun j hj => ?_)
          (v := .slice (some ⟨c.w.heap.size, 0, none⟩) n.toNat m.toNat) (fun own hw => .osl hw (.inr ⟨_, m.toNat, _, rfl, rfl, alloc_heap_new _ _, by omega, by rw [cellsOf_info hie, size_madeCells]; omega⟩)) ?_
        · have hz1 : 0 < (z.cells.toList.map PV.av).length := by simp; omega
          have h7 := hrl.2 j (by rw [zeros_length]; simp only [List.length_map, Array.length_toList]; rw [← h3]; omega)
          rw [zeros_get _ hz1 _ _ (by simp only [List.length_map, Array.length_toList]; rw [← h3]; omega)] at h7
          rw [zeros_get _ hz1 _ _ (by simp only [List.length_map, Array.length_toList]; rw [← h3]; omega)]
          exact h7
        · have hr := run_make (P := E.P) c.w T e ie z hu hie hz' kn km n m b1 b2 (by omega) (by omega)
          simp only [execOp, ho, rep_av hq1, rep_av hq2, Sem.run_bind, hr, Result.andThen_ok]
          rfl
      · exact (Res.fail h2).elim
    · exact (Res.fail h2).elim
  · exact (Res.fail h2).elim
end Go.Proofs.Ytfoiadlaekknpaa.Pm
namespace Go.Proofs.Ytfoiadlaekknpaa.Pm
open Go

/-- A row that has not been made: nil. -/
theorem heap_virtual {E : Env} {nx : Nat → Prop} {c : Cx} {g : St} (h : Heap E nx c g) {id : Nat} (hn : ¬ nx id) (T : TypeId) :
    Keep c ⟨c.w, c.S, setOwn c.own id (none, T)⟩ ∧ Heap E (fun i => nx i ∨ i = id) ⟨c.w, c.S, setOwn c.own id (none, T)⟩ (over [(kb id, some (.blk T []))] g) := by
  have hf := own_fresh h hn
  have hne : ∀ i x, c.own i = some x → i ≠ id := fun i x hx e => by rw [e, hf] at hx; cases hx
  have hk : Keep c ⟨c.w, c.S, setOwn c.own id (none, T)⟩ :=
    ⟨fun b hb => ⟨hb, rfl⟩, fun i x hx => by show setOwn _ _ _ _ = _; rw [setOwn_ne (hne i x hx)]; exact hx, Shape.refl _⟩
  have hlv : ∀ i, Live (over [(kb id, some (.blk T []))] g) i → i ≠ id → Live g i := fun i ⟨T', cs', hx⟩ e => ⟨T', cs', by rw [over_b, if_neg e] at hx; exact hx⟩
  have hid : ∀ {i : Nat} {b : Nat} {T1 : TypeId}, setOwn c.own id (none, T) i = some (some b, T1) → i ≠ id ∧ c.own i = some (some b, T1) := by
    intro i b T1 h1
    have e : i ≠ id := fun e => by rw [e, setOwn_same] at h1; cases h1
    exact ⟨e, by rw [setOwn_ne e] at h1; exact h1⟩
  refine ⟨hk, { ids := fun i x hx => ?_, blk := fun i T' cs' hx => ?_, inj := fun i j b T1 T2 h1 h2 h3 h4 => ?_, apart := fun i b T1 h1 h2 => ?_, bnd := fun i b T1 h1 => ?_, sok := h.sok,
                os := h.os, tape := h.tape, output := h.output, size := h.size, same := h.same, s0 := h.s0, s1 := h.s1, keep := h.keep.trans hk }⟩
  · by_cases e : i = id
    · exact .inr e
    · exact .inl (h.ids i x (by rw [← setOwn_ne (x := (none, T)) (own := c.own) e]; exact hx))
  · rw [over_b] at hx
    by_cases e : i = id
    · rw [if_pos e] at hx
      cases hx
      subst e
      exact ⟨_, setOwn_same, fun p hp => (by cases hp), .inl ⟨rfl, rfl⟩⟩
    · rw [if_neg e] at hx
      obtain ⟨ob, h1, h2⟩ := h.blk i T' cs' hx
      exact ⟨ob, by show setOwn _ _ _ _ = _; rw [setOwn_ne e]; exact h1, h2.mono hk fun b hb => rfl⟩
  · obtain ⟨e1, h3'⟩ := hid h3
    obtain ⟨e2, h4'⟩ := hid h4
    exact h.inj i j b T1 T2 (hlv i h1 e1) (hlv j h2 e2) h3' h4'
  · obtain ⟨e1, h2'⟩ := hid h2
    exact h.apart i b T1 (hlv i h1 e1) h2'
  · exact h.bnd i b T1 (hid h1).2

/-! ### what is appended -/
/-- The source's cells: how many elements, which cells. -/
def src (_P : Program) (e : TypeId) (sz : Nat) (u : Option TypeDesc) (q : PV) (an : Ans) (k : Nat → List PV → Plan) : Plan := match u, q with
  | some (.slice _), .ssl cs off n => seg cs off (n * sz) an fun l => k n l
  | some (.slice _), .osl id off n => .look (kb id) fun v => match v with
    | .blk T' cs => match Nat.beq T' e with | true => seg cs off (n * sz) an fun l => k n l | false => .fail
    | .pv _ => .fail
  | some (.slice _), .av (.slice none 0 _) => k 0 []
  | some .string, .av (.string s) => match Nat.beq sz 1 with | true => k s.size (s.data.toList.map fun b => .av (.int .u8 b.toNat)) | false => .fail
  | _, _ => .fail
theorem seg_ones {cs l : List PV} {off n : Nat} (h : ones cs) (he : (cs.drop off).take n = l) : ones l := by
  subst he
  exact fun p hp => h p (List.mem_of_mem_drop (List.mem_of_mem_take hp))
theorem src_ok {E : Env} {nx : Nat → Prop} {c : Cx} {g : St} {a : Act} (hI : Inv E nx c g a) {e tx : TypeId} {sz : Nat} {q : PV} {v : Value} {an : Ans} {k : Nat → List PV → Plan} {p : PV} {wb : L} (hsz : E.P.cellsOf e = sz) (hq : Rep E.P c q v)
    (h : Res g (src E.P e sz (E.P.underlying tx) q an k) p wb) : ∃ n l news, Res g (k n l) p wb ∧ ones l ∧ l.length = n * sz ∧ RL E.P c l news.toArray ∧ Src E.P sz tx v n news c.w := by
  -- cells that stand in memory
  have mem : ∀ {cs : List PV} {off n : Nat} {l : List PV} {b a' : Nat} {vf : Nat → Value} {cap : Nat} {e' : TypeId}, E.P.underlying tx = some (.slice e') → off + n * sz ≤ cs.length → (cs.drop off).take (n * sz) = l → ones cs →
      (∀ j, j < cs.length → c.w.cell? ⟨b, a' + j, none⟩ = some (vf j)) → (∀ j, j < cs.length → Rep E.P c (cs.getD j P0) (vf j)) → v = .slice (some ⟨b, a' + off, none⟩) n cap →
      ∃ news : List Value, ones l ∧ l.length = n * sz ∧ RL E.P c l news.toArray ∧ Src E.P sz tx v n news c.w := by
    intro cs off n l b a' vf cap e' hu h1 h2 h3 h4 h5 hv
    obtain ⟨h6, h7⟩ := getD_seg h1 h2
    have hrl : RL E.P c l ((List.range (n * sz)).map fun j => vf (off + j)).toArray := by
      refine ⟨by simp [h6], fun i hi => ?_⟩
      rw [h6] at hi
      rw [h7 i hi]
      have e1 : (((List.range (n * sz)).map fun j => vf (off + j)).toArray).getD i undef = vf (off + i) := by simp [Array.getD_eq_getD_getElem?, hi]
      rw [e1]
      exact h5 (off + i) (by omega)
    have ho := seg_ones h3 h2
    refine ⟨_, ho, h6, hrl, ?_⟩
    subst hv
    refine Src.ofSlice c.w hu _ n cap _ (by simp) (fun j u hj => ?_) (hrl.oneCell ho)
    have hj' : j < n * sz := by
      have := (List.getElem?_eq_some_iff.1 hj).1
      simpa using this
    have hju : u = vf (off + j) := by simpa [hj'] using hj.symm
    rw [addr_add, hju, Nat.add_assoc]
    exact h4 _ (by omega)
  have emp : ∀ {n : Nat} {l : List PV} {cs : List PV} {off : Nat} {ad : Option Addr} {cap : Nat} {e' : TypeId}, E.P.underlying tx = some (.slice e') → (cs.drop off).take (n * sz) = l → n = 0 → v = .slice ad 0 cap →
      ∃ news : List Value, ones l ∧ l.length = n * sz ∧ RL E.P c l news.toArray ∧ Src E.P sz tx v n news c.w := by
    intro n l cs off ad cap e' hu h1 h2 h3
    subst h2
    rw [Nat.zero_mul, List.take_zero] at h1
    subst h1; subst h3
    refine ⟨[], fun p hp => (by cases hp), by simp, ⟨rfl, fun i hi => by simp at hi⟩, ?_⟩
    cases ad with
    | none => exact Src.ofNil c.w hu cap
    | some ad => exact Src.ofSlice c.w hu ad 0 cap [] (by simp) (fun j u hj => by simp at hj) (fun _ h => by cases h)
  unfold src at h
  split at h
  · rename_i e' cs off n hu
    obtain ⟨l, h1, h2, h3⟩ := seg_ok h
    rcases rep_ssl hq with ⟨ad, cap, hv, hn⟩ | ⟨b, a', cap, vf, hv, hS, hc, hr, hone, hl⟩
    · obtain ⟨news, h4⟩ := emp hu h2 hn hv
      exact ⟨n, l, news, h3, h4⟩
    · obtain ⟨news, h4⟩ := mem hu h1 h2 hone hc (fun j hj => .sh (hr j hj)) hv
      exact ⟨n, l, news, h3, h4⟩
  · rename_i e' id off n hu
    obtain ⟨bv, hg, h4⟩ := Res.look h
    cases bv with
    | pv _ => exact (Res.fail h4).elim
    | blk T' cs =>
      simp only at h4
      split at h4
      · rename_i hT
        have hT := Nat.eq_of_beq_eq_true hT
        subst hT
        obtain ⟨l, h1, h2, h3⟩ := seg_ok h4
        obtain ⟨ob, T2, hown, hv⟩ := rep_osl hq
        obtain ⟨ob', hown', hone, hb⟩ := hI.blk id T' cs hg
        rw [hown] at hown'
        cases hown'
        rcases hv with ⟨ad, hv, hn⟩ | ⟨b, cap, cs2, hob, hv, hb2, hl, hsz2⟩
        · obtain ⟨news, h5⟩ := emp hu h2 hn hv
          exact ⟨n, l, news, h3, h5⟩
        · rcases hb with ⟨hb, _⟩ | ⟨b', vs, hb1, hb3, hb4, hb5⟩
          · rw [hob] at hb; cases hb
          · obtain rfl : b' = b := by rw [hob] at hb1; simpa using hb1.symm
            obtain ⟨news, h5⟩ := mem (a' := 0) (vf := fun j => vs.getD j undef) (cap := cap) hu h1 h2 hone (fun j hj => by
              have : j < vs.size := by omega
              rw [cell_of_row c.w _ _ vs _ _ hb3]
              simp [Array.getD_eq_getD_getElem?, this]) hb5 (by rw [hv, Nat.zero_add])
            exact ⟨n, l, news, h3, h5⟩
      · exact (Res.fail h4).elim
  · rename_i e' cap hu
    have hv := rep_av hq
    subst hv
    exact ⟨0, [], [], h, fun p hp => (by cases hp), by simp, ⟨rfl, fun i hi => by simp at hi⟩, Src.ofNil c.w hu cap⟩
  · rename_i s hu
    split at h
    · rename_i h1
      have h1 := Nat.eq_of_beq_eq_true h1
      have hv := rep_av hq
      subst hv
      rw [h1] at hsz ⊢
      have hone : ones (s.data.toList.map fun b => PV.av (.int .u8 b.toNat)) := fun p hp => by
        obtain ⟨x, _, rfl⟩ := List.mem_map.1 hp
        rfl
      refine ⟨s.size, _, byteCells s, h, hone, by simp, ?_, Src.ofString c.w hu s⟩
      have e1 : (s.data.toList.map fun b => PV.av (.int .u8 b.toNat)) = ((byteCells s).toArray.toList.map .av) := by simp [byteCells]
      rw [e1]
      exact avs_rl _
    · exact (Res.fail h).elim
  · exact (Res.fail h).elim
def appP (e : TypeId) (bytes len n id : Nat) (old : L) (cs : List PV) (an2 : Option (List PV)) : Plan :=
  .ob ((len + n) * bytes ≤ 140737488355328 ∧ len + n ≤ 9223372036854775807) (match an2 with
    | some l => .ob (cs = l) (.done (.osl id 0 (len + n)) (old ++ [(kb id, some (.blk e l))]))
    | none => .done (.osl id 0 (len + n)) (old ++ [(kb id, some (.blk e cs))]))
theorem appP_ok {e : TypeId} {bytes len n id : Nat} {old : L} {cs : List PV} {an2 : Option (List PV)} {g : St} {p : PV} {wb : L} (h : Res g (appP e bytes len n id old cs an2) p wb) :
    ((len + n) * bytes ≤ 140737488355328 ∧ len + n ≤ 9223372036854775807) ∧ p = .osl id 0 (len + n) ∧ wb = old ++ [(kb id, some (.blk e cs))] := by
  obtain ⟨h1, h2⟩ := Res.ob h
  refine ⟨h1, ?_⟩
  cases an2 with
  | none => exact Res.done h2
  | some l =>
    obtain ⟨rfl, h3⟩ := Res.ob h2
    exact Res.done h3
def ans1 (an : Ans) : Ans := match an with | .app (some l) _ => .cells l | _ => .no
def ans2 (an : Ans) : Option (List PV) := match an with | .cells l => some l | .app _ r => r | _ => none
/-- append: 'an' tells the row as it is behind it; the source must be told by its tree. -/
def aAppend (P : Program) (T : TypeId) (u : Option TypeDesc) (x y : Operand) (an : Ans) (id : Nat) : Plan := opd x fun p => opd y fun q => match P.underlying T with
  | some (.slice e) => match P.info? e with
    | some ie => match ie.zero, Nat.ble 1 ie.size with
      | some z, true => match Nat.beq z.cells.size ie.size with
        | true => src P e ie.size u q (ans1 an) fun n l => match p with
          | .av (.slice none 0 0) => appP e ie.bytes 0 n id [] l (ans2 an)
          | .osl id1 0 len => .look (kb id1) fun v => match v with
            | .blk B cells => match Nat.beq B e with
              | true => .ob (cells.length = len * ie.size) (appP e ie.bytes len n id [(kb id1, none)] (cells ++ l) (ans2 an))
              | false => .fail
            | .pv _ => .fail
          | _ => .fail
        | false => .fail
      | _, _ => .fail
    | none => .fail
  | _ => .fail

theorem run_append_room_own {P : Program} (w : World) (t tx ty e : TypeId) (i : TypeInfo) (ht : P.underlying t = some (.slice e)) (hi : P.info? e = some i) (g sLen sCap : Nat) (cur : Array Value) (hg : w.heap[g]? = some (.cells cur e (0, 0)))
    (x : Value) (n : Nat) (news : List Value) (hs : Src P i.size tx x n news w) (hroom : sLen + n ≤ sCap) (hfit : sLen * i.size + news.length ≤ cur.size) :
    (Builtin.append_ #[t, tx] ty #[.slice (some ⟨g, 0, none⟩) sLen sCap, x]).run P w =
      .ok (.slice (some ⟨g, 0, none⟩) (sLen + n) sCap) (w.setRow g (cur.toList.take (sLen * i.size) ++ news ++ cur.toList.drop (sLen * i.size + news.length)).toArray) := by
  have hst := run_storeCells_at P g (sLen * i.size) e news 0 cur w hg (by simpa using hfit) hs.one
  simp only [Nat.add_zero] at hst
  rcases hs.kind with ⟨e', hk⟩ | hk <;> simp [Builtin.append_, run_underlying ht, run_underlying hk, sizeOf, typeInfo, hi, hs.len, hroom, hs.cells, Addr.add_lit, hst]
theorem run_append_zero {P : Program} (w : World) (t tx ty e : TypeId) (i : TypeInfo) (ht : P.underlying t = some (.slice e)) (hi : P.info? e = some i) (ad : Option Addr) (x : Value) (hs : Src P i.size tx x 0 [] w) :
    (Builtin.append_ #[t, tx] ty #[.slice ad 0 0, x]).run P w = .ok (.slice ad 0 0) w := by
  have hc := hs.cells
  cases ad <;> rcases hs.kind with ⟨e', hk⟩ | hk <;> simp [Builtin.append_, run_underlying ht, run_underlying hk, sizeOf, typeInfo, hi, hs.len, hc, storeCells]

/-- A row that grew into a new block: the old number (if any) is dropped. -/
theorem grown_step {E : Env} {nx : Nat → Prop} {c : Cx} {g : St} {a : Act} {o : Oper} {id : Nat} {K : Act → World → Prop} {Q : Exit → Act → World → Prop} {e : TypeId} {ie : TypeInfo} {cells l : List PV} {olds news : List Value} {rest : Array Value} {len n cap : Nat} {v : Value} {w' : World} {old : L}
    (hd : ∀ x, o.dst = some x → x < E.n) (hn : ∀ t, t < 8 → ¬ nx (id + t)) (hI : Inv E nx c g a) (hie : E.P.info? e = some ie) (hold : old = [] ∨ ∃ id1, old = [(kb id1, none)])
    (hK : ∀ c' a', Inv E (fun j => nx j ∨ (id ≤ j ∧ j < id + 8)) c' (over (wd o.dst (.osl id 0 (len + n))) (over (old ++ [(kb id, some (.blk e (cells ++ l)))]) g)) a' → K a' c'.w)
    (ho1 : ones cells) (ho2 : ones l) (hr1 : RL E.P c cells olds.toArray) (hr2 : RL E.P c l news.toArray)
    (hw : w'.heap = c.w.heap.push (.cells ((olds ++ news).toArray ++ rest) e (0, 0))) (hos : w'.os = c.w.os) (htp : w'.tape = c.w.tape) (hou : w'.output = c.w.output) (hcap : len + n ≤ cap) (hsz : cap * ie.size ≤ ((olds ++ news).toArray ++ rest).size)
    (hv : v = .slice (some ⟨c.w.heap.size, 0, none⟩) (len + n) cap) (hr : (execOp a.eval o).run E.P c.w = .ok (.value v) w') : o.wp E.P a c.w K Q := by
  have hone : ones (cells ++ l) := fun p hp => by
    rcases List.mem_append.1 hp with h | h
    · exact ho1 p h
    · exact ho2 p h
  have hrl := hr1.append hr2
  have e1 : olds.toArray ++ news.toArray = (olds ++ news).toArray := by simp
  rw [e1] at hrl
  have hs1 : (olds ++ news).toArray.size = (cells ++ l).length := hrl.1
  obtain ⟨hk, hh⟩ := heap_new hI.toHeap (show ¬ nx id from hn 0 (by decide)) e ((olds ++ news).toArray ++ rest) (cells ++ l) w' hw hos htp hou hone (by rw [Array.size_append]; omega) fun j hj => by
    have h1 := hrl.2 j hj
    have h2 : j < (olds ++ news).toArray.size := by omega
    have h3 : j < ((olds ++ news).toArray ++ rest).size := by rw [Array.size_append]; omega
    rw [Array.getD_eq_getD_getElem?, Array.getElem?_append_left h2, ← Array.getD_eq_getD_getElem?]
    exact h1
  have hnew : w'.heap[c.w.heap.size]? = some (.cells ((olds ++ news).toArray ++ rest) e (0, 0)) := by rw [hw]; simp
  have hrep : Rep E.P ⟨w', c.S, setOwn c.own id (some c.w.heap.size, e)⟩ (.osl id 0 (len + n)) v :=
    .osl setOwn_same (.inr ⟨_, cap, _, rfl, hv, hnew, hcap, by rw [cellsOf_info hie]; omega⟩)
  have hids : ∀ (i : Nat) (x : Option Nat × TypeId), setOwn c.own id (some c.w.heap.size, e) i = some x → nx i ∨ (id ≤ i ∧ i < id + 8) := fun i x hx => (hh.ids i x hx).imp (fun h => h) fun h => (by omega)
  refine ow_val hr (hK ⟨w', c.S, setOwn c.own id (some c.w.heap.size, e)⟩ _ ?_)
  rcases hold with rfl | ⟨id1, rfl⟩
  · exact Inv.put hI hk _ (lk_b_s id _) { hh with ids := hids } o.dst hd fun _ => hrep
  · have h2 := heap_drop hh id1
    have e2 : over [(kb id1, none)] (over [(kb id, some (.blk e (cells ++ l)))] g) = over ([(kb id1, none)] ++ [(kb id, some (.blk e (cells ++ l)))]) g := (over_append _ _ _).symm
    rw [e2] at h2
    exact Inv.put hI hk _ (fun s => by simp [lk, beq_ksb]) { h2 with ids := hids } o.dst hd fun _ => hrep
theorem aAppend_ok {E : Env} {o : Oper} {id : Nat} {T U : TypeId} {x y : Operand} {an : Ans} (ho : o.op = .call { callee := .builtin .append, args := #[x, y], argTypes := #[T, U] }) (hd : ∀ x, o.dst = some x → x < E.n) :
    ActOk E o id (aAppend E.P T (E.P.underlying U) x y an id) := by
  intro g p wb h nx c a K Q hn hI hK
  obtain ⟨q1, hq1, h1⟩ := Res.opd hI h
  obtain ⟨q2, hq2, h2⟩ := Res.opd hI h1
  clear h h1
  have hfr : ¬ nx id := hn 0 (by decide)
  split at h2
  case h_2 => exact (Res.fail h2).elim
  rename_i e hu
  split at h2
  case h_2 => exact (Res.fail h2).elim
  rename_i ie hie
  split at h2
  case h_2 => exact (Res.fail h2).elim
  rename_i z hz hb1
  have hb1 := Nat.le_of_ble_eq_true hb1
  split at h2
  case h_2 => exact (Res.fail h2).elim
  rename_i hzs
  have hzs := Nat.eq_of_beq_eq_true hzs
  obtain ⟨n, l, news, h3, hl1, hl2, hl3, hsrc⟩ := src_ok hI (cellsOf_info hie) hq2 h2
  have hnl : news.length = n * ie.size := hsrc.newsLen
  have hex : ∀ {v : Value} {w' : World}, (Builtin.append_ #[T, U] o.type #[a.eval x, a.eval y]).run E.P c.w = .ok v w' → (execOp a.eval o).run E.P c.w = .ok (.value v) w' := fun hr => by
    simp [execOp, ho, resolve, invoke, builtin, hr]
  split at h3
  · -- nil
    obtain ⟨⟨hb2, hb3⟩, rfl, rfl⟩ := appP_ok h3
    have hv := rep_av hq1
    by_cases h0 : n = 0
    · subst h0
      have hl0 : l = [] := List.eq_nil_of_length_eq_zero (by simpa using hl2)
      have hn0 : news = [] := List.eq_nil_of_length_eq_zero (by simpa using hnl)
      subst hl0; subst hn0
      obtain ⟨hk, hh⟩ := heap_virtual hI.toHeap hfr e
      have hr := run_append_zero (P := E.P) c.w T U o.type e ie hu hie none (a.eval y) hsrc
      refine ow_val (v := .slice none 0 0) (hex (by rw [hv]; exact hr)) (hK ⟨c.w, c.S, setOwn c.own id (none, e)⟩ _ ?_)
      exact Inv.put hI hk _ (lk_b_s id _) { hh with ids := fun i x hx => (hh.ids i x hx).imp (fun h => h) fun h => (by omega) } o.dst hd fun _ => .osl setOwn_same (.inl ⟨_, rfl, rfl⟩)
    · have hr := run_append_grow_src (P := E.P) c.w T U o.type e ie z hu hie hz none 0 0 [] (by simpa using run_firstCells_none c.w.drew ie.size 0 0 0) (a.eval y) n news hsrc (by omega) (by omega) (growslice_fits (by omega) hb2)
      rw [Nat.zero_add] at hr
      refine grown_step (len := 0) (cells := []) (olds := []) (news := news) (rest := Builtin.zeroCells z.cells (grownCap c.w n 0 e - n)) (w' := c.w.drew.alloc (.cells (([] ++ news).toArray ++ Builtin.zeroCells z.cells (grownCap c.w n 0 e - n)) e)) (cap := grownCap c.w n 0 e) (old := [])
        hd hn hI hie (.inl rfl) (by simpa using hK) (fun p hp => by cases hp) hl1 ⟨rfl, fun i hi => by simp at hi⟩ hl3 rfl rfl rfl rfl (by have := grownCap_ge c.w n 0 e; omega) ?_ (by rw [Nat.zero_add]) (hex (by rw [hv]; exact hr))
      simp only [Array.size_append, List.size_toArray, List.nil_append, size_zeroCells, hzs, hnl, ← Nat.add_mul]
      exact Nat.mul_le_mul_right _ (by omega)
  · -- a row of the call's own
    rename_i id1 len
    obtain ⟨bv, hg, h4⟩ := Res.look h3
    cases bv with
    | pv _ => exact (Res.fail h4).elim
    | blk B cells =>
      simp only at h4
      split at h4
      case h_2 => exact (Res.fail h4).elim
      rename_i hB
      have hB := Nat.eq_of_beq_eq_true hB
      subst hB
      obtain ⟨hcl, h5⟩ := Res.ob h4
      obtain ⟨⟨hb2, hb3⟩, rfl, rfl⟩ := appP_ok h5
      obtain ⟨ob, T2, hown, hv⟩ := rep_osl hq1
      obtain ⟨ob', hown', hone, hbk⟩ := hI.blk id1 B cells hg
      rw [hown] at hown'
      cases hown'
      rcases hv with ⟨ad, hv, hlen⟩ | ⟨b, cap, cs2, hob, hv, hb4, hlc, hsz2⟩
      · -- nothing in it
        subst hlen
        have hc0 : cells = [] := List.eq_nil_of_length_eq_zero (by simpa using hcl)
        subst hc0
        by_cases h0 : n = 0
        · subst h0
          have hl0 : l = [] := List.eq_nil_of_length_eq_zero (by simpa using hl2)
          have hn0 : news = [] := List.eq_nil_of_length_eq_zero (by simpa using hnl)
          subst hl0; subst hn0
          obtain ⟨hk, hh⟩ := heap_move hI.toHeap hfr hg hown
          have hr := run_append_zero (P := E.P) c.w T U o.type B ie hu hie ad (a.eval y) hsrc
          refine ow_val (v := .slice ad 0 0) (hex (by rw [hv]; exact hr)) (hK ⟨c.w, c.S, setOwn c.own id (ob, B)⟩ _ ?_)
          exact Inv.put hI hk _ (fun s => by simp [lk, beq_ksb]) { hh with ids := fun i x hx => (hh.ids i x hx).imp (fun h => h) fun h => (by omega) } o.dst hd fun _ => .osl setOwn_same (.inl ⟨_, rfl, rfl⟩)
        · have hr := run_append_grow_src (P := E.P) c.w T U o.type B ie z hu hie hz ad 0 0 [] (by cases ad <;> simp [Builtin.firstCells, loadCells, loadCellsFrom]) (a.eval y) n news hsrc (by omega) (by omega) (growslice_fits (by omega) hb2)
          rw [Nat.zero_add] at hr
          refine grown_step (len := 0) (cells := []) (olds := []) (news := news) (rest := Builtin.zeroCells z.cells (grownCap c.w n 0 B - n)) (w' := c.w.drew.alloc (.cells (([] ++ news).toArray ++ Builtin.zeroCells z.cells (grownCap c.w n 0 B - n)) B)) (cap := grownCap c.w n 0 B) (old := [(kb id1, none)])
            hd hn hI hie (.inr ⟨id1, rfl⟩) (by simpa using hK) (fun p hp => by cases hp) hl1 ⟨rfl, fun i hi => by simp at hi⟩ hl3 rfl rfl rfl rfl (by have := grownCap_ge c.w n 0 B; omega) ?_ (by rw [Nat.zero_add]) (hex (by rw [hv]; exact hr))
          simp only [Array.size_append, List.size_toArray, List.nil_append, size_zeroCells, hzs, hnl, ← Nat.add_mul]
          exact Nat.mul_le_mul_right _ (by omega)
      · subst hob
        rcases hbk with ⟨hbk, _⟩ | ⟨b', cur, hk1, hk2, hk3, hk4⟩
        · cases hbk
        obtain rfl : b' = b := by simpa using hk1.symm
        rw [hk2] at hb4
        have ecur : cs2 = cur := by cases hb4; rfl
        subst ecur
        rw [cellsOf_info hie, Nat.zero_add] at hsz2
        by_cases hroom : len + n ≤ cap
        · have hfit : len * ie.size + news.length ≤ cs2.size := by
            rw [hnl, ← Nat.add_mul]
            exact Nat.le_trans (Nat.mul_le_mul_right _ hroom) hsz2
          have hr := run_append_room_own (P := E.P) c.w T U o.type B ie hu hie b' len cap cs2 hk2 (a.eval y) n news hsrc hroom hfit
          obtain ⟨hkA, hhA⟩ := heap_move hI.toHeap hfr hg hown
          have hgA : over [(kb id1, none), (kb id, some (.blk B cells))] g (kb id) = some (.blk B cells) := by
            have hne : id ≠ id1 := fun e1 => by
              have := hI.ids id1 _ hown
              rw [← e1] at this
              exact hn 0 (by decide) (by simpa using this)
            simp only [over, lk, beq_kb]
            simp [hne]
          have hrow := append_row (P := E.P) (c := ⟨c.w, c.S, setOwn c.own id (some b', B)⟩) (cells := cells) (ps := l) (cur := cs2) (vs := news) ⟨hk3, fun j hj => (hk4 j hj).mono hkA⟩ (hl3.mono hkA) (by rw [hcl, hl2]; rw [hnl] at hfit; exact hfit)
          rw [hcl] at hrow
          obtain ⟨hkB, hhB⟩ := heap_upd hhA hgA setOwn_same cs2 (cs2.toList.take (len * ie.size) ++ news ++ cs2.toList.drop (len * ie.size + news.length)).toArray
            (c.w.setRow b' (cs2.toList.take (len * ie.size) ++ news ++ cs2.toList.drop (len * ie.size + news.length)).toArray) hk2 (setRow_heap _ _ _ _ _ _ hk2) (row_size _ _ _ hfit)
            (fun k hk => setRow_other _ _ _ _ hk) (by simp [World.setRow]) rfl rfl rfl (cells' := cells ++ l) (fun p hp => by
              rcases List.mem_append.1 hp with h | h
              · exact hone p h
              · exact hl1 p h) (by rw [List.length_append, hcl, hl2, ← hnl]; exact hfit) hrow.2
          have eo : over [(kb id, some (.blk B (cells ++ l)))] (over [(kb id1, none), (kb id, some (.blk B cells))] g) = over ([(kb id1, none)] ++ [(kb id, some (.blk B (cells ++ l)))]) g := by
            funext k
            simp only [over, lk, List.cons_append, List.nil_append]
            by_cases h1 : Nat.beq k (kb id) = true
            · have hne : Nat.beq k (kb id1) = false := by
                rw [Nat.eq_of_beq_eq_true h1, beq_kb]
                have hne : id ≠ id1 := fun e1 => by
                  have := hI.ids id1 _ hown
                  rw [← e1] at this
                  exact hn 0 (by decide) (by simpa using this)
                simp [hne]
              simp [h1, hne]
            · simp only [h1]
              by_cases h2 : Nat.beq k (kb id1) = true <;> simp [h2]
          rw [eo] at hhB
          refine ow_val (hex (by rw [hv]; exact hr)) (hK ⟨c.w.setRow b' (cs2.toList.take (len * ie.size) ++ news ++ cs2.toList.drop (len * ie.size + news.length)).toArray, c.S, setOwn c.own id (some b', B)⟩ _ ?_)
          refine Inv.put hI (hkA.trans hkB) _ (fun s => by simp [lk, beq_ksb]) { hhB with ids := fun i x hx => (hhB.ids i x hx).imp (fun h => h) fun h => (by omega) } o.dst hd fun _ => ?_
          exact .osl setOwn_same (.inr ⟨b', cap, _, rfl, rfl, setRow_heap _ _ _ _ _ _ hk2, hroom, by rw [row_size _ _ _ hfit, cellsOf_info hie]; omega⟩)
        · have holds : (Builtin.firstCells ie.size len (.slice (some ⟨b', 0, none⟩) len cap)).run E.P c.w.drew = .ok (cs2.toList.take (len * ie.size)).toArray c.w.drew := by
            have hle : len * ie.size ≤ cs2.size := by rw [← hcl]; exact hk3
            refine run_firstCells_some c.w.drew ie.size len ⟨b', 0, none⟩ len cap _ (by simp; omega) fun j v hj => ?_
            have hj' : j < len * ie.size := by
              have := (List.getElem?_eq_some_iff.1 hj).1
              simp at this; omega
            rw [addr_add, Nat.zero_add]
            show c.w.cell? ⟨b', j, none⟩ = _
            rw [cell_of_row c.w b' j cs2 _ _ hk2]
            rw [List.getElem?_take_of_lt hj', Array.getElem?_toList] at hj
            exact hj
          have hr := run_append_grow_src (P := E.P) c.w T U o.type B ie z hu hie hz (some ⟨b', 0, none⟩) len cap _ holds (a.eval y) n news hsrc (by omega) (by omega) (growslice_fits (by omega) hb2)
          have hle : len * ie.size ≤ cs2.size := by rw [← hcl]; exact hk3
          have hr1 : RL E.P c cells (cs2.toList.take (len * ie.size)).toArray := by
            refine ⟨by simp; omega, fun i hi => ?_⟩
            have h1 := hk4 i hi
            have e1 : ((cs2.toList.take (len * ie.size)).toArray).getD i undef = cs2.getD i undef := by
              simp only [Array.getD_eq_getD_getElem?, List.getElem?_toArray]
              rw [List.getElem?_take_of_lt (by omega), Array.getElem?_toList]
            rw [e1]
            exact h1
          refine grown_step (len := len) (cells := cells) (olds := cs2.toList.take (len * ie.size)) (news := news) (rest := Builtin.zeroCells z.cells (grownCap c.w (len + n) cap B - (len + n))) (w' := c.w.drew.alloc (.cells ((cs2.toList.take (len * ie.size) ++ news).toArray ++ Builtin.zeroCells z.cells (grownCap c.w (len + n) cap B - (len + n))) B)) (cap := grownCap c.w (len + n) cap B) (old := [(kb id1, none)])
            hd hn hI hie (.inr ⟨id1, rfl⟩) hK hone hl1 hr1 hl3 rfl rfl rfl rfl (grownCap_ge c.w (len + n) cap B) ?_ rfl (hex (by rw [hv]; exact hr))
          have hge := grownCap_ge c.w (len + n) cap B
          simp only [Array.size_append, List.size_toArray, List.length_append, List.length_take, Array.length_toList, size_zeroCells, hzs, hnl]
          rw [Nat.min_eq_left hle, ← Nat.add_mul, ← Nat.add_mul]
          exact Nat.mul_le_mul_right _ (by omega)
  · exact (Res.fail h3).elim
end Go.Proofs.Ytfoiadlaekknpaa.Pm
namespace Go.Proofs.Ytfoiadlaekknpaa.Pm
open Go

/-- Are two values of a type the same, by their cells? -/
def eqT (P : Program) : Nat → TypeId → List PV → List PV → Option Bool
  | 0, _, _, _ => none
  | f + 1, T, xs, ys => match P.underlying T with
    | some (.int _) => match xs, ys with
      | [.av (.int k a)], [.av (.int k' b)] => if k = k' then some (decide (a = b)) else none
      | _, _ => none
    | some .bool => match xs, ys with
      | [.av (.bool a)], [.av (.bool b)] => some (a == b)
      | _, _ => none
    | some .string => match xs, ys with
      | [.av (.string a)], [.av (.string b)] => some (a.toList == b.toList)
      | _, _ => none
    | some (.struct fs) => match P.stoodInHeld T with
      | false => eqFs P (eqT P f) xs ys fs.toList
      | true => none
    | _ => none
where
  eqFs (P : Program) (r : TypeId → List PV → List PV → Option Bool) (xs ys : List PV) : List Field → Option Bool
    | [] => some true
    | f :: fs => match f.name == "_", P.info? f.type with
      | false, some ti => match Nat.ble (f.offset + ti.size) xs.length, Nat.ble (f.offset + ti.size) ys.length, Nat.ble 1 ti.size with
        | true, true, true => match r f.type ((xs.drop f.offset).take ti.size) ((ys.drop f.offset).take ti.size), eqFs P r xs ys fs with
          | some a, some b => some (match fs with | [] => a | _ => a && b)
          | _, _ => none
        | _, _, _ => none
      | _, _ => none

def VR (P : Program) (c : Cx) (T : TypeId) (l : List PV) (v : Value) : Prop :=
  (isAggD (P.underlying T) = some true → ∃ arr, v = .agg arr ∧ RL P c l arr) ∧ (isAggD (P.underlying T) = some false → ∀ p, l = [p] → Rep P c p v)
theorem part_vr {P : Program} {c : Cx} {T : TypeId} {ti : TypeInfo} {ag : Bool} (hag : isAggD (P.underlying T) = some ag) (hin : P.info? T = some ti) {xs : List PV} {vs : Array Value} {off : Nat} (h : RL P c xs vs) (hl : off + ti.size ≤ xs.length) (h1 : 1 ≤ ti.size) (w : World) :
    ∃ v, (part T vs off).run P w = .ok v w ∧ VR P c T ((xs.drop off).take ti.size) v := by
  have hs := h.1
  cases ag with
  | true =>
    refine ⟨.agg (vs.extract off (off + ti.size)), by simp [part, run_isAgg hag, run_size hin], fun _ => ⟨_, rfl, by simp; omega, fun i hi => ?_⟩, fun e => by rw [hag] at e; cases e⟩
    have hi' : i < ti.size := by simp at hi; omega
    have h2 := h.2 (off + i) (by omega)
    have h6 : off + i < vs.size := by omega
    have h7 : i < (vs.extract off (off + ti.size)).size := by simp; omega
    have e1 : (vs.extract off (off + ti.size)).getD i undef = vs.getD (off + i) undef := by
      rw [Array.getD_eq_getD_getElem?, Array.getD_eq_getD_getElem?, Array.getElem?_eq_getElem h7, Array.getElem?_eq_getElem h6]
      simp
    have e2 : ((xs.drop off).take ti.size).getD i P0 = xs.getD (off + i) P0 := by simp [List.getD_eq_getElem?_getD, hi']
    rw [e1, e2]
    exact h2
  | false =>
    have h6 : off < vs.size := by omega
    refine ⟨vs[off], by simp [part, run_isAgg hag, h6], fun e => (by rw [hag] at e; cases e), fun _ p hp => ?_⟩
    have h2 := h.2 off (by omega)
    have e1 : xs.getD off P0 = p := by
      have := congrArg (·.getD 0 P0) hp
      simp only [List.getD_cons_zero] at this
      rw [← this]
      simp [List.getD_eq_getElem?_getD, show 0 < ti.size by omega]
    rw [e1] at h2
    simpa [Array.getD_eq_getD_getElem?, h6] using h2
theorem eqFs_ok {P : Program} {c : Cx} {f d : Nat} (w : World) (ih : ∀ (T : TypeId) (xs ys : List PV) (b : Bool), eqT P f T xs ys = some b → ∀ vx vy, VR P c T xs vx → VR P c T ys vy → (Op.equalIn d T vx vy).run P w = .ok b w) {xs ys : List PV} {vx vy : Array Value} (hx : RL P c xs vx) (hy : RL P c ys vy) :
    ∀ (fs : List Field) (b : Bool), eqT.eqFs P (eqT P f) xs ys fs = some b → (∀ g ∈ fs, ∃ ag, isAggD (P.underlying g.type) = some ag) → (Op.eqFields d vx vy fs).run P w = .ok b w
  | [], b, h, _ => by
    simp only [eqT.eqFs, Option.some.injEq] at h
    subst h
    simp [Op.eqFields]
  | g :: fs, b, h, hall => by
    simp only [eqT.eqFs] at h
    split at h
    case h_2 => cases h
    rename_i ti hname hin
    split at h
    case h_2 => cases h
    rename_i h1 h2 h3
    have h1 := Nat.le_of_ble_eq_true h1
    have h2 := Nat.le_of_ble_eq_true h2
    have h3 := Nat.le_of_ble_eq_true h3
    split at h
    case h_2 => cases h
    rename_i a b' ha hb
    obtain ⟨ag, hag⟩ := hall g (by simp)
    obtain ⟨v1, p1, q1⟩ := part_vr hag hin hx h1 h3 w
    obtain ⟨v2, p2, q2⟩ := part_vr hag hin hy h2 h3 w
    have hn : g.name ≠ "_" := by simpa using hname
    have hr := ih _ _ _ _ ha v1 v2 q1 q2
    have hrest := eqFs_ok w ih hx hy fs b' hb fun g' hg' => hall g' (by simp [hg'])
    simp only [Op.eqFields, hn, ne_eq, not_false_eq_true, if_true, Sem.run_bind, p1, p2, hr, Result.andThen_ok]
    simp only [Option.some.injEq] at h
    cases a with
    | true =>
      simp only [Bool.not_true, Bool.false_eq_true, if_false, hrest]
      cases fs with
      | nil =>
        simp only [eqT.eqFs, Option.some.injEq] at hb
        simp only at h
        rw [← h, ← hb]
      | cons x r => simp only [Bool.true_and] at h; rw [h]
    | false =>
      simp only [Bool.not_false, if_true, Sem.run_pure]
      cases fs with
      | nil => simp only at h; rw [← h]
      | cons x r => simp only [Bool.false_and] at h; rw [← h]
theorem eqFs_all {P : Program} {f : Nat} {xs ys : List PV} : ∀ (fs : List Field) (b : Bool), eqT.eqFs P (eqT P f) xs ys fs = some b → ∀ g ∈ fs, ∃ ag, isAggD (P.underlying g.type) = some ag
  | [], _, _, _, hg => by cases hg
  | g0 :: fs, b, h, g, hg => by
    simp only [eqT.eqFs] at h
    split at h
    case h_2 => cases h
    split at h
    case h_2 => cases h
    split at h
    case h_2 => cases h
    rename_i a b' ha hb
    rcases List.mem_cons.1 hg with rfl | hg
    · cases f with
      | zero => simp [eqT] at ha
      | succ f =>
        simp only [eqT] at ha
        cases hu : P.underlying g.type with
        | none => rw [hu] at ha; cases ha
        | some d => cases d <;> first | exact ⟨_, rfl⟩ | (rw [hu] at ha; cases ha)
    · exact eqFs_all fs b' hb g hg
theorem eqT_ok {P : Program} {c : Cx} (w : World) : ∀ (f : Nat) (T : TypeId) (xs ys : List PV) (b : Bool), eqT P f T xs ys = some b → ∀ d, f ≤ d → ∀ vx vy, VR P c T xs vx → VR P c T ys vy → (Op.equalIn d T vx vy).run P w = .ok b w
  | 0, _, _, _, _, h, _, _, _, _, _, _ => by simp [eqT] at h
  | f + 1, T, xs, ys, b, h, d + 1, hd, vx, vy, hx, hy => by
    simp only [eqT] at h
    split at h
    · rename_i k hu
      split at h
      case h_2 => cases h
      rename_i k1 a k2 b2
      have e1 := rep_av (hx.2 (by rw [hu]; rfl) _ rfl)
      have e2 := rep_av (hy.2 (by rw [hu]; rfl) _ rfl)
      subst e1; subst e2
      split at h
      case isFalse => cases h
      rename_i hk
      subst hk
      simp only [Option.some.injEq] at h
      rw [run_equalIn_int w d T k1 k a b2 hu, ← h]
      rfl
    · rename_i hu
      split at h
      case h_2 => cases h
      have e1 := rep_av (hx.2 (by rw [hu]; rfl) _ rfl)
      have e2 := rep_av (hy.2 (by rw [hu]; rfl) _ rfl)
      subst e1; subst e2
      simp only [Option.some.injEq] at h
      rw [run_equalIn_bool' w d T _ _ hu, h]
    · rename_i hu
      split at h
      case h_2 => cases h
      have e1 := rep_av (hx.2 (by rw [hu]; rfl) _ rfl)
      have e2 := rep_av (hy.2 (by rw [hu]; rfl) _ rfl)
      subst e1; subst e2
      simp only [Option.some.injEq] at h
      rw [run_equalIn_string w d T _ _ hu, h]
    · rename_i fs hu
      split at h
      case h_2 => cases h
      rename_i hst
      obtain ⟨ax, rfl, rx⟩ := hx.1 (by rw [hu]; rfl)
      obtain ⟨ay, rfl, ry⟩ := hy.1 (by rw [hu]; rfl)
      have hf : P.fieldsOf T = fs := by simp [Program.fieldsOf, hu]
      rw [run_equalIn_struct w d T ax ay (by rw [hf]; exact hu) hst, hf]
      exact eqFs_ok w (fun T xs ys b h vx vy q1 q2 => eqT_ok w f T xs ys b h d (by omega) vx vy q1 q2) rx ry fs.toList b h (eqFs_all fs.toList b h)
    · cases h
def aEqS (P : Program) (ng : Bool) (T : TypeId) (x y : Operand) : Plan := opd x fun p => opd y fun q => match p, q, P.eqGuardType P.depth T, P.underlying T with
  | .agg xs, .agg ys, false, some (.struct _) => match eqT P 20 T xs ys with | some b => bit (match ng with | true => !b | false => b) | none => .fail
  | _, _, _, _ => .fail
theorem aEqS_ok {E : Env} {o : Oper} {id : Nat} {ng : Bool} {T U : TypeId} {x y : Operand} (ho : o.op = .binOp (match ng with | true => .neq | false => .eql) T x y U) (hd : ∀ x, o.dst = some x → x < E.n) : ActOk E o id (aEqS E.P ng T x y) := by
  intro g p wb h nx c a K Q hn hI hK
  obtain ⟨q1, hq1, h1⟩ := Res.opd hI h
  obtain ⟨q2, hq2, h2⟩ := Res.opd hI h1
  clear h h1
  split at h2
  case h_2 => exact (Res.fail h2).elim
  rename_i xs ys fs hgt hu
  split at h2
  case h_2 => exact (Res.fail h2).elim
  rename_i b hb
  obtain ⟨rfl, rfl⟩ := Res.done h2
  obtain ⟨vx, e1, h3, h4⟩ := rep_agg hq1
  obtain ⟨vy, e2, h5, h6⟩ := rep_agg hq2
  have hr := eqT_ok c.w 20 T xs ys b hb 10000 (by omega) (.agg vx) (.agg vy) ⟨fun _ => ⟨vx, rfl, h3, h4⟩, fun e => by rw [hu] at e; cases e⟩ ⟨fun _ => ⟨vy, rfl, h5, h6⟩, fun e => by rw [hu] at e; cases e⟩
  refine pure_step hd hI hK (.sh (.av _)) ?_
  cases ng with
  | true => simp [execOp, ho, e1, e2, run_eqGuard_agg c.w .neq T x y vx vy hgt, run_neq_struct, hr]
  | false => simp [execOp, ho, e1, e2, run_eqGuard_agg c.w .eql T x y vx vy hgt, run_eql_struct, hr]
end Go.Proofs.Ytfoiadlaekknpaa.Pm
namespace Go.Proofs.Ytfoiadlaekknpaa.Pm
open Go

/-- The first n of what is copied. -/
def srcN (_P : Program) (e : TypeId) (sz nd n : Nat) (l : List PV) (u : Option TypeDesc) (q : PV) (k : Plan) : Plan := match u, q with
  | some (.slice _), .ssl cs off ns => .ob (Nat.min ns nd = n ∧ off + n * sz ≤ cs.length ∧ (cs.drop off).take (n * sz) = l) k
  | some (.slice _), .osl id off ns => .look (kb id) fun v => match v with
    | .blk T' cs => match Nat.beq T' e with | true => .ob (Nat.min ns nd = n ∧ off + n * sz ≤ cs.length ∧ (cs.drop off).take (n * sz) = l) k | false => .fail
    | .pv _ => .fail
  | _, _ => .fail
theorem srcN_ok {E : Env} {nx : Nat → Prop} {c : Cx} {g : St} {a : Act} (hI : Inv E nx c g a) {e tx : TypeId} {sz nd n : Nat} {l : List PV} {q : PV} {v : Value} {k : Plan} {p : PV} {wb : L} (hq : Rep E.P c q v)
    (h : Res g (srcN E.P e sz nd n l (E.P.underlying tx) q k) p wb) : Res g k p wb ∧ l.length = n * sz ∧ ones l ∧ ∃ ns news, (∀ w, (Builtin.lenOf v).run E.P w = .ok ns w) ∧ Nat.min ns nd = n ∧ RL E.P c l (List.toArray news) ∧ (Builtin.firstCells sz n v).run E.P c.w = .ok news.toArray c.w := by
  have mem : ∀ {cs : List PV} {off : Nat} {b a' : Nat} {vf : Nat → Value} {cap ns : Nat}, off + n * sz ≤ cs.length → (cs.drop off).take (n * sz) = l → ones cs → Nat.min ns nd = n →
      (∀ j, j < cs.length → c.w.cell? ⟨b, a' + j, none⟩ = some (vf j)) → (∀ j, j < cs.length → Rep E.P c (cs.getD j P0) (vf j)) → v = .slice (some ⟨b, a' + off, none⟩) ns cap →
      l.length = n * sz ∧ ones l ∧ ∃ ns news, (∀ w, (Builtin.lenOf v).run E.P w = .ok ns w) ∧ Nat.min ns nd = n ∧ RL E.P c l (List.toArray news) ∧ (Builtin.firstCells sz n v).run E.P c.w = .ok news.toArray c.w := by
    intro cs off b a' vf cap ns h1 h2 h3 hm h4 h5 hv
    obtain ⟨h6, h7⟩ := getD_seg h1 h2
    have hrl : RL E.P c l ((List.range (n * sz)).map fun j => vf (off + j)).toArray := by
      refine ⟨by simp [h6], fun i hi => ?_⟩
      rw [h6] at hi
      rw [h7 i hi]
      have e1 : (((List.range (n * sz)).map fun j => vf (off + j)).toArray).getD i undef = vf (off + i) := by simp [Array.getD_eq_getD_getElem?, hi]
      rw [e1]
      exact h5 (off + i) (by omega)
    subst hv
    refine ⟨h6, seg_ones h3 h2, ns, _, fun _ => rfl, hm, hrl, ?_⟩
    refine run_firstCells_some c.w sz n _ _ _ _ (by simp) fun j u hj => ?_
    have hj' : j < n * sz := by
      have := (List.getElem?_eq_some_iff.1 hj).1
      simpa using this
    have hju : u = vf (off + j) := by simpa [hj'] using hj.symm
    rw [addr_add, hju, Nat.add_assoc]
    exact h4 _ (by omega)
  have emp : ∀ {cs : List PV} {off : Nat} {ad : Option Addr} {cap ns : Nat}, (cs.drop off).take (n * sz) = l → Nat.min ns nd = n → ns = 0 → v = .slice ad 0 cap →
      l.length = n * sz ∧ ones l ∧ ∃ ns news, (∀ w, (Builtin.lenOf v).run E.P w = .ok ns w) ∧ Nat.min ns nd = n ∧ RL E.P c l (List.toArray news) ∧ (Builtin.firstCells sz n v).run E.P c.w = .ok news.toArray c.w := by
    intro cs off ad cap ns h1 hm h2 hv
    subst h2
    have hn : n = 0 := by rw [← hm]; exact Nat.zero_min nd
    subst hn
    rw [Nat.zero_mul, List.take_zero] at h1
    subst h1; subst hv
    refine ⟨by simp, fun p hp => (by cases hp), 0, [], fun _ => rfl, hm, ⟨rfl, fun i hi => by simp at hi⟩, ?_⟩
    cases ad with
    | none => exact run_firstCells_none c.w sz 0 0 cap
    | some ad => simp [Builtin.firstCells, loadCells, loadCellsFrom]
  unfold srcN at h
  split at h
  · rename_i e' cs off ns hu
    obtain ⟨⟨h1, h2, h3⟩, h4⟩ := Res.ob h
    refine ⟨h4, ?_⟩
    rcases rep_ssl hq with ⟨ad, cap, hv, hn⟩ | ⟨b, a', cap, vf, hv, hS, hc, hr, hone, hl⟩
    · exact emp h3 h1 hn hv
    · exact mem h2 h3 hone h1 hc (fun j hj => .sh (hr j hj)) hv
  · rename_i e' id off ns hu
    obtain ⟨bv, hg, h5⟩ := Res.look h
    cases bv with
    | pv _ => exact (Res.fail h5).elim
    | blk T' cs =>
      simp only at h5
      split at h5
      case h_2 => exact (Res.fail h5).elim
      obtain ⟨⟨h1, h2, h3⟩, h4⟩ := Res.ob h5
      refine ⟨h4, ?_⟩
      obtain ⟨ob, T2, hown, hv⟩ := rep_osl hq
      obtain ⟨ob', hown', hone, hb⟩ := hI.blk id T' cs hg
      rw [hown] at hown'
      cases hown'
      rcases hv with ⟨ad, hv, hn⟩ | ⟨b, cap, cs2, hob, hv, hb2, hl, hsz2⟩
      · exact emp h3 h1 hn hv
      · rcases hb with ⟨hb, _⟩ | ⟨b', vs, hb1, hb3, hb4, hb5⟩
        · rw [hob] at hb; cases hb
        · obtain rfl : b' = b := by rw [hob] at hb1; simpa using hb1.symm
          exact mem (a' := 0) (vf := fun j => vs.getD j undef) (cap := cap) h2 h3 hone h1 (fun j hj => by
            have : j < vs.size := by omega
            rw [cell_of_row c.w _ _ vs _ _ hb3]
            simp [Array.getD_eq_getD_getElem?, this]) hb5 (by rw [hv, Nat.zero_add])
  · exact (Res.fail h).elim
def aCopy (P : Program) (T : TypeId) (u : Option TypeDesc) (x y : Operand) (an : Ans) : Plan := opd x fun p => opd y fun q => match P.underlying T, p, an with
  | some (.slice e), .osl id1 off nd, .copy n l r => match P.info? e with
    | some ie => .look (kb id1) fun v => match v with
      | .blk B cells => match Nat.beq B e with
        | true => srcN P e ie.size nd n l u q (.ob (off + l.length ≤ cells.length ∧ splice cells off l = r) (.done (.av (.int .i64 n)) [(kb id1, some (.blk B r))]))
        | false => .fail
      | .pv _ => .fail
    | none => .fail
  | _, _, _ => .fail
theorem aCopy_ok {E : Env} {o : Oper} {id : Nat} {T U : TypeId} {x y : Operand} {an : Ans} (ho : o.op = .call { callee := .builtin .copy, args := #[x, y], argTypes := #[T, U] }) (hd : ∀ x, o.dst = some x → x < E.n) : ActOk E o id (aCopy E.P T (E.P.underlying U) x y an) := by
  intro g p wb h nx c a K Q hn hI hK
  obtain ⟨q1, hq1, h1⟩ := Res.opd hI h
  obtain ⟨q2, hq2, h2⟩ := Res.opd hI h1
  clear h h1
  split at h2
  case h_2 => exact (Res.fail h2).elim
  rename_i e id1 off nd n l r hu
  split at h2
  case h_2 => exact (Res.fail h2).elim
  rename_i ie hie
  obtain ⟨bv, hg, h3⟩ := Res.look h2
  cases bv with
  | pv _ => exact (Res.fail h3).elim
  | blk B cells =>
    simp only at h3
    split at h3
    case h_2 => exact (Res.fail h3).elim
    rename_i hB
    have hB := Nat.eq_of_beq_eq_true hB
    subst hB
    obtain ⟨h4, hll, hone, ns, news, hlen, hmin, hrl, hfc⟩ := srcN_ok hI hq2 h3
    obtain ⟨⟨h5, rfl⟩, h6⟩ := Res.ob h4
    obtain ⟨rfl, rfl⟩ := Res.done h6
    have hex : ∀ {base : Option Addr} {cap : Nat} {w' : World}, a.eval x = .slice base nd cap → ((match base with | some ad => storeCells ad news | none => pure ()) : Sem Unit).run E.P c.w = .ok () w' → (execOp a.eval o).run E.P c.w = .ok (.value (.int .i64 n)) w' := by
      intro base cap w' hx hst
      have hr : (Builtin.copy_ #[T, U] o.type #[a.eval x, a.eval y]).run E.P c.w = .ok (goInt n) w' := by
        cases base with
        | none =>
          simp only [Sem.run_pure, Result.ok.injEq, true_and] at hst
          subst hst
          have hm2 : min ns nd = n := hmin
          simp [Builtin.copy_, hx, run_underlying hu, hlen, hm2, run_size hie, hfc]
        | some ad => simp [Builtin.copy_, hx, run_underlying hu, hlen, hmin, run_size hie, hfc, hst]
      simp [execOp, ho, resolve, invoke, builtin, hr, goInt]
    obtain ⟨ob, T2, hown, hv⟩ := rep_osl hq1
    obtain ⟨ob', hown', _⟩ := hI.blk id1 B cells hg
    rw [hown] at hown'
    cases hown'
    rcases hv with ⟨ad, hv, hnd⟩ | ⟨b, cap, cs, hob, hv, hb, hl, hsz⟩
    · subst hnd
      have hn0 : n = 0 := by rw [← hmin]; exact Nat.min_zero ns
      subst hn0
      have hl0 : l = [] := List.eq_nil_of_length_eq_zero (by simpa using hll)
      subst hl0
      have hnews : news = [] := List.eq_nil_of_length_eq_zero (by simpa using hrl.1)
      subst hnews
      have hsp : splice cells off [] = cells := by simp [splice]
      have hgg : over [(kb id1, some (.blk B (splice cells off [])))] g = g := by
        funext k
        rw [hsp]
        simp only [over, lk]
        by_cases hk : Nat.beq k (kb id1) = true
        · rw [if_pos hk, Nat.eq_of_beq_eq_true hk, hg]
        · rw [if_neg hk]
      rw [hgg] at hK
      refine ow_val (hex hv (w' := c.w) (by cases ad <;> simp [storeCells])) (hK c _ (hI.pure (fun _ h => .inl h) o.dst hd fun _ => .sh (.av _)))
    · subst hob
      obtain ⟨cur, hc1, hc2, hKK⟩ := write_step (id := id) (vs := news) (v := .int .i64 n) hd hI hg hown hone h5 hrl hK fun _ => .sh (.av _)
      have hst := run_storeCells_at E.P b off B news 0 cur c.w hc1 (by simpa using hc2) (hrl.oneCell hone)
      simp only [Nat.add_zero] at hst
      exact ow_val (hex hv hst) hKK
end Go.Proofs.Ytfoiadlaekknpaa.Pm
namespace Go.Proofs.Ytfoiadlaekknpaa.Pm
open Go

mutual
/-- Own blocks under other numbers. -/
def ren (σ : Nat → Nat) : PV → PV
  | .agg cs => .agg (renL σ cs)
  | .tup cs => .tup (renL σ cs)
  | .osl id off len => .osl (σ id) off len
  | .opt id off => .opt (σ id) off
  | .fn f cs ds => .fn f (renL σ cs) (renL σ ds)
  | .av v => .av v
  | .ssl cs off len => .ssl cs off len
  | .spt cs off => .spt cs off
def renL (σ : Nat → Nat) : List PV → List PV
  | [] => []
  | p :: l => ren σ p :: renL σ l
end
theorem renL_length (σ : Nat → Nat) : ∀ l, (renL σ l).length = l.length
  | [] => rfl
  | _ :: l => by simp [renL, renL_length σ l]
theorem renL_get (σ : Nat → Nat) : ∀ (l : List PV) (i : Nat), i < l.length → (renL σ l).getD i P0 = ren σ (l.getD i P0)
  | p :: l, 0, _ => rfl
  | p :: l, i + 1, h => by
    have := renL_get σ l i (by simpa using h)
    simpa [renL, List.getD_eq_getElem?_getD] using this
theorem one_ren (σ : Nat → Nat) (p : PV) : (ren σ p).one = p.one := by cases p <;> rfl
theorem ones_renL {σ : Nat → Nat} : ∀ {l : List PV}, ones (renL σ l) ↔ ones l
  | [] => by simp [renL]
  | p :: l => by
    have ih := ones_renL (σ := σ) (l := l)
    simp only [ones, renL, List.mem_cons, forall_eq_or_imp, one_ren] at ih ⊢
    rw [ih]
theorem srep_ren {w : World} {S : Nat → Prop} {σ : Nat → Nat} {q : PV} {v : Value} (h : SRep w S q v) : ∀ p, q = ren σ p → SRep w S p v := by
  induction h with
  | av v => intro p hp; cases p <;> simp [ren] at hp; subst hp; exact .av _
  | agg hn _ ih =>
    intro p hp
    cases p <;> simp [ren] at hp
    rename_i ds
    subst hp
    rw [renL_length] at hn
    exact .agg hn fun i hi => ih i (by rw [renL_length]; exact hi) _ (renL_get σ ds i hi)
  | tup hn _ ih =>
    intro p hp
    cases p <;> simp [ren] at hp
    rename_i ds
    subst hp
    rw [renL_length] at hn
    exact .tup hn fun i hi => ih i (by rw [renL_length]; exact hi) _ (renL_get σ ds i hi)
  | emp => intro p hp; cases p <;> simp [ren] at hp; obtain ⟨rfl, rfl, rfl⟩ := hp; exact .emp
  | ssl hS hc h ho hl _ => intro p hp; cases p <;> simp [ren] at hp; obtain ⟨rfl, rfl, rfl⟩ := hp; exact .ssl hS hc h ho hl
  | spt hS hc h ho _ => intro p hp; cases p <;> simp [ren] at hp; obtain ⟨rfl, rfl⟩ := hp; exact .spt hS hc h ho
  | fn hn _ hm _ ih ik =>
    intro p hp
    cases p <;> simp [ren] at hp
    obtain ⟨rfl, rfl, rfl⟩ := hp
    rw [renL_length] at hn hm
    exact .fn hn (fun i hi => ih i (by rw [renL_length]; exact hi) _ (renL_get σ _ i hi)) hm (fun i hi => ik i (by rw [renL_length]; exact hi) _ (renL_get σ _ i hi))
/-- A view in which the numbers lead elsewhere. -/
def Cx.via (c : Cx) (σ : Nat → Nat) : Cx := ⟨c.w, c.S, fun i => c.own (σ i)⟩
theorem rep_via {P : Program} {c : Cx} {σ : Nat → Nat} {q : PV} {v : Value} (h : Rep P c q v) : ∀ p, q = ren σ p → Rep P (c.via σ) p v := by
  induction h with
  | sh h => intro p hp; exact .sh (srep_ren h p hp)
  | agg hn _ ih =>
    intro p hp
    cases p <;> simp [ren] at hp
    rename_i ds
    subst hp
    rw [renL_length] at hn
    exact .agg hn fun i hi => ih i (by rw [renL_length]; exact hi) _ (renL_get σ ds i hi)
  | tup hn _ ih =>
    intro p hp
    cases p <;> simp [ren] at hp
    rename_i ds
    subst hp
    rw [renL_length] at hn
    exact .tup hn fun i hi => ih i (by rw [renL_length]; exact hi) _ (renL_get σ ds i hi)
  | osl ho h => intro p hp; cases p <;> simp [ren] at hp; obtain ⟨rfl, rfl, rfl⟩ := hp; exact .osl (c := c.via σ) ho h
  | opt ho => intro p hp; cases p <;> simp [ren] at hp; obtain ⟨rfl, rfl⟩ := hp; exact .opt (c := c.via σ) ho
  | fn hn _ hm _ ih ik =>
    intro p hp
    cases p <;> simp [ren] at hp
    obtain ⟨rfl, rfl, rfl⟩ := hp
    rw [renL_length] at hn hm
    exact .fn hn (fun i hi => ih i (by rw [renL_length]; exact hi) _ (renL_get σ _ i hi)) hm (fun i hi => ik i (by rw [renL_length]; exact hi) _ (renL_get σ _ i hi))
theorem srep_to {w : World} {S : Nat → Prop} {σ : Nat → Nat} {p : PV} {v : Value} (h : SRep w S p v) : SRep w S (ren σ p) v := by
  induction h with
  | av v => exact .av _
  | agg hn _ ih => exact .agg (by rw [renL_length]; exact hn) fun i hi => by rw [renL_length] at hi; rw [renL_get σ _ i hi]; exact ih i hi
  | tup hn _ ih => exact .tup (by rw [renL_length]; exact hn) fun i hi => by rw [renL_length] at hi; rw [renL_get σ _ i hi]; exact ih i hi
  | emp => exact .emp
  | ssl hS hc h ho hl _ => exact .ssl hS hc h ho hl
  | spt hS hc h ho _ => exact .spt hS hc h ho
  | fn hn _ hm _ ih ik => exact .fn (by rw [renL_length]; exact hn) (fun i hi => by rw [renL_length] at hi; rw [renL_get σ _ i hi]; exact ih i hi) (by rw [renL_length]; exact hm) (fun i hi => by rw [renL_length] at hi; rw [renL_get σ _ i hi]; exact ik i hi)
theorem rep_to {P : Program} {c c' : Cx} {σ : Nat → Nat} (hw : c'.w = c.w) (hS : c'.S = c.S) (ho : ∀ i x, c.own i = some x → c'.own (σ i) = some x) {p : PV} {v : Value} (h : Rep P c p v) : Rep P c' (ren σ p) v := by
  induction h with
  | sh h => exact .sh (by rw [hw, hS]; exact srep_to h)
  | agg hn _ ih => exact .agg (by rw [renL_length]; exact hn) fun i hi => by rw [renL_length] at hi; rw [renL_get σ _ i hi]; exact ih i hi
  | tup hn _ ih => exact .tup (by rw [renL_length]; exact hn) fun i hi => by rw [renL_length] at hi; rw [renL_get σ _ i hi]; exact ih i hi
  | osl h1 h2 => exact .osl (ho _ _ h1) (by rw [hw]; exact h2)
  | opt h1 => exact .opt (ho _ _ h1)
  | fn hn _ hm _ ih ik => exact .fn (by rw [renL_length]; exact hn) (fun i hi => by rw [renL_length] at hi; rw [renL_get σ _ i hi]; exact ih i hi) (by rw [renL_length]; exact hm) (fun i hi => by rw [renL_length] at hi; rw [renL_get σ _ i hi]; exact ik i hi)

/-- nil, as an empty slice. -/
def cz1 : PV → PV
  | .av (.slice none 0 0) => .ssl [] 0 0
  | p => p
def cz : PV → PV
  | .agg cs => .agg (cs.map cz1)
  | p => cz1 p
theorem rep_cz1 {P : Program} {c : Cx} {p : PV} {v : Value} (h : Rep P c p v) : Rep P c (cz1 p) v := by
  unfold cz1
  split
  · rw [rep_av h]; exact .sh .emp
  · exact h
theorem rep_cz {P : Program} {c : Cx} {p : PV} {v : Value} (h : Rep P c p v) : Rep P c (cz p) v := by
  unfold cz
  split
  · rename_i cs
    obtain ⟨vs, rfl, h1, h2⟩ := rep_agg h
    refine .agg (by simpa using h1) fun i hi => ?_
    have hi' : i < cs.length := by simpa using hi
    have h3 := rep_cz1 (h2 i hi')
    simpa [List.getD_eq_getElem?_getD, hi'] using h3
  · exact rep_cz1 h

/-! ### contracts -/
abbrev Hp := List (Option (TypeId × List PV))
def hSt (H : Hp) : St := fun k => if k % 2 = 1 then (match H.getD (k / 2) none with | some x => some (.blk x.1 x.2) | none => none) else none
theorem hSt_b (H : Hp) (i : Nat) : hSt H (kb i) = match H.getD i none with | some x => some (.blk x.1 x.2) | none => none := by
  unfold hSt
  rw [if_pos (by simp only [kb]; omega), show kb i / 2 = i by simp only [kb]; omega]
def FnOk (P : Program) (f : FuncId) : Prop := ∃ fn, P.funcs[f]? = some fn ∧ fn.body.isNone = false ∧ (fn.name == "runtime.NumGoroutine") = false
def cEnv (P : Program) (c : Cx) (H : Hp) : Env := ⟨P, 0, c, fun b => ∃ i T, Live (hSt H) i ∧ c.own i = some (some b, T)⟩
/-- Called with such arguments, the lent blocks as H tells them, function f hands back r; behind it the lent blocks (and new ones) are as H' tells. -/
def PC (P : Program) (f : FuncId) (args : List PV) (H : Hp) (r : PV) (H' : Hp) : Prop := FnOk P f ∧ H.length ≤ H'.length ∧ ∀ (c : Cx) (vs : Array Value), Heap (cEnv P c H) (· < H.length) c (hSt H) → RL P c args vs →
  Calls P f vs c.w fun e w' => ∃ v c', e = .returned v ∧ c'.w = w' ∧ Heap (cEnv P c H) (· < H'.length) c' (hSt H') ∧ Rep P c' r v

/-- What is lent lies as H tells it. -/
def lentP (σ : Nat → Nat) : List Nat → Hp → Plan → Plan
  | [], [], k => k
  | id :: ids, some (T, cs) :: H, k => .look (kb id) fun v => match v with
    | .blk T' cs' => match Nat.beq T' T with | true => .ob (cs' = renL σ cs) (lentP σ ids H k) | false => .fail
    | .pv _ => .fail
  | _, _, _ => .fail
def wcall (σ : Nat → Nat) : Nat → Hp → L
  | _, [] => []
  | i, x :: r => (kb (σ i), match x with | some y => some (.blk y.1 (renL σ y.2)) | none => none) :: wcall σ (i + 1) r
def sigi (ids : List Nat) (id : Nat) : Nat → Nat := fun i => ids.getD i id
def sigo (ids : List Nat) (id : Nat) : Nat → Nat := fun i => if Nat.blt i ids.length then ids.getD i id else id + (i - ids.length)
def nodupB : List Nat → Bool
  | [] => true
  | a :: l => (l.all fun b => !Nat.beq a b) && nodupB l
def callP (P : Program) (f : FuncId) (args : List PV) (id : Nat) (ids : List Nat) (bs : List PV) (H : Hp) (r : PV) (H' : Hp) : Plan :=
  match Nat.ble H'.length (ids.length + 8), nodupB ids with
  | true, true => .ob (PC P f bs H r H') (.ob (args = renL (sigi ids id) bs) (lentP (sigi ids id) ids H (.done (ren (sigo ids id) r) (wcall (sigo ids id) 0 H'))))
  | _, _ => .fail
def opdl : List Operand → (List PV → Plan) → Plan
  | [], k => k []
  | x :: l, k => opd x fun p => opdl l fun r => k (p :: r)
theorem Res.opdl {E : Env} {nx : Nat → Prop} {c : Cx} {g : St} {a : Act} (hi : Inv E nx c g a) : ∀ {l : List Operand} {k : List PV → Plan} {p : PV} {wb : L}, Res g (opdl l k) p wb →
    ∃ ps, RL E.P c ps (l.map a.eval).toArray ∧ Res g (k ps) p wb
  | [], k, p, wb, h => ⟨[], ⟨rfl, fun i hi => by simp at hi⟩, h⟩
  | x :: l, k, p, wb, h => by
    obtain ⟨q, hq, h1⟩ := Res.opd hi h
    obtain ⟨ps, h2, h3⟩ := Res.opdl hi h1
    refine ⟨q :: ps, ?_, h3⟩
    have := (one_rl hq).append h2
    simpa using this
def aCall (P : Program) (fx : Operand) (xs : List Operand) (an : Ans) (id : Nat) : Plan := opd fx fun fv => opdl xs fun args => match fv, an with
  | .av (.func (.func f) fs cs), .call ids bs H r H' => callP P f (fs.toList.map .av ++ args.map cz ++ cs.toList.map .av) id ids bs H r H'
  | .fn (.func f) fs cs, .call ids bs H r H' => callP P f (fs ++ args.map cz ++ cs) id ids bs H r H'
  | _, _ => .fail
theorem lent_ok {g : St} {σ : Nat → Nat} {k : Plan} {p : PV} {wb : L} : ∀ {ids : List Nat} {H : Hp}, Res g (lentP σ ids H k) p wb → ids.length = H.length ∧ Res g k p wb ∧
    ∀ i, i < ids.length → ∃ T cs, H.getD i none = some (T, cs) ∧ g (kb (ids.getD i 0)) = some (.blk T (renL σ cs))
  | [], [], h => ⟨rfl, h, fun i hi => by simp at hi⟩
  | id :: ids, some (T, cs) :: H, h => by
    obtain ⟨v, h1, h2⟩ := Res.look h
    cases v with
    | pv _ => exact (Res.fail h2).elim
    | blk T' cs' =>
      simp only at h2
      split at h2
      · rename_i hT
        have hT := Nat.eq_of_beq_eq_true hT
        subst hT
        obtain ⟨rfl, h3⟩ := Res.ob h2
        obtain ⟨h4, h5, h6⟩ := lent_ok h3
        refine ⟨by simp [h4], h5, fun i hi => ?_⟩
        cases i with
        | zero => exact ⟨_, _, rfl, h1⟩
        | succ i =>
          obtain ⟨T2, cs2, h7, h8⟩ := h6 i (by simpa using hi)
          exact ⟨T2, cs2, by simpa using h7, by simpa using h8⟩
      · exact (Res.fail h2).elim
  | [], _ :: _, h => (Res.fail h).elim
  | _ :: _, [], h => (Res.fail h).elim
  | _ :: _, none :: _, h => (Res.fail h).elim
theorem nodup_inj : ∀ {ids : List Nat}, nodupB ids = true → ∀ i j, i < ids.length → j < ids.length → ids.getD i 0 = ids.getD j 0 → i = j
  | a :: l, h, i, j, hi, hj, he => by
    simp only [nodupB, Bool.and_eq_true, List.all_eq_true, Bool.not_eq_true'] at h
    have hm : ∀ k, k < l.length → a ≠ l.getD k 0 := fun k hk e => by
      have := h.1 (l.getD k 0) (by simp [List.getD_eq_getElem?_getD, hk])
      rw [← e, Nat.beq_refl] at this
      cases this
    cases i with
    | zero =>
      cases j with
      | zero => rfl
      | succ j => exact absurd (by simpa using he) (hm j (by simpa using hj))
    | succ i =>
      cases j with
      | zero => exact absurd (by simpa using he.symm) (hm i (by simpa using hi))
      | succ j => rw [nodup_inj h.2 i j (by simpa using hi) (by simpa using hj) (by simpa using he)]
theorem lk_wcall {σ : Nat → Nat} : ∀ {H : Hp} {n : Nat} (k : Nat), (∀ i j, i < n + H.length → j < n + H.length → σ i = σ j → i = j) →
    (lk k (wcall σ n H) = none ∧ ∀ i, n ≤ i → i < n + H.length → k ≠ kb (σ i)) ∨ ∃ i, n ≤ i ∧ i < n + H.length ∧ k = kb (σ i) ∧ lk k (wcall σ n H) = some (match H.getD (i - n) none with | some y => some (.blk y.1 (renL σ y.2)) | none => none)
  | [], n, k, _ => .inl ⟨rfl, fun i h1 h2 => by simp at h2; omega⟩
  | x :: H, n, k, hi => by
    simp only [wcall, lk]
    by_cases e : Nat.beq k (kb (σ n)) = true
    · refine .inr ⟨n, Nat.le_refl _, by simp, Nat.eq_of_beq_eq_true e, ?_⟩
      rw [if_pos e, Nat.sub_self]
      simp
    · simp only [e]
      have hne : k ≠ kb (σ n) := fun h => e (by rw [h]; exact Nat.beq_refl _)
      rcases lk_wcall (σ := σ) (H := H) (n := n + 1) k (fun i j h1 h2 => hi i j (by simp; omega) (by simp; omega)) with ⟨h1, h2⟩ | ⟨i, h1, h2, h3, h4⟩
      · refine .inl ⟨h1, fun i h3 h4 => ?_⟩
        by_cases e2 : i = n
        · subst e2; exact hne
        · exact h2 i (by omega) (by simp at h4; omega)
      · refine .inr ⟨i, by omega, by simp; omega, h3, ?_⟩
        have e3 : i - n = (i - (n + 1)) + 1 := by omega
        rw [e3]
        simpa using h4
end Go.Proofs.Ytfoiadlaekknpaa.Pm
namespace Go.Proofs.Ytfoiadlaekknpaa.Pm
open Go

theorem lk_wcall_s {σ : Nat → Nat} (s : Nat) : ∀ {H : Hp} {n : Nat}, lk (ks s) (wcall σ n H) = none
  | [], _ => rfl
  | x :: H, n => by
    simp only [wcall, lk, beq_ksb]
    exact lk_wcall_s s
theorem hSt_live {H : Hp} {i : Nat} (h : Live (hSt H) i) : ∃ x, H.getD i none = some x ∧ i < H.length := by
  obtain ⟨T, cs, h⟩ := h
  rw [hSt_b] at h
  cases hx : H.getD i none with
  | none => rw [hx] at h; cases h
  | some x =>
    refine ⟨x, rfl, ?_⟩
    rcases Nat.lt_or_ge i H.length with h1 | h1
    · exact h1
    · rw [List.getD_eq_getElem?_getD, List.getElem?_eq_none h1] at hx; cases hx
theorem call_core {E : Env} {nx : Nat → Prop} {c : Cx} {g : St} {a : Act} {o : Oper} {id : Nat} {K : Act → World → Prop} {Q : Exit → Act → World → Prop} {f : FuncId} {args bs : List PV} {ids : List Nat} {H H' : Hp} {r p : PV} {wb : L} {vs : Array Value}
    (hd : ∀ x, o.dst = some x → x < E.n) (hn : ∀ t, t < 8 → ¬ nx (id + t)) (hI : Inv E nx c g a)
    (hK : ∀ c' a', Inv E (fun j => nx j ∨ (id ≤ j ∧ j < id + 8)) c' (over (wd o.dst p) (over wb g)) a' → K a' c'.w)
    (h : Res g (callP E.P f args id ids bs H r H') p wb) (hrl : RL E.P c args vs) (hex : FnOk E.P f → (execOp a.eval o).run E.P c.w = .ok (.enter f vs) c.w) : o.wp E.P a c.w K Q := by
  unfold callP at h
  split at h
  case h_2 => exact (Res.fail h).elim
  rename_i hb1 hb2
  have hb1 := Nat.le_of_ble_eq_true hb1
  obtain ⟨⟨hfn, hHl, hpc⟩, h1⟩ := Res.ob h
  obtain ⟨rfl, h2⟩ := Res.ob h1
  obtain ⟨hlen, h3, hlent⟩ := lent_ok h2
  obtain ⟨rfl, rfl⟩ := Res.done h3
  clear h h1 h2 h3
  have hfresh : ∀ j x, c.own j = some x → ¬ (id ≤ j ∧ j < id + 8) := fun j x hx ⟨h1, h2⟩ => hn (j - id) (by omega) (by rw [show id + (j - id) = j by omega]; exact hI.ids j x hx)
  have hid : c.own id = none := by
    cases ho : c.own id with
    | none => rfl
    | some x => exact absurd ⟨Nat.le_refl _, by omega⟩ (hfresh id x ho)
  have hsi : ∀ i, i < ids.length → sigi ids id i = ids.getD i 0 := fun i hi => by simp [sigi, List.getD_eq_getElem?_getD, hi]
  have hsi2 : ∀ i, ids.length ≤ i → sigi ids id i = id := fun i hi => by simp [sigi, List.getD_eq_getElem?_getD, hi]
  -- what is lent is live here
  have hlv : ∀ i, Live (hSt H) i → i < ids.length ∧ Live g (ids.getD i 0) := fun i hi => by
    obtain ⟨x, h1, h2⟩ := hSt_live hi
    have h3 : i < ids.length := by omega
    obtain ⟨T, cs, _, h5⟩ := hlent i h3
    exact ⟨h3, T, _, h5⟩
  have hcc : Heap (cEnv E.P (c.via (sigi ids id)) H) (· < H.length) (c.via (sigi ids id)) (hSt H) := by
    refine { ids := fun i x hx => ?_, blk := fun i T cs hx => ?_, inj := fun i j b T T' h1 h2 h3 h4 => ?_, apart := fun i b T h1 h2 => ?_, bnd := fun i b T h1 => ?_, sok := hI.sok, os := rfl, tape := rfl, output := rfl, size := Nat.le_refl _,
             same := fun _ _ _ => rfl, s0 := fun _ h => h, s1 := fun _ h => .inl h, keep := Keep.refl _ }
    · rcases Nat.lt_or_ge i ids.length with h1 | h1
      · show i < H.length; omega
      · have : c.own (sigi ids id i) = some x := hx
        rw [hsi2 i h1, hid] at this
        cases this
    · have hl : Live (hSt H) i := ⟨T, cs, hx⟩
      obtain ⟨h1, _⟩ := hlv i hl
      obtain ⟨T', cs', h3, h4⟩ := hlent i h1
      rw [hSt_b, h3] at hx
      simp only [Option.some.injEq, Val.blk.injEq] at hx
      obtain ⟨rfl, rfl⟩ := hx
      obtain ⟨ob, h5, h6, h7⟩ := hI.blk _ _ _ h4
      refine ⟨ob, by show c.own (sigi ids id i) = _; rw [hsi i h1]; exact h5, ones_renL.1 h6, ?_⟩
      rcases h7 with ⟨h7, h8⟩ | ⟨b, arr, h7, h8, h9, h10⟩
      · refine .inl ⟨h7, ?_⟩
        have := congrArg List.length h8
        rw [renL_length] at this
        exact List.eq_nil_of_length_eq_zero this
      · rw [renL_length] at h9 h10
        exact .inr ⟨b, arr, h7, h8, h9, fun j hj => rep_via (h10 j hj) _ (renL_get _ _ j hj)⟩
    · obtain ⟨e1, l1⟩ := hlv i h1
      obtain ⟨e2, l2⟩ := hlv j h2
      have h3' : c.own (sigi ids id i) = _ := h3
      have h4' : c.own (sigi ids id j) = _ := h4
      rw [hsi i e1] at h3'
      rw [hsi j e2] at h4'
      exact nodup_inj hb2 i j e1 e2 (hI.inj _ _ b T T' l1 l2 h3' h4')
    · obtain ⟨e1, l1⟩ := hlv i h1
      have h2' : c.own (sigi ids id i) = _ := h2
      rw [hsi i e1] at h2'
      exact ⟨(hI.apart _ b T l1 h2').1, .inl ⟨i, T, h1, h2⟩⟩
    · exact hI.bnd _ b T h1
  have hras : RL E.P (c.via (sigi ids id)) bs vs := by
    refine ⟨by rw [hrl.1, renL_length], fun i hi => ?_⟩
    exact rep_via (hrl.2 i (by rw [renL_length]; exact hi)) _ (renL_get _ _ i hi)
  -- who is lent, by block
  have hbor : ∀ b, (cEnv E.P (c.via (sigi ids id)) H).Bor b → ∃ i T, i < ids.length ∧ Live g (ids.getD i 0) ∧ c.own (ids.getD i 0) = some (some b, T) := by
    rintro b ⟨i, T, h1, h2⟩
    obtain ⟨e1, l1⟩ := hlv i h1
    have h2' : c.own (sigi ids id i) = _ := h2
    rw [hsi i e1] at h2'
    exact ⟨i, T, e1, l1, h2'⟩
  have hborE : ∀ b, (cEnv E.P (c.via (sigi ids id)) H).Bor b → ¬ c.S b ∧ (E.Bor b ∨ E.W.heap.size ≤ b) := fun b hb => by
    obtain ⟨i, T, _, l1, h2⟩ := hbor b hb
    exact hI.apart _ b T l1 h2
  unfold Oper.wp
  rw [hex hfn, Oper.upon_enter]
  refine (hpc _ vs hcc hras).mono ?_
  rintro e w' ⟨v, c', rfl, rfl, hh, hrep⟩
  have hk' := hh.keep
  have hcw : (cEnv E.P (c.via (sigi ids id)) H).W = c.w := rfl
  have hso1 : ∀ i, i < ids.length → sigo ids id i = ids.getD i 0 := fun i hi => by
    unfold sigo
    rw [if_pos (by simpa [Nat.blt_eq] using hi)]
    simp [List.getD_eq_getElem?_getD, hi]
  have hso2 : ∀ i, ids.length ≤ i → sigo ids id i = id + (i - ids.length) := fun i hi => by
    unfold sigo
    rw [if_neg (by simp only [Nat.blt_eq]; omega)]
  have hlive : ∀ i, i < ids.length → ∃ x, c.own (ids.getD i 0) = some x := fun i hi => by
    obtain ⟨T, cs, _, h5⟩ := hlent i hi
    obtain ⟨ob, h6, _⟩ := hI.blk _ _ _ h5
    exact ⟨_, h6⟩
  have hinj : ∀ i j, i < 0 + H'.length → j < 0 + H'.length → sigo ids id i = sigo ids id j → i = j := by
    intro i j h1 h2 he
    rcases Nat.lt_or_ge i ids.length with e1 | e1 <;> rcases Nat.lt_or_ge j ids.length with e2 | e2
    · rw [hso1 i e1, hso1 j e2] at he
      exact nodup_inj hb2 i j e1 e2 he
    · rw [hso1 i e1, hso2 j e2] at he
      obtain ⟨x, hx⟩ := hlive i e1
      exact absurd (by omega) (hfresh _ x hx)
    · rw [hso2 i e1, hso1 j e2] at he
      obtain ⟨x, hx⟩ := hlive j e2
      exact absurd (by omega) (hfresh _ x hx)
    · rw [hso2 i e1, hso2 j e2] at he
      omega
  let own2 : Nat → Option (Option Nat × TypeId) := fun j => if id ≤ j ∧ j < id + 8 then c'.own (j - id + ids.length) else c.own j
  have hown2 : ∀ j, ¬ (id ≤ j ∧ j < id + 8) → own2 j = c.own j := fun j hj => if_neg hj
  have hto : ∀ i x, c'.own i = some x → own2 (sigo ids id i) = some x := by
    intro i x hx
    have hi := hh.ids i x hx
    rcases Nat.lt_or_ge i ids.length with e1 | e1
    · rw [hso1 i e1]
      obtain ⟨y, hy⟩ := hlive i e1
      rw [hown2 _ (hfresh _ y hy)]
      have h2 := hk'.own i y (by show c.own (sigi ids id i) = _; rw [hsi i e1]; exact hy)
      rw [hx] at h2
      rw [hy, h2]
    · rw [hso2 i e1]
      show (if _ then _ else _) = _
      rw [if_pos (by have : i < H'.length := hi; omega)]
      rw [show id + (i - ids.length) - id + ids.length = i by omega]
      exact hx
  have hk : Keep c ⟨c'.w, c'.S, own2⟩ := ⟨fun b hb => hk'.S b hb, fun j x hx => (hown2 j (hfresh j x hx)).trans hx, hk'.shape⟩
  have hgo : ∀ j, (over (wcall (sigo ids id) 0 H') g (kb j) = g (kb j) ∧ ∀ i, i < H'.length → j ≠ sigo ids id i) ∨
      ∃ i, i < H'.length ∧ j = sigo ids id i ∧ over (wcall (sigo ids id) 0 H') g (kb j) = match H'.getD i none with | some y => some (.blk y.1 (renL (sigo ids id) y.2)) | none => none := by
    intro j
    rcases lk_wcall (σ := sigo ids id) (H := H') (n := 0) (kb j) hinj with ⟨h1, h2⟩ | ⟨i, _, h2, h3, h4⟩
    · refine .inl ⟨by simp only [over, h1], fun i hi e => ?_⟩
      exact h2 i (Nat.zero_le _) (by omega) (by rw [e])
    · refine .inr ⟨i, by omega, by simp only [kb] at h3; omega, ?_⟩
      simp only [over, h4, Nat.sub_zero]
      try rfl
  -- live behind the call: an old one, or one that the callee tells
  have hlv2 : ∀ j, Live (over (wcall (sigo ids id) 0 H') g) j → (Live g j ∧ ∀ i, i < H'.length → j ≠ sigo ids id i) ∨ ∃ i, Live (hSt H') i ∧ j = sigo ids id i := by
    rintro j ⟨T, cs, hx⟩
    rcases hgo j with ⟨h1, h2⟩ | ⟨i, h1, h2, h3⟩
    · exact .inl ⟨⟨T, cs, by rw [← h1]; exact hx⟩, h2⟩
    · rw [h3] at hx
      cases hy : H'.getD i none with
      | none => rw [hy] at hx; cases hx
      | some y => exact .inr ⟨i, ⟨y.1, y.2, by rw [hSt_b, hy]⟩, h2⟩
  have hnb : ∀ j b T, Live g j → (∀ i, i < H'.length → j ≠ sigo ids id i) → c.own j = some (some b, T) → ¬ (cEnv E.P (c.via (sigi ids id)) H).Bor b := fun j b T l1 h1 h2 hb => by
    obtain ⟨i, T', h3, l2, h4⟩ := hbor b hb
    have e := hI.inj _ _ b T' T l2 l1 h4 h2
    exact h1 i (by omega) (by rw [hso1 i h3]; exact e.symm)
  have hcl : ∀ i b T, Live (hSt H') i → own2 (sigo ids id i) = some (some b, T) → c'.own i = some (some b, T) := fun i b T ⟨T', cs, hx⟩ h1 => by
    obtain ⟨ob, h2, _⟩ := hh.blk i T' cs hx
    have h3 := hto i _ h2
    rw [h1] at h3
    rw [h2, ← h3]
  have hh2 : Heap E (fun j => nx j ∨ (id ≤ j ∧ j < id + 8)) ⟨c'.w, c'.S, own2⟩ (over (wcall (sigo ids id) 0 H') g) := by
    refine { ids := fun j x hx => ?_, blk := fun j T cs hx => ?_, inj := fun j1 j2 b T T' l1 l2 h3 h4 => ?_, apart := fun j b T l1 h2 => ?_, bnd := fun j b T h1 => ?_, sok := hh.sok, os := hh.os.trans hI.os, tape := hh.tape.trans hI.tape, output := hh.output.trans hI.output,
             size := Nat.le_trans hI.size hh.size, same := fun b hb hB => ?_, s0 := fun b hb => (hk'.S b (hI.s0 b hb)).1, s1 := fun b hb => ?_, keep := hI.keep.trans hk }
    · by_cases e : id ≤ j ∧ j < id + 8
      · exact .inr e
      · have hx' : own2 j = _ := hx
        rw [hown2 j e] at hx'
        exact .inl (hI.ids j x hx')
    · rcases hgo j with ⟨h1, h2⟩ | ⟨i, h1, h2, h3⟩
      · rw [h1] at hx
        obtain ⟨ob, h3, h4⟩ := hI.blk j T cs hx
        refine ⟨ob, (hown2 j (hfresh j _ h3)).trans h3, h4.mono hk fun b hb => ?_⟩
        subst hb
        exact hh.same b (hI.bnd j b T h3) (hnb j b T ⟨T, cs, hx⟩ h2 h3)
      · rw [h3] at hx
        cases hy : H'.getD i none with
        | none => rw [hy] at hx; cases hx
        | some y =>
          rw [hy] at hx
          simp only [Option.some.injEq, Val.blk.injEq] at hx
          obtain ⟨rfl, rfl⟩ := hx
          obtain ⟨ob, h4, h5, h6⟩ := hh.blk i y.1 y.2 (by rw [hSt_b, hy])
          refine ⟨ob, by rw [h2]; exact hto i _ h4, ones_renL.2 h5, ?_⟩
          rcases h6 with ⟨h6, h7⟩ | ⟨b, arr, h6, h7, h8, h9⟩
          · exact .inl ⟨h6, by rw [h7]; rfl⟩
          · refine .inr ⟨b, arr, h6, h7, by rw [renL_length]; exact h8, fun j hj => ?_⟩
            rw [renL_length] at hj
            rw [renL_get _ _ j hj]
            exact rep_to (c := c') (c' := ⟨c'.w, c'.S, own2⟩) rfl rfl hto (h9 j hj)
    · have h3' : own2 j1 = _ := h3
      have h4' : own2 j2 = _ := h4
      rcases hlv2 j1 l1 with ⟨e1, n1⟩ | ⟨i1, e1, rfl⟩ <;> rcases hlv2 j2 l2 with ⟨e2, n2⟩ | ⟨i2, e2, rfl⟩
      · obtain ⟨T1, cs1, hx1⟩ := e1
        obtain ⟨T2, cs2, hx2⟩ := e2
        obtain ⟨ob1, q1, _⟩ := hI.blk j1 _ _ hx1
        obtain ⟨ob2, q2, _⟩ := hI.blk j2 _ _ hx2
        rw [hown2 j1 (hfresh j1 _ q1)] at h3'
        rw [hown2 j2 (hfresh j2 _ q2)] at h4'
        exact hI.inj j1 j2 b T T' ⟨T1, cs1, hx1⟩ ⟨T2, cs2, hx2⟩ h3' h4'
      · obtain ⟨T1, cs1, hx1⟩ := e1
        obtain ⟨ob1, q1, _⟩ := hI.blk j1 _ _ hx1
        rw [hown2 j1 (hfresh j1 _ q1)] at h3'
        have h5 := hcl i2 b T' e2 h4'
        rcases (hh.apart i2 b T' e2 h5).2 with h6 | h6
        · exact absurd h6 (hnb j1 b T ⟨T1, cs1, hx1⟩ n1 h3')
        · have := hI.bnd j1 b T h3'
          rw [hcw] at h6
          omega
      · obtain ⟨T1, cs1, hx1⟩ := e2
        obtain ⟨ob1, q1, _⟩ := hI.blk j2 _ _ hx1
        rw [hown2 j2 (hfresh j2 _ q1)] at h4'
        have h5 := hcl i1 b T e1 h3'
        rcases (hh.apart i1 b T e1 h5).2 with h6 | h6
        · exact absurd h6 (hnb j2 b T' ⟨T1, cs1, hx1⟩ n2 h4')
        · have := hI.bnd j2 b T' h4'
          rw [hcw] at h6
          omega
      · have h5 := hcl i1 b T e1 h3'
        have h6 := hcl i2 b T' e2 h4'
        rw [hh.inj i1 i2 b T T' e1 e2 h5 h6]
    · have h2' : own2 j = _ := h2
      rcases hlv2 j l1 with ⟨e1, n1⟩ | ⟨i1, e1, rfl⟩
      · obtain ⟨T1, cs1, hx1⟩ := e1
        obtain ⟨ob1, q1, _⟩ := hI.blk j _ _ hx1
        rw [hown2 j (hfresh j _ q1)] at h2'
        have hap := hI.apart j b T ⟨T1, cs1, hx1⟩ h2'
        have hlt := hI.bnd j b T h2'
        refine ⟨fun hS => ?_, hap.2⟩
        rcases hh.s1 b hS with h5 | h5 | h5
        · exact hap.1 h5
        · exact hnb j b T ⟨T1, cs1, hx1⟩ n1 h2' h5
        · rw [hcw] at h5; omega
      · have h5 := hcl i1 b T e1 h2'
        have hap := hh.apart i1 b T e1 h5
        refine ⟨hap.1, ?_⟩
        rcases hap.2 with h6 | h6
        · exact (hborE b h6).2
        · rw [hcw] at h6
          have := hI.size
          exact .inr (by omega)
    · have h1' : own2 j = _ := h1
      by_cases e : id ≤ j ∧ j < id + 8
      · have h2 : c'.own (j - id + ids.length) = some (some b, T) := by
          have : own2 j = c'.own (j - id + ids.length) := if_pos e
          rw [← this]; exact h1'
        exact hh.bnd _ b T h2
      · rw [hown2 j e] at h1'
        have := hI.bnd j b T h1'
        have h3 := hh.size
        rw [hcw] at h3
        show b < c'.w.heap.size
        omega
    · have h1 := hI.size
      refine (hh.same b (by rw [hcw]; omega) fun hb2 => ?_).trans (hI.same b hb hB)
      rcases (hborE b hb2).2 with h2 | h2
      · exact hB h2
      · omega
    · rcases hh.s1 b hb with h5 | h5 | h5
      · exact hI.s1 b h5
      · exact .inr (hborE b h5).2
      · rw [hcw] at h5
        have := hI.size
        exact .inr (.inr (by omega))
  exact hK ⟨c'.w, c'.S, own2⟩ _ (Inv.put hI hk _ (fun s => lk_wcall_s s) hh2 o.dst hd fun _ => rep_to (c := c') (c' := ⟨c'.w, c'.S, own2⟩) rfl rfl hto hrep)
theorem RL.czs {P : Program} {c : Cx} {ps : List PV} {vs : Array Value} (h : RL P c ps vs) : RL P c (ps.map cz) vs := by
  refine ⟨by simpa using h.1, fun i hi => ?_⟩
  have hi' : i < ps.length := by simpa using hi
  have := rep_cz (h.2 i hi')
  simpa [List.getD_eq_getElem?_getD, hi'] using this
theorem aCall_ok {E : Env} {o : Oper} {id : Nat} {fx : Operand} {xs : Array Operand} {ts : Array TypeId} {an : Ans} (ho : o.op = .call { callee := .value fx, args := xs, argTypes := ts }) (hd : ∀ x, o.dst = some x → x < E.n) : ActOk E o id (aCall E.P fx xs.toList an id) := by
  intro g p wb h nx c a K Q hn hI hK
  obtain ⟨q, hq, h1⟩ := Res.opd hI h
  obtain ⟨ps, hps, h2⟩ := Res.opdl hI h1
  clear h h1
  have hps' : RL E.P c ps (xs.map a.eval) := by
    have e : (xs.toList.map a.eval).toArray = xs.map a.eval := by apply Array.ext'; simp
    rw [← e]; exact hps
  have key : ∀ {f : FuncId} {fs cs : Array Value}, a.eval fx = .func (.func f) fs cs → FnOk E.P f → (execOp a.eval o).run E.P c.w = .ok (.enter f (fs ++ xs.map a.eval ++ cs)) c.w := by
    rintro f fs cs hv ⟨fn, h1, h2, h3⟩
    have h4 : (callFunc f (fs ++ xs.map a.eval ++ cs)).run E.P c.w = .ok (.enter f (fs ++ xs.map a.eval ++ cs)) c.w := by
      have h2' : ¬ fn.body = none := fun e => by rw [e] at h2; cases h2
      have h3' : ¬ fn.name = "runtime.NumGoroutine" := by simpa using h3
      simp [callFunc, h1, h3', h2']
    simp only [execOp, ho, resolve, hv, Deferred.ofValue, invoke, Sem.run_bind, Sem.run_pure, Result.andThen_ok]
    exact h4
  split at h2
  · rename_i f fs cs ids bs H r H'
    exact call_core hd hn hI hK h2 (((avs_rl fs).append hps'.czs).append (avs_rl cs)) (key (rep_av hq))
  · rename_i f fs cs ids bs H r H'
    obtain ⟨vs, us, hv, h3, h4, h5, h6⟩ := rep_fn hq
    exact call_core hd hn hI hK h2 (RL.append (RL.append ⟨h3, h5⟩ hps'.czs) ⟨h4, h6⟩) (key hv)
  · exact (Res.fail h2).elim
end Go.Proofs.Ytfoiadlaekknpaa.Pm
namespace Go.Proofs.Ytfoiadlaekknpaa.Pm
open Go

theorem run_equalIn_ptr {P : Program} (w : World) (d : Nat) {T e : TypeId} (hu : P.underlying T = some (.pointer e)) (a : Option Addr) : (Op.equalIn (d + 1) T (.pointer a) (.pointer none)).run P w = .ok a.isNone w := by
  rw [Op.equalIn]
  simp only [Sem.run_bind, run_underlying hu, Result.andThen_ok]
  cases a <;> rfl
theorem run_eq_ptr {P : Program} (w : World) {T e : TypeId} (hu : P.underlying T = some (.pointer e)) (ng : Bool) (a : Option Addr) : (binOp (match ng with | true => .neq | false => .eql) T (.pointer a) (.pointer none)).run P w = .ok (.bool (match ng with | true => !a.isNone | false => a.isNone)) w := by
  cases ng with
  | false =>
    show (do pure (.bool (← Op.equal T (.pointer a) (.pointer none))) : Sem Value).run P w = _
    simp only [Op.equal, show Op.maxDepth = 9999 + 1 from rfl, Sem.run_bind, run_equalIn_ptr w 9999 hu, Result.andThen_ok]
    rfl
  | true =>
    show (do pure (.bool (!(← Op.equal T (.pointer a) (.pointer none)))) : Sem Value).run P w = _
    simp only [Op.equal, show Op.maxDepth = 9999 + 1 from rfl, Sem.run_bind, run_equalIn_ptr w 9999 hu, Result.andThen_ok]
    rfl
def ngB (ng b : Bool) : Bool := match ng with | true => !b | false => b
def aEqP (u : Option TypeDesc) (ng : Bool) (x y : Operand) : Plan := opd x fun p => opd y fun q => match u, p, q with
  | some (.pointer _), .opt _ _, .av (.pointer none) => bit ng
  | some (.pointer _), .spt _ _, .av (.pointer none) => bit ng
  | some (.pointer _), .av (.pointer none), .av (.pointer none) => bit (!ng)
  | _, _, _ => .fail
theorem aEqP_ok {E : Env} {o : Oper} {id : Nat} {ng : Bool} {T U : TypeId} {x y : Operand} (ho : o.op = .binOp (match ng with | true => .neq | false => .eql) T x y U) (hd : ∀ x, o.dst = some x → x < E.n) : ActOk E o id (aEqP (E.P.underlying T) ng x y) := by
  intro g p wb h nx c a K Q hn hI hK
  obtain ⟨q1, hq1, h1⟩ := Res.opd hI h
  obtain ⟨q2, hq2, h2⟩ := Res.opd hI h1
  clear h h1
  have key : ∀ {e : TypeId} {ad : Option Addr}, E.P.underlying T = some (.pointer e) → a.eval x = .pointer ad → a.eval y = .pointer none → p = .av (.bool (ngB ng ad.isNone)) → wb = [] → o.wp E.P a c.w K Q := by
    intro e ad hu hx hy hp hw
    subst hp; subst hw
    refine pure_step hd hI hK (.sh (.av _)) ?_
    have h3 := run_eq_ptr c.w hu ng ad
    unfold ngB
    have h4 : ∀ op : BinOp, (eqGuard op T x y (.pointer ad) (.pointer none)).run E.P c.w = .ok () c.w := fun op => by cases op <;> simp [eqGuard]
    cases ng with
    | true => simp only at h3 ho; simp [execOp, ho, hx, hy, h4, h3]
    | false => simp only at h3 ho; simp [execOp, ho, hx, hy, h4, h3]
  generalize hu : E.P.underlying T = u at h2
  split at h2
  · obtain ⟨rfl, rfl⟩ := Res.done h2
    obtain ⟨b, T', ho1, hv⟩ := rep_opt hq1
    exact key hu hv (rep_av hq2) (by cases ng <;> rfl) rfl
  · obtain ⟨rfl, rfl⟩ := Res.done h2
    obtain ⟨b, a', vf, hv, _⟩ := rep_spt hq1
    exact key hu hv (rep_av hq2) (by cases ng <;> rfl) rfl
  · obtain ⟨rfl, rfl⟩ := Res.done h2
    exact key hu (rep_av hq1) (rep_av hq2) (by cases ng <;> rfl) rfl
  · exact (Res.fail h2).elim
def aMax3 (mx : Bool) (x y z : Operand) : Plan := opd x fun p => opd y fun q => opd z fun r => match p, q, r with
  | .av (.int k a), .av (.int _ b), .av (.int _ c) => .done (.av (.int k (match mx with | true => max (max a b) c | false => min (min a b) c))) []
  | _, _, _ => .fail
theorem aMax3_ok {E : Env} {o : Oper} {id : Nat} {x y z : Operand} {ts : Array TypeId} (ho : o.op = .call { callee := .builtin .max, args := #[x, y, z], argTypes := ts }) (hd : ∀ x, o.dst = some x → x < E.n) : ActOk E o id (aMax3 true x y z) := by
  intro g p wb h nx c a K Q hn hI hK
  obtain ⟨q1, hq1, h1⟩ := Res.opd hI h
  obtain ⟨q2, hq2, h2⟩ := Res.opd hI h1
  obtain ⟨q3, hq3, h3⟩ := Res.opd hI h2
  split at h3
  · rename_i k m k2 n k3 l
    obtain ⟨rfl, rfl⟩ := Res.done h3
    refine pure_step hd hI hK (.sh (.av _)) ?_
    have e : max (max m n) l = if l > (if n > m then n else m) then l else (if n > m then n else m) := by split <;> split <;> omega
    simp [execOp, ho, resolve, invoke, builtin, rep_av hq1, rep_av hq2, rep_av hq3, Builtin.max_, Builtin.max2, e]
  · exact (Res.fail h3).elim
theorem aMin3_ok {E : Env} {o : Oper} {id : Nat} {x y z : Operand} {ts : Array TypeId} (ho : o.op = .call { callee := .builtin .min, args := #[x, y, z], argTypes := ts }) (hd : ∀ x, o.dst = some x → x < E.n) : ActOk E o id (aMax3 false x y z) := by
  intro g p wb h nx c a K Q hn hI hK
  obtain ⟨q1, hq1, h1⟩ := Res.opd hI h
  obtain ⟨q2, hq2, h2⟩ := Res.opd hI h1
  obtain ⟨q3, hq3, h3⟩ := Res.opd hI h2
  split at h3
  · rename_i k m k2 n k3 l
    obtain ⟨rfl, rfl⟩ := Res.done h3
    refine pure_step hd hI hK (.sh (.av _)) ?_
    have e : min (min m n) l = if l < (if n < m then n else m) then l else (if n < m then n else m) := by split <;> split <;> omega
    simp [execOp, ho, resolve, invoke, builtin, rep_av hq1, rep_av hq2, rep_av hq3, Builtin.min_, Builtin.min2, e]
  · exact (Res.fail h3).elim
end Go.Proofs.Ytfoiadlaekknpaa.Pm
namespace Go.Proofs.Ytfoiadlaekknpaa.Pm
open Go

/-! ### an own row, laid down for good -/
def PV.shd : PV → Bool
  | .av _ => true
  | .ssl _ _ _ => true
  | .spt _ _ => true
  | _ => false
def shds (cs : List PV) : Prop := ∀ p ∈ cs, PV.shd p = true
theorem shd_rep {P : Program} {c : Cx} {p : PV} {v : Value} (h : Rep P c p v) (hs : p.shd = true) : SRep c.w c.S p v := by
  cases h with
  | sh h => exact h
  | agg => cases hs
  | tup => cases hs
  | osl => cases hs
  | opt => cases hs
  | fn => cases hs
mutual
def frz (id : Nat) (cs : List PV) : PV → PV
  | .osl i off len => match Nat.beq i id with | true => .ssl cs off len | false => .osl i off len
  | .opt i off => match Nat.beq i id with | true => .spt cs off | false => .opt i off
  | .agg l => .agg (frzL id cs l)
  | .tup l => .tup (frzL id cs l)
  | .fn f l m => .fn f (frzL id cs l) (frzL id cs m)
  | .av v => .av v
  | .ssl l off len => .ssl l off len
  | .spt l off => .spt l off
def frzL (id : Nat) (cs : List PV) : List PV → List PV
  | [] => []
  | p :: l => frz id cs p :: frzL id cs l
end
theorem frzL_length (id : Nat) (cs : List PV) : ∀ l, (frzL id cs l).length = l.length
  | [] => rfl
  | _ :: l => by simp [frzL, frzL_length id cs l]
theorem frzL_get (id : Nat) (cs : List PV) : ∀ (l : List PV) (i : Nat), i < l.length → (frzL id cs l).getD i P0 = frz id cs (l.getD i P0)
  | p :: l, 0, _ => rfl
  | p :: l, i + 1, h => by
    have := frzL_get id cs l i (by simpa using h)
    simpa [frzL, List.getD_eq_getElem?_getD] using this
theorem one_frz (id : Nat) (cs : List PV) (p : PV) : (frz id cs p).one = p.one := by
  cases p <;> simp only [frz] <;> first | rfl | (split <;> rfl)
theorem ones_frzL {id : Nat} {cs : List PV} : ∀ {l : List PV}, ones l → ones (frzL id cs l)
  | [], _ => fun p hp => by cases hp
  | p :: l, h => by
    intro q hq
    simp only [frzL, List.mem_cons] at hq
    rcases hq with rfl | hq
    · rw [one_frz]; exact h p (by simp)
    · exact ones_frzL (fun p hp => h p (by simp [hp])) q hq
theorem srep_frz {w : World} {S : Nat → Prop} {id : Nat} {cs : List PV} {p : PV} {v : Value} (h : SRep w S p v) : SRep w S (frz id cs p) v := by
  induction h with
  | av v => exact .av _
  | agg hn _ ih => exact .agg (by rw [frzL_length]; exact hn) fun i hi => by rw [frzL_length] at hi; rw [frzL_get _ _ _ i hi]; exact ih i hi
  | tup hn _ ih => exact .tup (by rw [frzL_length]; exact hn) fun i hi => by rw [frzL_length] at hi; rw [frzL_get _ _ _ i hi]; exact ih i hi
  | emp => exact .emp
  | ssl hS hc h ho hl _ => exact .ssl hS hc h ho hl
  | spt hS hc h ho _ => exact .spt hS hc h ho
  | fn hn _ hm _ ih ik => exact .fn (by rw [frzL_length]; exact hn) (fun i hi => by rw [frzL_length] at hi; rw [frzL_get _ _ _ i hi]; exact ih i hi) (by rw [frzL_length]; exact hm) (fun i hi => by rw [frzL_length] at hi; rw [frzL_get _ _ _ i hi]; exact ik i hi)
theorem rep_frz {P : Program} {c c' : Cx} {id : Nat} {cs : List PV} {ob : Option Nat} {T : TypeId} (hw : c'.w = c.w) (hS : ∀ b, c.S b → c'.S b) (hown : c'.own = c.own) (ho : c.own id = some (ob, T)) (hone : ones cs)
    (hb : ∀ b, ob = some b → c'.S b ∧ ∃ arr : Array Value, c.w.heap[b]? = some (.cells arr T (0, 0)) ∧ cs.length ≤ arr.size ∧ ∀ j, j < cs.length → SRep c'.w c'.S (cs.getD j P0) (arr.getD j undef)) {p : PV} {v : Value} (h : Rep P c p v) : Rep P c' (frz id cs p) v := by
  induction h with
  | sh h => exact .sh (srep_frz (h.mono fun b hb => ⟨hS b hb, by rw [hw]⟩))
  | agg hn _ ih => exact .agg (by rw [frzL_length]; exact hn) fun i hi => by rw [frzL_length] at hi; rw [frzL_get _ _ _ i hi]; exact ih i hi
  | tup hn _ ih => exact .tup (by rw [frzL_length]; exact hn) fun i hi => by rw [frzL_length] at hi; rw [frzL_get _ _ _ i hi]; exact ih i hi
  | osl h1 h2 =>
    rename_i i off len v ob' T'
    simp only [frz]
    split
    · rename_i e
      have e := Nat.eq_of_beq_eq_true e
      subst e
      rw [ho] at h1
      cases h1
      rcases h2 with ⟨a, rfl, rfl⟩ | ⟨b, cap, arr', rfl, rfl, h3, h4, h5⟩
      · exact .sh .emp
      · obtain ⟨q1, arr, q2, q3, q4⟩ := hb b rfl
        have := SRep.ssl (w := c'.w) (S := c'.S) (cs := cs) (off := off) (len := len) (b := b) (a := 0) (cap := cap) (vf := fun j => arr.getD j undef) q1 (fun j hj => by
          have : j < arr.size := by omega
          rw [hw, Nat.zero_add, cell_of_row c.w _ _ arr _ _ q2]
          simp [Array.getD_eq_getD_getElem?, this]) q4 hone h4
        rw [Nat.zero_add] at this
        exact .sh this
    · exact .osl (by rw [hown]; exact h1) (by rw [hw]; exact h2)
  | opt h1 =>
    rename_i i off b T'
    simp only [frz]
    split
    · rename_i e
      have e := Nat.eq_of_beq_eq_true e
      subst e
      rw [ho] at h1
      cases h1
      obtain ⟨q1, arr, q2, q3, q4⟩ := hb b rfl
      have := SRep.spt (w := c'.w) (S := c'.S) (cs := cs) (off := off) (b := b) (a := 0) (vf := fun j => arr.getD j undef) q1 (fun j hj => by
        have : j < arr.size := by omega
        rw [hw, Nat.zero_add, cell_of_row c.w _ _ arr _ _ q2]
        simp [Array.getD_eq_getD_getElem?, this]) q4 hone
      rw [Nat.zero_add] at this
      exact .sh this
    · exact .opt (by rw [hown]; exact h1)
  | fn hn _ hm _ ih ik => exact .fn (by rw [frzL_length]; exact hn) (fun i hi => by rw [frzL_length] at hi; rw [frzL_get _ _ _ i hi]; exact ih i hi) (by rw [frzL_length]; exact hm) (fun i hi => by rw [frzL_length] at hi; rw [frzL_get _ _ _ i hi]; exact ik i hi)
theorem over_kb_none {id : Nat} {g : St} (i : Nat) : over [(kb id, none)] g (kb i) = if i = id then none else g (kb i) := over_b id none g i
/-- An own row is laid down; its number is gone. -/
theorem inv_lay {E : Env} {nx : Nat → Prop} {c : Cx} {g : St} {a : Act} (hI : Inv E nx c g a) {id : Nat} {T : TypeId} {cs : List PV} (hg : g (kb id) = some (.blk T cs)) (hs : shds cs) :
    ∃ c', c'.w = c.w ∧ Keep c c' ∧ Inv E nx c' (over [(kb id, none)] g) a ∧ ∀ {p : PV} {v : Value}, Rep E.P c p v → Rep E.P c' (frz id cs p) v := by
  obtain ⟨ob, ho, hone, hbk⟩ := hI.blk id T cs hg
  let cx' : Cx := ⟨c.w, fun b => c.S b ∨ ob = some b, c.own⟩
  have hlive : Live g id := ⟨T, cs, hg⟩
  have hblk : ∀ b, ob = some b → cx'.S b ∧ ∃ arr : Array Value, c.w.heap[b]? = some (.cells arr T (0, 0)) ∧ cs.length ≤ arr.size ∧ ∀ j, j < cs.length → SRep cx'.w cx'.S (cs.getD j P0) (arr.getD j undef) := by
    intro b hb
    rcases hbk with ⟨h1, _⟩ | ⟨b', arr, h1, h2, h3, h4⟩
    · rw [hb] at h1; cases h1
    · obtain rfl : b' = b := by rw [hb] at h1; simpa using h1.symm
      refine ⟨.inr hb, arr, h2, h3, fun j hj => ?_⟩
      have hm : cs.getD j P0 ∈ cs := by simp [List.getD_eq_getElem?_getD, hj]
      exact (shd_rep (h4 j hj) (hs _ hm)).mono fun b hb => ⟨.inl hb, rfl⟩
  have hk : Keep c cx' := ⟨fun b hb => ⟨.inl hb, rfl⟩, fun _ _ h => h, Shape.refl _⟩
  have hl : ∀ i, Live (over [(kb id, none)] g) i → i ≠ id ∧ Live g i := fun i ⟨T', ds, h⟩ => by
    rw [over_kb_none] at h
    by_cases e : i = id
    · rw [if_pos e] at h; cases h
    · rw [if_neg e] at h; exact ⟨e, T', ds, h⟩
  refine ⟨cx', rfl, hk, { ids := hI.ids, blk := fun i T' ds h => ?_, inj := fun i j b T1 T2 l1 l2 => hI.inj i j b T1 T2 (hl i l1).2 (hl j l2).2, apart := fun i b T1 l1 h2 => ?_, bnd := hI.bnd, sok := fun b hb => ?_, os := hI.os, tape := hI.tape, output := hI.output, size := hI.size, same := hI.same, s0 := fun b hb => .inl (hI.s0 b hb), s1 := fun b hb => ?_, keep := hI.keep.trans hk, tmps := hI.tmps, dfr := hI.dfr, slot := fun s p hp => ?_, isv := fun s x hx => ?_ }, fun h => rep_frz (c := c) (c' := cx') rfl (fun _ h => Or.inl h) rfl ho hone hblk h⟩
  · rw [over_kb_none] at h
    by_cases e : i = id
    · rw [if_pos e] at h; cases h
    · rw [if_neg e] at h
      obtain ⟨ob', h3, h4⟩ := hI.blk i T' ds h
      exact ⟨ob', h3, h4.mono hk fun b _ => rfl⟩
  · obtain ⟨h1, h3⟩ := hl i l1
    have hap := hI.apart i b T1 h3 h2
    refine ⟨fun hb => ?_, hap.2⟩
    rcases hb with hb | hb
    · exact hap.1 hb
    · subst hb
      exact h1 (hI.inj i id b T1 T h3 hlive h2 ho)
  · rcases hb with hb | hb
    · exact hI.sok b hb
    · subst hb; exact hI.bnd id b T ho
  · rcases hb with hb | hb
    · exact hI.s1 b hb
    · subst hb; exact .inr (hI.apart id b T hlive ho).2
  · rw [over_s] at hp
    exact (hI.slot s p hp).mono hk
  · rw [over_s] at hx
    exact hI.isv s x hx
def killL (js : List Nat) : L := js.map fun j => (kb j, none)
def frzF1 : List (Nat × List PV) → PV → PV
  | [], p => p
  | (j, cs) :: F, p => frzF1 F (frz j cs p)
theorem killL_s (js : List Nat) (s : Nat) : lk (ks s) (killL js) = none := by
  induction js with
  | nil => rfl
  | cons j js ih => simp only [killL, List.map_cons, lk, beq_ksb] at ih ⊢; exact ih
theorem killL_miss : ∀ {js : List Nat} {i : Nat}, (∀ j ∈ js, j ≠ i) → lk (kb i) (killL js) = none
  | [], _, _ => rfl
  | j :: js, i, h => by
    have ih := killL_miss (js := js) (i := i) fun x hx => h x (by simp [hx])
    simp only [killL, List.map_cons, lk, beq_kb] at ih ⊢
    rw [decide_eq_false (fun e => h j (by simp) e.symm)]
    exact ih
theorem inv_lays {E : Env} {nx : Nat → Prop} {a : Act} : ∀ {F : List (Nat × List PV)} {c : Cx} {g : St}, Inv E nx c g a → nodupB (F.map (·.1)) = true → (∀ x ∈ F, ∃ T, g (kb x.1) = some (.blk T x.2) ∧ shds x.2) →
    ∃ c', c'.w = c.w ∧ Keep c c' ∧ Inv E nx c' (over (killL (F.map (·.1))) g) a ∧ ∀ {p : PV} {v : Value}, Rep E.P c p v → Rep E.P c' (frzF1 F p) v
  | [], c, g, hI, _, _ => ⟨c, rfl, Keep.refl c, hI, fun h => h⟩
  | (j, cs) :: F, c, g, hI, hn, h => by
    simp only [List.map_cons, nodupB, Bool.and_eq_true] at hn
    obtain ⟨T, hg, hs⟩ := h (j, cs) (by simp)
    obtain ⟨c1, e1, k1, i1, r1⟩ := inv_lay hI hg hs
    have hne : ∀ x ∈ F, x.1 ≠ j := fun x hx e => by
      have := List.all_eq_true.1 hn.1 x.1 (List.mem_map.2 ⟨x, hx, rfl⟩)
      rw [e, Nat.beq_refl] at this
      cases this
    obtain ⟨c2, e2, k2, i2, r2⟩ := inv_lays (F := F) i1 hn.2 fun x hx => by
      obtain ⟨T', h1, h2⟩ := h x (by simp [hx])
      exact ⟨T', by rw [over_kb_none, if_neg (hne x hx)]; exact h1, h2⟩
    refine ⟨c2, e2.trans e1, k1.trans k2, ?_, fun hr => r2 (r1 hr)⟩
    have e3 : over (killL (((j, cs) :: F).map (·.1))) g = over (killL (F.map (·.1))) (over [(kb j, none)] g) := by
      funext k
      rw [← over_append]
      simp only [List.map_cons, killL, over]
      -- the key j stands at the head or at the end: the same
      by_cases hk : Nat.beq k (kb j) = true
      · have hk' := Nat.eq_of_beq_eq_true hk
        subst hk'
        have hm := killL_miss (js := F.map (·.1)) (i := j) fun x hx => by
          obtain ⟨y, hy, rfl⟩ := List.mem_map.1 hx
          exact hne y hy
        have h5 : ∀ (l m : L), lk (kb j) l = none → lk (kb j) (l ++ m) = lk (kb j) m := fun l m hl => by
          induction l with
          | nil => rfl
          | cons y l ih =>
            obtain ⟨q, z⟩ := y
            simp only [lk, List.cons_append] at hl ⊢
            by_cases e : Nat.beq (kb j) q = true
            · rw [if_pos e] at hl; cases hl
            · rw [if_neg e] at hl ⊢; exact ih hl
        have h6 := h5 (killL (F.map (·.1))) [(kb j, none)] hm
        simp only [killL] at h6
        rw [h6]
        simp [lk, Nat.beq_refl]
      · have h5 : ∀ l : L, lk k (l ++ [(kb j, none)]) = lk k l := fun l => by
          induction l with
          | nil => simp only [List.nil_append, lk]; rw [if_neg hk]
          | cons y l ih =>
            obtain ⟨q, z⟩ := y
            simp only [lk, List.cons_append]
            rw [ih]
        simp only [lk]
        rw [if_neg hk, h5]
    rw [e3]
    exact i2
/-- A plan that doesn't look at some keys; these are gone behind it. -/
def Plan.avoid (js : List Nat) : Plan → Plan
  | .fail => .fail
  | .look k f => match (js.map kb).contains k with | true => .fail | false => .look k fun v => (f v).avoid js
  | .ob p q => .ob p (q.avoid js)
  | .done pv wb => .done pv (wb ++ killL js)
theorem over_killL {js : List Nat} {g : St} {k : Nat} (h : (js.map kb).contains k = false) : over (killL js) g k = g k := by
  have : lk k (killL js) = none := by
    induction js with
    | nil => rfl
    | cons j js ih =>
      simp only [List.map_cons, List.contains_cons, Bool.or_eq_false_iff] at h
      simp only [killL, List.map_cons, lk] at ih ⊢
      have h1 : Nat.beq k (kb j) = false := by
        rw [Bool.eq_false_iff]
        intro e
        have := Nat.eq_of_beq_eq_true e
        have h2 := h.1
        rw [this] at h2
        simp at h2
      rw [h1]
      exact ih h.2
  simp only [over, this]
theorem Res.avoid {js : List Nat} {g : St} : ∀ {pl : Plan} {p : PV} {wb : L}, Res g (pl.avoid js) p wb → ∃ wb', wb = wb' ++ killL js ∧ Res (over (killL js) g) pl p wb'
  | .fail, p, wb, h => (Res.fail h).elim
  | .look k f, p, wb, h => by
    simp only [Plan.avoid] at h
    split at h
    · exact (Res.fail h).elim
    · rename_i hc
      obtain ⟨v, h1, h2⟩ := Res.look h
      obtain ⟨wb', h3, o, h4, h5, h6, h7⟩ := Res.avoid h2
      refine ⟨wb', h3, { o with reads := k :: o.reads }, ?_, h5, h6, h7⟩
      simp only [run]
      rw [over_killL hc, h1]
      simp only
      rw [h4]
  | .ob q r, p, wb, h => by
    simp only [Plan.avoid] at h
    obtain ⟨h1, h2⟩ := Res.ob h
    obtain ⟨wb', h3, o, h4, h5, h6, h7⟩ := Res.avoid h2
    refine ⟨wb', h3, { o with obs := q :: o.obs }, ?_, h5, h6, fun x hx => ?_⟩
    · simp only [run]; rw [h4]
    · simp only [List.mem_cons] at hx
      rcases hx with rfl | hx
      · exact h1
      · exact h7 x hx
  | .done pv w, p, wb, h => by
    simp only [Plan.avoid] at h
    obtain ⟨rfl, rfl⟩ := Res.done h
    exact ⟨w, rfl, ⟨p, w, [], []⟩, rfl, rfl, rfl, fun _ hq => by cases hq⟩
def layP : List Nat → (List (Nat × List PV) → Plan) → Plan
  | [], k => k []
  | j :: js, k => .look (kb j) fun v => match v with | .blk _ cs => .ob (shds cs) (layP js fun F => k ((j, cs) :: F)) | .pv _ => .fail
theorem layP_ok {g : St} : ∀ {js : List Nat} {k : List (Nat × List PV) → Plan} {p : PV} {wb : L}, Res g (layP js k) p wb → ∃ F, F.map (·.1) = js ∧ (∀ x ∈ F, ∃ T, g (kb x.1) = some (.blk T x.2) ∧ shds x.2) ∧ Res g (k F) p wb
  | [], k, p, wb, h => ⟨[], rfl, (by simp), h⟩
  | j :: js, k, p, wb, h => by
    obtain ⟨v, h1, h2⟩ := Res.look h
    cases v with
    | pv _ => exact (Res.fail h2).elim
    | blk T cs =>
      obtain ⟨h3, h4⟩ := Res.ob h2
      obtain ⟨F, h5, h6, h7⟩ := layP_ok h4
      refine ⟨(j, cs) :: F, by simp [h5], fun x hx => ?_, h7⟩
      rcases List.mem_cons.1 hx with rfl | hx
      · exact ⟨T, h1, h3⟩
      · exact h6 x hx
/-- A call to which own rows are given for good. -/
def callPL (P : Program) (F : List (Nat × List PV)) (id : Nat) (fv : PV) (an : Ans) (args : List PV) : Plan := match fv, an with
  | .av (.func (.func f) fs cs), .call ids bs H r H' => callP P f (fs.toList.map .av ++ (args.map (frzF1 F)).map cz ++ cs.toList.map .av) id ids bs H r H'
  | _, _ => .fail
def aCallL (P : Program) (fx : Operand) (xs : List Operand) (js : List Nat) (an : Ans) (id : Nat) : Plan := match nodupB js with
  | true => layP js fun F => opd fx fun fv => opdl xs fun args => (callPL P F id fv an args).avoid js
  | false => .fail
theorem aCallL_ok {E : Env} {o : Oper} {id : Nat} {fx : Operand} {xs : Array Operand} {ts : Array TypeId} {js : List Nat} {an : Ans} (ho : o.op = .call { callee := .value fx, args := xs, argTypes := ts }) (hd : ∀ x, o.dst = some x → x < E.n) : ActOk E o id (aCallL E.P fx xs.toList js an id) := by
  intro g p wb h nx c a K Q hn hI hK
  unfold aCallL at h
  split at h
  case h_2 => exact (Res.fail h).elim
  rename_i hnd
  obtain ⟨F, hF, hFb, h1⟩ := layP_ok h
  obtain ⟨q, hq, h2⟩ := Res.opd hI h1
  obtain ⟨ps, hps, h3⟩ := Res.opdl hI h2
  clear h h1 h2
  obtain ⟨wb', rfl, h4⟩ := Res.avoid h3
  obtain ⟨c1, e1, k1, i1, r1⟩ := inv_lays hI (by rw [hF]; exact hnd) hFb
  rw [hF] at i1
  have hps' : RL E.P c1 (ps.map (frzF1 F)) (xs.map a.eval) := by
    have e : (xs.toList.map a.eval).toArray = xs.map a.eval := by apply Array.ext'; simp
    rw [← e]
    refine ⟨by simpa using hps.1, fun i hi => ?_⟩
    have hi' : i < ps.length := by simpa using hi
    have := r1 (hps.2 i hi')
    simpa [List.getD_eq_getElem?_getD, hi'] using this
  have key : ∀ {f : FuncId} {fs cs : Array Value}, a.eval fx = .func (.func f) fs cs → FnOk E.P f → (execOp a.eval o).run E.P c.w = .ok (.enter f (fs ++ xs.map a.eval ++ cs)) c.w := by
    rintro f fs cs hv ⟨fn, h1, h2, h3⟩
    have h4 : (callFunc f (fs ++ xs.map a.eval ++ cs)).run E.P c.w = .ok (.enter f (fs ++ xs.map a.eval ++ cs)) c.w := by
      have h2' : ¬ fn.body = none := fun e => by rw [e] at h2; cases h2
      have h3' : ¬ fn.name = "runtime.NumGoroutine" := by simpa using h3
      simp [callFunc, h1, h3', h2']
    simp only [execOp, ho, resolve, hv, Deferred.ofValue, invoke, Sem.run_bind, Sem.run_pure, Result.andThen_ok]
    exact h4
  unfold callPL at h4
  split at h4
  · rename_i f fs cs ids bs H r H'
    have e2 : over (wb' ++ killL js) g = over wb' (over (killL js) g) := over_append _ _ _
    rw [e2] at hK
    have hfn := key (rep_av hq)
    rw [← e1] at hfn ⊢
    exact call_core hd hn i1 hK h4 (((avs_rl fs).append hps'.czs).append (avs_rl cs)) hfn
  · exact (Res.fail h4).elim
end Go.Proofs.Ytfoiadlaekknpaa.Pm
namespace Go.Proofs.Ytfoiadlaekknpaa.Pm
open Go

theorem setCell_row {w : World} {b off : Nat} {cur : Array Value} {T : TypeId} {v : Value} (hb : w.heap[b]? = some (.cells cur T (0, 0))) (ho : off < cur.size) :
    w.setCell ⟨b, off, none⟩ v = w.setRow b (cur.toList.take off ++ [v] ++ cur.toList.drop (off + [v].length)).toArray := by
  unfold World.setCell World.setRow
  congr 1
  apply Array.ext_getElem?
  intro i
  rw [Array.getElem?_modify, Array.getElem?_modify]
  by_cases e : b = i
  · subst e
    rw [if_pos rfl, if_pos rfl, hb]
    simp only [Option.map_some, Option.isSome_none, Bool.false_eq_true, if_false, Option.some.injEq, Obj.cells.injEq, and_true]
    apply Array.ext'
    rw [Array.toList_setIfInBounds, List.set_eq_take_append_cons_drop, if_pos (by simpa using ho)]
    simp
  · rw [if_neg e, if_neg e]
/-- The function loads (stores) a number at a stroke. -/
def IsLoad (P : Program) (f : FuncId) (k : IntKind) : Prop := ∃ fn, P.funcs[f]? = some fn ∧ (fn.name == "runtime.NumGoroutine") = false ∧ fn.body.isNone = true ∧ Extern.findNext fn = none ∧ Extern.find fn = some (Extern.Atomic.loadT (.int k))
def IsStore (P : Program) (f : FuncId) : Prop := ∃ fn, P.funcs[f]? = some fn ∧ (fn.name == "runtime.NumGoroutine") = false ∧ fn.body.isNone = true ∧ Extern.findNext fn = none ∧ Extern.find fn = some Extern.Atomic.storeT
def aExtL (P : Program) (fx : Operand) (xs : List Operand) : Plan := match fx, xs with
  | .func f, [x] => opd x fun p => match p with
    | .opt id off => .look (kb id) fun v => match v with
      | .blk _ cells => match cells[off]? with
        | some (.av (.int k n)) => .ob (IsLoad P f k) (.done (.av (.int k n)) [])
        | _ => .fail
      | .pv _ => .fail
    | _ => .fail
  | _, _ => .fail
theorem aExtL_ok {E : Env} {o : Oper} {id : Nat} {fx : Operand} {xs : Array Operand} {ts : Array TypeId} (ho : o.op = .call { callee := .value fx, args := xs, argTypes := ts }) (hd : ∀ x, o.dst = some x → x < E.n) : ActOk E o id (aExtL E.P fx xs.toList) := by
  intro g p wb h nx c a K Q hn hI hK
  unfold aExtL at h
  split at h
  case h_2 => exact (Res.fail h).elim
  rename_i f x hx
  obtain ⟨q, hq, h1⟩ := Res.opd hI h
  split at h1
  case h_2 => exact (Res.fail h1).elim
  rename_i id' off
  obtain ⟨bv, hg, h2⟩ := Res.look h1
  cases bv with
  | pv _ => exact (Res.fail h2).elim
  | blk T cells =>
    simp only at h2
    split at h2
    case h_2 => exact (Res.fail h2).elim
    rename_i k n hcell
    obtain ⟨⟨fn, f1, f2, f3, f4, f5⟩, h3⟩ := Res.ob h2
    obtain ⟨rfl, rfl⟩ := Res.done h3
    obtain ⟨b, T2, hown, hv⟩ := rep_opt hq
    obtain ⟨ob', hown', hone, hb⟩ := hI.blk id' T cells hg
    rw [hown] at hown'
    cases hown'
    have hlt : off < cells.length := (List.getElem?_eq_some_iff.1 hcell).1
    rcases hb with ⟨hb, _⟩ | ⟨b', vs, hb1, hb2, hb3, hb4⟩
    · cases hb
    obtain rfl : b' = b := by simpa using hb1.symm
    have hc := hb4 off hlt
    rw [List.getD_eq_getElem?_getD, hcell] at hc
    have hc := rep_av hc
    have hcl : c.w.cell? ⟨b', off, none⟩ = some (.int k n) := by
      rw [cell_of_row c.w _ _ vs _ _ hb2]
      have : off < vs.size := by omega
      rw [Array.getD_eq_getD_getElem?] at hc
      cases hx : vs[off]? with
      | none => rw [Array.getElem?_eq_none_iff] at hx; omega
      | some y => rw [hx] at hc; simp only [Option.getD_some] at hc; rw [hc]
    refine pure_step hd hI hK (.sh (.av _)) ?_
    have hr := run_call_load (P := E.P) f1 f2 f3 f4 k f5 hcl
    have hxs : xs.map a.eval = #[.pointer (some ⟨b', off, none⟩)] := by
      have : xs = #[x] := by apply Array.ext'; simpa using hx
      rw [this]
      simp [hv]
    simp only [execOp, ho, resolve, Act.eval, Deferred.ofValue, invoke, Sem.run_bind, Sem.run_pure, Result.andThen_ok]
    rw [show (#[] ++ Array.map a.eval xs ++ #[] : Array Value) = #[.pointer (some ⟨b', off, none⟩)] from by rw [hxs]; rfl]
    exact hr
def aExtS (P : Program) (fx : Operand) (xs : List Operand) : Plan := match fx, xs with
  | .func f, [x, y] => opd x fun p => opd y fun q => match p, q with
    | .opt id off, .av (.int k n) => .look (kb id) fun v => match v with
      | .blk B cells => .ob (IsStore P f) (storeP id B cells off [.av (.int k n)] (.av (.tuple #[])) .no)
      | .pv _ => .fail
    | _, _ => .fail
  | _, _ => .fail
theorem aExtS_ok {E : Env} {o : Oper} {id : Nat} {fx : Operand} {xs : Array Operand} {ts : Array TypeId} (ho : o.op = .call { callee := .value fx, args := xs, argTypes := ts }) (hd : ∀ x, o.dst = some x → x < E.n) : ActOk E o id (aExtS E.P fx xs.toList) := by
  intro g p wb h nx c a K Q hn hI hK
  unfold aExtS at h
  split at h
  case h_2 => exact (Res.fail h).elim
  rename_i f x y hx
  obtain ⟨q1, hq1, h1⟩ := Res.opd hI h
  obtain ⟨q2, hq2, h2⟩ := Res.opd hI h1
  split at h2
  case h_2 => exact (Res.fail h2).elim
  rename_i id1 off k n
  obtain ⟨bv, hg, h3⟩ := Res.look h2
  cases bv with
  | pv _ => exact (Res.fail h3).elim
  | blk B cells =>
    simp only at h3
    obtain ⟨⟨fn, f1, f2, f3, f4, f5⟩, h4⟩ := Res.ob h3
    obtain ⟨hone, hl, rfl, rfl⟩ := storeP_ok h4
    obtain ⟨b, T2, hown, hv⟩ := rep_opt hq1
    obtain ⟨ob', hown', hone2, hb⟩ := hI.blk id1 B cells hg
    have eT : T2 = B := by rw [hown] at hown'; cases hown'; rfl
    subst eT
    have hv2 := rep_av hq2
    have hrl : RL E.P c [.av (.int k n)] [Value.int k n].toArray := ⟨rfl, fun i hi => by
      have : i = 0 := by simp at hi; omega
      subst this
      exact .sh (.av _)⟩
    obtain ⟨cur, hc1, hc2, hKK⟩ := write_step (id := id) (vs := [Value.int k n]) (v := .tuple #[]) hd hI hg hown hone hl hrl hK fun _ => .sh (.av _)
    have hlt : off < cur.size := by simp only [List.length_cons, List.length_nil] at hc2; omega
    rw [← setCell_row hc1 hlt] at hKK
    have hcl : c.w.cell? ⟨b, off, none⟩ = some cur[off] := by
      rw [cell_of_row c.w _ _ cur _ _ hc1]
      simp [hlt]
    have hfr : c.w.frozen? ⟨b, off, none⟩ = false := by simp [World.frozen?, hc1]
    refine ow_val ?_ hKK
    have hr := run_call_store (P := E.P) f1 f2 f3 f4 f5 (k := k) (y := n) hcl hfr
    have hxs : xs.map a.eval = #[.pointer (some ⟨b, off, none⟩), .int k n] := by
      have : xs = #[x, y] := by apply Array.ext'; simpa using hx
      rw [this]
      simp [hv, hv2]
    simp only [execOp, ho, resolve, Act.eval, Deferred.ofValue, invoke, Sem.run_bind, Sem.run_pure, Result.andThen_ok]
    rw [show (#[] ++ Array.map a.eval xs ++ #[] : Array Value) = #[.pointer (some ⟨b, off, none⟩), .int k n] from by rw [hxs]; rfl]
    exact hr

/-! ### calls that leave what was lent as it is -/
theorem Res.mk_ob {g : St} {q : Prop} {r : Plan} {p : PV} {wb : L} (hq : q) (h : Res g r p wb) : Res g (.ob q r) p wb := by
  obtain ⟨o, h1, h2, h3, h4⟩ := h
  exact ⟨{ o with obs := q :: o.obs }, by simp only [run]; rw [h1], h2, h3, fun x hx => by
    simp only [List.mem_cons] at hx
    rcases hx with rfl | hx
    · exact hq
    · exact h4 x hx⟩
theorem Res.mk_look {g : St} {k : Nat} {f : Val → Plan} {v : Val} {p : PV} {wb : L} (hv : g k = some v) (h : Res g (f v) p wb) : Res g (.look k f) p wb := by
  obtain ⟨o, h1, h2, h3, h4⟩ := h
  exact ⟨{ o with reads := k :: o.reads }, by simp only [run]; rw [hv]; simp only; rw [h1], h2, h3, h4⟩
theorem Res.mk_done {g : St} {p : PV} {wb : L} : Res g (.done p wb) p wb := ⟨⟨p, wb, [], []⟩, rfl, rfl, rfl, fun _ hq => by cases hq⟩
theorem lent_swap {g : St} {σ : Nat → Nat} {k k' : Plan} {p p' : PV} {wb wb' : L} : ∀ {ids : List Nat} {H : Hp}, Res g (lentP σ ids H k) p wb → Res g k' p' wb' → Res g (lentP σ ids H k') p' wb'
  | [], [], _, h' => h'
  | id :: ids, some (T, cs) :: H, h, h' => by
    obtain ⟨v, h1, h2⟩ := Res.look h
    refine Res.mk_look h1 ?_
    cases v with
    | pv _ => exact (Res.fail h2).elim
    | blk T' cs' =>
      simp only at h2 ⊢
      split at h2
      · rename_i hT
        obtain ⟨h3, h4⟩ := Res.ob h2
        exact Res.mk_ob h3 (lent_swap h4 h')
      · exact (Res.fail h2).elim
  | [], some _ :: _, h, _ => (Res.fail h).elim
  | [], none :: _, h, _ => (Res.fail h).elim
  | _ :: _, [], h, _ => (Res.fail h).elim
  | _ :: _, none :: _, h, _ => (Res.fail h).elim
theorem over_same {σ : Nat → Nat} {g : St} : ∀ {H : Hp} {n : Nat}, (∀ i, i < H.length → ∃ T cs, H.getD i none = some (T, cs) ∧ g (kb (σ (n + i))) = some (.blk T (renL σ cs))) → over (wcall σ n H) g = g
  | [], n, _ => rfl
  | x :: H, n, h => by
    have ih := over_same (σ := σ) (g := g) (H := H) (n := n + 1) fun i hi => by
      obtain ⟨T, cs, h1, h2⟩ := h (i + 1) (by simpa using hi)
      exact ⟨T, cs, by simpa using h1, by rw [show n + 1 + i = n + (i + 1) by omega]; exact h2⟩
    obtain ⟨T, cs, h1, h2⟩ := h 0 (by simp)
    have h1 : x = some (T, cs) := by simpa using h1
    subst h1
    funext k
    have ihk := congrFun ih k
    simp only [over, wcall, lk] at ihk ⊢
    by_cases e : Nat.beq k (kb (σ n)) = true
    · rw [if_pos e]
      rw [Nat.eq_of_beq_eq_true e]
      rw [Nat.add_zero] at h2
      exact h2.symm
    · rw [if_neg e]
      exact ihk
def callRP (P : Program) (f : FuncId) (args : List PV) (id : Nat) (ids : List Nat) (bs : List PV) (H : Hp) (r : PV) : Plan :=
  match Nat.ble H.length (ids.length + 8), nodupB ids with
  | true, true => .ob (PC P f bs H r H) (.ob (args = renL (sigi ids id) bs) (lentP (sigi ids id) ids H (lentP (sigo ids id) ids H (.done (ren (sigo ids id) r) []))))
  | _, _ => .fail
theorem callR_call {P : Program} {f : FuncId} {args : List PV} {id : Nat} {ids : List Nat} {bs : List PV} {H : Hp} {r : PV} {g : St} {p : PV} {wb : L} (h : Res g (callRP P f args id ids bs H r) p wb) :
    wb = [] ∧ ∃ wb', Res g (callP P f args id ids bs H r H) p wb' ∧ over wb' g = g := by
  unfold callRP at h
  split at h
  case h_2 => exact (Res.fail h).elim
  rename_i hb1 hb2
  obtain ⟨hpc, h1⟩ := Res.ob h
  obtain ⟨hargs, h2⟩ := Res.ob h1
  obtain ⟨hlen, h3, _⟩ := lent_ok h2
  obtain ⟨_, h4, hl⟩ := lent_ok h3
  obtain ⟨rfl, rfl⟩ := Res.done h4
  refine ⟨rfl, wcall (sigo ids id) 0 H, ?_, over_same fun i hi => ?_⟩
  · unfold callP
    rw [hb1, hb2]
    exact Res.mk_ob hpc (Res.mk_ob hargs (lent_swap h2 Res.mk_done))
  · obtain ⟨T, cs, h5, h6⟩ := hl i (by omega)
    refine ⟨T, cs, h5, ?_⟩
    rw [Nat.zero_add]
    have : sigo ids id i = ids.getD i 0 := by
      unfold sigo
      rw [if_pos (by rw [Nat.blt_eq]; omega)]
      simp [List.getD_eq_getElem?_getD, show i < ids.length by omega]
    rw [this]
    exact h6
def callRL (P : Program) (id : Nat) (fv : PV) (ids : List Nat) (bs : List PV) (H : Hp) (r : PV) (args : List PV) : Plan := match fv with
  | .av (.func (.func f) fs cs) => callRP P f (fs.toList.map .av ++ args.map cz ++ cs.toList.map .av) id ids bs H r
  | _ => .fail
def aCallR (P : Program) (fx : Operand) (xs : List Operand) (ids : List Nat) (bs : List PV) (H : Hp) (r : PV) (id : Nat) : Plan := opd fx fun fv => opdl xs fun args => callRL P id fv ids bs H r args
theorem aCallR_ok {E : Env} {o : Oper} {id : Nat} {fx : Operand} {xs : Array Operand} {ts : Array TypeId} {ids : List Nat} {bs : List PV} {H : Hp} {r : PV} (ho : o.op = .call { callee := .value fx, args := xs, argTypes := ts }) (hd : ∀ x, o.dst = some x → x < E.n) : ActOk E o id (aCallR E.P fx xs.toList ids bs H r id) := by
  intro g p wb h nx c a K Q hn hI hK
  obtain ⟨q, hq, h1⟩ := Res.opd hI h
  obtain ⟨ps, hps, h2⟩ := Res.opdl hI h1
  clear h h1
  have hps' : RL E.P c ps (xs.map a.eval) := by
    have e : (xs.toList.map a.eval).toArray = xs.map a.eval := by apply Array.ext'; simp
    rw [← e]; exact hps
  have key : ∀ {f : FuncId} {fs cs : Array Value}, a.eval fx = .func (.func f) fs cs → FnOk E.P f → (execOp a.eval o).run E.P c.w = .ok (.enter f (fs ++ xs.map a.eval ++ cs)) c.w := by
    rintro f fs cs hv ⟨fn, h1, h2, h3⟩
    have h4 : (callFunc f (fs ++ xs.map a.eval ++ cs)).run E.P c.w = .ok (.enter f (fs ++ xs.map a.eval ++ cs)) c.w := by
      have h2' : ¬ fn.body = none := fun e => by rw [e] at h2; cases h2
      have h3' : ¬ fn.name = "runtime.NumGoroutine" := by simpa using h3
      simp [callFunc, h1, h3', h2']
    simp only [execOp, ho, resolve, hv, Deferred.ofValue, invoke, Sem.run_bind, Sem.run_pure, Result.andThen_ok]
    exact h4
  unfold callRL at h2
  split at h2
  · rename_i f fs cs
    obtain ⟨rfl, wb', h3, h4⟩ := callR_call h2
    refine call_core hd hn hI (fun c' a' hh => hK c' a' ?_) h3 (((avs_rl fs).append hps'.czs).append (avs_rl cs)) (key (rep_av hq))
    rw [h4] at hh
    exact hh
  · exact (Res.fail h2).elim
end Go.Proofs.Ytfoiadlaekknpaa.Pm
namespace Go.Proofs.Ytfoiadlaekknpaa.Pm
open Go

def bytesPV (t : ByteArray) : List PV := t.data.toList.map fun x => .av (.int .u8 (x.toNat : Int))
theorem strOfNums_self (t : ByteArray) : strOfNums (t.data.toList.map fun x => (x.toNat : Int)) = t := by
  have h : ((t.data.toList.map fun x => (x.toNat : Int)).map fun n => UInt8.ofNat n.toNat) = t.data.toList := by
    rw [List.map_map]
    refine (List.map_congr_left fun x _ => ?_).trans (List.map_id _)
    simp
  unfold strOfNums
  rw [h]
def aConvB (P : Program) (s d : TypeId) (x : Operand) (an : Ans) : Plan := match P.underlying s with
  | some (.slice e) => match P.underlying e, P.underlying d, an with
    | some (.int .u8), some .string, .val (.av (.string t)) => opd x fun p => match p with
      | .ssl cs off n => .ob (0 < n ∧ off + n ≤ cs.length ∧ (cs.drop off).take n = bytesPV t) (.done (.av (.string t)) [])
      | _ => .fail
    | _, _, _ => .fail
  | us => aConv us (P.underlying d) x an
theorem aConvB_ok {E : Env} {o : Oper} {id : Nat} {s d : TypeId} {x : Operand} {an : Ans} (ho : o.op = .convert s d x) (hd : ∀ x, o.dst = some x → x < E.n) : ActOk E o id (aConvB E.P s d x an) := by
  unfold aConvB
  split
  · rename_i e hus
    split
    · rename_i t hue hud
      intro g p wb h nx c a K Q hn hI hK
      obtain ⟨q, hq, h1⟩ := Res.opd hI h
      clear h
      split at h1
      · rename_i cs off n
        obtain ⟨⟨h0, h2, h3⟩, h4⟩ := Res.ob h1
        obtain ⟨rfl, rfl⟩ := Res.done h4
        rcases rep_ssl hq with ⟨ad, cap, hv, rfl⟩ | ⟨b, a', cap, vf, hv, hS, hc, hr, hone, hl⟩
        · omega
        · obtain ⟨h5, h6⟩ := getD_seg h2 h3
          have hlen : (t.data.toList.map fun x => (x.toNat : Int)).length = n := by rw [← h5]; simp [bytesPV]
          have hcell : ∀ i, i < n → c.w.cell? ⟨b, a' + off + i, none⟩ = some (.int .u8 ((t.data.toList.map fun x => (x.toNat : Int)).getD i 0)) := fun i hi => by
            have h7 := hr (off + i) (by omega)
            rw [← h6 i hi] at h7
            have hi' : i < t.data.toList.length := by rw [List.length_map] at hlen; omega
            have h8 : (bytesPV t).getD i P0 = .av (.int .u8 ((t.data.toList.map fun x => (x.toNat : Int)).getD i 0)) := by
              unfold bytesPV
              rw [List.getD_eq_getElem?_getD, List.getElem?_map, List.getD_eq_getElem?_getD, List.getElem?_map, List.getElem?_eq_getElem hi']
              rfl
            rw [h8] at h7
            rw [Nat.add_assoc, hc (off + i) (by omega), rep_av (Rep.sh (P := E.P) (c := c) h7)]
          have hrun := run_convert_bytes_arg (P := E.P) c.w s e hus hue b (a' + off) n cap _ hlen hcell d hud
          rw [strOfNums_self] at hrun
          refine pure_step hd hI hK (.sh (.av _)) ?_
          simp [execOp, ho, hv, hrun]
      · exact (Res.fail h1).elim
    · intro g p wb h nx c a K Q hn hI hK
      exact (Res.fail h).elim
  · exact aConv_ok ho hd
end Go.Proofs.Ytfoiadlaekknpaa.Pm
namespace Go.Proofs.Ytfoiadlaekknpaa.Pm
open Go

def aFunc (fn : Fn) (first cap : List Operand) : Plan := opdl first fun ps => opdl cap fun qs => .done (.fn fn ps qs) []
theorem aFunc_ok {E : Env} {o : Oper} {id : Nat} {fn : Fn} {xs ys : Array Operand} (ho : o.op = .makeFunc fn xs ys) (hd : ∀ x, o.dst = some x → x < E.n) : ActOk E o id (aFunc fn xs.toList ys.toList) := by
  intro g p wb h nx c a K Q hn hI hK
  obtain ⟨ps, hps, h1⟩ := Res.opdl hI h
  obtain ⟨qs, hqs, h2⟩ := Res.opdl hI h1
  obtain ⟨rfl, rfl⟩ := Res.done h2
  have e : ∀ zs : Array Operand, (zs.toList.map a.eval).toArray = zs.map a.eval := fun zs => by apply Array.ext'; simp
  rw [e] at hps hqs
  exact pure_step hd hI hK (.fn hps.1 hps.2 hqs.1 hqs.2) (by simp [execOp, ho, Instr.makeFunc])
def aMax (mx : Bool) (x y : Operand) : Plan := opd x fun p => opd y fun q => match p, q with
  | .av (.int k a), .av (.int _ b) => .done (.av (.int k (match mx with | true => max a b | false => min a b))) []
  | _, _ => .fail
theorem aMax_ok {E : Env} {o : Oper} {id : Nat} {x y : Operand} {ts : Array TypeId} (ho : o.op = .call { callee := .builtin .max, args := #[x, y], argTypes := ts }) (hd : ∀ x, o.dst = some x → x < E.n) : ActOk E o id (aMax true x y) := by
  intro g p wb h nx c a K Q hn hI hK
  obtain ⟨q1, hq1, h1⟩ := Res.opd hI h
  obtain ⟨q2, hq2, h2⟩ := Res.opd hI h1
  split at h2
  · rename_i k m k2 n
    obtain ⟨rfl, rfl⟩ := Res.done h2
    refine pure_step hd hI hK (.sh (.av _)) ?_
    have e : max m n = if n > m then n else m := by split <;> omega
    simp [execOp, ho, resolve, invoke, builtin, rep_av hq1, rep_av hq2, Builtin.max_, Builtin.max2, e]
  · exact (Res.fail h2).elim
theorem aMin_ok {E : Env} {o : Oper} {id : Nat} {x y : Operand} {ts : Array TypeId} (ho : o.op = .call { callee := .builtin .min, args := #[x, y], argTypes := ts }) (hd : ∀ x, o.dst = some x → x < E.n) : ActOk E o id (aMax false x y) := by
  intro g p wb h nx c a K Q hn hI hK
  obtain ⟨q1, hq1, h1⟩ := Res.opd hI h
  obtain ⟨q2, hq2, h2⟩ := Res.opd hI h1
  split at h2
  · rename_i k m k2 n
    obtain ⟨rfl, rfl⟩ := Res.done h2
    refine pure_step hd hI hK (.sh (.av _)) ?_
    have e : min m n = if n < m then n else m := by split <;> omega
    simp [execOp, ho, resolve, invoke, builtin, rep_av hq1, rep_av hq2, Builtin.min_, Builtin.min2, e]
  · exact (Res.fail h2).elim

def plan (P : Program) (o : Oper) (an : Ans) (id : Nat) : Plan := match o.op with
  | .move x => aMove x
  | .assign x => aMove x
  | .pick c x y => aPick c x y an
  | .alloc T => aAlloc P T id
  | .box T x => aBox T x id
  | .build T ps => aBuild P T ps.toList
  | .buildSlice T n ps => aBuildSlice P T n ps.toList id
  | .load T x => aLoad P T x an
  | .store T x y => aStore P T x y an
  | .nilCheck x => aNilCheck x
  | .binOp op T x y _ => match P.underlying T with
    | some (.struct _) => match op with | .eql => aEqS P false T x y | .neq => aEqS P true T x y | _ => .fail
    | some (.pointer e) => match op with | .eql => aEqP (some (.pointer e)) false x y | .neq => aEqP (some (.pointer e)) true x y | _ => .fail
    | u => aBin op T x y u an
  | .unOp op _ x => aUn op x an
  | .convert s d x => aConvB P s d x an
  | .makeFunc fn xs ys => aFunc fn xs.toList ys.toList
  | .makeSlice T l c => aMake P T l c an id
  | .slice T x lo hi mx => aSlice P T x lo hi mx an
  | .fieldAddr T x f => aFieldAddr P T x f
  | .field T x f => aField P T x f
  | .indexAddr T x i => aIndexAddr P T x i an
  | .index T x i => aIndex P T x i
  | .extract t i => aExtract t i
  | .call { callee := .builtin .len, args := ⟨[x]⟩, argTypes := ⟨T :: _⟩ } => aLen (P.underlying T) x
  | .call { callee := .builtin .append, args := ⟨[x, y]⟩, argTypes := ⟨[T, U]⟩ } => aAppend P T (P.underlying U) x y an id
  | .call { callee := .builtin .copy, args := ⟨[x, y]⟩, argTypes := ⟨[T, U]⟩ } => aCopy P T (P.underlying U) x y an
  | .call { callee := .builtin .max, args := ⟨[x, y]⟩, .. } => aMax true x y
  | .call { callee := .builtin .min, args := ⟨[x, y]⟩, .. } => aMax false x y
  | .call { callee := .builtin .max, args := ⟨[x, y, z]⟩, .. } => aMax3 true x y z
  | .call { callee := .builtin .min, args := ⟨[x, y, z]⟩, .. } => aMax3 false x y z
  | .call { callee := .value f, args, .. } => match an with | .lay js an' => aCallL P f args.toList js an' id | .callR ids bs H r => aCallR P f args.toList ids bs H r id | .ext true => aExtL P f args.toList | .ext false => aExtS P f args.toList | _ => aCall P f args.toList an id
  | _ => .fail
theorem plan_ok {E : Env} {o : Oper} {id : Nat} {an : Ans} (hd : ∀ x, o.dst = some x → x < E.n) : ActOk E o id (plan E.P o an id) := by
  unfold plan
  split <;> rename_i ho
  · exact aMove_ok (.inl ho) hd
  · exact aMove_ok (.inr ho) hd
  · exact aPick_ok ho hd
  · exact aAlloc_ok ho hd
  · exact aBox_ok ho hd
  · exact aBuild_ok ho hd
  · exact aBuildSlice_ok ho hd
  · exact aLoad_ok ho hd
  · exact aStore_ok ho hd
  · exact aNilCheck_ok ho hd
  · split
    · split
      · exact aEqS_ok (ng := false) ho hd
      · exact aEqS_ok (ng := true) ho hd
      · exact fun g p wb h => (Res.fail h).elim
    · rename_i hu
      rw [← hu]
      split
      · exact aEqP_ok (ng := false) ho hd
      · exact aEqP_ok (ng := true) ho hd
      · exact fun g p wb h => (Res.fail h).elim
    · exact aBin_ok ho hd
  · exact aUn_ok ho hd
  · exact aConvB_ok ho hd
  · exact aFunc_ok ho hd
  · exact aMake_ok ho hd
  · exact aSlice_ok ho hd
  · exact aFieldAddr_ok ho hd
  · exact aField_ok ho hd
  · exact aIndexAddr_ok ho hd
  · exact aIndex_ok ho hd
  · exact aExtract_ok ho hd
  · exact aLen_ok ho (by simp) hd
  · exact aAppend_ok ho hd
  · exact aCopy_ok ho hd
  · exact aMax_ok ho hd
  · exact aMin_ok ho hd
  · exact aMax3_ok ho hd
  · exact aMin3_ok ho hd
  · split
    · exact aCallL_ok ho hd
    · exact aCallR_ok ho hd
    · exact aExtL_ok ho hd
    · exact aExtS_ok ho hd
    · exact aCall_ok ho hd
  · exact fun g p wb h => (Res.fail h).elim

/-- A guarded operation: the answer tells whether its guard holds. -/
def gplan (P : Program) (ops : List Oper) (o : Oper) (an : Ans) (id : Nat) : Plan := match o.guard with
  | none => plan P o an id
  | some (j, want) => match (ops[j]?).bind (·.dst) with
    | some d => .look (ks d) fun v => match v, an with
      | .pv (.av (.bool t)), .gd b an' => .ob (t = b) (match b == want with | true => plan P o an' id | false => .done P0 [])
      | .pv (.av (.tuple _)), _ => .done P0 []
      | _, _ => .fail
    | none => .fail
theorem gplan_ok {E : Env} {l : List Oper} {i : Nat} {o : Oper} {id : Nat} {an : Ans} (ho : l[i]? = some o) (hd : ∀ x, o.dst = some x → x < E.n) {g : St} {out : Out} (hr : run g (gplan E.P l o an id) = some out) (hob : ∀ p ∈ out.obs, p) :
    StepOk E l.toArray i o out id g := by
  intro nx c a K Q hn hI hK
  have hres : Res g (gplan E.P l o an id) out.pv out.wb := ⟨out, hr, rfl, rfl, hob⟩
  have ho' : l.toArray[i]? = some o := by simpa using ho
  have hK' : ∀ c' a', Inv E (fun j => nx j ∨ (id ≤ j ∧ j < id + 8)) c' (over (wd o.dst out.pv) (over out.wb g)) a' → K a' c'.w := fun c' a' h => hK c' a' (by rw [wr, over_append]; exact h)
  unfold wpOp
  simp only [ho']
  unfold gplan at hres
  split at hres
  · rename_i hg
    rw [if_pos (by simp [Region.wanted, hg])]
    exact .inl (plan_ok hd g _ _ hres nx c a K Q hn hI hK')
  · rename_i j want hg
    split at hres
    · rename_i d hj
      obtain ⟨v, hv, h1⟩ := Res.look hres
      split at h1
      · rename_i t b an'
        obtain ⟨rfl, h2⟩ := Res.ob h1
        have h3 := rep_av (hI.slot d _ hv)
        have h4 : a.tmps[d]? = some (.bool t) := by
          rw [Array.getD_eq_getD_getElem?] at h3
          cases hx : a.tmps[d]? with
          | none => rw [hx] at h3; cases h3
          | some x => rw [hx] at h3; simp only [Option.getD_some] at h3; rw [h3]
        have hy : yielded l.toArray a.tmps j = some t := by
          unfold yielded
          have hj' : (l.toArray[j]?).bind (·.dst) = some d := by simpa using hj
          rw [hj']
          simp [h4]
        have hw : Region.wanted o (yielded l.toArray a.tmps) = (t == want) := by
          unfold Region.wanted
          simp only [hg, hy]
          cases t <;> cases want <;> rfl
        split at h2
        · rename_i hbw
          rw [if_pos (by rw [hw]; exact hbw)]
          exact .inl (plan_ok hd g _ _ h2 nx c a K Q hn hI hK')
        · rename_i hbw
          obtain ⟨h5, h6⟩ := Res.done h2
          rw [if_neg (by rw [hw]; simp [hbw])]
          have := hI.pure (nx' := fun j => nx j ∨ (id ≤ j ∧ j < id + 8)) (fun _ h => .inl h) o.dst hd (p := out.pv) (v := undef) fun _ => by rw [h5]; exact .sh (.av _)
          refine hK' c _ ?_
          rw [h6]
          exact this
      · rename_i us _
        obtain ⟨h5, h6⟩ := Res.done h1
        have h3 := rep_av (hI.slot d _ hv)
        have hy : yielded l.toArray a.tmps j = none := by
          unfold yielded
          have hj' : (l.toArray[j]?).bind (·.dst) = some d := by simpa using hj
          rw [hj']
          cases hx : a.tmps[d]? with
          | none => simp [hx]
          | some x =>
            rw [Array.getD_eq_getD_getElem?, hx] at h3
            simp only [Option.getD_some] at h3
            subst h3
            simp [hx]
        have hw : Region.wanted o (yielded l.toArray a.tmps) = false := by
          unfold Region.wanted
          simp only [hg, hy]
          rfl
        rw [if_neg (by rw [hw]; decide)]
        have := hI.pure (nx' := fun j => nx j ∨ (id ≤ j ∧ j < id + 8)) (fun _ h => .inl h) o.dst hd (p := out.pv) (v := undef) fun _ => by rw [h5]; exact .sh (.av _)
        refine hK' c _ ?_
        rw [h6]
        exact this
      · exact (Res.fail h1).elim
    · exact (Res.fail hres).elim

/-! ### a region reckoned -/
def ansAt (ans : List (Nat × Ans)) (i : Nat) : Ans := match lk i ans with | some a => a | none => .no
def dstOk (n : Nat) (o : Oper) : Bool := match o.dst with | some d => Nat.blt d n | none => true
def evs (P : Program) (n : Nat) (ops : List Oper) (n0 : Nat) (ans : List (Nat × Ans)) : List Oper → Nat → L → Option (L × List Prop × List Out)
  | [], _, l => some (l, [], [])
  | o :: r, i, l => match run (get l) (gplan P ops o (ansAt ans i) (n0 + 8 * i)), dstOk n o with
    | some out, true => match evs P n ops n0 ans r (i + 1) (wr o.dst out ++ l) with
      | some (l', obs, outs) => some (l', out.obs ++ obs, out :: outs)
      | none => none
    | _, _ => none
def out0 : Out := ⟨P0, [], [], []⟩
theorem evs_spec {P : Program} {n : Nat} {ops : List Oper} {n0 : Nat} {ans : List (Nat × Ans)} {g0 : St} {tab : Nat → Out} : ∀ {r : List Oper} {i : Nat} {l l' : L} {obs : List Prop} {outs : List Out}, evs P n ops n0 ans r i l = some (l', obs, outs) →
    ops.drop i = r → (∀ j, j < r.length → outs.getD j out0 = tab (i + j)) → get l = fold g0 (Wt ops.toArray tab) (fun j => decide (j < i)) ops.length →
    outs.length = r.length ∧ get l' = fold g0 (Wt ops.toArray tab) (fun _ => true) ops.length ∧
      ∀ j o, i ≤ j → ops[j]? = some o → run (fold g0 (Wt ops.toArray tab) (fun k => decide (k < j)) ops.length) (gplan P ops o (ansAt ans j) (n0 + 8 * j)) = some (tab j) ∧ (∀ p ∈ (tab j).obs, p ∈ obs) ∧ ∀ x, o.dst = some x → x < n
  | [], i, l, l', obs, outs, h, hd, ht, hg => by
    simp only [evs, Option.some.injEq, Prod.mk.injEq] at h
    obtain ⟨rfl, rfl, rfl⟩ := h
    have hi : ops.length ≤ i := by simpa using hd
    refine ⟨rfl, ?_, fun j o hj ho => ?_⟩
    · rw [hg]
      funext k
      exact fold_congr fun j hj _ => by simp; omega
    · rw [List.getElem?_eq_none (by omega)] at ho; cases ho
  | o :: r, i, l, l', obs, outs, h, hd, ht, hg => by
    simp only [evs] at h
    split at h
    case h_2 => cases h
    rename_i out hout hdst
    split at h
    case h_2 => cases h
    rename_i l1 obs1 outs1 he
    simp only [Option.some.injEq, Prod.mk.injEq] at h
    obtain ⟨rfl, rfl, rfl⟩ := h
    have hlt : i < ops.length := by
      rcases Nat.lt_or_ge i ops.length with h1 | h1
      · exact h1
      · rw [List.drop_eq_nil_of_le h1] at hd; cases hd
    have hoi : ops[i]? = some o := by
      have := List.getElem?_drop (xs := ops) (i := i) (j := 0)
      rw [hd] at this
      simpa using this.symm
    have hdr : ops.drop (i + 1) = r := by
      have := List.drop_drop (i := 1) (j := i) (l := ops)
      rw [hd] at this
      simpa [Nat.add_comm] using this.symm
    have htab : tab i = out := by
      have := ht 0 (by simp)
      simpa using this.symm
    have hW : Wt ops.toArray tab i = wr o.dst out := by simp [Wt, hoi, htab]
    have hnext : get (wr o.dst out ++ l) = fold g0 (Wt ops.toArray tab) (fun j => decide (j < i + 1)) ops.length := by
      rw [get_append, hg]
      have e : (fun j => decide (j < i + 1)) = addP (fun j => decide (j < i)) i := by
        funext j
        unfold addP
        by_cases e : j = i
        · subst e; simp
        · simp [e]; omega
      rw [e, fold_add (by simp) hlt fun j x h1 h2 h3 => by simp at h3; omega, hW]
    obtain ⟨h1, h2, h3⟩ := evs_spec he hdr (fun j hj => by
      have := ht (j + 1) (by simp; omega)
      rw [show i + (j + 1) = i + 1 + j by omega] at this
      simpa using this) hnext
    refine ⟨by simp [h1], h2, fun j o' hj ho' => ?_⟩
    by_cases e : j = i
    · subst e
      rw [hoi] at ho'
      cases ho'
      rw [← hg, htab]
      refine ⟨hout, fun p hp => by simp [hp], fun x hx => ?_⟩
      unfold dstOk at hdst
      rw [hx] at hdst
      simpa [Nat.blt_eq] using hdst
    · obtain ⟨h4, h5, h6⟩ := h3 j o' (by omega) ho'
      exact ⟨h4, fun p hp => by simp [h5 p hp], h6⟩
/-- The region's outcome: what is still spoken of behind it; the obligations. -/
def evr (P : Program) (n : Nat) (ops : List Oper) (n0 : Nat) (ans : List (Nat × Ans)) (draw : Bool) (live : List Nat) (l : L) : Option (L × List Prop) :=
  match evs P n ops n0 ans ops 0 l with
  | some (l', obs, outs) => match draw with
    | false => some (live.map fun k => (k, get l' k), obs)
    | true => match befB ops (befs ops), apartB (Wt ops.toArray fun i => outs.getD i out0) (fun i => (outs.getD i out0).reads) (befs ops) ops.length with
      | true, true => some (live.map fun k => (k, get l' k), obs)
      | _, _ => none
  | none => none
theorem Inv.less {E : Env} {nx : Nat → Prop} {c : Cx} {g g' : St} {a : Act} (h : Inv E nx c g a) (hs : ∀ k v, g' k = some v → g k = some v) : Inv E nx c g' a := by
  have hl : ∀ i, Live g' i → Live g i := fun i ⟨T, cs, hx⟩ => ⟨T, cs, hs _ _ hx⟩
  exact { h with blk := fun i T cs hx => h.blk i T cs (hs _ _ hx), inj := fun i j b T T' l1 l2 => h.inj i j b T T' (hl i l1) (hl j l2), apart := fun i b T l1 => h.apart i b T (hl i l1),
                 slot := fun s p hp => h.slot s p (hs _ _ hp), isv := fun s x hx => h.isv s x (hs _ _ hx) }
theorem get_live {live : List Nat} {g : St} : ∀ k v, get (live.map fun k => (k, g k)) k = some v → g k = some v := by
  intro k v h
  induction live with
  | nil => simp [get, lk] at h
  | cons a live ih =>
    simp only [get, List.map_cons, lk] at h ih
    by_cases e : Nat.beq k a = true
    · rw [if_pos e] at h
      rw [Nat.eq_of_beq_eq_true e]
      simpa using h
    · rw [if_neg e] at h
      exact ih h
theorem repl_false (m j : Nat) : (Array.replicate m false).getD j false = false := by
  rw [Array.getD_eq_getD_getElem?, Array.getElem?_replicate]
  by_cases h : j < m <;> simp [h]
theorem region_ok {E : Env} {n0 : Nat} {l l' : L} {id : Nat} {ops : Array Oper} {draw : Bool} {ans : List (Nat × Ans)} {live : List Nat} {obs : List Prop} (hm : draw = true → E.P.follows .mixedOrders = true) (h : evr E.P E.n ops.toList n0 ans draw live l = some (l', obs)) (hob : ∀ p ∈ obs, p)
    {Q : Exit → Act → World → Prop} (hQ : ∀ c a, Inv E (· < n0 + 8 * ops.size) c (get l') a → Q .normal a c.w) {c : Cx} {a : Act} (hI : Inv E (· < n0) c (get l) a) : (Code.region id ops draw).wp E.P Q a c.w := by
  unfold evr at h
  split at h
  case h_2 => cases h
  rename_i l1 obs1 outs he
  obtain ⟨h1, h2, h3⟩ := evs_spec (g0 := get l) (tab := fun i => outs.getD i out0) he (by simp) (fun j _ => by simp) (by
    funext k
    have : ∀ m, fold (get l) (Wt ops.toList.toArray fun i => outs.getD i out0) (fun j => decide (j < 0)) m = get l := fun m => by
      induction m with
      | zero => rfl
      | succ m ih => simp only [fold, Nat.not_lt_zero, decide_false, Bool.false_eq_true, if_false]; exact ih
    rw [this])
  have hops : ops.toList.toArray = ops := by simp
  have hlen : ops.toList.length = ops.size := by simp
  have hstep : obs = obs1 → ∀ i o, ops.toList[i]? = some o → ∀ g, (∀ k ∈ (outs.getD i out0).reads, g k = fold (get l) (Wt ops.toList.toArray fun i => outs.getD i out0) (fun j => decide (j < i)) ops.toList.length k) → StepOk E ops.toList.toArray i o (outs.getD i out0) (n0 + 8 * i) g := by
    intro hobs i o ho g hg
    obtain ⟨h4, h5, h6⟩ := h3 i o (Nat.zero_le _) ho
    exact gplan_ok ho h6 (run_congr h4 hg) fun p hp => hob p (by rw [hobs]; exact h5 p hp)
  have hfin : ∀ {c : Cx} {a : Act}, l' = live.map (fun k => (k, get l1 k)) → Inv E (fun id => id < n0 + 8 * ops.toList.length) c (fold (get l) (Wt ops.toList.toArray fun i => outs.getD i out0) (fun _ => true) ops.toList.length) a → Q .normal a c.w := by
    intro c a hl' h
    rw [← h2, hlen] at h
    refine hQ c a (h.less fun k v hk => ?_)
    rw [hl'] at hk
    exact get_live k v hk
  split at h
  · simp only [Option.some.injEq, Prod.mk.injEq] at h
    obtain ⟨rfl, rfl⟩ := h
    have hs := seq_ops (E := E) (ops := ops.toList.toArray) (g0 := get l) (tab := fun i => outs.getD i out0) (n0 := n0) (fun i o ho => hstep rfl i o (by simpa using ho) _ (fun k _ => by simp)) (Q := Q) (fun c a h => hfin rfl (by simpa using h))
      ops.toList.toArray.size 0 (by simp) c a (by
        have h0 : fold (get l) (Wt ops.toList.toArray fun i => outs.getD i out0) (fun j => decide (j < 0)) ops.toList.toArray.size = get l := by
          generalize ops.toList.toArray.size = m
          induction m with
          | zero => rfl
          | succ m ih => simp only [fold, Nat.not_lt_zero, decide_false, Bool.false_eq_true, if_false]; exact ih
        rw [h0]
        exact hI.more fun i hi => .inl hi)
    rw [hops] at hs
    exact wp_region (by simpa using hs)
  · split at h
    case h_2 => cases h
    rename_i hbf hap
    simp only [Option.some.injEq, Prod.mk.injEq] at h
    obtain ⟨rfl, rfl⟩ := h
    have hs := any_ops (E := E) (l := ops.toList) (g0 := get l) (tab := fun i => outs.getD i out0) (n0 := n0) hbf hap (hstep rfl) (Q := Q) (fun c a h => hfin rfl h)
      ops.toList.length (Array.replicate ops.toList.length false) ⟨{ c.w with drawn := c.w.drawn + 1 }, c.S, c.own⟩ a (by simp) (by
        rw [left_congr (g := fun _ => false) fun i _ => repl_false _ _]
        exact left_false _) (fun j o _ hj => by
        have hj' : (Array.replicate ops.toList.length false).getD j false = true := hj
        rw [repl_false] at hj'
        cases hj') (by
        have h0 : fold (get l) (Wt ops.toList.toArray fun i => outs.getD i out0) (fun j => (Array.replicate ops.toList.length false).getD j false) ops.toList.length = get l := by
          have e : (fun j => (Array.replicate ops.toList.length false).getD j false) = fun _ => false := funext fun j => repl_false _ j
          rw [e]
          have : ∀ m, fold (get l) (Wt ops.toList.toArray fun i => outs.getD i out0) (fun _ => false) m = get l := fun m => by
            induction m with
            | zero => rfl
            | succ m ih => simp only [fold, Bool.false_eq_true, if_false]; exact ih
          exact this _
        rw [h0]
        exact (hI.drawn _).more fun i hi => .inl hi)
    rw [hops] at hs
    refine wp_region_any (hm rfl) ?_
    rw [hlen] at hs
    exact hs
end Go.Proofs.Ytfoiadlaekknpaa.Pm
namespace Go.Proofs.Ytfoiadlaekknpaa.Pm
open Go

inductive Item where
  | code (c : Code)
  | blk (id : Nat)
abbrev Post := Exit → Cx → Act → Prop
/-- What is asked where what runs ends so: the rest still to run, then Q. -/
def WS (E : Env) (Q : Post) : List Item → Post
  | [] => Q
  | .code c :: rs => fun e cx a => match e with
    | .normal => c.wp E.P (fun e a' w' => ∃ cx', cx'.w = w' ∧ WS E Q rs e cx' a') a cx.w
    | e => WS E Q rs e cx a
  | .blk id :: rs => fun e cx a => match e with
    | .exit j => if j = id then WS E Q rs .normal cx a else WS E Q rs (.exit j) cx a
    | e => WS E Q rs e cx a
/-- From any frame and world of which the state tells. -/
def T (P : Program) (n : Nat) (c0 : Cx) (Bor : Nat → Prop) (Q : Post) (n0 : Nat) (l : L) (rs : List Item) : Prop :=
  ∀ cx a, Inv ⟨P, n, c0, Bor⟩ (· < n0) cx (get l) a → WS ⟨P, n, c0, Bor⟩ Q rs .normal cx a

section
variable {P : Program} {n : Nat} {c0 : Cx} {Bor : Nat → Prop} {Q : Post} {n0 : Nat} {l : L} {rs : List Item}
theorem T_end (h : ∀ cx a, Inv ⟨P, n, c0, Bor⟩ (· < n0) cx (get l) a → Q .normal cx a) : T P n c0 Bor Q n0 l [] := h
theorem T_blk {id : Nat} (h : T P n c0 Bor Q n0 l rs) : T P n c0 Bor Q n0 l (.blk id :: rs) := fun cx a hI => h cx a hI
theorem T_seq {x y : Code} (h : T P n c0 Bor Q n0 l (.code x :: .code y :: rs)) : T P n c0 Bor Q n0 l (.code (.seq x y) :: rs) := fun cx a hI => by
  refine wp_seq (wp_mono (h cx a hI) fun e a' w' h1 => ?_)
  obtain ⟨cx', rfl, h2⟩ := h1
  cases e <;> first | exact h2 | exact ⟨cx', rfl, h2⟩
theorem T_skip (h : T P n c0 Bor Q n0 l rs) : T P n c0 Bor Q n0 l (.code .skip :: rs) := fun cx a hI => wp_skip ⟨cx, rfl, h cx a hI⟩
theorem T_label {k : Nat} (h : T P n c0 Bor Q n0 l rs) : T P n c0 Bor Q n0 l (.code (.label k) :: rs) := fun cx a hI => wp_label ⟨cx, rfl, h cx a hI⟩
theorem T_block {id : Nat} {c : Code} (h : T P n c0 Bor Q n0 l (.code c :: .blk id :: rs)) : T P n c0 Bor Q n0 l (.code (.block id c) :: rs) := fun cx a hI => by
  refine wp_block (wp_mono (h cx a hI) fun e a' w' h1 => ?_)
  obtain ⟨cx', rfl, h2⟩ := h1
  cases e with
  | exit j =>
    simp only [WS, Exit.inBlock] at h2 ⊢
    split at h2
    · rename_i e; rw [if_pos e]; exact ⟨cx', rfl, h2⟩
    · rename_i e; rw [if_neg e]; exact ⟨cx', rfl, h2⟩
  | normal => exact ⟨cx', rfl, h2⟩
  | goto l => exact ⟨cx', rfl, h2⟩
  | ret => exact ⟨cx', rfl, h2⟩
  | panic c => exact ⟨cx', rfl, h2⟩
  | outgrown => exact ⟨cx', rfl, h2⟩
/-- Out of a block. -/
def out (id : Nat) : List Item → Option (List Item)
  | [] => none
  | .code _ :: rs => out id rs
  | .blk j :: rs => match Nat.beq id j with | true => some rs | false => out id rs
theorem ws_out {E : Env} {id : Nat} {cx : Cx} {a : Act} : ∀ {rs rs' : List Item}, out id rs = some rs' → WS E Q rs' .normal cx a → WS E Q rs (.exit id) cx a
  | .code _ :: rs, rs', h, k => by
    simp only [out] at h
    exact ws_out (rs := rs) h k
  | .blk j :: rs, rs', h, k => by
    simp only [out] at h
    show if id = j then _ else _
    split at h
    · rename_i e
      cases h
      rw [if_pos (Nat.eq_of_beq_eq_true e)]
      exact k
    · rename_i e
      rw [if_neg fun h => by rw [h, Nat.beq_refl] at e; cases e]
      exact ws_out (rs := rs) h k
theorem T_exit {id : Nat} {rs' : List Item} (ho : out id rs = some rs') (h : T P n c0 Bor Q n0 l rs') : T P n c0 Bor Q n0 l (.code (.exit id) :: rs) := fun cx a hI =>
  wp_exit ⟨cx, rfl, ws_out ho (h cx a hI)⟩
theorem ws_out_none {E : Env} {id : Nat} {cx : Cx} {a : Act} : ∀ {rs : List Item}, out id rs = none → Q (.exit id) cx a → WS E Q rs (.exit id) cx a
  | [], _, k => k
  | .code _ :: rs, h, k => by
    simp only [out] at h
    exact ws_out_none (rs := rs) h k
  | .blk j :: rs, h, k => by
    simp only [out] at h
    show if id = j then _ else _
    split at h
    · cases h
    · rename_i e
      rw [if_neg fun h => by rw [h, Nat.beq_refl] at e; cases e]
      exact ws_out_none (rs := rs) h k
theorem T_leave {id : Nat} (ho : out id rs = none) (h : ∀ cx a, Inv ⟨P, n, c0, Bor⟩ (· < n0) cx (get l) a → Q (.exit id) cx a) : T P n c0 Bor Q n0 l (.code (.exit id) :: rs) := fun cx a hI =>
  wp_exit ⟨cx, rfl, ws_out_none ho (h cx a hI)⟩
theorem ws_ret {E : Env} {cx : Cx} {a : Act} : ∀ {rs : List Item}, Q .ret cx a → WS E Q rs .ret cx a
  | [], k => k
  | .code _ :: rs, k => ws_ret (rs := rs) k
  | .blk _ :: rs, k => ws_ret (rs := rs) k
theorem T_ret (h : ∀ cx a, Inv ⟨P, n, c0, Bor⟩ (· < n0) cx (get l) a → Q .ret cx a) : T P n c0 Bor Q n0 l (.code .ret :: rs) := fun cx a hI => wp_ret ⟨cx, rfl, ws_ret (h cx a hI)⟩
theorem T_cond {t : Nat} {x y : Code} {b : Bool} (hb : get l (Pm.ks t) = some (.pv (.av (.bool b)))) (h1 : b = true → T P n c0 Bor Q n0 l (.code x :: rs)) (h2 : b = false → T P n c0 Bor Q n0 l (.code y :: rs)) :
    T P n c0 Bor Q n0 l (.code (.cond (.tmp t) x y) :: rs) := fun cx a hI => by
  have hv := rep_av (hI.slot t _ hb)
  cases b with
  | true => exact wp_cond_true hv (h1 rfl cx a hI)
  | false => exact wp_cond_false hv (h2 rfl cx a hI)
theorem T_region {id : Nat} {ops : Array Oper} {draw : Bool} (ans : List (Nat × Ans)) (live : List Nat) {l' : L} {obs : List Prop} (hm : draw = true → P.follows .mixedOrders = true) (h : evr P n ops.toList n0 ans draw live l = some (l', obs)) (hob : ∀ p ∈ obs, p)
    (hT : T P n c0 Bor Q (n0 + 8 * ops.size) l' rs) : T P n c0 Bor Q n0 l (.code (.region id ops draw) :: rs) := fun _ _ hI =>
  region_ok (E := ⟨P, n, c0, Bor⟩) hm h hob (fun c a h => ⟨c, rfl, hT c a h⟩) hI

/-! ### states said anew -/
/-- One state tells no more than another one. -/
def Wk (P : Program) (n : Nat) (c0 : Cx) (Bor : Nat → Prop) (n0 : Nat) (l : L) (n1 : Nat) (l' : L) : Prop := ∀ cx a, Inv ⟨P, n, c0, Bor⟩ (· < n0) cx (get l) a → ∃ cx', cx'.w = cx.w ∧ Inv ⟨P, n, c0, Bor⟩ (· < n1) cx' (get l') a
theorem ws_world {E : Env} {cx cx' : Cx} {a : Act} {c : Code} (hw : cx'.w = cx.w) (h : WS E Q (.code c :: rs) .normal cx' a) : WS E Q (.code c :: rs) .normal cx a := by
  show c.wp E.P _ a cx.w
  rw [← hw]
  exact h
theorem T_wk {c : Code} {n1 : Nat} {l' : L} (hw : Wk P n c0 Bor n0 l n1 l') (h : T P n c0 Bor Q n1 l' (.code c :: rs)) : T P n c0 Bor Q n0 l (.code c :: rs) := fun cx a hI => by
  obtain ⟨cx', h1, h2⟩ := hw cx a hI
  exact ws_world h1 (h cx' a h2)
theorem Wk.refl : Wk P n c0 Bor n0 l n0 l := fun cx _ h => ⟨cx, rfl, h⟩
theorem Wk.trans {n1 n2 : Nat} {l1 l2 : L} (h : Wk P n c0 Bor n0 l n1 l1) (k : Wk P n c0 Bor n1 l1 n2 l2) : Wk P n c0 Bor n0 l n2 l2 := fun cx a hI => by
  obtain ⟨c1, e1, h1⟩ := h cx a hI
  obtain ⟨c2, e2, h2⟩ := k c1 a h1
  exact ⟨c2, e2.trans e1, h2⟩
/-- Fewer keys. -/
theorem Wk.less {l' : L} (n1 : Nat) (hn : Nat.ble n0 n1 = true) (h : l'.map (fun x => get l x.1) = l'.map (·.2)) : Wk P n c0 Bor n0 l n1 l' := fun cx a hI => by
  refine ⟨cx, rfl, (hI.more fun i hi => Nat.lt_of_lt_of_le hi (Nat.le_of_ble_eq_true hn)).less fun k v hk => ?_⟩
  have : ∀ (m : L), m.map (fun x => get l x.1) = m.map (·.2) → ∀ k v, get m k = some v → get l k = some v := by
    intro m
    induction m with
    | nil => intro _ k v hk; simp [get, lk] at hk
    | cons x m ih =>
      intro hm k v hk
      simp only [List.map_cons, List.cons.injEq] at hm
      simp only [get, lk] at hk ih
      by_cases e : Nat.beq k x.1 = true
      · rw [if_pos e] at hk
        rw [Nat.eq_of_beq_eq_true e, hm.1]
        simpa using hk
      · rw [if_neg e] at hk
        exact ih hm.2 k v hk
  exact this l' h k v hk
/-- Other numbers for own blocks: number i is what number σ i was. -/
def reSt (σ : Nat → Nat) (n1 : Nat) (l' : L) (g : St) : List Prop := l'.map fun x => match x.2 with
  | some (.pv p) => g x.1 = some (.pv (ren σ p))
  | some (.blk T cs) => x.1 % 2 = 1 ∧ x.1 / 2 < n1 ∧ g (kb (σ (x.1 / 2))) = some (.blk T (renL σ cs))
  | none => True
theorem reSt_spec {σ : Nat → Nat} {n1 : Nat} {g : St} : ∀ {l' : L}, (∀ p ∈ reSt σ n1 l' g, p) → ∀ k v, get l' k = some v → match v with
    | .pv p => g k = some (.pv (ren σ p))
    | .blk T cs => k % 2 = 1 ∧ k / 2 < n1 ∧ g (kb (σ (k / 2))) = some (.blk T (renL σ cs))
  | [], _, k, v, h => by simp [get, lk] at h
  | x :: l', hp, k, v, h => by
    simp only [reSt, List.map_cons, List.mem_cons, forall_eq_or_imp] at hp
    simp only [get, lk] at h
    by_cases e : Nat.beq k x.1 = true
    · rw [if_pos e] at h
      have e' := Nat.eq_of_beq_eq_true e
      subst e'
      have h2 : x.2 = some v := by simpa using h
      have h1 := hp.1
      rw [h2] at h1
      cases v <;> exact h1
    · rw [if_neg e] at h
      exact reSt_spec (l' := l') hp.2 k v h
theorem renL_nil {σ : Nat → Nat} {cs : List PV} (h : renL σ cs = []) : cs = [] := by
  have := congrArg List.length h
  rw [renL_length] at this
  exact List.eq_nil_of_length_eq_zero this
def sgm (n0 : Nat) (σl : List Nat) (i : Nat) : Nat := match Nat.blt i σl.length with | true => σl.getD i 0 | false => n0 + i
/-- m: how many numbers were lent (they stay as they are). -/
theorem Wk.ren {l' : L} (m : Nat) (hc0 : ∀ i x, c0.own i = some x → i < m) (σl : List Nat) (hσ : σl.take m = List.range m) (hnd : nodupB σl = true) (h : ∀ p ∈ reSt (sgm n0 σl) σl.length l' (get l), p) : Wk P n c0 Bor n0 l σl.length l' := fun cx a hI => by
  have hsp := reSt_spec h
  have hs1 : ∀ i, i < σl.length → sgm n0 σl i = σl.getD i 0 := fun i hi => by
    unfold sgm
    rw [show Nat.blt i σl.length = true from by simpa [Nat.blt_eq] using hi]
  have hs2 : ∀ i, σl.length ≤ i → cx.own (sgm n0 σl i) = none := fun i hi => by
    unfold sgm
    rw [show Nat.blt i σl.length = false from by rw [Bool.eq_false_iff, Ne, Nat.blt_eq]; omega]
    cases ho : cx.own (n0 + i) with
    | none => rfl
    | some x => have : n0 + i < n0 := hI.ids _ x ho; omega
  have hlv : ∀ i, Live (get l') i → i < σl.length ∧ Live (get l) (sgm n0 σl i) := fun i ⟨T, cs, hx⟩ => by
    have h1 := hsp _ _ hx
    simp only at h1
    rw [show kb i / 2 = i by simp only [kb]; omega] at h1
    exact ⟨h1.2.1, T, _, h1.2.2⟩
  refine ⟨cx.via (sgm n0 σl), rfl, { ids := fun i x hx => ?_, blk := fun i T cs hx => ?_, inj := fun i j b T T' l1 l2 h3 h4 => ?_, apart := fun i b T l1 h2 => hI.apart _ b T (hlv i l1).2 h2, bnd := fun i b T h1 => hI.bnd _ b T h1, sok := hI.sok, os := hI.os, tape := hI.tape, output := hI.output, size := hI.size, same := hI.same, s0 := hI.s0, s1 := hI.s1, keep := ⟨hI.keep.S, fun i x hx => ?_, hI.keep.shape⟩, tmps := hI.tmps, dfr := hI.dfr, slot := fun s p hp => ?_, isv := fun s x hx => ?_ }⟩
  · show i < σl.length
    rcases Nat.lt_or_ge i σl.length with h1 | h1
    · exact h1
    · have : cx.own (sgm n0 σl i) = some x := hx
      rw [hs2 i h1] at this
      cases this
  · have h1 := hsp _ _ hx
    simp only at h1
    rw [show kb i / 2 = i by simp only [kb]; omega] at h1
    obtain ⟨ob, h5, h6, h7⟩ := hI.blk _ _ _ h1.2.2
    refine ⟨ob, h5, ones_renL.1 h6, ?_⟩
    rcases h7 with ⟨h7, h8⟩ | ⟨b, arr, h7, h8, h9, h10⟩
    · exact .inl ⟨h7, renL_nil h8⟩
    · rw [renL_length] at h9 h10
      exact .inr ⟨b, arr, h7, h8, h9, fun j hj => rep_via (h10 j hj) _ (renL_get _ _ j hj)⟩
  · obtain ⟨e1, l1'⟩ := hlv i l1
    obtain ⟨e2, l2'⟩ := hlv j l2
    have := hI.inj _ _ b T T' l1' l2' h3 h4
    rw [hs1 i e1, hs1 j e2] at this
    exact nodup_inj hnd i j e1 e2 this
  · have h1 := hc0 i x hx
    have h2 : i < σl.length := by
      have := congrArg List.length hσ
      simp at this
      omega
    have h3 : σl.getD i 0 = i := by
      have h4 := List.getElem?_take_of_lt (l := σl) h1
      rw [hσ] at h4
      rw [List.getD_eq_getElem?_getD, ← h4]
      simp [h1]
    show cx.own (sgm n0 σl i) = some x
    rw [hs1 i h2, h3]
    exact hI.keep.own i x hx
  · have h1 := hsp _ _ hp
    exact rep_via (hI.slot s _ h1) _ rfl
  · cases x with
    | pv p => exact ⟨p, rfl⟩
    | blk T cs =>
      have h1 := hsp _ _ hx
      simp only [Pm.ks] at h1
      omega
/-- A slot that holds nil: an own row that has not been made. -/
theorem Wk.nil {s : Nat} (T : TypeId) (hs : get l (Pm.ks s) = some (.pv (.av (.slice none 0 0)))) : Wk P n c0 Bor n0 l (n0 + 1) ([(ks s, some (.pv (.osl n0 0 0))), (kb n0, some (.blk T []))] ++ l) := fun cx a hI => by
  obtain ⟨hk, hh⟩ := heap_virtual hI.toHeap (id := n0) (fun h => absurd h (Nat.lt_irrefl _)) T
  refine ⟨⟨cx.w, cx.S, setOwn cx.own n0 (none, T)⟩, rfl, ?_⟩
  have hge : ∀ k, get ([(ks s, some (.pv (.osl n0 0 0))), (kb n0, some (.blk T []))] ++ l) k = if Nat.beq k (Pm.ks s) then some (.pv (.osl n0 0 0)) else over [(kb n0, some (.blk T []))] (get l) k := fun k => by
    rw [get_append]
    simp only [over, lk]
    by_cases h1 : Nat.beq k (Pm.ks s) = true
    · simp [h1]
    · simp only [h1]; rfl
  have hb : ∀ i, get ([(ks s, some (.pv (.osl n0 0 0))), (kb n0, some (.blk T []))] ++ l) (kb i) = over [(kb n0, some (.blk T []))] (get l) (kb i) := fun i => by
    rw [hge, beq_kbs]; rfl
  have hl : ∀ i, Live (get ([(ks s, some (.pv (.osl n0 0 0))), (kb n0, some (.blk T []))] ++ l)) i → Live (over [(kb n0, some (.blk T []))] (get l)) i := fun i ⟨T', cs, hx⟩ => ⟨T', cs, by rw [← hb]; exact hx⟩
  exact { ids := fun i x hx => by
            rcases hh.ids i x hx with h | h
            · exact Nat.lt_succ_of_lt h
            · subst h; exact Nat.lt_succ_self _
          blk := fun i T' cs hx => hh.blk i T' cs (by rw [← hb]; exact hx), inj := fun i j b T T' l1 l2 => hh.inj i j b T T' (hl i l1) (hl j l2), apart := fun i b T l1 => hh.apart i b T (hl i l1), bnd := hh.bnd, sok := hh.sok,
          os := hh.os, tape := hh.tape, output := hh.output, size := hh.size, same := hh.same, s0 := hh.s0, s1 := hh.s1, keep := hh.keep, tmps := hI.tmps, dfr := hI.dfr
          slot := fun s' p hp => by
            rw [hge, beq_ks] at hp
            by_cases e : s' = s
            · subst e
              rw [decide_eq_true rfl, if_pos rfl] at hp
              cases hp
              have := rep_av (hI.slot s' _ hs)
              rw [this]
              exact .osl setOwn_same (.inl ⟨_, rfl, rfl⟩)
            · rw [decide_eq_false e, if_neg (by simp), over_s] at hp
              exact (hI.slot s' p hp).mono hk
          isv := fun s' x hx => by
            rw [hge, beq_ks] at hx
            by_cases e : s' = s
            · subst e
              rw [decide_eq_true rfl, if_pos rfl] at hx
              cases hx
              exact ⟨_, rfl⟩
            · rw [decide_eq_false e, if_neg (by simp), over_s] at hx
              exact hI.isv s' x hx }
end
end Go.Proofs.Ytfoiadlaekknpaa.Pm
