/-
  THE WALK of the codec: the writer's frame.
-/
import Derived.Test.YtfoiadlaekknpaaBestW
namespace Go.Proofs.Ytfoiadlaekknpaa.Co
open Go.RowKit

theorem Wr.below {base bw : Nat} {w w' : World} {L : List Bool} {v : Value} (h : Wr base w bw L v) (hb : Below w.heap.size w w') : Wr base w' bw L v := ⟨blk_below h.blk hb, own_below h.own hb, h.lo⟩
theorem Grew.ints {base bw : Nat} {w w' : World} {v : Value} {c b0 : Nat} {xs : List Value} (h : w.ownsRow b0 3 1 v c xs) (hg : Grew base bw w w') (hw : ∀ z m, w.heap[bw]? ≠ some (.cells z 3 m)) : w'.ownsRow b0 3 1 v c xs := by
  refine ⟨h.1, ?_⟩
  rcases h.2 with hn | ⟨g, cap, cur, rfl, hb, hgg, rest⟩
  · exact .inl hn
  · exact .inr ⟨g, cap, cur, rfl, hb, hg.typ g cur _ _ hgg (by decide) (fun e => hw _ _ (e ▸ hgg)), rest⟩
theorem Wr.notInt {base bw : Nat} {w : World} {L : List Bool} {v : Value} (h : Wr base w bw L v) : ∀ z m, w.heap[bw]? ≠ some (.cells z 3 m) := fun z m he => by
  rw [h.blk] at he
  simp only [Option.some.injEq, Obj.cells.injEq] at he
  exact absurd he.2.1 (by decide)
/-- Numbers that lie below base. -/
structure Low (base : Nat) (w : World) (p : Option Addr) (l : List Int) : Prop where
  cells : Cells w p l
  low : ∀ a, p = some a → 0 < l.length → a.block < base
theorem Low.below {base : Nat} {w w' : World} {p : Option Addr} {l : List Int} (h : Low base w p l) (hb : Below base w w') : Low base w' p l := ⟨fun hn => by
  obtain ⟨b, o, hp, hc⟩ := h.cells hn
  exact ⟨b, o, hp, fun i hi => (hb.cell (p := ⟨b, o + i, none⟩) (show b < base from h.low _ hp hn)).trans (hc i hi)⟩, h.low⟩
theorem number_as (base bw : Nat) (n : Int) (k : Nat) (K : Int) (hK : (k : Int) = K) (L : List Bool) (v : Value) (w : World) (h : Wr base w bw L v) (hL : L.length + k ≤ 1000000000) (hn : 0 ≤ n ∧ n ≤ 9223372036854775807) (hk : k ≤ 63) :
    Calls Try.prog 13 #[.pointer (some ⟨bw, 0, none⟩), .int .i64 n, .int .i64 K] w (BitPost base bw w (L ++ bitsOf n k)) := hK ▸ number_any base bw n k L v w h hL hn hk
theorem rawBits_snoc {l : List Int} : ∀ {i : Nat}, i < l.length → rawBits (l.take (i + 1)) = rawBits (l.take i) ++ bitsOf (X l i + 32768) 16 := by
  induction l with
  | nil => intro i hi; simp at hi
  | cons x r ih =>
    intro i hi
    cases i with
    | zero => simp [rawBits, X]
    | succ i =>
      have := ih (i := i) (by simpa using hi)
      simp only [List.take_succ_cons, rawBits] at this ⊢
      rw [this, List.append_assoc]; rfl
theorem riceAll_snoc {k : Nat} {l : List Int} : ∀ {i : Nat}, i < l.length → riceAll k (l.take (i + 1)) = riceAll k (l.take i) ++ riceBits k (X l i) := by
  induction l with
  | nil => intro i hi; simp at hi
  | cons x r ih =>
    intro i hi
    cases i with
    | zero => simp [riceAll, X]
    | succ i =>
      have := ih (i := i) (by simpa using hi)
      simp only [List.take_succ_cons, riceAll] at this ⊢
      rw [this, List.append_assoc]; rfl
theorem riceAll_take_bd {k : Nat} (hk : k ≤ 15) {l : List Int} (h : ∀ x ∈ l, 0 ≤ x ∧ x ≤ 524288) (i : Nat) : ((riceAll k (l.take i)).length : Int) ≤ 524304 * l.length := by
  rw [riceAll_length fun x hx => h x (List.mem_of_mem_take hx)]
  have := (costs_bd hk (l := l.take i) fun x hx => h x (List.mem_of_mem_take hx)).2
  have hl : (l.take i).length ≤ l.length := by simp; omega
  omega

set_option maxHeartbeats 8000000 in
theorem frame_any (base bw : Nat) (p : Option Addr) (l : List Int) (cap : Nat) (L : List Bool) (v : Value) (w : World) (h : Wr base w bw L v) (hc : Low base w p l) (hl : l.length ≤ 256) (hs : Small l) (hL : L.length ≤ 500000000) (hbase : base ≤ w.heap.size) :
    Calls Try.prog 14 #[.pointer (some ⟨bw, 0, none⟩), .slice p l.length cap] w (BitPost base bw w (L ++ bestBits l)) := by
  obtain ⟨o, k, hok⟩ : ∃ o k, (o = (bestTo l 64).2.1 ∧ k = (bestTo l 64).2.2) := ⟨_, _, rfl, rfl⟩
  have hsp := bestTo_spec hs 64 (by omega)
  have HO := Lib.hid (show BestPost = fun (w : World) (l' : List Int) (e : Ending) (w' : World) => e = .returned (.tuple #[.int .i64 ((bestTo l' 64).2.1 : Int), .int .i64 ((bestTo l' 64).2.2 : Int)]) ∧ Below w.heap.size w w' from rfl)
  have ho3 : o ≤ 3 := by rw [hok.1]; omega
  have hk15 : k ≤ 15 := by rw [hok.2]; omega
  have HBB := Lib.hid (show bestBits l = bitsOf o 2 ++ bitsOf k 4 ++ rawBits (l.take o) ++ riceAll k (misses l o) by unfold bestBits frameBits; rw [← hok.1, ← hok.2])
  have hbest : ∀ w0, Cells w0 p l → Calls Try.prog 29 #[.slice p l.length cap] w0 fun e w' => e = .returned (.tuple #[.int .i64 (o : Int), .int .i64 (k : Int)]) ∧ Below w0.heap.size w0 w' := fun w0 hc0 => by
    have := best_any p l cap w0 hc0 hl hs
    unfold BestPost at this
    rw [← hok.1, ← hok.2] at this
    exact this
  have HBEST := Lib.hid hbest
  clear hok hsp HO hbest
  have ho3' : (o : Int) ≤ 3 := by omega
  have hk15' : (k : Int) ≤ 15 := by omega
  go_enter Try.func14, Try.ntmps14
  have hM24 : (L ++ bitsOf o 2).length + 4 ≤ 1000000000 := by rw [List.length_append, bitsOf_length]; omega
  by_cases hol : o ≤ l.length
  · have hol' : (o : Int) ≤ l.length := by omega
    go_wp2_with (first
      | (go_at_call 29; (with_reducible refine (HBEST.out _ hc.cells).mono ?_); rintro e w1 ⟨rfl, hb1⟩)
      | (go_at_call 13; (with_reducible refine (number_as base bw (o : Int) 2 2 rfl L v _ (h.below hb1) (by omega) (by omega) (by omega)).mono ?_); rintro e w2 ⟨rfl, u2, hM2, hG2⟩)
      | (go_at_call 13; (with_reducible refine (number_as base bw (k : Int) 4 4 rfl _ u2 _ hM2 hM24 (by omega) (by omega)).mono ?_); rintro e w3 ⟨rfl, u3, hM3, hG3⟩))
    have hG13 : Grew base bw w w3 := ((Grew.of_below hb1 hbase).trans hG2).trans hG3
    clear hM2 hb1 hG2 hG3
    go_loopw [24] (fun v24 wr => ∃ (i : Nat) (u : Value), v24 = .int .i64 i ∧ i ≤ o ∧ Wr base wr bw (L ++ bitsOf o 2 ++ bitsOf k 4 ++ rawBits (l.take i)) u ∧ Grew base bw w wr) (fun v24 _ => o - (intOf v24).toNat)
    case atStart => exact ⟨0, u3, rfl, by omega, by simpa [rawBits] using hM3, hG13⟩
    case round =>
      obtain ⟨i, u, rfl, hi, hM, hG⟩ := hrel
      have hlen : (L ++ bitsOf o 2 ++ bitsOf k 4 ++ rawBits (l.take i)).length ≤ 500010000 := by simp only [List.length_append, bitsOf_length, rawBits_length, List.length_take]; omega
      have hcr := hc.below hG.below
      by_cases hit : i < o
      · have hil : i < l.length := by omega
        obtain ⟨b, off, rfl, hcell⟩ := hcr.cells (by omega)
        have c1 := hcell i hil
        have x1 := X_bd hs i
        have e1 : (i : Int) < (o : Int) := by omega
        have e2 : (i : Int) < l.length := by omega
        have HN := Lib.hid (show L ++ bitsOf o 2 ++ bitsOf k 4 ++ rawBits (l.take i) ++ bitsOf (X l i + 32768) 16 = L ++ bitsOf o 2 ++ bitsOf k 4 ++ rawBits (l.take (i + 1)) by rw [rawBits_snoc hil, List.append_assoc])
        clear hcell
        go_wp2_with (go_at_call 13; (with_reducible refine (number_as base bw (X l i + 32768) 16 16 rfl _ u _ hM (by omega) (by omega) (by omega)).mono ?_); rintro e w4 ⟨rfl, u4, hM4, hG4⟩)
        go_roundw
        case rel => exact ⟨i + 1, u4, by go_num, by omega, HN.out ▸ hM4, hG.trans hG4⟩
        case measure => simp [intOf]; omega
      · have HT := Lib.hid (show l.take i = l.take o by
          have : i = o := by omega
          rw [this])
        have hbs : base ≤ wr.heap.size := Nat.le_trans hbase hG.size
        go_wp2_with (go_at_call 30; (with_reducible refine (misses_any _ l cap o _ hcr.cells (by omega) (by omega) hs).mono ?_); rintro e wm ⟨v9, rfl, hown, hbm⟩; obtain ⟨pm, capm, rfl, hcm⟩ := miss_cells hown)
        have hMm := hM.below hbm
        rw [HT.out] at hMm
        have hGm := hG.trans (Grew.of_below (bw := bw) hbm hbs)
        have hml : (misses l o).length ≤ 256 := by rw [misses_length]; omega
        have hlm : (L ++ bitsOf o 2 ++ bitsOf k 4 ++ rawBits (l.take o)).length ≤ 500010000 := by simp only [List.length_append, bitsOf_length, rawBits_length, List.length_take]; omega
        clear hM hcm hcr
        go_loopw [39] (fun v39 wq => ∃ (j : Nat) (u : Value), v39 = .int .i64 j ∧ j ≤ (misses l o).length ∧ Wr base wq bw (L ++ bitsOf o 2 ++ bitsOf k 4 ++ rawBits (l.take o) ++ riceAll k ((misses l o).take j)) u ∧ Grew base bw wm wq) (fun v39 _ => (misses l o).length - (intOf v39).toNat)
        case atStart => exact ⟨0, u, rfl, by omega, by simpa [riceAll] using hMm, Grew.refl _ _ _⟩
        case round =>
          obtain ⟨j, uj, rfl, hj, hMj, hGj⟩ := hrel
          by_cases hjt : j < (misses l o).length
          · have hown2 := Grew.ints hown hGj hMm.notInt
            obtain ⟨pm', capm', hpe, hcm2⟩ := miss_cells hown2
            simp only [Value.slice.injEq] at hpe
            obtain ⟨bq, oq, hpq, hcq⟩ := hcm2 (by omega)
            have c1 := hcq j hjt
            have hpp : pm = some ⟨bq, oq, none⟩ := hpe.1.trans hpq
            have y1 := misses_bd hs hjt
            have e4 : (j : Int) < ((misses l o).length : Int) := by omega
            have hrl := riceAll_take_bd hk15 (missFrom_bd hs o (l.length - o) o) j
            have hcb := cost_bd hk15 y1
            have hlr : ((L ++ bitsOf o 2 ++ bitsOf k 4 ++ rawBits (l.take o) ++ riceAll k ((misses l o).take j)).length : Int) + X (misses l o) j / 2 ^ k + 1 + k ≤ 1000000000 := by
              rw [List.length_append, Int.natCast_add]
              unfold cost at hcb
              rw [missFrom_length] at hrl
              have : (riceAll k ((misses l o).take j)).length = (riceAll k ((missFrom l o (l.length - o) o).take j)).length := rfl
              omega
            have HN := Lib.hid (show L ++ bitsOf o 2 ++ bitsOf k 4 ++ rawBits (l.take o) ++ riceAll k ((misses l o).take j) ++ riceBits k (X (misses l o) j) = L ++ bitsOf o 2 ++ bitsOf k 4 ++ rawBits (l.take o) ++ riceAll k ((misses l o).take (j + 1)) by rw [riceAll_snoc hjt, List.append_assoc])
            clear hcq hcm2 hown2 hpe hrl hcb
            subst hpp
            go_wp2_with (go_at_call 31; (with_reducible refine (rice_any base bw (X (misses l o) j) k _ uj _ hMj (by omega) hlr hk15).mono ?_); rintro e w5 ⟨rfl, u5, hM5, hG5⟩)
            go_roundw
            case rel => exact ⟨j + 1, u5, by go_num, by omega, HN.out ▸ hM5, hGj.trans hG5⟩
            case measure => simp [intOf]; omega
          · have e4 : ¬ (j : Int) < ((misses l o).length : Int) := by omega
            have HE := Lib.hid (show L ++ bitsOf o 2 ++ bitsOf k 4 ++ rawBits (l.take o) ++ riceAll k ((misses l o).take j) = L ++ bestBits l by
              rw [HBB.out, show (misses l o).take j = misses l o from List.take_of_length_le (by omega)]; simp only [List.append_assoc])
            go_wp2
            go_end0
            exact bitPost (HE.out ▸ hMj) (hGm.trans hGj)
  · have hol' : ¬ (o : Int) ≤ l.length := by omega
    go_wp2_with (first
      | (go_at_call 29; (with_reducible refine (HBEST.out _ hc.cells).mono ?_); rintro e w1 ⟨rfl, hb1⟩)
      | (go_at_call 13; (with_reducible refine (number_as base bw (o : Int) 2 2 rfl L v _ (h.below hb1) (by omega) (by omega) (by omega)).mono ?_); rintro e w2 ⟨rfl, u2, hM2, hG2⟩)
      | (go_at_call 13; (with_reducible refine (number_as base bw (k : Int) 4 4 rfl _ u2 _ hM2 hM24 (by omega) (by omega)).mono ?_); rintro e w3 ⟨rfl, u3, hM3, hG3⟩))
    have hG13 : Grew base bw w w3 := ((Grew.of_below hb1 hbase).trans hG2).trans hG3
    clear hM2 hb1 hG2 hG3
    go_loopw [24] (fun v24 wr => ∃ (i : Nat) (u : Value), v24 = .int .i64 i ∧ i ≤ l.length ∧ Wr base wr bw (L ++ bitsOf o 2 ++ bitsOf k 4 ++ rawBits (l.take i)) u ∧ Grew base bw w wr) (fun v24 _ => l.length - (intOf v24).toNat)
    case atStart => exact ⟨0, u3, rfl, by omega, by simpa [rawBits] using hM3, hG13⟩
    case round =>
      obtain ⟨i, u, rfl, hi, hM, hG⟩ := hrel
      have hlen : (L ++ bitsOf o 2 ++ bitsOf k 4 ++ rawBits (l.take i)).length ≤ 500010000 := by simp only [List.length_append, bitsOf_length, rawBits_length, List.length_take]; omega
      have hcr := hc.below hG.below
      by_cases hit : i < l.length
      · have hil : i < l.length := by omega
        obtain ⟨b, off, rfl, hcell⟩ := hcr.cells (by omega)
        have c1 := hcell i hil
        have x1 := X_bd hs i
        have e1 : (i : Int) < (l.length : Int) := by omega
        have e2 : (i : Int) < l.length := by omega
        have HN := Lib.hid (show L ++ bitsOf o 2 ++ bitsOf k 4 ++ rawBits (l.take i) ++ bitsOf (X l i + 32768) 16 = L ++ bitsOf o 2 ++ bitsOf k 4 ++ rawBits (l.take (i + 1)) by rw [rawBits_snoc hil, List.append_assoc])
        clear hcell
        go_wp2_with (go_at_call 13; (with_reducible refine (number_as base bw (X l i + 32768) 16 16 rfl _ u _ hM (by omega) (by omega) (by omega)).mono ?_); rintro e w4 ⟨rfl, u4, hM4, hG4⟩)
        go_roundw
        case rel => exact ⟨i + 1, u4, by go_num, by omega, HN.out ▸ hM4, hG.trans hG4⟩
        case measure => simp [intOf]; omega
      · have HT := Lib.hid (show l.take i = l.take o by
          have : i = l.length := by omega
          rw [List.take_of_length_le (by omega), List.take_of_length_le (by omega)])
        have hbs : base ≤ wr.heap.size := Nat.le_trans hbase hG.size
        go_wp2_with (go_at_call 30; (with_reducible refine (misses_any _ l cap o _ hcr.cells (by omega) (by omega) hs).mono ?_); rintro e wm ⟨v9, rfl, hown, hbm⟩; obtain ⟨pm, capm, rfl, hcm⟩ := miss_cells hown)
        have hMm := hM.below hbm
        rw [HT.out] at hMm
        have hGm := hG.trans (Grew.of_below (bw := bw) hbm hbs)
        have hml : (misses l o).length ≤ 256 := by rw [misses_length]; omega
        have hlm : (L ++ bitsOf o 2 ++ bitsOf k 4 ++ rawBits (l.take o)).length ≤ 500010000 := by simp only [List.length_append, bitsOf_length, rawBits_length, List.length_take]; omega
        clear hM hcm hcr
        go_loopw [39] (fun v39 wq => ∃ (j : Nat) (u : Value), v39 = .int .i64 j ∧ j ≤ (misses l o).length ∧ Wr base wq bw (L ++ bitsOf o 2 ++ bitsOf k 4 ++ rawBits (l.take o) ++ riceAll k ((misses l o).take j)) u ∧ Grew base bw wm wq) (fun v39 _ => (misses l o).length - (intOf v39).toNat)
        case atStart => exact ⟨0, u, rfl, by omega, by simpa [riceAll] using hMm, Grew.refl _ _ _⟩
        case round =>
          obtain ⟨j, uj, rfl, hj, hMj, hGj⟩ := hrel
          by_cases hjt : j < (misses l o).length
          · have hown2 := Grew.ints hown hGj hMm.notInt
            obtain ⟨pm', capm', hpe, hcm2⟩ := miss_cells hown2
            simp only [Value.slice.injEq] at hpe
            obtain ⟨bq, oq, hpq, hcq⟩ := hcm2 (by omega)
            have c1 := hcq j hjt
            have hpp : pm = some ⟨bq, oq, none⟩ := hpe.1.trans hpq
            have y1 := misses_bd hs hjt
            have e4 : (j : Int) < ((misses l o).length : Int) := by omega
            have hrl := riceAll_take_bd hk15 (missFrom_bd hs o (l.length - o) o) j
            have hcb := cost_bd hk15 y1
            have hlr : ((L ++ bitsOf o 2 ++ bitsOf k 4 ++ rawBits (l.take o) ++ riceAll k ((misses l o).take j)).length : Int) + X (misses l o) j / 2 ^ k + 1 + k ≤ 1000000000 := by
              rw [List.length_append, Int.natCast_add]
              unfold cost at hcb
              rw [missFrom_length] at hrl
              have : (riceAll k ((misses l o).take j)).length = (riceAll k ((missFrom l o (l.length - o) o).take j)).length := rfl
              omega
            have HN := Lib.hid (show L ++ bitsOf o 2 ++ bitsOf k 4 ++ rawBits (l.take o) ++ riceAll k ((misses l o).take j) ++ riceBits k (X (misses l o) j) = L ++ bitsOf o 2 ++ bitsOf k 4 ++ rawBits (l.take o) ++ riceAll k ((misses l o).take (j + 1)) by rw [riceAll_snoc hjt, List.append_assoc])
            clear hcq hcm2 hown2 hpe hrl hcb
            subst hpp
            go_wp2_with (go_at_call 31; (with_reducible refine (rice_any base bw (X (misses l o) j) k _ uj _ hMj (by omega) hlr hk15).mono ?_); rintro e w5 ⟨rfl, u5, hM5, hG5⟩)
            go_roundw
            case rel => exact ⟨j + 1, u5, by go_num, by omega, HN.out ▸ hM5, hGj.trans hG5⟩
            case measure => simp [intOf]; omega
          · have e4 : ¬ (j : Int) < ((misses l o).length : Int) := by omega
            have HE := Lib.hid (show L ++ bitsOf o 2 ++ bitsOf k 4 ++ rawBits (l.take o) ++ riceAll k ((misses l o).take j) = L ++ bestBits l by
              rw [HBB.out, show (misses l o).take j = misses l o from List.take_of_length_le (by omega)]; simp only [List.append_assoc])
            go_wp2
            go_end0
            exact bitPost (HE.out ▸ hMj) (hGm.trans hGj)
end Go.Proofs.Ytfoiadlaekknpaa.Co
