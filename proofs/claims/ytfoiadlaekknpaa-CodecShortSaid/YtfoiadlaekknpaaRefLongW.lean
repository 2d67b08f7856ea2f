/-
  THE WALKS of the reference's Long: Fold, power, Differences, Misses, Long.
-/
import Derived.Test.YtfoiadlaekknpaaEncodeW
namespace Go.Proofs.Ytfoiadlaekknpaa.Co
open Go.RowKit

/-! ### plain: differences of differences -/
def dl : List Int → List Int
  | x :: y :: r => (y - x) :: dl (y :: r)
  | _ => []
theorem dl_length : ∀ l : List Int, (dl l).length = l.length - 1
  | [] => rfl
  | [_] => rfl
  | x :: y :: r => by rw [dl, List.length_cons, dl_length (y :: r)]; simp
theorem X_dl : ∀ {l : List Int} {i : Nat}, i + 1 < l.length → X (dl l) i = X l (i + 1) - X l i
  | x :: y :: r, 0, _ => rfl
  | x :: y :: r, i + 1, h => by
    have := X_dl (l := y :: r) (i := i) (by simpa using h)
    exact this
def dn (l : List Int) : Nat → List Int
  | 0 => l
  | k + 1 => dl (dn l k)
theorem dn_length (l : List Int) : ∀ k, (dn l k).length = l.length - k
  | 0 => rfl
  | k + 1 => by rw [dn, dl_length, dn_length l k]; omega
theorem dn_miss {l : List Int} {o i : Nat} (ho : o ≤ 3) (hi : o + i < l.length) : X (dn l o) i = X l (o + i) - guess l (o + i) o := by
  have h1 : ∀ {j}, j + 1 < l.length → X (dn l 1) j = X l (j + 1) - X l j := fun h => X_dl h
  have h2 : ∀ {j}, j + 2 < l.length → X (dn l 2) j = X l (j + 2) - 2 * X l (j + 1) + X l j := fun {j} h => by
    have := X_dl (l := dn l 1) (i := j) (by rw [dn_length]; omega)
    rw [h1 (by omega), h1 (by omega)] at this
    show X (dl (dn l 1)) j = _
    rw [this, show j + 1 + 1 = j + 2 by omega]; omega
  have h3 : ∀ {j}, j + 3 < l.length → X (dn l 3) j = X l (j + 3) - 3 * X l (j + 2) + 3 * X l (j + 1) - X l j := fun {j} h => by
    have := X_dl (l := dn l 2) (i := j) (by rw [dn_length]; omega)
    rw [h2 (by omega), h2 (by omega)] at this
    show X (dl (dn l 2)) j = _
    rw [this, show j + 1 + 2 = j + 3 by omega, show j + 1 + 1 = j + 2 by omega]; omega
  have h4 : o = 0 ∨ o = 1 ∨ o = 2 ∨ o = 3 := by omega
  rcases h4 with rfl | rfl | rfl | rfl
  · simp [dn, guess]
  · rw [h1 (by omega)]; simp only [guess, if_true]; rw [show 1 + i - 1 = i by omega, show 1 + i = i + 1 by omega]
  · rw [h2 (by omega)]; simp only [guess, show (2 : Nat) ≠ 1 by omega, if_false, if_true]; rw [show 2 + i - 1 = i + 1 by omega, show 2 + i - 2 = i by omega, show 2 + i = i + 2 by omega]; omega
  · rw [h3 (by omega)]; simp only [guess, show (3 : Nat) ≠ 1 by omega, show (3 : Nat) ≠ 2 by omega, if_false, if_true]; rw [show 3 + i - 1 = i + 2 by omega, show 3 + i - 2 = i + 1 by omega, show 3 + i - 3 = i by omega, show 3 + i = i + 3 by omega]; omega
theorem dn_bd {l : List Int} (hs : Small l) {o i : Nat} (ho : o ≤ 3) : -300000 ≤ X (dn l o) i ∧ X (dn l o) i ≤ 300000 := by
  by_cases hi : o + i < l.length
  · rw [dn_miss ho hi]
    have := X_bd hs (o + i); have := guess_bd hs (o + i) o
    omega
  · unfold X; rw [List.getD_eq_getElem?_getD, List.getElem?_eq_none (by rw [dn_length]; omega)]; simp

set_option maxHeartbeats 1000000 in
theorem ref_fold_any (n : Int) (w : World) (hn : -1000000000 ≤ n ∧ n ≤ 1000000000) :
    Calls Try.prog 33 #[.int .i64 n] w fun e w' => e = .returned (.int .i64 (fold n)) ∧ w = w' := by
  by_cases h : n < 0
  all_goals
    have HF := Lib.hid (show fold n = if n < 0 then -2 * n - 1 else 2 * n from rfl)
    go_enter Try.func33, Try.ntmps33
    go_wp2
    go_ret
    refine ⟨ret_int ?_, rfl⟩
    rw [HF.out]
    first | (rw [if_pos h]; omega) | rw [if_neg (by omega)]

set_option maxHeartbeats 1000000 in
theorem power_any (k : Nat) (w : World) (hk : k ≤ 15) :
    Calls Try.prog 16 #[.int .i64 k] w fun e w' => e = .returned (.int .i64 (2 ^ k)) ∧ w = w' := by
  have hk' : (k : Int) ≤ 15 := by omega
  go_enter Try.func16, Try.ntmps16
  go_wp2
  go_loop [3, 4] (fun v3 v4 => ∃ (j : Nat) (x : Int), v3 = .int .i64 x ∧ v4 = .int .i64 j ∧ j ≤ k ∧ Hid (x = 2 ^ j) ∧ 1 ≤ x ∧ x ≤ 1000000) (fun _ v4 => k - (intOf v4).toNat)
  case atStart => exact ⟨0, 1, rfl, rfl, by omega, rfl, by omega, by omega⟩
  case round =>
    obtain ⟨j, x, rfl, rfl, hj, HX, hx0, hx1⟩ := hrel
    by_cases hjk : j < k
    · have e1 : (j : Int) < k := by omega
      have HN := Lib.hid (show 2 * x = 2 ^ (j + 1) by rw [HX.out, Int.pow_succ]; omega)
      have hb : 2 * x ≤ 1000000 := by
        rw [HN.out]
        have h15 := Nat.pow_le_pow_right (n := 2) (by omega) (show j + 1 ≤ 15 by omega)
        have : (2 : Int) ^ (j + 1) ≤ 2 ^ 15 := by exact_mod_cast h15
        omega
      clear HX
      go_wp2
      go_round
      case rel => exact ⟨j + 1, _, rfl, by go_num, by omega, HN, by omega, hb⟩
      case measure => simp [intOf]; omega
    · have e1 : ¬ (j : Int) < k := by omega
      have HE := Lib.hid (show x = 2 ^ k by rw [HX.out, show j = k by omega])
      clear HX
      go_wp2
      go_ret
      exact ⟨ret_int HE.out, rfl⟩
def diffV (l : List Int) (i : Nat) : List Value := [.int .i64 (X l (i + 1) - X l i)]
theorem diffV_len (l : List Int) (i : Nat) : (diffV l i).length = 1 := rfl
/-- A new list of numbers in memory. -/
def ListPost (w : World) (m : List Int) (e : Ending) (w' : World) : Prop := ∃ p cap, e = .returned (.slice p m.length cap) ∧ Cells w' p m ∧ Below w.heap.size w w'
theorem row_cells {w : World} {base : Nat} {v : Value} {f : Nat → List Value} {m : List Int} (h : w.ownsRow base 3 1 v m.length (rowsOf f m.length)) (hf : ∀ i, (f i).length = 1) (hm : ∀ i, i < m.length → f i = [.int .i64 (X m i)]) :
    ∃ p cap, v = .slice p m.length cap ∧ Cells w p m := by
  obtain ⟨p, cap, hv, h1, h2, h3⟩ := own_form hf h
  refine ⟨p, cap, hv, fun hn => ?_⟩
  obtain ⟨g, hp, _, _, hc⟩ := h3 hn
  refine ⟨g, 0, hp, fun i hi => ?_⟩
  have := hc i hi 0 (by omega)
  rw [Nat.mul_one, Nat.add_zero, hm i hi] at this
  rw [Nat.zero_add, this]; rfl

set_option maxHeartbeats 4000000 in
theorem diffs_any (p : Option Addr) (l : List Int) (cap : Nat) (w : World) (h : Cells w p l) (hl : l.length ≤ 256) (hs : ∀ i, -300000 ≤ X l i ∧ X l i ≤ 300000) :
    Calls Try.prog 32 #[.slice p l.length cap] w (ListPost w (dl l)) := by
  obtain ⟨i0, hi, hz0, hz1, hz2⟩ := info_parts Try.infoInt
  have HS := Lib.hid hs
  clear hs
  go_enter Try.func32, Try.ntmps32
  go_wp2
  go_loopw [3, 4] (fun v3 v4 wr => ∃ (j : Nat), v4 = .int .i64 ((j + 1 : Nat) : Int) ∧ (j = 0 ∨ j + 1 ≤ l.length) ∧ wr.ownsRow w.heap.size 3 1 v3 j (rowsOf (diffV l) j) ∧ Below w.heap.size w wr) (fun _ v4 _ => l.length + 1 - (intOf v4).toNat)
  case atStart => exact ⟨0, rfl, .inl rfl, World.ownsRow_nil _ _ _ _, Below.refl _ _⟩
  case round =>
    obtain ⟨j, rfl, hj, hown, hbr⟩ := hrel
    by_cases hlt : j + 1 < l.length
    · obtain ⟨b, off, rfl, hc⟩ := h.below hbr (by omega)
      have c1 := hc (j + 1) hlt
      have c0 := hc j (by omega)
      have x1 := HS.out (j + 1)
      have x0 := HS.out j
      have e1 : (j : Int) + 1 < l.length := by omega
      have e2 : ((j + 1 : Nat) : Int) < l.length := by omega
      have e3 : (j : Int) < l.length := by omega
      have hdv : diffV l j = [.int .i64 (X l (j + 1) - X l j)] := rfl
      clear hc
      go_wp2
      refine wp_region_loose_tail [(0, 11)] (fun w' => ∃ n, w' = wr.drewN n) 11 (by kernel_rfl) (by kernel_rfl) (by kernel_rfl) ⟨1, rfl⟩ ?_
      simp only [List.take_succ_cons, List.take_zero, List.drop_succ_cons, List.drop_zero]
      repeat go_big_quiet_step (fail)
      refine wpQuiet_nil ?_
      rintro wd ⟨nq, rfl⟩
      go_wp2_with (at_builtin; (refine wpList_append_own _ rfl _ _ 22 rfl w.heap.size 3 i0 _ 1 8 Try.underlying22 hi hz0 hz1 hz2 rfl (by decide) _ _ _ rfl (own_below hown ?_) ⟨wr.heap.size, 0, none⟩ 1 1 [.int .i64 (X l (j + 1) - X l j)] rfl rfl ?_ ?_ ?_ ?_ ?_ ?_; exact (by repeat (first | exact Below.refl _ _ | assumption | refine below_drewN ?_ _ | refine Below.drew ?_ | refine below_new ?_ _ | refine Below.setCell ?_ (by first | omega | (simp <;> omega)) _ | refine below_then (by assumption) ?_)); exact news_cells (by simp); simp [Value.oneCell']; (unfold maxLen; omega); omega; (have h2 := hbr.size; (try simp); omega); intro v9 wa hown1 hgrow _))
      refine ⟨rfl, ?_⟩
      go_wp2
      go_roundw
      case rel => exact ⟨j + 1, (by congr 1 <;> omega), .inr (by omega), (by rw [rowsOf, hdv]; exact hown1), below_app hbr hown hgrow (Nat.le_refl _) (by repeat (first | exact Below.refl _ _ | assumption | refine below_drewN ?_ _ | refine Below.drew ?_ | refine below_new ?_ _ | refine Below.setCell ?_ (by first | omega | (simp <;> omega)) _ | refine below_then (by assumption) ?_))⟩
      case measure => simp [intOf]; omega
    · have e1 : ¬ (j : Int) + 1 < l.length := by omega
      have hjj : j = (dl l).length := by rw [dl_length]; omega
      have HJ := Lib.hid hjj
      clear hjj
      go_wp2
      go_ret
      obtain ⟨p', cap', rfl, hcc⟩ := row_cells (HJ.out ▸ hown) (diffV_len l) fun i hi => by rw [dl_length] at hi; unfold diffV; rw [X_dl (by omega)]
      exact ⟨p', cap', rfl, hcc, hbr⟩

def foldV (m : List Int) (i : Nat) : List Value := [.int .i64 (fold (X m i))]
theorem foldV_len (m : List Int) (i : Nat) : (foldV m i).length = 1 := rfl
theorem misses_X {l : List Int} {o i : Nat} (ho : o ≤ 3) (hi : i < (misses l o).length) : fold (X (dn l o) i) = X (misses l o) i := by
  rw [misses_length] at hi
  unfold misses
  rw [missFrom_get hi, dn_miss ho (by omega)]
  rfl

set_option maxHeartbeats 4000000 in
theorem ref_misses_any (p : Option Addr) (l : List Int) (cap o : Nat) (w : World) (h : Cells w p l) (hl : l.length ≤ 256) (ho3 : o ≤ 3) (hs : Small l) :
    Calls Try.prog 15 #[.slice p l.length cap, .int .i64 o] w (ListPost w (misses l o)) := by
  obtain ⟨i0, hi, hz0, hz1, hz2⟩ := info_parts Try.infoInt
  have ho' : (o : Int) ≤ 3 := by omega
  go_enter Try.func15, Try.ntmps15
  go_wp2
  go_loopw [0, 5] (fun v0 v5 wr => ∃ (k : Nat) (q : Option Addr) (capq : Nat), v0 = .slice q (dn l k).length capq ∧ v5 = .int .i64 k ∧ k ≤ o ∧ Cells wr q (dn l k) ∧ Below w.heap.size w wr) (fun _ v5 _ => o - (intOf v5).toNat)
  case atStart => exact ⟨0, p, cap, rfl, rfl, by omega, h, Below.refl _ _⟩
  case round =>
    obtain ⟨k, q, capq, rfl, rfl, hk, hq, hbr⟩ := hrel
    by_cases hko : k < o
    · have e1 : (k : Int) < o := by omega
      have hdl : (dn l k).length ≤ 256 := by rw [dn_length]; omega
      go_wp2_with (go_at_call 32; (with_reducible refine (diffs_any q (dn l k) capq _ hq hdl (fun i => dn_bd hs (by omega))).mono ?_); rintro e w1 ⟨p1, cap1, rfl, hc1, hb1⟩)
      go_roundw
      case rel => exact ⟨k + 1, p1, cap1, rfl, by go_num, by omega, hc1, below_then hb1 hbr⟩
      case measure => simp [intOf]; omega
    · obtain rfl : k = o := by omega
      have hdl : (dn l k).length ≤ 256 := by rw [dn_length]; omega
      go_wp2
      obtain ⟨wo, rfl⟩ : ∃ wo : World, wo = wr := ⟨_, rfl⟩
      go_loopw [6, 18] (fun v6 v18 wq => ∃ (j : Nat), v18 = .int .i64 j ∧ j ≤ (dn l k).length ∧ wq.ownsRow wo.heap.size 3 1 v6 j (rowsOf (foldV (dn l k)) j) ∧ Below wo.heap.size wo wq) (fun _ v18 _ => (dn l k).length - (intOf v18).toNat)
      case atStart => exact ⟨0, rfl, by omega, World.ownsRow_nil _ _ _ _, Below.refl _ _⟩
      case round =>
        obtain ⟨j, rfl, hj, hown, hbq⟩ := hrel
        by_cases hjt : j < (dn l k).length
        · obtain ⟨b, off, rfl, hc⟩ := hq.below hbq (by omega)
          have c1 := hc j hjt
          have e1 : (j : Int) < ((dn l k).length : Int) := by omega
          have y1 := dn_bd (i := j) hs ho3
          have hfv : foldV (dn l k) j = [.int .i64 (fold (X (dn l k) j))] := rfl
          clear hc
          go_wp2_with (first
            | (go_at_call 33; (with_reducible refine (ref_fold_any _ _ (by omega)).mono ?_); rintro e w1 ⟨rfl, rfl⟩)
            | (at_builtin; (refine wpList_append_own _ rfl _ _ 22 rfl wo.heap.size 3 i0 _ 1 8 Try.underlying22 hi hz0 hz1 hz2 rfl (by decide) _ _ _ rfl (own_below hown ?_) ⟨wr.heap.size, 0, none⟩ 1 1 [.int .i64 (fold (X (dn l k) j))] rfl rfl ?_ ?_ ?_ ?_ ?_ ?_; exact (by repeat (first | exact Below.refl _ _ | assumption | refine below_drewN ?_ _ | refine Below.drew ?_ | refine below_new ?_ _ | refine Below.setCell ?_ (by first | omega | (simp <;> omega)) _ | refine below_then (by assumption) ?_)); exact news_cells (by simp); simp [Value.oneCell']; (unfold maxLen; omega); omega; (have h2 := hbq.size; (try simp); omega); intro v9 wa hown1 hgrow _)))
          go_roundw
          case rel => exact ⟨j + 1, by go_num, by omega, (by rw [rowsOf, hfv]; exact hown1), below_app hbq hown hgrow (Nat.le_refl _) (by repeat (first | exact Below.refl _ _ | assumption | refine below_drewN ?_ _ | refine Below.drew ?_ | refine below_new ?_ _ | refine Below.setCell ?_ (by first | omega | (simp <;> omega)) _ | refine below_then (by assumption) ?_))⟩
          case measure => simp [intOf]; omega
        · have e1 : ¬ (j : Int) < ((dn l k).length : Int) := by omega
          have hjj : j = (misses l k).length := by rw [misses_length]; rw [dn_length] at hj hjt; omega
          have HJ := Lib.hid hjj
          clear hjj
          go_wp2
          go_ret
          obtain ⟨p', cap', rfl, hcc⟩ := row_cells (HJ.out ▸ hown) (foldV_len (dn l k)) fun i hi => by unfold foldV; rw [misses_X ho3 hi]
          exact ⟨p', cap', rfl, hcc, below_then hbq hbr⟩

set_option maxHeartbeats 4000000 in
theorem ref_long_any (p : Option Addr) (l : List Int) (cap o k : Nat) (w : World) (h : Cells w p l) (hl : l.length ≤ 256) (ho3 : o ≤ 3) (hk15 : k ≤ 15) (hs : Small l) :
    Calls Try.prog 8 #[.slice p l.length cap, .int .i64 o, .int .i64 k] w fun e w' => e = .returned (.int .i64 (6 + long l o k)) ∧ Below w.heap.size w w' := by
  have ho' : (o : Int) ≤ 3 := by omega
  have hk' : (k : Int) ≤ 15 := by omega
  have hml : (misses l o).length ≤ 256 := by rw [misses_length]; omega
  by_cases hol : (l.length : Int) < o
  all_goals
    obtain ⟨N0, hN0⟩ : ∃ N0 : Int, N0 = 6 + 16 * ((min o l.length : Nat) : Int) := ⟨_, rfl⟩
    have hN1 : 0 ≤ N0 ∧ N0 ≤ 5000 := by omega
    have HL := Lib.hid (show N0 + costs k ((misses l o).drop 0) = 6 + long l o k by rw [hN0, Int.add_assoc]; rfl)
    have HN0 := Lib.hid hN0
    clear hN0
    go_enter Try.func8, Try.ntmps8
    go_wp2_with (go_at_call 15; (with_reducible refine (ref_misses_any p l cap o _ h hl ho3 hs).mono ?_); rintro e wm ⟨pm, capm, rfl, hcm, hbm⟩)
    go_loop [7, 25] (fun v7 v25 => ∃ (j : Nat) (n : Int), v7 = .int .i64 n ∧ v25 = .int .i64 j ∧ j ≤ (misses l o).length ∧ 0 ≤ n ∧ n ≤ 5000 + 524304 * j ∧ Hid (n + costs k ((misses l o).drop j) = 6 + long l o k)) (fun _ v25 => (misses l o).length - (intOf v25).toNat)
    case atStart => exact ⟨0, N0, (by congr 1; have := HN0.out; omega), rfl, by omega, by omega, by omega, HL⟩
    case round =>
      obtain ⟨j, n, rfl, rfl, hj, hn0, hn1, HN⟩ := hrel
      by_cases hjt : j < (misses l o).length
      · obtain ⟨bm, om, rfl, hc⟩ := hcm (by omega)
        have c1 := hc j hjt
        have y1 := misses_bd hs hjt
        have y2 : 0 ≤ X (misses l o) j / 2 ^ k := Int.ediv_nonneg y1.1 (Int.le_of_lt (Int.pow_pos (by omega)))
        have y3 : X (misses l o) j / 2 ^ k ≤ X (misses l o) j := Int.ediv_le_self _ y1.1
        have y4 : (1 : Int) ≤ 2 ^ k := by have : (0 : Int) < 2 ^ k := Int.pow_pos (by omega); omega
        have e4 : (j : Int) < ((misses l o).length : Int) := by omega
        have HM := Lib.hid (show n + X (misses l o) j / 2 ^ k + 1 + k + costs k ((misses l o).drop (j + 1)) = 6 + long l o k by rw [← HN.out, costs_drop hjt]; unfold cost; omega)
        clear hc HN
        go_wp2_with (go_at_call 16; (with_reducible refine (power_any k _ hk15).mono ?_); rintro e w1 ⟨rfl, rfl⟩)
        go_round
        case rel => exact ⟨j + 1, _, rfl, by go_num, by omega, by omega, by omega, HM⟩
        case measure => simp [intOf]; omega
      · have e4 : ¬ (j : Int) < ((misses l o).length : Int) := by omega
        have HE := Lib.hid (show n = 6 + long l o k by
          have := HN.out
          rw [List.drop_eq_nil_of_le (by omega)] at this
          simpa [costs] using this)
        clear HN
        go_wp2
        go_ret
        exact ⟨ret_int HE.out, hbm⟩
end Go.Proofs.Ytfoiadlaekknpaa.Co
