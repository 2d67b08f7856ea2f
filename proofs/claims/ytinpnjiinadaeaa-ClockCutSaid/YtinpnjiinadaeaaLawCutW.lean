/-
  THE WALK of the law ClockCut. (Printed by gen/clockcut.py.)
-/
import Derived.Test.YtinpnjiinadaeaaClockV
import Derived.Test.YtinpnjiinadaeaaClockCut
import Derived.Test.YtinpnjiinadaeaaRowsOf
namespace Go.Proofs.Ytinpnjiinadaeaa.Cl
open Go.RowKit

theorem Try.infoMark : (Try.prog.info? 30).map (fun i => (i.zero, i.size, i.bytes)) = some (some (.agg #[.int .i64 0, .int .i64 0, .bool false]), 3, 24) := by kernel_rfl
def mark (A P : Nat → Int) (R : Nat → Bool) (i : Nat) : List Value := [.int .i64 (A i), .int .i64 (P i), .bool (R i)]
/-- Behind an append to a row of the call's own, what was there ahead of the loop is as it was. -/
theorem below_app {a wr wx wa : World} {base : Nat} {e : TypeId} {s : Nat} {v : Value} {c : Nat} {xs : List Value} (hb : Below a.heap.size a wr) (hown : wr.ownsRow base e s v c xs) (hg : wx.grownBy wa v.ownBlock)
    (hbase : a.heap.size ≤ base) (hx : Below wr.heap.size wr wx) : Below a.heap.size a wa :=
  (below_then hx hb).grown hg (Nat.le_trans hb.size hx.size) fun k hk => Nat.le_trans hbase (hown.lt k hk).1

theorem mark_len (A P : Nat → Int) (R : Nat → Bool) (i : Nat) : (mark A P R i).length = 3 := rfl
theorem row_arg {w : World} {base : Nat} {e : TypeId} {v : Value} {c : Nat} {A P : Nat → Int} {R : Nat → Bool} (hc : c ≤ 1000) (h : w.ownsRow base e 3 v c (rowsOf (mark A P R) c)) :
    ∃ p cap, v = .slice p c cap ∧ Arg w p c A P R := by
  obtain ⟨p, cap, hv, h1, h2, h3⟩ := own_form (mark_len A P R) h
  refine ⟨p, cap, hv, by omega, fun hpos => ?_⟩
  obtain ⟨g, hp, _, _, hcell⟩ := h3 hpos
  refine ⟨g, 0, hp, fun i hi => ⟨?_, ?_, ?_⟩⟩
  · rw [Nat.zero_add]; exact hcell i hi 0 (by omega)
  · rw [Nat.zero_add]; exact hcell i hi 1 (by omega)
  · rw [Nat.zero_add]; exact hcell i hi 2 (by omega)

set_option maxHeartbeats 8000000 in
set_option maxRecDepth 100000 in
theorem cut_off {b o n : Nat} {A P : Nat → Int} {R : Nat → Bool} (cap K : Nat) (cut x : Int) (w : World) (hk : Ok n A P) (hm : Marks w b o n A P R) (hK : K < n) (hR1 : R1 n P R K = true)
    {u1 e1 u2 e2 : Int} (H1 : Hid (twice n A P R x = (u1, e1))) (H2 : Hid (twice (n) A P (R1 n P R) x = (u2, e2))) (hz : (e1 != 0) = true ∨ (e1 != 0) = false ∧ (e2 != 0) = true ∨ (e1 != 0) = false ∧ (e2 != 0) = false ∧ (u1 == u2) = true) :
    Calls Try.prog 4 #[.slice (some ⟨b, o, none⟩) n cap, .int .i64 K, .int .i64 cut, .int .i64 x] w fun e w' => e = .returned (.bool true) ∧ Below w.heap.size w w' := by
  obtain ⟨i0, hi, hz0, hz1, hz2⟩ := info_parts Try.infoMark
  have hn1 := hk.pos
  have hn2 := hk.le
  have HW := Lib.hid (wrong_of hk)
  have ha : Arg w (some ⟨b, o, none⟩) n A P R := ⟨by omega, fun _ => ⟨b, o, rfl, hm⟩⟩
  have g0 : (0 : Int) ≤ K := by omega
  have g1 : (K : Int) < n := by omega
  have g3 : decide (n ≤ K) = false := by simp; omega
  have g4 : decide ((K : Int) < 0) = false := by simp
  have HR1 := Lib.hid hR1
  clear hR1
  go_enter Try.func4, Try.ntmps4
  go_wp2_with (first
    | (go_at_call 7; with_reducible refine (alive_any _).mono ?_; rintro e w1 ⟨rfl, hb1⟩; have ha1 := ha.below hb1)
    | (go_at_call 9; with_reducible refine (wrong_is cap _ ha1 HW.out).mono ?_; rintro e w2 ⟨rfl, hb2⟩))
  have hmw : Marks w2 b o n A P R := (hm.below hb1).below hb2
  have hBw : Below w.heap.size w w2 := below_then hb2 hb1
  have hsz : w.heap.size ≤ w2.heap.size := hBw.size
  clear ha1 hb1 hb2
  go_loopw [9, 33] (fun v9 v33 wr => ∃ (k c : Nat), v33 = .int .i64 k ∧ k ≤ n ∧ c ≤ k + 1 ∧ Hid (c = k) ∧ wr.ownsRow w2.heap.size 30 3 v9 c (rowsOf (mark A P (R1 n P R)) c) ∧ Below w2.heap.size w2 wr)
    (fun _ v33 _ => n - (intOf v33).toNat)
  case atStart => exact ⟨0, 0, rfl, by omega, by omega, rfl, World.ownsRow_nil _ _ _ _, Below.refl _ _⟩
  case round =>
    obtain ⟨k, c, rfl, hkn, hc1, HC, hown, hbr⟩ := hrel
    have hmr : Marks wr b o n A P R := hmw.below hbr
    have hb1 : b < wr.heap.size := hmr.block hn1
    by_cases hl : k < n
    · obtain ⟨c0, c1, c2⟩ := hmr k hl
      have e0 : (k : Int) < n := by omega
      by_cases hkK : k = K
      · subst hkK
        have g2 : ((k : Int) == (k : Int)) = true := by simp
        cases hR : R k with
        | false =>
          exact absurd HR1.out (by unfold R1; simp [hR])
        | true =>
          by_cases hl1 : k + 1 < n
          · by_cases hq : P (k + 1) = P k
            · exact absurd HR1.out (by unfold R1; simp [hR, hl1, hq])
            · rw [hR] at c2
              have hmk : mark A P (R1 n P R) k = [.int .i64 (A k), .int .i64 (P k), .bool true] := by unfold mark R1; simp [hR, hq, hl1]
              obtain ⟨d0, d1, d2⟩ := hmr (k + 1) hl1
              have f1 : (k : Int) + 1 < n := by omega
              have f2 : ((k : Int) + 1 == n) = false := by simp; omega
              have f3 : (P (k + 1) == P k) = false := by simpa using hq
              clear hq
              go_wp2
              go_quiet (fail)
              go_wp2_with (at_builtin; refine wpList_append_own _ rfl _ _ 22 rfl w2.heap.size 30 i0 _ 3 24 Try.underlying22 hi hz0 hz1 hz2 rfl (by decide) _ _ _ rfl (own_below hown ?_) ⟨wr.heap.size + 1, 0, none⟩ 1 1 [.int .i64 (A k), .int .i64 (P k), .bool true] rfl rfl ?_ ?_ ?_ ?_ ?_ ?_; exact (by repeat (first | exact Below.refl _ _ | assumption | refine below_drewN ?_ _ | refine Below.drew ?_ | refine below_new ?_ _ | refine Below.setCell ?_ (by first | omega | (simp <;> omega)) _ | refine below_then (by assumption) ?_)); exact news_cells (by simp); simp [Value.oneCell']; (unfold maxLen; omega); omega; (simp; have := hbr.size; omega); intro v9' wa hown1 hgrow _; have hx2 := grown_cell hgrow (W := wr) (.inr hown) (b := wr.heap.size) (o := 2) (x := .bool true) (by simp) (by simp [go_sem]))
              go_roundw
              case rel =>
                have hpos : c = k := HC.out
                have hfc : mark A P (R1 n P R) c = [.int .i64 (A k), .int .i64 (P k), .bool true] := (by rw [hpos]; exact hmk)
                exact ⟨k + 1, c + 1, by go_num, by omega, by omega, (by show c + 1 = k + 1; rw [hpos]), (by rw [rowsOf, hfc]; exact hown1), below_app hbr hown hgrow (Nat.le_refl _) (by repeat (first | exact Below.refl _ _ | assumption | refine below_drewN ?_ _ | refine Below.drew ?_ | refine below_new ?_ _ | refine Below.setCell ?_ (by first | omega | (simp <;> omega)) _ | refine below_then (by assumption) ?_))⟩
              case measure => simp [intOf]; omega
          · exact absurd HR1.out (by unfold R1; simp [hR, hl1])
      · have g2 : ((k : Int) == (K : Int)) = false := by simp; omega
        have HkK := Lib.hid hkK
        clear hkK
        cases hR : R k with
        | false =>
          rw [hR] at c2
          have hmk : mark A P (R1 n P R) k = [.int .i64 (A k), .int .i64 (P k), .bool false] := by unfold mark R1; simp [hR]
          go_wp2
          go_quiet (fail)
          go_wp2_with (at_builtin; refine wpList_append_own _ rfl _ _ 22 rfl w2.heap.size 30 i0 _ 3 24 Try.underlying22 hi hz0 hz1 hz2 rfl (by decide) _ _ _ rfl (own_below hown ?_) ⟨wr.heap.size + 1, 0, none⟩ 1 1 [.int .i64 (A k), .int .i64 (P k), .bool false] rfl rfl ?_ ?_ ?_ ?_ ?_ ?_; exact (by repeat (first | exact Below.refl _ _ | assumption | refine below_drewN ?_ _ | refine Below.drew ?_ | refine below_new ?_ _ | refine Below.setCell ?_ (by first | omega | (simp <;> omega)) _ | refine below_then (by assumption) ?_)); exact news_cells (by simp); simp [Value.oneCell']; (unfold maxLen; omega); omega; (simp; have := hbr.size; omega); intro v9' wa hown1 hgrow _)
          go_roundw
          case rel =>
            have hpos : c = k := HC.out
            have hfc : mark A P (R1 n P R) c = [.int .i64 (A k), .int .i64 (P k), .bool false] := (by rw [hpos]; exact hmk)
            exact ⟨k + 1, c + 1, by go_num, by omega, by omega, (by show c + 1 = k + 1; rw [hpos]), (by rw [rowsOf, hfc]; exact hown1), below_app hbr hown hgrow (Nat.le_refl _) (by repeat (first | exact Below.refl _ _ | assumption | refine below_drewN ?_ _ | refine Below.drew ?_ | refine below_new ?_ _ | refine Below.setCell ?_ (by first | omega | (simp <;> omega)) _ | refine below_then (by assumption) ?_))⟩
          case measure => simp [intOf]; omega
        | true =>
          by_cases hl1 : k + 1 < n
          · by_cases hq : P (k + 1) = P k
            · rw [hR] at c2
              have hmk : mark A P (R1 n P R) k = [.int .i64 (A k), .int .i64 (P k), .bool false] := by unfold mark R1; simp [hR, hq]
              obtain ⟨d0, d1, d2⟩ := hmr (k + 1) hl1
              have f1 : (k : Int) + 1 < n := by omega
              have f2 : ((k : Int) + 1 == n) = false := by simp; omega
              have f3 : (P (k + 1) == P k) = true := by simpa using hq
              clear hq
              go_wp2
              go_quiet (fail)
              go_wp2_with (at_builtin; refine wpList_append_own _ rfl _ _ 22 rfl w2.heap.size 30 i0 _ 3 24 Try.underlying22 hi hz0 hz1 hz2 rfl (by decide) _ _ _ rfl (own_below hown ?_) ⟨wr.heap.size + 1, 0, none⟩ 1 1 [.int .i64 (A k), .int .i64 (P k), .bool false] rfl rfl ?_ ?_ ?_ ?_ ?_ ?_; exact (by repeat (first | exact Below.refl _ _ | assumption | refine below_drewN ?_ _ | refine Below.drew ?_ | refine below_new ?_ _ | refine Below.setCell ?_ (by first | omega | (simp <;> omega)) _ | refine below_then (by assumption) ?_)); exact news_cells (by simp); simp [Value.oneCell']; (unfold maxLen; omega); omega; (simp; have := hbr.size; omega); intro v9' wa hown1 hgrow _)
              go_roundw
              case rel =>
                have hpos : c = k := HC.out
                have hfc : mark A P (R1 n P R) c = [.int .i64 (A k), .int .i64 (P k), .bool false] := (by rw [hpos]; exact hmk)
                exact ⟨k + 1, c + 1, by go_num, by omega, by omega, (by show c + 1 = k + 1; rw [hpos]), (by rw [rowsOf, hfc]; exact hown1), below_app hbr hown hgrow (Nat.le_refl _) (by repeat (first | exact Below.refl _ _ | assumption | refine below_drewN ?_ _ | refine Below.drew ?_ | refine below_new ?_ _ | refine Below.setCell ?_ (by first | omega | (simp <;> omega)) _ | refine below_then (by assumption) ?_))⟩
              case measure => simp [intOf]; omega
            · rw [hR] at c2
              have hmk : mark A P (R1 n P R) k = [.int .i64 (A k), .int .i64 (P k), .bool true] := by unfold mark R1; simp [hR, hq, hl1]
              obtain ⟨d0, d1, d2⟩ := hmr (k + 1) hl1
              have f1 : (k : Int) + 1 < n := by omega
              have f2 : ((k : Int) + 1 == n) = false := by simp; omega
              have f3 : (P (k + 1) == P k) = false := by simpa using hq
              clear hq
              go_wp2
              go_quiet (fail)
              go_wp2_with (at_builtin; refine wpList_append_own _ rfl _ _ 22 rfl w2.heap.size 30 i0 _ 3 24 Try.underlying22 hi hz0 hz1 hz2 rfl (by decide) _ _ _ rfl (own_below hown ?_) ⟨wr.heap.size + 1, 0, none⟩ 1 1 [.int .i64 (A k), .int .i64 (P k), .bool true] rfl rfl ?_ ?_ ?_ ?_ ?_ ?_; exact (by repeat (first | exact Below.refl _ _ | assumption | refine below_drewN ?_ _ | refine Below.drew ?_ | refine below_new ?_ _ | refine Below.setCell ?_ (by first | omega | (simp <;> omega)) _ | refine below_then (by assumption) ?_)); exact news_cells (by simp); simp [Value.oneCell']; (unfold maxLen; omega); omega; (simp; have := hbr.size; omega); intro v9' wa hown1 hgrow _)
              go_roundw
              case rel =>
                have hpos : c = k := HC.out
                have hfc : mark A P (R1 n P R) c = [.int .i64 (A k), .int .i64 (P k), .bool true] := (by rw [hpos]; exact hmk)
                exact ⟨k + 1, c + 1, by go_num, by omega, by omega, (by show c + 1 = k + 1; rw [hpos]), (by rw [rowsOf, hfc]; exact hown1), below_app hbr hown hgrow (Nat.le_refl _) (by repeat (first | exact Below.refl _ _ | assumption | refine below_drewN ?_ _ | refine Below.drew ?_ | refine below_new ?_ _ | refine Below.setCell ?_ (by first | omega | (simp <;> omega)) _ | refine below_then (by assumption) ?_))⟩
              case measure => simp [intOf]; omega
          · rw [hR] at c2
            have hmk : mark A P (R1 n P R) k = [.int .i64 (A k), .int .i64 (P k), .bool false] := by unfold mark R1; simp [hR, hl1]
            have f1 : ¬ (k : Int) + 1 < n := by omega
            have f4 : decide ((k : Int) + 1 < n) = false := by simpa using f1
            have f2 : ((k : Int) + 1 == n) = true := by simp; omega
            go_wp2
            go_quiet (fail)
            go_wp2_with (at_builtin; refine wpList_append_own _ rfl _ _ 22 rfl w2.heap.size 30 i0 _ 3 24 Try.underlying22 hi hz0 hz1 hz2 rfl (by decide) _ _ _ rfl (own_below hown ?_) ⟨wr.heap.size + 1, 0, none⟩ 1 1 [.int .i64 (A k), .int .i64 (P k), .bool false] rfl rfl ?_ ?_ ?_ ?_ ?_ ?_; exact (by repeat (first | exact Below.refl _ _ | assumption | refine below_drewN ?_ _ | refine Below.drew ?_ | refine below_new ?_ _ | refine Below.setCell ?_ (by first | omega | (simp <;> omega)) _ | refine below_then (by assumption) ?_)); exact news_cells (by simp); simp [Value.oneCell']; (unfold maxLen; omega); omega; (simp; have := hbr.size; omega); intro v9' wa hown1 hgrow _)
            go_roundw
            case rel =>
              have hpos : c = k := HC.out
              have hfc : mark A P (R1 n P R) c = [.int .i64 (A k), .int .i64 (P k), .bool false] := (by rw [hpos]; exact hmk)
              exact ⟨k + 1, c + 1, by go_num, by omega, by omega, (by show c + 1 = k + 1; rw [hpos]), (by rw [rowsOf, hfc]; exact hown1), below_app hbr hown hgrow (Nat.le_refl _) (by repeat (first | exact Below.refl _ _ | assumption | refine below_drewN ?_ _ | refine Below.drew ?_ | refine below_new ?_ _ | refine Below.setCell ?_ (by first | omega | (simp <;> omega)) _ | refine below_then (by assumption) ?_))⟩
            case measure => simp [intOf]; omega
    · obtain rfl : k = n := by omega
      have hcn : c = k := by rw [HC.out]
      have HCN := Lib.hid hcn
      obtain ⟨p', cap', rfl, ha2⟩ := row_arg (by omega) hown
      have ha1 : Arg wr (some ⟨b, o, none⟩) k A P R := ⟨by omega, fun _ => ⟨b, o, rfl, hmr⟩⟩
      subst hcn
      clear hown HC HCN hc1
      have hB : Below w.heap.size w wr := below_then hbr hBw
      rcases hz with z1 | ⟨z1, z2⟩ | ⟨z1, z2, z3⟩
      all_goals
        go_wp2_with (first
          | (go_at_call 8; with_reducible refine (twice_is cap x _ ha1 H1.out).mono ?_; rintro e w3 ⟨rfl, hb3⟩; have ha3 := ha2.below hb3)
          | (go_at_call 8; with_reducible refine (twice_is cap' x _ ha3 H2.out).mono ?_; rintro e w4 ⟨rfl, hb4⟩))
        go_ret
        exact ⟨ret_bool (by simp_all), below_then hb4 (below_then hb3 hB)⟩

set_option maxHeartbeats 8000000 in
set_option maxRecDepth 100000 in
theorem cut_on {b o n : Nat} {A P : Nat → Int} {R : Nat → Bool} (cap K : Nat) (cut x : Int) (w : World) (hk : Ok n A P) (hm : Marks w b o n A P R) (hK : K < n) (hR1 : R1 n P R K = false)
    {u1 e1 u2 e2 : Int} (H1 : Hid (twice n A P R x = (u1, e1))) (H2 : Hid (twice (n + 1) (ins K cut A) (ins K (P K) P) (ins K false (R1 n P R)) x = (u2, e2))) (hz : (e1 != 0) = true ∨ (e1 != 0) = false ∧ (e2 != 0) = true ∨ (e1 != 0) = false ∧ (e2 != 0) = false ∧ (u1 == u2) = true) :
    Calls Try.prog 4 #[.slice (some ⟨b, o, none⟩) n cap, .int .i64 K, .int .i64 cut, .int .i64 x] w fun e w' => e = .returned (.bool true) ∧ Below w.heap.size w w' := by
  obtain ⟨i0, hi, hz0, hz1, hz2⟩ := info_parts Try.infoMark
  have hn1 := hk.pos
  have hn2 := hk.le
  have HW := Lib.hid (wrong_of hk)
  have ha : Arg w (some ⟨b, o, none⟩) n A P R := ⟨by omega, fun _ => ⟨b, o, rfl, hm⟩⟩
  have g0 : (0 : Int) ≤ K := by omega
  have g1 : (K : Int) < n := by omega
  have g3 : decide (n ≤ K) = false := by simp; omega
  have g4 : decide ((K : Int) < 0) = false := by simp
  have HR1 := Lib.hid hR1
  clear hR1
  go_enter Try.func4, Try.ntmps4
  go_wp2_with (first
    | (go_at_call 7; with_reducible refine (alive_any _).mono ?_; rintro e w1 ⟨rfl, hb1⟩; have ha1 := ha.below hb1)
    | (go_at_call 9; with_reducible refine (wrong_is cap _ ha1 HW.out).mono ?_; rintro e w2 ⟨rfl, hb2⟩))
  have hmw : Marks w2 b o n A P R := (hm.below hb1).below hb2
  have hBw : Below w.heap.size w w2 := below_then hb2 hb1
  have hsz : w.heap.size ≤ w2.heap.size := hBw.size
  clear ha1 hb1 hb2
  go_loopw [9, 33] (fun v9 v33 wr => ∃ (k c : Nat), v33 = .int .i64 k ∧ k ≤ n ∧ c ≤ k + 1 ∧ Hid (c = (if K < k then k + 1 else k)) ∧ wr.ownsRow w2.heap.size 30 3 v9 c (rowsOf (mark (ins K cut A) (ins K (P K) P) (ins K false (R1 n P R))) c) ∧ Below w2.heap.size w2 wr)
    (fun _ v33 _ => n - (intOf v33).toNat)
  case atStart => exact ⟨0, 0, rfl, by omega, by omega, (by show 0 = _; simp), World.ownsRow_nil _ _ _ _, Below.refl _ _⟩
  case round =>
    obtain ⟨k, c, rfl, hkn, hc1, HC, hown, hbr⟩ := hrel
    have hmr : Marks wr b o n A P R := hmw.below hbr
    have hb1 : b < wr.heap.size := hmr.block hn1
    by_cases hl : k < n
    · obtain ⟨c0, c1, c2⟩ := hmr k hl
      have e0 : (k : Int) < n := by omega
      by_cases hkK : k = K
      · subst hkK
        have g2 : ((k : Int) == (k : Int)) = true := by simp
        cases hR : R k with
        | false =>
          rw [hR] at c2
          have hmk : mark A P (R1 n P R) k = [.int .i64 (A k), .int .i64 (P k), .bool false] := by unfold mark R1; simp [hR]
          go_wp2
          go_quiet (fail)
          go_wp2_with (first
            | (at_builtin; refine wpList_append_own _ rfl _ _ 22 rfl w2.heap.size 30 i0 _ 3 24 Try.underlying22 hi hz0 hz1 hz2 rfl (by decide) _ _ _ rfl (own_below hown ?_) ⟨wr.heap.size + 1, 0, none⟩ 1 1 [.int .i64 (A k), .int .i64 (P k), .bool false] rfl rfl ?_ ?_ ?_ ?_ ?_ ?_; exact (by repeat (first | exact Below.refl _ _ | assumption | refine below_drewN ?_ _ | refine Below.drew ?_ | refine below_new ?_ _ | refine Below.setCell ?_ (by first | omega | (simp <;> omega)) _ | refine below_then (by assumption) ?_)); exact news_cells (by simp); simp [Value.oneCell']; (unfold maxLen; omega); omega; (simp; have := hbr.size; omega); intro v9' wa hown1 hgrow _; have hsa := hgrow.size; have hx2 := grown_cell hgrow (W := wr) (.inr hown) (b := wr.heap.size) (o := 2) (x := .bool false) (by simp) (by simp [go_sem]); have hx1 := grown_cell hgrow (W := wr) (.inr hown) (b := wr.heap.size) (o := 1) (x := .int .i64 (P k)) (by simp) (by simp [go_sem]))
            | (at_builtin; (refine wpList_append_own _ rfl _ _ 22 rfl w2.heap.size 30 i0 _ 3 24 Try.underlying22 hi hz0 hz1 hz2 rfl (by decide) _ _ _ rfl (own_below hown1 ?_) ⟨wa.heap.size, 0, none⟩ 1 1 [.int .i64 cut, .int .i64 (P k), .bool false] rfl rfl ?_ ?_ ?_ ?_ ?_ ?_; exact (by repeat (first | exact Below.refl _ _ | assumption | refine below_drewN ?_ _ | refine Below.drew ?_ | refine below_new ?_ _ | refine Below.setCell ?_ (by first | omega | (simp <;> omega)) _ | refine below_then (by assumption) ?_)); exact news_cells (by simp); simp [Value.oneCell']; (unfold maxLen; omega); omega; (have h1 := hgrow.size; have h2 := hbr.size; simp at h1; (try simp); omega); intro v9'' wb hown2 hgrow2 _)))
          go_roundw
          case rel =>
            have hpos : c = k := by rw [HC.out, if_neg (by omega)]
            have hfc : (mark (ins k cut A) (ins k (P k) P) (ins k false (R1 n P R))) c = [.int .i64 (A k), .int .i64 (P k), .bool false] := (by rw [hpos]; unfold mark at hmk ⊢; rw [ins_lo (Nat.le_refl k), ins_lo (Nat.le_refl k), ins_lo (Nat.le_refl k)]; exact hmk)
            have hfc2 : (mark (ins k cut A) (ins k (P k) P) (ins k false (R1 n P R))) (c + 1) = [.int .i64 cut, .int .i64 (P k), .bool false] := (by rw [hpos]; unfold mark; rw [ins_at, ins_at, ins_at])
            exact ⟨k + 1, c + 1 + 1, by go_num, by omega, by omega, (by show c + 1 + 1 = if k < k + 1 then k + 1 + 1 else k + 1; rw [hpos, if_pos (by omega)]), (by rw [rowsOf, rowsOf, hfc, hfc2]; exact hown2), below_app (below_app hbr hown hgrow (Nat.le_refl _) (by repeat (first | exact Below.refl _ _ | assumption | refine below_drewN ?_ _ | refine Below.drew ?_ | refine below_new ?_ _ | refine Below.setCell ?_ (by first | omega | (simp <;> omega)) _ | refine below_then (by assumption) ?_))) hown1 hgrow2 (Nat.le_refl _) (by repeat (first | exact Below.refl _ _ | assumption | refine below_drewN ?_ _ | refine Below.drew ?_ | refine below_new ?_ _ | refine Below.setCell ?_ (by first | omega | (simp <;> omega)) _ | refine below_then (by assumption) ?_))⟩
          case measure => simp [intOf]; omega
        | true =>
          by_cases hl1 : k + 1 < n
          · by_cases hq : P (k + 1) = P k
            · rw [hR] at c2
              have hmk : mark A P (R1 n P R) k = [.int .i64 (A k), .int .i64 (P k), .bool false] := by unfold mark R1; simp [hR, hq]
              obtain ⟨d0, d1, d2⟩ := hmr (k + 1) hl1
              have f1 : (k : Int) + 1 < n := by omega
              have f2 : ((k : Int) + 1 == n) = false := by simp; omega
              have f3 : (P (k + 1) == P k) = true := by simpa using hq
              clear hq
              go_wp2
              go_quiet (fail)
              go_wp2_with (first
                | (at_builtin; refine wpList_append_own _ rfl _ _ 22 rfl w2.heap.size 30 i0 _ 3 24 Try.underlying22 hi hz0 hz1 hz2 rfl (by decide) _ _ _ rfl (own_below hown ?_) ⟨wr.heap.size + 1, 0, none⟩ 1 1 [.int .i64 (A k), .int .i64 (P k), .bool false] rfl rfl ?_ ?_ ?_ ?_ ?_ ?_; exact (by repeat (first | exact Below.refl _ _ | assumption | refine below_drewN ?_ _ | refine Below.drew ?_ | refine below_new ?_ _ | refine Below.setCell ?_ (by first | omega | (simp <;> omega)) _ | refine below_then (by assumption) ?_)); exact news_cells (by simp); simp [Value.oneCell']; (unfold maxLen; omega); omega; (simp; have := hbr.size; omega); intro v9' wa hown1 hgrow _; have hsa := hgrow.size; have hx2 := grown_cell hgrow (W := wr) (.inr hown) (b := wr.heap.size) (o := 2) (x := .bool false) (by simp) (by simp [go_sem]); have hx1 := grown_cell hgrow (W := wr) (.inr hown) (b := wr.heap.size) (o := 1) (x := .int .i64 (P k)) (by simp) (by simp [go_sem]))
                | (at_builtin; (refine wpList_append_own _ rfl _ _ 22 rfl w2.heap.size 30 i0 _ 3 24 Try.underlying22 hi hz0 hz1 hz2 rfl (by decide) _ _ _ rfl (own_below hown1 ?_) ⟨wa.heap.size, 0, none⟩ 1 1 [.int .i64 cut, .int .i64 (P k), .bool false] rfl rfl ?_ ?_ ?_ ?_ ?_ ?_; exact (by repeat (first | exact Below.refl _ _ | assumption | refine below_drewN ?_ _ | refine Below.drew ?_ | refine below_new ?_ _ | refine Below.setCell ?_ (by first | omega | (simp <;> omega)) _ | refine below_then (by assumption) ?_)); exact news_cells (by simp); simp [Value.oneCell']; (unfold maxLen; omega); omega; (have h1 := hgrow.size; have h2 := hbr.size; simp at h1; (try simp); omega); intro v9'' wb hown2 hgrow2 _)))
              go_roundw
              case rel =>
                have hpos : c = k := by rw [HC.out, if_neg (by omega)]
                have hfc : (mark (ins k cut A) (ins k (P k) P) (ins k false (R1 n P R))) c = [.int .i64 (A k), .int .i64 (P k), .bool false] := (by rw [hpos]; unfold mark at hmk ⊢; rw [ins_lo (Nat.le_refl k), ins_lo (Nat.le_refl k), ins_lo (Nat.le_refl k)]; exact hmk)
                have hfc2 : (mark (ins k cut A) (ins k (P k) P) (ins k false (R1 n P R))) (c + 1) = [.int .i64 cut, .int .i64 (P k), .bool false] := (by rw [hpos]; unfold mark; rw [ins_at, ins_at, ins_at])
                exact ⟨k + 1, c + 1 + 1, by go_num, by omega, by omega, (by show c + 1 + 1 = if k < k + 1 then k + 1 + 1 else k + 1; rw [hpos, if_pos (by omega)]), (by rw [rowsOf, rowsOf, hfc, hfc2]; exact hown2), below_app (below_app hbr hown hgrow (Nat.le_refl _) (by repeat (first | exact Below.refl _ _ | assumption | refine below_drewN ?_ _ | refine Below.drew ?_ | refine below_new ?_ _ | refine Below.setCell ?_ (by first | omega | (simp <;> omega)) _ | refine below_then (by assumption) ?_))) hown1 hgrow2 (Nat.le_refl _) (by repeat (first | exact Below.refl _ _ | assumption | refine below_drewN ?_ _ | refine Below.drew ?_ | refine below_new ?_ _ | refine Below.setCell ?_ (by first | omega | (simp <;> omega)) _ | refine below_then (by assumption) ?_))⟩
              case measure => simp [intOf]; omega
            · exact absurd HR1.out (by unfold R1; simp [hR, hl1, hq])
          · rw [hR] at c2
            have hmk : mark A P (R1 n P R) k = [.int .i64 (A k), .int .i64 (P k), .bool false] := by unfold mark R1; simp [hR, hl1]
            have f1 : ¬ (k : Int) + 1 < n := by omega
            have f4 : decide ((k : Int) + 1 < n) = false := by simpa using f1
            have f2 : ((k : Int) + 1 == n) = true := by simp; omega
            go_wp2
            go_quiet (fail)
            go_wp2_with (first
              | (at_builtin; refine wpList_append_own _ rfl _ _ 22 rfl w2.heap.size 30 i0 _ 3 24 Try.underlying22 hi hz0 hz1 hz2 rfl (by decide) _ _ _ rfl (own_below hown ?_) ⟨wr.heap.size + 1, 0, none⟩ 1 1 [.int .i64 (A k), .int .i64 (P k), .bool false] rfl rfl ?_ ?_ ?_ ?_ ?_ ?_; exact (by repeat (first | exact Below.refl _ _ | assumption | refine below_drewN ?_ _ | refine Below.drew ?_ | refine below_new ?_ _ | refine Below.setCell ?_ (by first | omega | (simp <;> omega)) _ | refine below_then (by assumption) ?_)); exact news_cells (by simp); simp [Value.oneCell']; (unfold maxLen; omega); omega; (simp; have := hbr.size; omega); intro v9' wa hown1 hgrow _; have hsa := hgrow.size; have hx2 := grown_cell hgrow (W := wr) (.inr hown) (b := wr.heap.size) (o := 2) (x := .bool false) (by simp) (by simp [go_sem]); have hx1 := grown_cell hgrow (W := wr) (.inr hown) (b := wr.heap.size) (o := 1) (x := .int .i64 (P k)) (by simp) (by simp [go_sem]))
              | (at_builtin; (refine wpList_append_own _ rfl _ _ 22 rfl w2.heap.size 30 i0 _ 3 24 Try.underlying22 hi hz0 hz1 hz2 rfl (by decide) _ _ _ rfl (own_below hown1 ?_) ⟨wa.heap.size, 0, none⟩ 1 1 [.int .i64 cut, .int .i64 (P k), .bool false] rfl rfl ?_ ?_ ?_ ?_ ?_ ?_; exact (by repeat (first | exact Below.refl _ _ | assumption | refine below_drewN ?_ _ | refine Below.drew ?_ | refine below_new ?_ _ | refine Below.setCell ?_ (by first | omega | (simp <;> omega)) _ | refine below_then (by assumption) ?_)); exact news_cells (by simp); simp [Value.oneCell']; (unfold maxLen; omega); omega; (have h1 := hgrow.size; have h2 := hbr.size; simp at h1; (try simp); omega); intro v9'' wb hown2 hgrow2 _)))
            go_roundw
            case rel =>
              have hpos : c = k := by rw [HC.out, if_neg (by omega)]
              have hfc : (mark (ins k cut A) (ins k (P k) P) (ins k false (R1 n P R))) c = [.int .i64 (A k), .int .i64 (P k), .bool false] := (by rw [hpos]; unfold mark at hmk ⊢; rw [ins_lo (Nat.le_refl k), ins_lo (Nat.le_refl k), ins_lo (Nat.le_refl k)]; exact hmk)
              have hfc2 : (mark (ins k cut A) (ins k (P k) P) (ins k false (R1 n P R))) (c + 1) = [.int .i64 cut, .int .i64 (P k), .bool false] := (by rw [hpos]; unfold mark; rw [ins_at, ins_at, ins_at])
              exact ⟨k + 1, c + 1 + 1, by go_num, by omega, by omega, (by show c + 1 + 1 = if k < k + 1 then k + 1 + 1 else k + 1; rw [hpos, if_pos (by omega)]), (by rw [rowsOf, rowsOf, hfc, hfc2]; exact hown2), below_app (below_app hbr hown hgrow (Nat.le_refl _) (by repeat (first | exact Below.refl _ _ | assumption | refine below_drewN ?_ _ | refine Below.drew ?_ | refine below_new ?_ _ | refine Below.setCell ?_ (by first | omega | (simp <;> omega)) _ | refine below_then (by assumption) ?_))) hown1 hgrow2 (Nat.le_refl _) (by repeat (first | exact Below.refl _ _ | assumption | refine below_drewN ?_ _ | refine Below.drew ?_ | refine below_new ?_ _ | refine Below.setCell ?_ (by first | omega | (simp <;> omega)) _ | refine below_then (by assumption) ?_))⟩
            case measure => simp [intOf]; omega
      · have g2 : ((k : Int) == (K : Int)) = false := by simp; omega
        have HkK := Lib.hid hkK
        clear hkK
        cases hR : R k with
        | false =>
          rw [hR] at c2
          have hmk : mark A P (R1 n P R) k = [.int .i64 (A k), .int .i64 (P k), .bool false] := by unfold mark R1; simp [hR]
          go_wp2
          go_quiet (fail)
          go_wp2_with (at_builtin; refine wpList_append_own _ rfl _ _ 22 rfl w2.heap.size 30 i0 _ 3 24 Try.underlying22 hi hz0 hz1 hz2 rfl (by decide) _ _ _ rfl (own_below hown ?_) ⟨wr.heap.size + 1, 0, none⟩ 1 1 [.int .i64 (A k), .int .i64 (P k), .bool false] rfl rfl ?_ ?_ ?_ ?_ ?_ ?_; exact (by repeat (first | exact Below.refl _ _ | assumption | refine below_drewN ?_ _ | refine Below.drew ?_ | refine below_new ?_ _ | refine Below.setCell ?_ (by first | omega | (simp <;> omega)) _ | refine below_then (by assumption) ?_)); exact news_cells (by simp); simp [Value.oneCell']; (unfold maxLen; omega); omega; (simp; have := hbr.size; omega); intro v9' wa hown1 hgrow _)
          go_roundw
          case rel =>
            have hpos : c = if K < k then k + 1 else k := HC.out
            have hfc : (mark (ins K cut A) (ins K (P K) P) (ins K false (R1 n P R))) c = [.int .i64 (A k), .int .i64 (P k), .bool false] := (by rw [hpos]; unfold mark at hmk ⊢; by_cases hlt : K < k; (rw [if_pos hlt, ins_hi hlt, ins_hi hlt, ins_hi hlt]; exact hmk); (rw [if_neg hlt, ins_lo (by omega), ins_lo (by omega), ins_lo (by omega)]; exact hmk))
            exact ⟨k + 1, c + 1, by go_num, by omega, by omega, (by have := HkK.out; show c + 1 = if K < k + 1 then k + 1 + 1 else k + 1; rw [hpos]; by_cases hlt : K < k; (rw [if_pos hlt, if_pos (by omega)]); (rw [if_neg hlt, if_neg (by omega)])), (by rw [rowsOf, hfc]; exact hown1), below_app hbr hown hgrow (Nat.le_refl _) (by repeat (first | exact Below.refl _ _ | assumption | refine below_drewN ?_ _ | refine Below.drew ?_ | refine below_new ?_ _ | refine Below.setCell ?_ (by first | omega | (simp <;> omega)) _ | refine below_then (by assumption) ?_))⟩
          case measure => simp [intOf]; omega
        | true =>
          by_cases hl1 : k + 1 < n
          · by_cases hq : P (k + 1) = P k
            · rw [hR] at c2
              have hmk : mark A P (R1 n P R) k = [.int .i64 (A k), .int .i64 (P k), .bool false] := by unfold mark R1; simp [hR, hq]
              obtain ⟨d0, d1, d2⟩ := hmr (k + 1) hl1
              have f1 : (k : Int) + 1 < n := by omega
              have f2 : ((k : Int) + 1 == n) = false := by simp; omega
              have f3 : (P (k + 1) == P k) = true := by simpa using hq
              clear hq
              go_wp2
              go_quiet (fail)
              go_wp2_with (at_builtin; refine wpList_append_own _ rfl _ _ 22 rfl w2.heap.size 30 i0 _ 3 24 Try.underlying22 hi hz0 hz1 hz2 rfl (by decide) _ _ _ rfl (own_below hown ?_) ⟨wr.heap.size + 1, 0, none⟩ 1 1 [.int .i64 (A k), .int .i64 (P k), .bool false] rfl rfl ?_ ?_ ?_ ?_ ?_ ?_; exact (by repeat (first | exact Below.refl _ _ | assumption | refine below_drewN ?_ _ | refine Below.drew ?_ | refine below_new ?_ _ | refine Below.setCell ?_ (by first | omega | (simp <;> omega)) _ | refine below_then (by assumption) ?_)); exact news_cells (by simp); simp [Value.oneCell']; (unfold maxLen; omega); omega; (simp; have := hbr.size; omega); intro v9' wa hown1 hgrow _)
              go_roundw
              case rel =>
                have hpos : c = if K < k then k + 1 else k := HC.out
                have hfc : (mark (ins K cut A) (ins K (P K) P) (ins K false (R1 n P R))) c = [.int .i64 (A k), .int .i64 (P k), .bool false] := (by rw [hpos]; unfold mark at hmk ⊢; by_cases hlt : K < k; (rw [if_pos hlt, ins_hi hlt, ins_hi hlt, ins_hi hlt]; exact hmk); (rw [if_neg hlt, ins_lo (by omega), ins_lo (by omega), ins_lo (by omega)]; exact hmk))
                exact ⟨k + 1, c + 1, by go_num, by omega, by omega, (by have := HkK.out; show c + 1 = if K < k + 1 then k + 1 + 1 else k + 1; rw [hpos]; by_cases hlt : K < k; (rw [if_pos hlt, if_pos (by omega)]); (rw [if_neg hlt, if_neg (by omega)])), (by rw [rowsOf, hfc]; exact hown1), below_app hbr hown hgrow (Nat.le_refl _) (by repeat (first | exact Below.refl _ _ | assumption | refine below_drewN ?_ _ | refine Below.drew ?_ | refine below_new ?_ _ | refine Below.setCell ?_ (by first | omega | (simp <;> omega)) _ | refine below_then (by assumption) ?_))⟩
              case measure => simp [intOf]; omega
            · rw [hR] at c2
              have hmk : mark A P (R1 n P R) k = [.int .i64 (A k), .int .i64 (P k), .bool true] := by unfold mark R1; simp [hR, hq, hl1]
              obtain ⟨d0, d1, d2⟩ := hmr (k + 1) hl1
              have f1 : (k : Int) + 1 < n := by omega
              have f2 : ((k : Int) + 1 == n) = false := by simp; omega
              have f3 : (P (k + 1) == P k) = false := by simpa using hq
              clear hq
              go_wp2
              go_quiet (fail)
              go_wp2_with (at_builtin; refine wpList_append_own _ rfl _ _ 22 rfl w2.heap.size 30 i0 _ 3 24 Try.underlying22 hi hz0 hz1 hz2 rfl (by decide) _ _ _ rfl (own_below hown ?_) ⟨wr.heap.size + 1, 0, none⟩ 1 1 [.int .i64 (A k), .int .i64 (P k), .bool true] rfl rfl ?_ ?_ ?_ ?_ ?_ ?_; exact (by repeat (first | exact Below.refl _ _ | assumption | refine below_drewN ?_ _ | refine Below.drew ?_ | refine below_new ?_ _ | refine Below.setCell ?_ (by first | omega | (simp <;> omega)) _ | refine below_then (by assumption) ?_)); exact news_cells (by simp); simp [Value.oneCell']; (unfold maxLen; omega); omega; (simp; have := hbr.size; omega); intro v9' wa hown1 hgrow _)
              go_roundw
              case rel =>
                have hpos : c = if K < k then k + 1 else k := HC.out
                have hfc : (mark (ins K cut A) (ins K (P K) P) (ins K false (R1 n P R))) c = [.int .i64 (A k), .int .i64 (P k), .bool true] := (by rw [hpos]; unfold mark at hmk ⊢; by_cases hlt : K < k; (rw [if_pos hlt, ins_hi hlt, ins_hi hlt, ins_hi hlt]; exact hmk); (rw [if_neg hlt, ins_lo (by omega), ins_lo (by omega), ins_lo (by omega)]; exact hmk))
                exact ⟨k + 1, c + 1, by go_num, by omega, by omega, (by have := HkK.out; show c + 1 = if K < k + 1 then k + 1 + 1 else k + 1; rw [hpos]; by_cases hlt : K < k; (rw [if_pos hlt, if_pos (by omega)]); (rw [if_neg hlt, if_neg (by omega)])), (by rw [rowsOf, hfc]; exact hown1), below_app hbr hown hgrow (Nat.le_refl _) (by repeat (first | exact Below.refl _ _ | assumption | refine below_drewN ?_ _ | refine Below.drew ?_ | refine below_new ?_ _ | refine Below.setCell ?_ (by first | omega | (simp <;> omega)) _ | refine below_then (by assumption) ?_))⟩
              case measure => simp [intOf]; omega
          · rw [hR] at c2
            have hmk : mark A P (R1 n P R) k = [.int .i64 (A k), .int .i64 (P k), .bool false] := by unfold mark R1; simp [hR, hl1]
            have f1 : ¬ (k : Int) + 1 < n := by omega
            have f4 : decide ((k : Int) + 1 < n) = false := by simpa using f1
            have f2 : ((k : Int) + 1 == n) = true := by simp; omega
            go_wp2
            go_quiet (fail)
            go_wp2_with (at_builtin; refine wpList_append_own _ rfl _ _ 22 rfl w2.heap.size 30 i0 _ 3 24 Try.underlying22 hi hz0 hz1 hz2 rfl (by decide) _ _ _ rfl (own_below hown ?_) ⟨wr.heap.size + 1, 0, none⟩ 1 1 [.int .i64 (A k), .int .i64 (P k), .bool false] rfl rfl ?_ ?_ ?_ ?_ ?_ ?_; exact (by repeat (first | exact Below.refl _ _ | assumption | refine below_drewN ?_ _ | refine Below.drew ?_ | refine below_new ?_ _ | refine Below.setCell ?_ (by first | omega | (simp <;> omega)) _ | refine below_then (by assumption) ?_)); exact news_cells (by simp); simp [Value.oneCell']; (unfold maxLen; omega); omega; (simp; have := hbr.size; omega); intro v9' wa hown1 hgrow _)
            go_roundw
            case rel =>
              have hpos : c = if K < k then k + 1 else k := HC.out
              have hfc : (mark (ins K cut A) (ins K (P K) P) (ins K false (R1 n P R))) c = [.int .i64 (A k), .int .i64 (P k), .bool false] := (by rw [hpos]; unfold mark at hmk ⊢; by_cases hlt : K < k; (rw [if_pos hlt, ins_hi hlt, ins_hi hlt, ins_hi hlt]; exact hmk); (rw [if_neg hlt, ins_lo (by omega), ins_lo (by omega), ins_lo (by omega)]; exact hmk))
              exact ⟨k + 1, c + 1, by go_num, by omega, by omega, (by have := HkK.out; show c + 1 = if K < k + 1 then k + 1 + 1 else k + 1; rw [hpos]; by_cases hlt : K < k; (rw [if_pos hlt, if_pos (by omega)]); (rw [if_neg hlt, if_neg (by omega)])), (by rw [rowsOf, hfc]; exact hown1), below_app hbr hown hgrow (Nat.le_refl _) (by repeat (first | exact Below.refl _ _ | assumption | refine below_drewN ?_ _ | refine Below.drew ?_ | refine below_new ?_ _ | refine Below.setCell ?_ (by first | omega | (simp <;> omega)) _ | refine below_then (by assumption) ?_))⟩
            case measure => simp [intOf]; omega
    · obtain rfl : k = n := by omega
      have hcn : c = k + 1 := by rw [HC.out, if_pos (by omega)]
      have HCN := Lib.hid hcn
      obtain ⟨p', cap', rfl, ha2⟩ := row_arg (by omega) hown
      have ha1 : Arg wr (some ⟨b, o, none⟩) k A P R := ⟨by omega, fun _ => ⟨b, o, rfl, hmr⟩⟩
      subst hcn
      clear hown HC HCN hc1
      have hB : Below w.heap.size w wr := below_then hbr hBw
      rcases hz with z1 | ⟨z1, z2⟩ | ⟨z1, z2, z3⟩
      all_goals
        go_wp2_with (first
          | (go_at_call 8; with_reducible refine (twice_is cap x _ ha1 H1.out).mono ?_; rintro e w3 ⟨rfl, hb3⟩; have ha3 := ha2.below hb3)
          | (go_at_call 8; with_reducible refine (twice_is cap' x _ ha3 H2.out).mono ?_; rintro e w4 ⟨rfl, hb4⟩))
        go_ret
        exact ⟨ret_bool (by simp_all), below_then hb4 (below_then hb3 hB)⟩

theorem cut_twice {n K : Nat} {A P : Nat → Int} {R : Nat → Bool} {cut x u1 u2 : Int} (hK : K < n) (hR : R1 n P R K = false) (h1 : twice n A P R x = (u1, 0)) (h2 : twice (n + 1) (ins K cut A) (ins K (P K) P) (ins K false (R1 n P R)) x = (u2, 0)) : u1 = u2 := by
  obtain ⟨k1, _, _, e1⟩ := twice_ok h1
  obtain ⟨k2, _, _, e2⟩ := twice_ok h2
  rw [e1, e2, tw_cut hR hK k2]
  unfold tw
  rw [twFrom_R1 k1]
theorem off_twice {n : Nat} {A P : Nat → Int} {R : Nat → Bool} {x u1 u2 : Int} (h1 : twice n A P R x = (u1, 0)) (h2 : twice n A P (R1 n P R) x = (u2, 0)) : u1 = u2 := by
  obtain ⟨k1, _, _, e1⟩ := twice_ok h1
  obtain ⟨_, _, _, e2⟩ := twice_ok h2
  rw [e1, e2]
  unfold tw
  rw [twFrom_R1 k1]
theorem pair_eta {r : Int × Int} (h : r.2 = 0) : r = (r.1, 0) := by rw [← h]
theorem three_ways {e1 e2 u1 u2 : Int} (h : e1 = 0 → e2 = 0 → u1 = u2) : (e1 != 0) = true ∨ (e1 != 0) = false ∧ (e2 != 0) = true ∨ (e1 != 0) = false ∧ (e2 != 0) = false ∧ (u1 == u2) = true := by
  by_cases h1 : e1 = 0
  · by_cases h2 : e2 = 0
    · right; right; simp [h1, h2, h h1 h2]
    · right; left; simp [h1, h2]
  · left; simp [h1]
set_option maxHeartbeats 2000000 in
set_option maxRecDepth 100000 in
theorem law_cut {p : Option Addr} {n : Nat} {A P : Nat → Int} {R : Nat → Bool} (cap : Nat) (K cut x : Int) (w : World) (h : Arg w p n A P R) (_ : I64 K) (_ : I64 cut) (_ : I64 x) :
    Calls Try.prog 4 #[.slice p n cap, .int .i64 K, .int .i64 cut, .int .i64 x] w fun e w' => e = .returned (.bool true) ∧ Below w.heap.size w w' := by
  have hlen := h.len
  by_cases hw : wrong n A P = 0
  · have hk := ok_of hw
    by_cases hK : 0 ≤ K ∧ K < n
    · obtain ⟨K, rfl⟩ : ∃ k : Nat, K = k := ⟨K.toNat, by omega⟩
      obtain ⟨b, o, rfl, hm⟩ := h.marks (by omega)
      cases hR1 : R1 n P R K with
      | false => exact cut_on cap K cut x w hk hm (by omega) hR1 (u1 := (twice n A P R x).1) (e1 := (twice n A P R x).2) rfl rfl (three_ways fun h1 h2 => cut_twice (by omega) hR1 (pair_eta h1) (pair_eta h2))
      | true => exact cut_off cap K cut x w hk hm (by omega) hR1 (u1 := (twice n A P R x).1) (e1 := (twice n A P R x).2) rfl rfl (three_ways fun h1 h2 => off_twice (pair_eta h1) (pair_eta h2))
    · have HW := Lib.hid hw
      have q : K < 0 ∨ 0 ≤ K ∧ (n : Int) ≤ K := by omega
      clear hK hw
      rcases q with q | ⟨q, q1⟩
      all_goals
        go_enter Try.func4, Try.ntmps4
        go_wp2_with (first
          | (go_at_call 7; with_reducible refine (alive_any _).mono ?_; rintro e w1 ⟨rfl, hb1⟩; have ha1 := h.below hb1)
          | (go_at_call 9; with_reducible refine (wrong_is cap _ ha1 HW.out).mono ?_; rintro e w2 ⟨rfl, hb2⟩))
        go_ret
        exact ⟨rfl, below_then hb2 hb1⟩
  · obtain ⟨v, hv⟩ : ∃ v, wrong n A P = v := ⟨_, rfl⟩
    have z : (v != 0) = true := by rw [← hv]; simpa using hw
    have HV := Lib.hid hv
    clear hv hw
    go_enter Try.func4, Try.ntmps4
    go_wp2_with (first
      | (go_at_call 7; with_reducible refine (alive_any _).mono ?_; rintro e w1 ⟨rfl, hb1⟩; have ha1 := h.below hb1)
      | (go_at_call 9; with_reducible refine (wrong_is cap _ ha1 HV.out).mono ?_; rintro e w2 ⟨rfl, hb2⟩))
    go_ret
    exact ⟨rfl, below_then hb2 hb1⟩

end Go.Proofs.Ytinpnjiinadaeaa.Cl
