/-
  THE WALKS of the codec: guess, folded, misses.
-/
import Derived.Test.YtfoiadlaekknpaaWriterW
namespace Go.Proofs.Ytfoiadlaekknpaa.Co
open Go.RowKit

/-- Whole numbers in memory. -/
def Cells (w : World) (p : Option Addr) (l : List Int) : Prop := 0 < l.length → ∃ b o, p = some ⟨b, o, none⟩ ∧ ∀ i, i < l.length → w.cell? ⟨b, o + i, none⟩ = some (.int .i64 (X l i))
theorem Cells.below {w w' : World} {p : Option Addr} {l : List Int} (h : Cells w p l) (hb : Below w.heap.size w w') : Cells w' p l := fun hn => by
  obtain ⟨b, o, hp, hc⟩ := h hn
  exact ⟨b, o, hp, fun i hi => cell_then (hc i hi) hb⟩
theorem Cells.drewN {w : World} {p : Option Addr} {l : List Int} (h : Cells w p l) (n : Nat) : Cells (w.drewN n) p l := h.below (below_drewN (Below.refl _ _) n)
def I64 (n : Int) : Prop := -9223372036854775808 ≤ n ∧ n ≤ 9223372036854775807

set_option maxHeartbeats 2000000 in
theorem guess_any (p : Option Addr) (l : List Int) (cap i o : Nat) (w : World) (h : Cells w p l) (hl : l.length ≤ 9223372036854775807) (hi : i ≤ l.length) (ho : o ≤ i) (ho3 : o ≤ 3) (hs : Small l) :
    Calls Try.prog 37 #[.slice p l.length cap, .int .i64 i, .int .i64 o] w fun e w' => e = .returned (.int .i64 (guess l i o)) ∧ ∃ n, w' = w.drewN n := by
  have h4 : o = 0 ∨ o = 1 ∨ o = 2 ∨ o = 3 := by omega
  rcases h4 with rfl | rfl | rfl | rfl
  · have HG := Lib.hid (show (0 : Int) = guess l i 0 by simp [guess])
    go_enter Try.func37, Try.ntmps37
    go_wp2
    go_ret
    exact ⟨ret_int HG.out, 0, rfl⟩
  all_goals
    obtain ⟨b, off, rfl, hc⟩ := h (by omega)
    have hil : (i : Int) ≤ l.length := by omega
    have x1 := X_bd hs (i - 1)
    have c1 := hc (i - 1) (by omega)
    have e1 : (0 : Int) ≤ (i : Int) - 1 := by omega
    have e2 : (i : Int) - 1 < l.length := by omega
    have e3 : ((i : Int) - 1).toNat = i - 1 := by omega
  · have HG := Lib.hid (show X l (i - 1) = guess l i 1 by simp [guess])
    clear hc
    go_enter Try.func37, Try.ntmps37
    go_wp2
    go_ret
    exact ⟨ret_int HG.out, 0, rfl⟩
  · have HG := Lib.hid (show 2 * X l (i - 1) - X l (i - 2) = guess l i 2 by simp [guess])
    have x2 := X_bd hs (i - 2)
    have c2 := hc (i - 2) (by omega)
    have f1 : (0 : Int) ≤ (i : Int) - 2 := by omega
    have f2 : (i : Int) - 2 < l.length := by omega
    have f3 : ((i : Int) - 2).toNat = i - 2 := by omega
    clear hc
    go_enter Try.func37, Try.ntmps37
    go_wp2
    go_quiet (fail)
    go_wp2
    go_ret
    exact ⟨ret_int HG.out, _, rfl⟩
  · have HG := Lib.hid (show 3 * X l (i - 1) - 3 * X l (i - 2) + X l (i - 3) = guess l i 3 by simp [guess])
    have x2 := X_bd hs (i - 2)
    have c2 := hc (i - 2) (by omega)
    have f1 : (0 : Int) ≤ (i : Int) - 2 := by omega
    have f2 : (i : Int) - 2 < l.length := by omega
    have f3 : ((i : Int) - 2).toNat = i - 2 := by omega
    have x3 := X_bd hs (i - 3)
    have c3 := hc (i - 3) (by omega)
    have g1 : (0 : Int) ≤ (i : Int) - 3 := by omega
    have g2 : (i : Int) - 3 < l.length := by omega
    have g3 : ((i : Int) - 3).toNat = i - 3 := by omega
    clear hc
    go_enter Try.func37, Try.ntmps37
    go_wp2
    go_quiet (fail)
    go_wp2
    go_ret
    exact ⟨ret_int HG.out, _, rfl⟩

set_option maxHeartbeats 1000000 in
theorem folded_any (n : Int) (w : World) (hn : -1000000000 ≤ n ∧ n ≤ 1000000000) :
    Calls Try.prog 40 #[.int .i64 n] w fun e w' => e = .returned (.int .i64 (fold n)) ∧ w = w' := by
  by_cases h : n < 0
  all_goals
    have HF := Lib.hid (show fold n = if n < 0 then -2 * n - 1 else 2 * n from rfl)
    go_enter Try.func40, Try.ntmps40
    go_wp2
    go_ret
    refine ⟨ret_int ?_, rfl⟩
    rw [HF.out]
    first | rw [if_pos h] | rw [if_neg (by omega)]

def missV (l : List Int) (o j : Nat) : List Value := [.int .i64 (miss l o (o + j))]
theorem missV_len (l : List Int) (o j : Nat) : (missV l o j).length = 1 := rfl
theorem Try.infoInt : (Try.prog.info? 3).map (fun i => (i.zero, i.size, i.bytes)) = some (some (.int .i64 0), 1, 8) := by kernel_rfl
def MissPost (w : World) (l : List Int) (o : Nat) (e : Ending) (w' : World) : Prop :=
  ∃ v, e = .returned v ∧ w'.ownsRow w.heap.size 3 1 v (l.length - o) (rowsOf (missV l o) (l.length - o)) ∧ Below w.heap.size w w'

set_option maxHeartbeats 4000000 in
theorem misses_any (p : Option Addr) (l : List Int) (cap o : Nat) (w : World) (h : Cells w p l) (hl : l.length ≤ 2000000) (ho3 : o ≤ 3) (hs : Small l) :
    Calls Try.prog 30 #[.slice p l.length cap, .int .i64 o] w (MissPost w l o) := by
  obtain ⟨i0, hi, hz0, hz1, hz2⟩ := info_parts Try.infoInt
  go_enter Try.func30, Try.ntmps30
  go_wp2
  go_loopw [5, 6] (fun v5 v6 wr => ∃ (j : Nat), v6 = .int .i64 ((o + j : Nat) : Int) ∧ (j = 0 ∨ o + j ≤ l.length) ∧ wr.ownsRow w.heap.size 3 1 v5 j (rowsOf (missV l o) j) ∧ Below w.heap.size w wr) (fun _ v6 _ => l.length - (intOf v6).toNat)
  case atStart => exact ⟨0, rfl, .inl rfl, World.ownsRow_nil _ _ _ _, Below.refl _ _⟩
  case round =>
    obtain ⟨j, rfl, hj, hown, hbr⟩ := hrel
    have hcr := h.below hbr
    by_cases hlt : o + j < l.length
    · obtain ⟨b, off, rfl, hc⟩ := hcr (by omega)
      have c1 := hc (o + j) hlt
      have x1 := X_bd hs (o + j)
      have y1 := guess_bd hs (o + j) o
      have e1 : (o : Int) + (j : Int) < l.length := by omega
      have e2 : ((o + j : Nat) : Int) < l.length := by omega
      have hgc : ∀ n, Cells (wr.drewN n) (some ⟨b, off, none⟩) l := fun n => hcr.drewN n
      have HM := Lib.hid (show fold (X l (o + j) - guess l (o + j) o) = miss l o (o + j) from rfl)
      have y2 : -1000000000 ≤ X l (o + j) - guess l (o + j) o ∧ X l (o + j) - guess l (o + j) o ≤ 1000000000 := by omega
      clear hc
      go_wp2
      refine wp_region_loose_tail [(0, 11)] (fun w' => ∃ n, w' = wr.drewN n) 11 (by kernel_rfl) (by kernel_rfl) (by kernel_rfl) ⟨1, rfl⟩ ?_
      simp only [List.take_succ_cons, List.take_zero, List.drop_succ_cons, List.drop_zero]
      repeat go_big_quiet_step ((first
        | (go_at_call 37; exact Calls.quiet_of (guess_any _ l cap (o + j) o _ (hgc _) (by omega) (by omega) (by omega) ho3 hs))
        | (go_at_call 40; exact quiet_left (folded_any _ _ y2))))
      refine wpQuiet_nil ?_
      rintro wd ⟨nq, rfl⟩
      have hmv : missV l o j = [.int .i64 (fold (X l (o + j) - guess l (o + j) o))] := rfl
      go_wp2_with (at_builtin; (refine wpList_append_own _ rfl _ _ 22 rfl w.heap.size 3 i0 _ 1 8 Try.underlying22 hi hz0 hz1 hz2 rfl (by decide) _ _ _ rfl (own_below hown ?_) ⟨wr.heap.size, 0, none⟩ 1 1 [.int .i64 (fold (X l (o + j) - guess l (o + j) o))] rfl rfl ?_ ?_ ?_ ?_ ?_ ?_; exact (by repeat (first | exact Below.refl _ _ | assumption | refine below_drewN ?_ _ | refine Below.drew ?_ | refine below_new ?_ _ | refine Below.setCell ?_ (by first | omega | (simp <;> omega)) _ | refine below_then (by assumption) ?_)); exact news_cells (by simp); simp [Value.oneCell']; (unfold maxLen; omega); omega; (have h2 := hbr.size; (try simp); omega); intro v9 wa hown1 hgrow _))
      refine ⟨rfl, ?_⟩
      go_wp2
      go_roundw
      case rel => exact ⟨j + 1, (by congr 1 <;> omega), .inr (by omega), (by rw [rowsOf, hmv]; exact hown1), below_app hbr hown hgrow (Nat.le_refl _) (by repeat (first | exact Below.refl _ _ | assumption | refine below_drewN ?_ _ | refine Below.drew ?_ | refine below_new ?_ _ | refine Below.setCell ?_ (by first | omega | (simp <;> omega)) _ | refine below_then (by assumption) ?_))⟩
      case measure => simp [intOf]; omega
    · have e1 : ¬ (o : Int) + (j : Int) < l.length := by omega
      have hjj : j = l.length - o := by omega
      have HJ := Lib.hid hjj
      clear hjj
      go_wp2
      go_ret
      exact ⟨_, rfl, HJ.out ▸ hown, hbr⟩
end Go.Proofs.Ytfoiadlaekknpaa.Co
