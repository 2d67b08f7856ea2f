/-
  THE WALKS of the reference's Same and of the law's alive.
-/
import Derived.Test.YtgkahjaoajjgcaaMixW
namespace Go.Proofs.Ytgkahjaoajjgcaa.Mx
open Go.RowKit

theorem X_eq {l m : List Int} (h : l.length = m.length) (e : ∀ i, i < l.length → X l i = X m i) : l = m := by
  apply List.ext_getElem h
  intro i h1 h2
  have := e i h1
  unfold X at this
  simpa [List.getD_eq_getElem?_getD, h1, h2] using this

set_option maxHeartbeats 2000000 in
theorem same_any (p q : Option Addr) (l m : List Int) (cp cq : Nat) (w : World) (hl : Cells w p l) (hm : Cells w q m) (hll : l.length ≤ 9223372036854775807) :
    Calls Try.prog 9 #[.slice p l.length cp, .slice q m.length cq] w fun e w' => e = .returned (.bool (decide (l = m))) ∧ Below w.heap.size w w' := by
  by_cases hn : l.length = m.length
  · have HD := Lib.hid (show (∀ i, i < l.length → X l i = X m i) → decide (l = m) = true from fun h => by simp [X_eq hn h])
    have HF := Lib.hid (show ∀ i, X l i ≠ X m i → decide (l = m) = false from fun i h => by
      have : l ≠ m := fun e => h (by rw [e])
      simp [this])
    rw [show m.length = l.length from hn.symm]
    have hn' := Lib.hid hn
    clear hn
    go_enter Try.func9, Try.ntmps9
    go_wp2
    go_loopw [13] (fun v13 wr => ∃ (k : Nat), v13 = .int .i64 (k : Int) ∧ k ≤ l.length ∧ (∀ i, i < k → X l i = X m i) ∧ Below w.heap.size w wr) (fun v13 _ => l.length - (intOf v13).toNat)
    case atStart => exact ⟨0, rfl, by omega, fun i hi => absurd hi (by omega), Below.refl _ _⟩
    case round =>
      obtain ⟨k, rfl, hk, heq, hbr⟩ := hrel
      by_cases hkl : k < l.length
      · obtain ⟨b, off, rfl, hc⟩ := (hl.below hbr) (by omega)
        obtain ⟨b2, off2, rfl, hc2⟩ := (hm.below hbr) (by have := hn'.out; omega)
        have c1 := hc k hkl
        have c2 := hc2 k (by have := hn'.out; omega)
        have e1 : (k : Int) < l.length := by omega
        have z1 := World.block_lt_of_cell? wr _ c1
        have z2 := World.block_lt_of_cell? wr _ c2
        simp only at z1 z2
        clear hc hc2
        by_cases hx : X l k = X m k
        · go_wp2
          have hE := Ext.cells wr
          refine wp_region_ext (by kernel_rfl) (by kernel_rfl) ?_
          repeat go_big_quiet_step ((fail))
          refine wpQuiet_nil ?_
          rintro wd ⟨⟨_, hbd⟩, rfl⟩
          clear hE
          go_wp2
          go_roundw
          case rel => exact ⟨k + 1, by go_num, by omega, fun i hi => by
            by_cases e : i = k
            · subst e; exact hx
            · exact heq i (by omega), below_then hbd hbr⟩
          case measure => simp [intOf]; omega
        · go_wp2
          have hE := Ext.cells wr
          refine wp_region_ext (by kernel_rfl) (by kernel_rfl) ?_
          repeat go_big_quiet_step ((fail))
          refine wpQuiet_nil ?_
          rintro wd ⟨⟨_, hbd⟩, rfl⟩
          clear hE
          go_wp2
          go_ret
          exact ⟨ret_bool (HF.out k hx).symm, below_then hbd hbr⟩
      · have e1 : ¬ (k : Int) < l.length := by omega
        obtain rfl : k = l.length := by omega
        go_wp2
        go_ret
        exact ⟨ret_bool (HD.out heq).symm, hbr⟩
  · have hne : ¬ (l.length : Int) = m.length := by omega
    have HF : decide (l = m) = false := by
      have : l ≠ m := fun e => hn (by rw [e])
      simp [this]
    go_enter Try.func9, Try.ntmps9
    go_wp2
    go_ret
    exact ⟨ret_bool HF.symm, Below.refl _ _⟩

def oneT (b : Nat) : List Row := [⟨some ⟨b, 0, none⟩, [3], 1⟩]
theorem one_good (b : Nat) : Good (oneT b) [5] := ⟨by simp [oneT], rfl, fun i hi => by
  obtain rfl : i = 0 := by simp [oneT] at hi; exact hi
  refine ⟨by simp [X, LoudOk], fun k hk => ?_⟩
  obtain rfl : k = 0 := by simp [oneT, Y] at hk; exact hk
  simp [oneT, Y, X, SampOk]⟩
theorem one_sums (b : Nat) : sums (oneT b) [5] = [15] := rfl
theorem sum_one (b gb ab : Nat) (w : World) (h1 : w.cell? ⟨b, 0, none⟩ = some (.int .i64 3)) (h2 : w.cell? ⟨ab, 0, none⟩ = some (.slice (some ⟨b, 0, none⟩) 1 1)) (h3 : w.cell? ⟨gb, 0, none⟩ = some (.int .i64 5)) :
    Calls Try.prog 8 #[.slice (some ⟨ab, 0, none⟩) 1 1, .slice (some ⟨gb, 0, none⟩) 1 1] w fun e w' => Below w.heap.size w w' ∧ ∃ g o cap, e = .returned (.tuple #[.slice (some ⟨g, o, none⟩) 1 cap, .int .i64 0]) ∧ w'.cell? ⟨g, o, none⟩ = some (.int .i64 15) := by
  have hrow : (Y (oneT b) 0).Ok w := ⟨by simp [oneT, Y], by simp [oneT, Y], by simp [oneT, Y], fun _ => ⟨b, 0, rfl, fun i hi => by
    obtain rfl : i = 0 := by simp [oneT, Y] at hi; exact hi
    exact h1⟩⟩
  have hT : Rows w (some ⟨ab, 0, none⟩) (oneT b) := ⟨fun _ => ⟨ab, 0, rfl, fun i hi => by
    obtain rfl : i = 0 := by simp [oneT] at hi; exact hi
    exact h2⟩, fun i => by
    by_cases hi : i = 0
    · subst hi; exact hrow
    · rw [Y_past (by simp [oneT]; omega)]; exact R0_ok w⟩
  have hG : Cells w (some ⟨gb, 0, none⟩) [5] := fun _ => ⟨gb, 0, rfl, fun i hi => by
    obtain rfl : i = 0 := by simp at hi; exact hi
    exact h3⟩
  refine (sum_any _ _ (oneT b) [5] 1 1 w hT hG (by simp [oneT]) (by decide)).mono ?_
  rintro e w' ⟨hb, ⟨_, p, cap, rfl, hc⟩ | ⟨hg, _⟩⟩
  · rw [one_sums] at hc
    obtain ⟨g, o, rfl, hcc⟩ := hc (by simp)
    exact ⟨hb, g, o, cap, rfl, hcc 0 (by simp)⟩
  · exact absurd (one_good b) hg

theorem alloc_same (w : World) (x : Value) (t : TypeId) : (w.alloc (.cells #[x] t)).cell? ⟨w.heap.size, 0, none⟩ = some x := by
  have h : (w.alloc (.cells #[x] t)).heap[w.heap.size]? = some (.cells #[x] t (0, 0)) := by show (w.heap.push _)[w.heap.size]? = _; simp
  simp only [World.cell?, h]
  rfl
theorem alloc_old {w : World} {b i : Nat} {x : Value} (o : Obj) (h : w.cell? ⟨b, i, none⟩ = some x) : (w.alloc o).cell? ⟨b, i, none⟩ = some x :=
  cell_then h (below_new (Below.refl _ _) o)
theorem alloc_size (w : World) (o : Obj) : (w.alloc o).heap.size = w.heap.size + 1 := by show (w.heap.push _).size = _; simp
set_option maxHeartbeats 2000000 in
theorem alive_any (w : World) : Calls Try.prog 7 #[] w fun e w' => e = .returned (.bool true) ∧ Below w.heap.size w w' := by
  go_enter Try.func7, Try.ntmps7
  go_wp2_with (go_at_call 8; (with_reducible refine (sum_one w.heap.size (w.heap.size + 2) (w.heap.size + 1) _ (alloc_old _ (alloc_old _ (alloc_same _ _ _))) ?_ ?_).mono ?_); rotate_left 2; rintro e w1 ⟨hb, g, o, cap, rfl, hc⟩)
  go_ret
  exact ⟨rfl, below_then hb (below_new (below_new (below_new (Below.refl _ _) _) _) _)⟩
  · exact alloc_old _ (by have h := alloc_same (w.alloc (.cells #[.int .i64 3] 3)) (.slice (some ⟨w.heap.size, 0, none⟩) 1 1) 23; rw [alloc_size] at h; exact h)
  · have h := alloc_same ((w.alloc (.cells #[.int .i64 3] 3)).alloc (.cells #[.slice (some ⟨w.heap.size, 0, none⟩) 1 1] 23)) (.int .i64 5) 3
    rw [alloc_size, alloc_size] at h
    exact h
end Go.Proofs.Ytgkahjaoajjgcaa.Mx
