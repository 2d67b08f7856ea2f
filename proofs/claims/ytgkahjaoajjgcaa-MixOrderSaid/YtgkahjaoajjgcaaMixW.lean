/-
  THE WALK of mix.Sum.
-/
import Derived.Test.YtgkahjaoajjgcaaMixV
import Derived.LoopTactic
namespace Go.Proofs.Ytgkahjaoajjgcaa.Mx
open Go.RowKit

set_option maxHeartbeats 1000000 in
theorem within_any (n m : Int) (w : World) (hm : 0 ≤ m ∧ m ≤ 1000000000) :
    Calls Try.prog 15 #[.int .i64 n, .int .i64 m] w fun e w' => e = .returned (.bool (decide (-m ≤ n ∧ n ≤ m))) ∧ w = w' := by
  by_cases h1 : -m ≤ n
  all_goals
    have e1 : decide (-m ≤ n) = decide (-m ≤ n) := rfl
    by_cases h2 : n ≤ m
    all_goals
      go_enter Try.func15, Try.ntmps15
      go_wp2
      go_ret
      exact ⟨ret_bool (by simp [h1, h2]), rfl⟩

theorem Try.infoInt : (Try.prog.info? 3).map (fun i => (i.zero, i.size, i.bytes)) = some (some (.int .i64 0), 1, 8) := by kernel_rfl
def SumPost (w : World) (T : List Row) (G : List Int) (e : Ending) (w' : World) : Prop :=
  Below w.heap.size w w' ∧ ((Good T G ∧ ∃ p cap, e = .returned (.tuple #[.slice p (sums T G).length cap, .int .i64 0]) ∧ Cells w' p (sums T G)) ∨
    (¬ Good T G ∧ ∃ c : Int, c ≠ 0 ∧ e = .returned (.tuple #[.slice none 0 0, .int .i64 c])))

set_option maxHeartbeats 4000000 in
theorem sum_any (P gp : Option Addr) (T : List Row) (G : List Int) (cap gcap : Nat) (w : World) (hT : Rows w P T) (hG : Cells w gp G) (hTl : T.length ≤ 9223372036854775807) (hGl : G.length ≤ 9223372036854775807) :
    Calls Try.prog 8 #[.slice P T.length cap, .slice gp G.length gcap] w (SumPost w T G) := by
  by_cases h1 : T.length ≤ 256
  · by_cases h2 : G.length = T.length
    · rw [h2]
      have e1 : (T.length : Int) ≤ 256 := by omega
      obtain ⟨i0, hin, hz0, hz1, hz2⟩ := info_parts Try.infoInt
      go_enter Try.func8, Try.ntmps8
      go_wp2
      go_loopw [6, 26] (fun v6 v26 wr => ∃ (i : Nat), v6 = .int .i64 ((long T i : Nat) : Int) ∧ v26 = .int .i64 (i : Int) ∧ i ≤ T.length ∧ (∀ j, j < i → LoudOk (X G j) ∧ RowGood (Y T j).l) ∧ Below w.heap.size w wr) (fun _ v26 _ => T.length - (intOf v26).toNat)
      case atStart => exact ⟨0, rfl, rfl, by omega, fun j hj => absurd hj (by omega), Below.refl _ _⟩
      case round =>
        obtain ⟨i, rfl, rfl, hi, hgd, hbr⟩ := hrel
        by_cases hlt : i < T.length
        · obtain ⟨b, off, rfl, hc⟩ := (hT.below hbr).at' (by omega)
          obtain ⟨gb, go, rfl, hgc⟩ := (hG.below hbr) (by omega)
          have c1 := hc i hlt
          have c2 := hgc i (by omega)
          have hr := (hT.ok i).below hbr
          obtain ⟨rp, hrp⟩ : ∃ r, Y T i = r := ⟨_, rfl⟩
          have e2 : (i : Int) < T.length := by omega
          rw [hrp] at c1 hr
          obtain ⟨q, l, c⟩ := rp
          have hl := hr.cells
          have hlc := hr.cap
          have hle := hr.le
          simp only at hl hlc hle
          simp only [Row.val] at c1
          clear hc hgc hr
          by_cases hg : -1048576 ≤ X G i ∧ X G i ≤ 1048576
          · have hg1 : decide (-1048576 ≤ X G i ∧ X G i ≤ 1048576) = true := by simp [hg]
            go_wp2_with (go_at_call 15; (with_reducible refine (within_any _ _ _ (by decide)).mono ?_); rintro e w1 ⟨rfl, rfl⟩)
            obtain ⟨wo, rfl⟩ : ∃ wo : World, wo = wr := ⟨_, rfl⟩
            go_loopw [39] (fun v39 wq => ∃ (k : Nat), v39 = .int .i64 (k : Int) ∧ k ≤ l.length ∧ (∀ j, j < k → SampOk (X l j)) ∧ Below wo.heap.size wo wq) (fun v39 _ => l.length - (intOf v39).toNat)
            case atStart => exact ⟨0, rfl, by omega, fun j hj => absurd hj (by omega), Below.refl _ _⟩
            case round =>
              obtain ⟨k, rfl, hk, hsm, hbq⟩ := hrel
              by_cases hkl : k < l.length
              · obtain ⟨b2, off2, rfl, hc2⟩ := (hl.below hbq) (by omega)
                have c3 := hc2 k hkl
                have e3 : (k : Int) < l.length := by omega
                clear hc2
                by_cases hx : -16777216 ≤ X l k ∧ X l k ≤ 16777216
                · have hx1 : decide (-16777216 ≤ X l k ∧ X l k ≤ 16777216) = true := by simp [hx]
                  go_wp2_with (go_at_call 15; (with_reducible refine (within_any _ _ _ (by decide)).mono ?_); rintro e w1 ⟨rfl, rfl⟩)
                  go_roundw
                  case rel => exact ⟨k + 1, by go_num, by omega, fun j hj => by
                    by_cases e : j = k
                    · subst e; exact hx
                    · exact hsm j (by omega), hbq⟩
                  case measure => simp [intOf]; omega
                · have hx1 : decide (-16777216 ≤ X l k ∧ X l k ≤ 16777216) = false := by simp [hx]
                  go_wp2_with (go_at_call 15; (with_reducible refine (within_any _ _ _ (by decide)).mono ?_); rintro e w1 ⟨rfl, rfl⟩)
                  go_ret2
                  exact ⟨below_then hbq hbr, .inr ⟨fun h => hx (by have := (h.all i hlt).2 k; rw [hrp] at this; exact this hkl), 3, by decide, rfl⟩⟩
              · have e3 : ¬ (k : Int) < l.length := by omega
                obtain rfl : k = l.length := by omega
                have hlo := long_bd (fun i => by have := (hT.ok i).sz; omega) (M := 17592186043904) i (T := T)
                go_wp2
                go_roundw
                case rel => exact ⟨i + 1, by rw [long, hrp]; go_num, by go_num, by omega, fun j hj => by
                    by_cases e : j = i
                    · subst e; rw [hrp]; exact ⟨hg, hsm⟩
                    · exact hgd j (by omega), below_then hbq hbr⟩
                case measure => simp [intOf]; omega
          · have hg1 : decide (-1048576 ≤ X G i ∧ X G i ≤ 1048576) = false := by simp [hg]
            go_wp2_with (go_at_call 15; (with_reducible refine (within_any _ _ _ (by decide)).mono ?_); rintro e w1 ⟨rfl, rfl⟩)
            go_ret2
            exact ⟨hbr, .inr ⟨fun h => hg (h.all i hlt).1, 3, by decide, rfl⟩⟩
        · have e2 : ¬ (i : Int) < T.length := by omega
          obtain rfl : i = T.length := by omega
          have hGood : Good T G := ⟨h1, h2, hgd⟩
          have hN : long T T.length ≤ 17592186043904 := long_bd (fun i => by have := (hT.ok i).sz; omega) _
          have hHG := Lib.hid hGood
          clear hGood h2
          go_wp2_with (refine wpList_make_row _ rfl _ _ 23 rfl 3 i0 (.int .i64 0) Try.underlying23 hin hz0 hz1 rfl .i64 .i64 (long T T.length) rfl rfl (by rw [hz2]; omega) (by omega) ?_)
          obtain ⟨w9, rfl⟩ : ∃ w9 : World, w9 = wr := ⟨_, rfl⟩
          have hO := Out.made w9 (long T T.length)
          have hB0 : Below w.heap.size w (w9.alloc (.cells (madeCells #[.int .i64 0] (long T T.length)) 3)) := below_new hbr _
          generalize hV : w9.alloc (.cells (madeCells #[.int .i64 0] (long T T.length)) 3) = V at *
          clear hV
          have hg9 := hbr.size
          go_loopw [56] (fun v56 wx => ∃ (i : Nat), v56 = .int .i64 (i : Int) ∧ i ≤ T.length ∧ Out wx w9.heap.size (long T T.length) (part T G i) ∧ Below w.heap.size w wx) (fun v56 _ => T.length - (intOf v56).toNat)
          case atStart => exact ⟨0, rfl, by omega, hO, hB0⟩
          case round =>
            obtain ⟨i, rfl, hi, hout, hbx⟩ := hrel
            by_cases hlt : i < T.length
            · obtain ⟨b, off, rfl, hc⟩ := (hT.below hbx).at' (by omega)
              have c1 := hc i hlt
              have hr := (hT.ok i)
              have hll := long_le (T := T) hlt
              have hpr := prod_bd (hHG.out.all i hlt)
              have hpt := fun k => part_bd hHG.out k (j := i) (by omega)
              obtain ⟨rp, hrp⟩ : ∃ r, Y T i = r := ⟨_, rfl⟩
              have e2 : (i : Int) < T.length := by omega
              rw [hrp] at c1 hr hll hpr
              obtain ⟨q, l, c⟩ := rp
              have hl := hr.cells
              have hlc := hr.cap
              have hle := hr.le
              simp only at hl hlc hle hll hpr
              simp only [Row.val] at c1
              clear hc hr
              go_wp2
              obtain ⟨wo, rfl⟩ : ∃ wo : World, wo = wr := ⟨_, rfl⟩
              go_loopw [63] (fun v63 wq => ∃ (k : Nat), v63 = .int .i64 (k : Int) ∧ k ≤ l.length ∧ Out wq w9.heap.size (long T T.length) (fun t => if t < k then part T G (i + 1) t else part T G i t) ∧ Below w.heap.size w wq) (fun v63 _ => l.length - (intOf v63).toNat)
              case atStart => exact ⟨0, rfl, by omega, hout, hbx⟩
              case round =>
                obtain ⟨k, rfl, hk, hok, hbq⟩ := hrel
                by_cases hkl : k < l.length
                · obtain ⟨b2, off2, rfl, hc2⟩ := (hl.below hbq) (by omega)
                  have hgl := Lib.hid hHG.out.g
                  obtain ⟨gb, go, rfl, hgc⟩ := (hG.below hbq) (by have := hgl.out; omega)
                  have c3 := hc2 k hkl
                  have c2 := hgc i (by have := hgl.out; omega)
                  have e3 : (k : Int) < l.length := by omega
                  have hkN : k < long T T.length := by omega
                  have e4 : (k : Int) < (long T T.length : Nat) := by omega
                  have e5 : (i : Int) < G.length := by have := hgl.out; omega
                  have c4 := hok.cell hkN
                  simp only [Nat.lt_irrefl, if_false] at c4
                  have f4 := hok.free k
                  have z4 := hok.lt
                  have b1 := hpr k
                  have b2' := hpt k
                  clear hc2 hgc
                  go_wp2
                  have hE := Ext.cells wr
                  have z5 := World.block_lt_of_cell? wr _ c3
                  have z6 := World.block_lt_of_cell? wr _ c2
                  simp only at z5 z6
                  refine wp_region_ext_tail 12 (by kernel_rfl) (by kernel_rfl) ?_
                  simp only [List.take_succ_cons, List.take_zero, List.drop_succ_cons, List.drop_zero]
                  repeat go_big_quiet_step ((fail))
                  refine wpQuiet_nil ?_
                  rintro wd ⟨⟨_, hbd⟩, rfl⟩
                  have q1 := cell_then c4 hbd
                  have q2 := (hbd.frozen (p := ⟨w9.heap.size, k, none⟩) z4).trans f4
                  have q3 := hok.below hbd
                  clear hE
                  go_wp2
                  go_roundw
                  case rel => exact ⟨k + 1, by go_num, by omega, (q3.set k _).congr (fun t ht => by
                    by_cases e : t = k
                    · subst e
                      rw [if_pos rfl, if_pos (by omega), part, hrp]
                    · by_cases e' : t < k
                      · simp only [if_neg e, if_pos e', if_pos (show t < k + 1 by omega)]
                      · simp only [if_neg e, if_neg e', if_neg (show ¬ t < k + 1 by omega)]), (below_then hbd hbq).setCell (p := ⟨w9.heap.size, k, none⟩) hg9 _⟩
                  case measure => simp [intOf]; omega
                · have e3 : ¬ (k : Int) < l.length := by omega
                  obtain rfl : k = l.length := by omega
                  go_wp2
                  go_roundw
                  case rel => exact ⟨i + 1, by go_num, by omega, hok.congr (fun t ht => by
                    by_cases e : t < l.length
                    · rw [if_pos e]
                    · have hz : X l t = 0 := X_past (by omega)
                      simp only [if_neg e, part, hrp, hz, Int.mul_zero, Int.add_zero]), hbq⟩
                  case measure => simp [intOf]; omega
            · have e2 : ¬ (i : Int) < T.length := by omega
              obtain rfl : i = T.length := by omega
              go_wp2
              go_ret2
              exact ⟨hbx, .inl ⟨hHG.out, some ⟨w9.heap.size, 0, none⟩, long T T.length, by rw [sums_length]; rfl, hout.list (sums_length T G) (fun k hk => (sums_X hk).symm)⟩⟩
    · have e1 : (T.length : Int) ≤ 256 := by omega
      have e2 : ¬ (G.length : Int) = T.length := by omega
      go_enter Try.func8, Try.ntmps8
      go_wp2
      go_ret2
      exact ⟨Below.refl _ _, .inr ⟨fun h => h2 h.g, 8, by decide, rfl⟩⟩
  · have e1 : ¬ (T.length : Int) ≤ 256 := by omega
    go_enter Try.func8, Try.ntmps8
    go_wp2
    go_ret2
    exact ⟨Below.refl _ _, .inr ⟨fun h => h1 h.n, 5, by decide, rfl⟩⟩
end Go.Proofs.Ytgkahjaoajjgcaa.Mx
