/-
  THE WALKS of clock: rest, twice, Wrong, Twice.
-/
import Derived.Test.YtinpnjiinadaeaaKit
import Derived.Test.YtinpnjiinadaeaaTail
import Derived.Test.YtinpnjiinadaeaaClock
import Derived.LoopTactic
namespace Go.Proofs.Ytinpnjiinadaeaa.Cl
open Go.RowKit

def I64 (n : Int) : Prop := -9223372036854775808 ≤ n ∧ n ≤ 9223372036854775807

theorem prod_hi {a b A B : Int} (ha : 0 ≤ a ∧ a ≤ A) (hb : 0 ≤ b ∧ b ≤ B) : 0 ≤ a * b ∧ a * b ≤ A * B :=
  ⟨Int.mul_nonneg ha.1 hb.1, Int.mul_le_mul ha.2 hb.2 hb.1 (Int.le_trans ha.1 ha.2)⟩
theorem ediv_hi {a k A : Int} (ha : 0 ≤ a ∧ a ≤ A) (hk : 1 ≤ k) : 0 ≤ a / k ∧ a / k ≤ A :=
  ⟨Int.ediv_nonneg ha.1 (by omega), Int.le_trans (Int.ediv_le_self _ ha.1) ha.2⟩
theorem up_eq {p d x L : Int} (hL : 1 ≤ L) : 2 * p * x + d * x * x / L = (2 * p * x * L + d * x * x) / L := by
  rw [Int.add_comm (2 * p * x * L), Int.add_mul_ediv_right _ _ (by omega), Int.add_comm]
theorem down_eq {p d x L : Int} (hL : 1 ≤ L) : 2 * p * x - (d * x * x + L - 1) / L = (2 * p * x * L + (-d) * x * x) / L := by
  have e : (-d) * x * x = -(d * x * x) := by grind
  rw [e, Int.add_comm (2 * p * x * L), Int.add_mul_ediv_right _ _ (by omega)]
  have h1 := Int.ediv_mul_le (d * x * x + L - 1) (b := L) (by omega)
  have h2 := Int.lt_ediv_add_one_mul_self (d * x * x + L - 1) (b := L) (by omega)
  have h : (-(d * x * x)) / L = -((d * x * x + L - 1) / L) := by
    generalize d * x * x = D at *
    generalize hq : (D + L - 1) / L = q at *
    have e1 : (q + 1) * L = q * L + L := by rw [Int.add_mul, Int.one_mul]
    apply Int.le_antisymm
    · have : -D < (-q + 1) * L := by rw [Int.add_mul, Int.neg_mul, Int.one_mul]; omega
      have := Int.ediv_lt_of_lt_mul (by omega) this
      omega
    · rw [Int.le_ediv_iff_mul_le (by omega), Int.neg_mul]; omega
  rw [h]; omega

set_option maxHeartbeats 1000000 in
theorem rest_flat (t p x : Int) (r : Bool) (nx : Option Addr) (w : World) (hp : 1 ≤ p ∧ p ≤ 65536) (hx : 0 ≤ x ∧ x ≤ 1048576) (h : r = false ∨ r = true ∧ nx = none) :
    Calls Try.prog 22 #[.agg #[.int .i64 t, .int .i64 p, .bool r], .pointer nx, .int .i64 x] w fun e w' => e = .returned (.int .i64 (2 * p * x)) ∧ Below w.heap.size w w' := by
  have h1 := prod_hi (a := 2 * p) (b := x) (A := 131072) (B := 1048576) (by omega) hx
  rcases h with rfl | ⟨rfl, rfl⟩
  all_goals
    go_enter Try.func22, Try.ntmps22
    go_wp2
    go_ret
    exact ⟨rfl, (by repeat (first | exact Below.refl _ _ | assumption | refine below_drewN ?_ _ | refine Below.drew ?_ | refine below_new ?_ _ | refine Below.setCell ?_ (by first | omega | (simp <;> omega)) _ | refine below_then (by assumption) ?_))⟩

set_option maxHeartbeats 2000000 in
theorem rest_up (t p t' p' x : Int) (b o : Nat) (w : World) (hp : 1 ≤ p ∧ p ≤ 65536) (hp' : 1 ≤ p' ∧ p' ≤ 65536) (hx : 0 ≤ x ∧ x ≤ 1048576) (hL : 1 ≤ t' - t) (ht : 0 ≤ t ∧ t ≤ 1048576) (ht' : 0 ≤ t' ∧ t' ≤ 1048576)
    (hd : 0 ≤ p' - p) (c0 : w.cell? ⟨b, o, none⟩ = some (.int .i64 t')) (c1 : w.cell? ⟨b, o + 1, none⟩ = some (.int .i64 p')) :
    Calls Try.prog 22 #[.agg #[.int .i64 t, .int .i64 p, .bool true], .pointer (some ⟨b, o, none⟩), .int .i64 x] w fun e w' =>
      e = .returned (.int .i64 ((2 * p * x * (t' - t) + (p' - p) * x * x) / (t' - t))) ∧ Below w.heap.size w w' := by
  have hb : b < w.heap.size := World.block_lt_of_cell? w _ c0
  have h1 := prod_hi (a := 2 * p) (b := x) (A := 131072) (B := 1048576) (by omega) hx
  have h2 := prod_hi (a := p' - p) (b := x) (A := 65536) (B := 1048576) (by omega) hx
  have h3 := prod_hi (a := (p' - p) * x) (b := x) (A := 65536 * 1048576) (B := 1048576) h2 hx
  have h4 := ediv_hi h3 hL
  have HE := Lib.hid (up_eq (p := p) (d := p' - p) (x := x) hL)
  go_enter Try.func22, Try.ntmps22
  go_wp2
  go_quiet (fail)
  go_wp2
  go_quiet (fail)
  go_wp2
  go_quiet (fail)
  go_wp2
  go_ret
  exact ⟨ret_int HE.out, (by repeat (first | exact Below.refl _ _ | assumption | refine below_drewN ?_ _ | refine Below.drew ?_ | refine below_new ?_ _ | refine Below.setCell ?_ (by first | omega | (simp <;> omega)) _ | refine below_then (by assumption) ?_))⟩

set_option maxHeartbeats 2000000 in
theorem rest_down (t p t' p' x : Int) (b o : Nat) (w : World) (hp : 1 ≤ p ∧ p ≤ 65536) (hp' : 1 ≤ p' ∧ p' ≤ 65536) (hx : 0 ≤ x ∧ x ≤ 1048576) (hL : 1 ≤ t' - t) (ht : 0 ≤ t ∧ t ≤ 1048576) (ht' : 0 ≤ t' ∧ t' ≤ 1048576)
    (hd : p' - p < 0) (c0 : w.cell? ⟨b, o, none⟩ = some (.int .i64 t')) (c1 : w.cell? ⟨b, o + 1, none⟩ = some (.int .i64 p')) :
    Calls Try.prog 22 #[.agg #[.int .i64 t, .int .i64 p, .bool true], .pointer (some ⟨b, o, none⟩), .int .i64 x] w fun e w' =>
      e = .returned (.int .i64 ((2 * p * x * (t' - t) + (p' - p) * x * x) / (t' - t))) ∧ Below w.heap.size w w' := by
  have hb : b < w.heap.size := World.block_lt_of_cell? w _ c0
  have h1 := prod_hi (a := 2 * p) (b := x) (A := 131072) (B := 1048576) (by omega) hx
  have h2 := prod_hi (a := p - p') (b := x) (A := 65536) (B := 1048576) (by omega) hx
  have h3 := prod_hi (a := (p - p') * x) (b := x) (A := 65536 * 1048576) (B := 1048576) h2 hx
  have h4 := ediv_hi (a := (p - p') * x * x + (t' - t) - 1) (A := 65536 * 1048576 * 1048576 + 1048576) (by omega) hL
  have HE := Lib.hid (show 2 * p * x - ((p - p') * x * x + (t' - t) - 1) / (t' - t) = (2 * p * x * (t' - t) + (p' - p) * x * x) / (t' - t) by
    rw [down_eq hL, show -(p - p') = p' - p by omega])
  go_enter Try.func22, Try.ntmps22
  go_wp2
  go_quiet (fail)
  go_wp2
  go_quiet (fail)
  go_wp2
  go_quiet (fail)
  go_wp2
  go_quiet (fail)
  go_wp2
  go_ret
  exact ⟨ret_int HE.out, (by repeat (first | exact Below.refl _ _ | assumption | refine below_drewN ?_ _ | refine Below.drew ?_ | refine below_new ?_ _ | refine Below.setCell ?_ (by first | omega | (simp <;> omega)) _ | refine below_then (by assumption) ?_))⟩

/-- Marks in memory. -/
def Marks (w : World) (b o n : Nat) (A P : Nat → Int) (R : Nat → Bool) : Prop :=
  ∀ i, i < n → w.cell? ⟨b, o + i * 3, none⟩ = some (.int .i64 (A i)) ∧ w.cell? ⟨b, o + i * 3 + 1, none⟩ = some (.int .i64 (P i)) ∧ w.cell? ⟨b, o + i * 3 + 2, none⟩ = some (.bool (R i))
theorem Marks.below {w w' : World} {b o n : Nat} {A P : Nat → Int} {R : Nat → Bool} (h : Marks w b o n A P R) (hb : Below w.heap.size w w') : Marks w' b o n A P R := fun i hi => by
  obtain ⟨h0, h1, h2⟩ := h i hi
  exact ⟨cell_then h0 hb, cell_then h1 hb, cell_then h2 hb⟩
theorem Marks.block {w : World} {b o n : Nat} {A P : Nat → Int} {R : Nat → Bool} (h : Marks w b o n A P R) (hn : 1 ≤ n) : b < w.heap.size := World.block_lt_of_cell? w _ (h 0 (by omega)).1

theorem rest_last {n : Nat} {A P : Nat → Int} {R : Nat → Bool} (hk : Ok n A P) (i : Nat) (hi : i + 1 = n) (x : Int) (w : World) (hx : 0 ≤ x ∧ x ≤ 1048576) :
    Calls Try.prog 22 #[.agg #[.int .i64 (A i), .int .i64 (P i), .bool (R i)], .pointer none, .int .i64 x] w fun e w' => e = .returned (.int .i64 (rs n A P R i x)) ∧ Below w.heap.size w w' := by
  have e : rs n A P R i x = 2 * P i * x := by unfold rs; rw [if_neg (by simp; omega)]
  rw [e]
  refine rest_flat _ _ _ _ _ _ (hk.pace i (by omega)) hx ?_
  cases R i <;> simp
theorem rest_next {b o n : Nat} {A P : Nat → Int} {R : Nat → Bool} (hk : Ok n A P) (i : Nat) (hi : i + 1 < n) (x : Int) (w : World) (hx : 0 ≤ x ∧ x ≤ 1048576) (hm : Marks w b o n A P R) :
    Calls Try.prog 22 #[.agg #[.int .i64 (A i), .int .i64 (P i), .bool (R i)], .pointer (some ⟨b, o + (i + 1) * 3, none⟩), .int .i64 x] w fun e w' =>
      e = .returned (.int .i64 (rs n A P R i x)) ∧ Below w.heap.size w w' := by
  obtain ⟨c0, c1, _⟩ := hm (i + 1) hi
  have hr := hk.rises i hi
  cases hR : R i with
  | false =>
    have e : rs n A P R i x = 2 * P i * x := by unfold rs; rw [if_neg (by simp [hR])]
    rw [e]
    exact rest_flat _ _ _ _ _ _ (hk.pace i (by omega)) hx (.inl rfl)
  | true =>
    have e : rs n A P R i x = (2 * P i * x * (A (i + 1) - A i) + (P (i + 1) - P i) * x * x) / (A (i + 1) - A i) := by unfold rs; rw [if_pos (by simp [hR, hi])]
    rw [e]
    by_cases hd : 0 ≤ P (i + 1) - P i
    · exact rest_up _ _ _ _ _ _ _ _ (hk.pace i (by omega)) (hk.pace (i + 1) hi) hx (by omega) (hk.at_ i (by omega)) (hk.at_ (i + 1) hi) hd c0 c1
    · exact rest_down _ _ _ _ _ _ _ _ (hk.pace i (by omega)) (hk.pace (i + 1) hi) hx (by omega) (hk.at_ i (by omega)) (hk.at_ (i + 1) hi) (by omega) c0 c1

set_option maxHeartbeats 4000000 in
theorem twice_any {b o n : Nat} {A P : Nat → Int} {R : Nat → Bool} (cap : Nat) (hk : Ok n A P) (x : Int) (w : World) (hx : 0 ≤ x ∧ x ≤ 1048576) (hm : Marks w b o n A P R) :
    Calls Try.prog 16 #[.slice (some ⟨b, o, none⟩) n cap, .int .i64 x] w fun e w' => e = .returned (.int .i64 (tw n A P R x)) ∧ Below w.heap.size w w' := by
  have hn1 := hk.pos
  have hn2 := hk.le
  have hbw := hm.block hn1
  have HZ := Lib.hid hk.zero
  go_enter Try.func16, Try.ntmps16
  go_wp2
  go_loopw [5, 10] (fun v5 v10 wr => ∃ (k : Nat) (acc : Int), v5 = .int .i64 acc ∧ v10 = .int .i64 k ∧ k < n ∧ A k ≤ x ∧ 0 ≤ acc ∧ acc ≤ 131072 * A k ∧ Hid (acc + twFrom n A P R x (n - 1 - k) k = tw n A P R x) ∧ Below w.heap.size w wr)
    (fun _ v10 _ => n - (intOf v10).toNat)
  case atStart => exact ⟨0, 0, rfl, rfl, by omega, by rw [HZ.out]; exact hx.1, by omega, by rw [HZ.out]; omega, (by rw [Int.zero_add]; rfl : (0 : Int) + twFrom n A P R x (n - 1 - 0) 0 = tw n A P R x), Below.refl _ _⟩
  case round =>
    obtain ⟨k, acc, rfl, rfl, hkn, hkx, ha0, ha1, HT, hbr⟩ := hrel
    have hmr : Marks wr b o n A P R := hm.below hbr
    have hb1 : b < wr.heap.size := hmr.block hn1
    obtain ⟨c0, c1, c2⟩ := hmr k hkn
    have bA := hk.at_ k hkn
    by_cases hl : k + 1 < n
    · obtain ⟨d0, d1, d2⟩ := hmr (k + 1) hl
      have bA' := hk.at_ (k + 1) hl
      have hri := hk.rises k hl
      by_cases hxa : x ≤ A (k + 1)
      · have HV := Lib.hid (show acc + rs n A P R k (x - A k) = tw n A P R x by
          rw [← HT.out, show n - 1 - k = (n - 1 - k - 1) + 1 by omega, twFrom_in hxa])
        have r1 := rs_lo (R := R) hk hkn (t := x - A k) (by omega) (by omega)
        have r2 := rs_hi (R := R) hk hkn (t := x - A k) (by omega) (by omega)
        have hx1 : 0 ≤ x - A k ∧ x - A k ≤ 1048576 := by omega
        clear HT
        go_wp2
        have hE := Ext.cells wr
        refine wp_region_ext (by kernel_rfl) (by kernel_rfl) ?_
        repeat go_big_quiet_step ((go_at_call 22; with_reducible refine ext_call (rest_next hk k hl (x - A k) _ hx1 (hmr.below (Ext.h _)))))
        refine wpQuiet_nil ?_
        rintro wd ⟨⟨_, hbd⟩, rfl⟩
        go_wp2
        go_ret
        exact ⟨ret_int HV.out, below_then hbd hbr⟩
      · have HV := Lib.hid (show acc + rs n A P R k (A (k + 1) - A k) + twFrom n A P R x (n - 1 - (k + 1)) (k + 1) = tw n A P R x by
          rw [← HT.out, show n - 1 - k = (n - 1 - (k + 1)) + 1 by omega, twFrom_on hxa, Int.add_assoc])
        have r1 := rs_lo (R := R) hk hkn (t := A (k + 1) - A k) (by omega) (by omega)
        have r2 := rs_hi (R := R) hk hkn (t := A (k + 1) - A k) (by omega) (by omega)
        have hx1 : 0 ≤ A (k + 1) - A k ∧ A (k + 1) - A k ≤ 1048576 := by omega
        clear HT
        go_wp2
        have hE := Ext.cells wr
        refine wp_region_ext (by kernel_rfl) (by kernel_rfl) ?_
        repeat go_big_quiet_step ((go_at_call 22; with_reducible refine ext_call (rest_next hk k hl (A (k + 1) - A k) _ hx1 (hmr.below (Ext.h _)))))
        refine wpQuiet_nil ?_
        rintro wd ⟨⟨_, hbd⟩, rfl⟩
        go_wp2
        go_roundw
        case rel => exact ⟨k + 1, _, rfl, by go_num, hl, by omega, by omega, by omega, HV, below_then hbd hbr⟩
        case measure => simp [intOf]; omega
    · have HV := Lib.hid (show acc + rs n A P R k (x - A k) = tw n A P R x by
        rw [← HT.out, show n - 1 - k = 0 by omega]; rfl)
      have r1 := rs_lo (R := R) hk hkn (t := x - A k) (by omega) (by omega)
      have r2 := rs_hi (R := R) hk hkn (t := x - A k) (by omega) (by omega)
      have hx1 : 0 ≤ x - A k ∧ x - A k ≤ 1048576 := by omega
      have hl' : k + 1 = n := by omega
      have HL := Lib.hid hl'
      clear HT hl'
      go_wp2
      have hE := Ext.cells wr
      refine wp_region_ext (by kernel_rfl) (by kernel_rfl) ?_
      repeat go_big_quiet_step ((go_at_call 22; with_reducible refine ext_call (rest_last hk k HL.out (x - A k) _ hx1)))
      refine wpQuiet_nil ?_
      rintro wd ⟨⟨_, hbd⟩, rfl⟩
      go_wp2
      go_ret
      exact ⟨ret_int HV.out, below_then hbd hbr⟩

set_option maxHeartbeats 1000000 in
theorem wrong_many (p : Option Addr) (n cap : Nat) (A P : Nat → Int) (w : World) (hn : n ≤ 9223372036854775807) (h : n = 0 ∨ 256 < n) :
    Calls Try.prog 9 #[.slice p n cap] w fun e w' => e = .returned (.int .i64 (wrong n A P)) ∧ Below w.heap.size w w' := by
  have HV := Lib.hid (show (5 : Int) = wrong n A P by unfold wrong; rw [if_pos h])
  rcases h with rfl | h
  all_goals
    go_enter Try.func9, Try.ntmps9
    go_wp2
    go_ret
    exact ⟨ret_int HV.out, (by repeat (first | exact Below.refl _ _ | assumption | refine below_drewN ?_ _ | refine Below.drew ?_ | refine below_new ?_ _ | refine Below.setCell ?_ (by first | omega | (simp <;> omega)) _ | refine below_then (by assumption) ?_))⟩

set_option maxHeartbeats 4000000 in
theorem wrong_in {b o n : Nat} {A P : Nat → Int} {R : Nat → Bool} (cap : Nat) (w : World) (h1 : 1 ≤ n) (h2 : n ≤ 256) (hm : Marks w b o n A P R) :
    Calls Try.prog 9 #[.slice (some ⟨b, o, none⟩) n cap] w fun e w' => e = .returned (.int .i64 (wrong n A P)) ∧ Below w.heap.size w w' := by
  have HW := Lib.hid (show wrong n A P = wrongFrom A P n 0 by unfold wrong; rw [if_neg (by omega)])
  have hbw := hm.block h1
  have e0 : ((n : Int) == 0) = false := by simp; omega
  have e1 : (n : Int) ≤ 256 := by omega
  go_enter Try.func9, Try.ntmps9
  go_wp2
  go_loopw [15] (fun v15 wr => ∃ (k : Nat), v15 = .int .i64 k ∧ k ≤ n ∧ Hid (wrongFrom A P (n - k) k = wrongFrom A P n 0) ∧ Below w.heap.size w wr)
    (fun v15 _ => n - (intOf v15).toNat)
  case atStart => exact ⟨0, rfl, by omega, rfl, Below.refl _ _⟩
  case round =>
    obtain ⟨k, rfl, hkn, HT, hbr⟩ := hrel
    have hmr : Marks wr b o n A P R := hm.below hbr
    have hb1 : b < wr.heap.size := hmr.block h1
    by_cases hl : k < n
    · obtain ⟨c0, c1, c2⟩ := hmr k hl
      by_cases q : P k < 1 ∨ 65536 < P k ∨ A k < 0 ∨ 1048576 < A k
      · have HV := Lib.hid (show (3 : Int) = wrong n A P by
          rw [HW.out, ← HT.out, show n - k = (n - k - 1) + 1 by omega, wrongFrom_at (by rw [bad_range q]; omega), bad_range q])
        clear HT HW
        have q' : P k < 1 ∨ ¬ P k < 1 ∧ 65536 < P k ∨ ¬ P k < 1 ∧ ¬ 65536 < P k ∧ A k < 0 ∨ ¬ P k < 1 ∧ ¬ 65536 < P k ∧ ¬ A k < 0 ∧ 1048576 < A k := by omega
        clear q
        rcases q' with q | ⟨q, q1⟩ | ⟨q, q1, q2⟩ | ⟨q, q1, q2, q3⟩
        all_goals
          go_wp2
          go_ret
          exact ⟨ret_int HV.out, (by repeat (first | exact Below.refl _ _ | assumption | refine below_drewN ?_ _ | refine Below.drew ?_ | refine below_new ?_ _ | refine Below.setCell ?_ (by first | omega | (simp <;> omega)) _ | refine below_then (by assumption) ?_))⟩
      · rcases Nat.eq_zero_or_pos k with rfl | hpos
        · have HB := Lib.hid (bad_zero q)
          simp only [Nat.zero_mul, Nat.add_zero] at c0 c1 c2
          have q1 : ¬ P 0 < 1 := fun h => q (.inl h)
          have q2 : ¬ 65536 < P 0 := fun h => q (.inr (.inl h))
          have q3 : ¬ A 0 < 0 := fun h => q (.inr (.inr (.inl h)))
          have q4 : ¬ 1048576 < A 0 := fun h => q (.inr (.inr (.inr h)))
          clear q
          by_cases h0 : A 0 = 0
          · have HV := Lib.hid (show wrongFrom A P (n - 1) 1 = wrongFrom A P n 0 by
              rw [show n = (n - 1) + 1 by omega, wrongFrom_on (by rw [HB.out, if_pos h0])]; rfl)
            have h0' : (A 0 != 0) = false := by simp [h0]
            have H0 := Lib.hid h0
            clear HT HB h0
            go_wp2
            go_quiet (fail)
            go_wp2
            go_roundw
            case rel => exact ⟨1, by go_num, by omega, HV, (by repeat (first | exact Below.refl _ _ | assumption | refine below_drewN ?_ _ | refine Below.drew ?_ | refine below_new ?_ _ | refine Below.setCell ?_ (by first | omega | (simp <;> omega)) _ | refine below_then (by assumption) ?_))⟩
            case measure => simp [intOf]; omega
          · have HV := Lib.hid (show (8 : Int) = wrong n A P by
              rw [HW.out, show n = (n - 1) + 1 by omega, wrongFrom_at (by rw [HB.out, if_neg h0]; omega), HB.out, if_neg h0])
            have h0' : (A 0 != 0) = true := by simp [h0]
            clear HT HB h0
            go_wp2
            go_quiet (fail)
            go_wp2
            go_ret
            exact ⟨ret_int HV.out, (by repeat (first | exact Below.refl _ _ | assumption | refine below_drewN ?_ _ | refine Below.drew ?_ | refine below_new ?_ _ | refine Below.setCell ?_ (by first | omega | (simp <;> omega)) _ | refine below_then (by assumption) ?_))⟩
        · have HB := Lib.hid (bad_pos q hpos)
          have q1 : ¬ P k < 1 := fun h => q (.inl h)
          have q2 : ¬ 65536 < P k := fun h => q (.inr (.inl h))
          have q3 : ¬ A k < 0 := fun h => q (.inr (.inr (.inl h)))
          have q4 : ¬ 1048576 < A k := fun h => q (.inr (.inr (.inr h)))
          clear q
          obtain ⟨d0, d1, d2⟩ := hmr (k - 1) (by omega)
          have g0 : ((k : Int) == 0) = false := by simp; omega
          have g1 : (0 : Int) < k := by omega
          have g2 : (0 : Int) ≤ (k : Int) - 1 := by omega
          have g3 : (k : Int) - 1 < n := by omega
          have g4 : ((k : Int) - 1).toNat = k - 1 := by omega
          by_cases h0 : A k ≤ A (k - 1)
          · have HV := Lib.hid (show (8 : Int) = wrong n A P by
              rw [HW.out, ← HT.out, show n - k = (n - k - 1) + 1 by omega, wrongFrom_at (by rw [HB.out, if_pos h0]; omega), HB.out, if_pos h0])
            clear HT HB
            go_wp2
            go_quiet (fail)
            go_wp2
            go_ret
            exact ⟨ret_int HV.out, (by repeat (first | exact Below.refl _ _ | assumption | refine below_drewN ?_ _ | refine Below.drew ?_ | refine below_new ?_ _ | refine Below.setCell ?_ (by first | omega | (simp <;> omega)) _ | refine below_then (by assumption) ?_))⟩
          · have HV := Lib.hid (show wrongFrom A P (n - (k + 1)) (k + 1) = wrongFrom A P n 0 by
              rw [← HT.out, show n - k = (n - (k + 1)) + 1 by omega, wrongFrom_on (by rw [HB.out, if_neg h0])])
            clear HT HB
            go_wp2
            go_quiet (fail)
            go_wp2
            go_roundw
            case rel => exact ⟨k + 1, by go_num, by omega, HV, (by repeat (first | exact Below.refl _ _ | assumption | refine below_drewN ?_ _ | refine Below.drew ?_ | refine below_new ?_ _ | refine Below.setCell ?_ (by first | omega | (simp <;> omega)) _ | refine below_then (by assumption) ?_))⟩
            case measure => simp [intOf]; omega
    · have HV := Lib.hid (show (0 : Int) = wrong n A P by rw [HW.out, ← HT.out, show n - k = 0 by omega]; rfl)
      clear HT HW
      go_wp2
      go_ret
      exact ⟨ret_int HV.out, (by repeat (first | exact Below.refl _ _ | assumption | refine below_drewN ?_ _ | refine Below.drew ?_ | refine below_new ?_ _ | refine Below.setCell ?_ (by first | omega | (simp <;> omega)) _ | refine below_then (by assumption) ?_))⟩

end Go.Proofs.Ytinpnjiinadaeaa.Cl
