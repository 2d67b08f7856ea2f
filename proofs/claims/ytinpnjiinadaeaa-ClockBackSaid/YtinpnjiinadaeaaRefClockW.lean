/-
  THE WALKS of the reference's clock: Wrong, piece, Twice, Place, Back. (Printed by gen/refclock.py.)
-/
import Derived.Test.YtinpnjiinadaeaaBackW
namespace Go.Proofs.Ytinpnjiinadaeaa.Cl
open Go.RowKit

set_option maxHeartbeats 1000000 in
theorem ref_wrong_many (p : Option Addr) (n cap : Nat) (A P : Nat → Int) (w : World) (hn : n ≤ 9223372036854775807) (h : n = 0 ∨ 256 < n) :
    Calls Try.prog 10 #[.slice p n cap] w fun e w' => e = .returned (.int .i64 (wrong n A P)) ∧ Below w.heap.size w w' := by
  have HV := Lib.hid (show (5 : Int) = wrong n A P by unfold wrong; rw [if_pos h])
  rcases h with rfl | h
  all_goals
    go_enter Try.func10, Try.ntmps10
    go_wp2
    go_ret
    exact ⟨ret_int HV.out, (by repeat (first | exact Below.refl _ _ | assumption | refine below_drewN ?_ _ | refine Below.drew ?_ | refine below_new ?_ _ | refine Below.setCell ?_ (by first | omega | (simp <;> omega)) _ | refine below_then (by assumption) ?_))⟩

set_option maxHeartbeats 4000000 in
theorem ref_wrong_in {b o n : Nat} {A P : Nat → Int} {R : Nat → Bool} (cap : Nat) (w : World) (h1 : 1 ≤ n) (h2 : n ≤ 256) (hm : Marks w b o n A P R) :
    Calls Try.prog 10 #[.slice (some ⟨b, o, none⟩) n cap] w fun e w' => e = .returned (.int .i64 (wrong n A P)) ∧ Below w.heap.size w w' := by
  have HW := Lib.hid (show wrong n A P = wrongFrom A P n 0 by unfold wrong; rw [if_neg (by omega)])
  have hbw := hm.block h1
  have e1 : (n : Int) ≤ 256 := by omega
  go_enter Try.func10, Try.ntmps10
  go_wp2
  go_loopw [3, 16] (fun v3 v16 wr => ∃ (k : Nat) (la : Int), v3 = .int .i64 la ∧ v16 = .int .i64 k ∧ k ≤ n ∧ Hid (la = if k = 0 then -1 else A (k - 1)) ∧ Hid (wrongFrom A P (n - k) k = wrongFrom A P n 0) ∧ Below w.heap.size w wr)
    (fun _ v16 _ => n - (intOf v16).toNat)
  case atStart => exact ⟨0, -1, rfl, rfl, by omega, (by show (-1 : Int) = _; simp), rfl, Below.refl _ _⟩
  case round =>
    obtain ⟨k, la, rfl, rfl, hkn, HL, HT, hbr⟩ := hrel
    have hmr : Marks wr b o n A P R := hm.below hbr
    have hb1 : b < wr.heap.size := hmr.block h1
    by_cases hl : k < n
    · obtain ⟨c0, c1, c2⟩ := hmr k hl
      by_cases q : P k < 1 ∨ 65536 < P k ∨ A k < 0 ∨ 1048576 < A k
      · have HV := Lib.hid (show (3 : Int) = wrong n A P by
          rw [HW.out, ← HT.out, show n - k = (n - k - 1) + 1 by omega, wrongFrom_at (by rw [bad_range q]; omega), bad_range q])
        clear HT HW HL
        have q' : P k < 1 ∨ ¬ P k < 1 ∧ 65536 < P k ∨ ¬ P k < 1 ∧ ¬ 65536 < P k ∧ A k < 0 ∨ ¬ P k < 1 ∧ ¬ 65536 < P k ∧ ¬ A k < 0 ∧ 1048576 < A k := by omega
        clear q
        rcases q' with q | ⟨q, q1⟩ | ⟨q, q1, q2⟩ | ⟨q, q1, q2, q3⟩
        all_goals
          go_wp2
          go_ret
          exact ⟨ret_int HV.out, (by repeat (first | exact Below.refl _ _ | assumption | refine below_drewN ?_ _ | refine Below.drew ?_ | refine below_new ?_ _ | refine Below.setCell ?_ (by first | omega | (simp <;> omega)) _ | refine below_then (by assumption) ?_))⟩
      · have q1 : ¬ P k < 1 := fun h => q (.inl h)
        have q2 : ¬ 65536 < P k := fun h => q (.inr (.inl h))
        have q3 : ¬ A k < 0 := fun h => q (.inr (.inr (.inl h)))
        have q4 : ¬ 1048576 < A k := fun h => q (.inr (.inr (.inr h)))
        by_cases hk0 : k = 0
        · have hla : ¬ A k ≤ la := by have := HL.out; rw [this, if_pos hk0]; omega
          subst hk0
          have HB := Lib.hid (bad_zero q)
          simp only [Nat.zero_mul, Nat.add_zero] at c0 c1 c2
          clear q
          by_cases h0 : A 0 = 0
          · have HV := Lib.hid (show wrongFrom A P (n - 1) 1 = wrongFrom A P n 0 by
              rw [show n = (n - 1) + 1 by omega, wrongFrom_on (by rw [HB.out, if_pos h0])]; rfl)
            have h0' : (A 0 != 0) = false := by simp [h0]
            clear HT HB h0 HL
            go_wp2
            go_roundw
            case rel => exact ⟨1, A 0, rfl, by go_num, by omega, (by show A 0 = if 1 = 0 then -1 else A (1 - 1); simp), HV, (by repeat (first | exact Below.refl _ _ | assumption | refine below_drewN ?_ _ | refine Below.drew ?_ | refine below_new ?_ _ | refine Below.setCell ?_ (by first | omega | (simp <;> omega)) _ | refine below_then (by assumption) ?_))⟩
            case measure => simp [intOf]; omega
          · have HV := Lib.hid (show (8 : Int) = wrong n A P by
              rw [HW.out, show n = (n - 1) + 1 by omega, wrongFrom_at (by rw [HB.out, if_neg h0]; omega), HB.out, if_neg h0])
            have h0' : (A 0 != 0) = true := by simp [h0]
            clear HT HB h0 HL
            go_wp2
            go_ret
            exact ⟨ret_int HV.out, (by repeat (first | exact Below.refl _ _ | assumption | refine below_drewN ?_ _ | refine Below.drew ?_ | refine below_new ?_ _ | refine Below.setCell ?_ (by first | omega | (simp <;> omega)) _ | refine below_then (by assumption) ?_))⟩
        · have hpos : 0 < k := by omega
          have HB := Lib.hid (bad_pos q hpos)
          have hla : la = A (k - 1) := by have := HL.out; rw [this, if_neg hk0]
          have g0 : ((k : Int) == 0) = false := by simp; omega
          have h0 : A k ≤ la ∨ ¬ A k ≤ la := by omega
          have HLA := Lib.hid hla
          clear q hla hk0 HL
          rcases h0 with h0 | h0
          · have HV := Lib.hid (show (8 : Int) = wrong n A P by
              have h0' : A k ≤ A (k - 1) := by rw [← HLA.out]; exact h0
              rw [HW.out, ← HT.out, show n - k = (n - k - 1) + 1 by omega, wrongFrom_at (by rw [HB.out, if_pos h0']; omega), HB.out, if_pos h0'])
            clear HT HB
            go_wp2
            go_ret
            exact ⟨ret_int HV.out, (by repeat (first | exact Below.refl _ _ | assumption | refine below_drewN ?_ _ | refine Below.drew ?_ | refine below_new ?_ _ | refine Below.setCell ?_ (by first | omega | (simp <;> omega)) _ | refine below_then (by assumption) ?_))⟩
          · have HV := Lib.hid (show wrongFrom A P (n - (k + 1)) (k + 1) = wrongFrom A P n 0 by
              have h0' : ¬ A k ≤ A (k - 1) := by rw [← HLA.out]; exact h0
              rw [← HT.out, show n - k = (n - (k + 1)) + 1 by omega, wrongFrom_on (by rw [HB.out, if_neg h0'])])
            clear HT HB
            go_wp2
            go_roundw
            case rel => exact ⟨k + 1, A k, rfl, by go_num, by omega, (by show A k = if k + 1 = 0 then -1 else A (k + 1 - 1); simp), HV, (by repeat (first | exact Below.refl _ _ | assumption | refine below_drewN ?_ _ | refine Below.drew ?_ | refine below_new ?_ _ | refine Below.setCell ?_ (by first | omega | (simp <;> omega)) _ | refine below_then (by assumption) ?_))⟩
            case measure => simp [intOf]; omega
    · have HV := Lib.hid (show (0 : Int) = wrong n A P by rw [HW.out, ← HT.out, show n - k = 0 by omega]; rfl)
      clear HT HW HL
      go_wp2
      go_ret
      exact ⟨ret_int HV.out, (by repeat (first | exact Below.refl _ _ | assumption | refine below_drewN ?_ _ | refine Below.drew ?_ | refine below_new ?_ _ | refine Below.setCell ?_ (by first | omega | (simp <;> omega)) _ | refine below_then (by assumption) ?_))⟩
theorem ref_wrong_any {p : Option Addr} {n : Nat} {A P : Nat → Int} {R : Nat → Bool} (cap : Nat) (w : World) (h : Arg w p n A P R) :
    Calls Try.prog 10 #[.slice p n cap] w fun e w' => e = .returned (.int .i64 (wrong n A P)) ∧ Below w.heap.size w w' := by
  by_cases hn : n = 0 ∨ 256 < n
  · exact ref_wrong_many p n cap A P w h.len hn
  · obtain ⟨b, o, rfl, hm⟩ := h.marks (by omega)
    exact ref_wrong_in cap w (by omega) (by omega) hm
theorem ref_wrong_is {p : Option Addr} {n : Nat} {A P : Nat → Int} {R : Nat → Bool} (cap : Nat) (w : World) (h : Arg w p n A P R) {v : Int} (k : wrong n A P = v) :
    Calls Try.prog 10 #[.slice p n cap] w fun e w' => e = .returned (.int .i64 v) ∧ Below w.heap.size w w' := k ▸ ref_wrong_any cap w h

theorem piece_lo {p q L t : Int} (hp : 1 ≤ p ∧ p ≤ 65536) (hq : 1 ≤ q ∧ q ≤ 65536) (h0 : 0 ≤ t) (h2 : t ≤ L) (hL : L ≤ 1048576) :
    (0 ≤ 2 * p * t ∧ 2 * p * t ≤ 137438953472) ∧ (0 ≤ 2 * p * t * L ∧ 2 * p * t * L ≤ 144115188075855872) ∧ (-68719476736 ≤ (q - p) * t ∧ (q - p) * t ≤ 68719476736) ∧ (-72057594037927936 ≤ (q - p) * t * t ∧ (q - p) * t * t ≤ 72057594037927936) ∧
      0 ≤ 2 * p * t * L + (q - p) * t * t := by
  have h1 := prod_hi (a := 2 * p) (b := t) (A := 131072) (B := 1048576) (by omega) (by omega)
  have h3 := prod_hi (a := 2 * p * t) (b := L) (A := 131072 * 1048576) (B := 1048576) h1 (by omega)
  have h4 := prod_hi (a := q) (b := t) (A := 65536) (B := 1048576) (by omega) (by omega)
  have h5 := prod_hi (a := p) (b := t) (A := 65536) (B := 1048576) (by omega) (by omega)
  have h6 := prod_hi (a := q * t) (b := t) (A := 65536 * 1048576) (B := 1048576) h4 (by omega)
  have h7 := prod_hi (a := p * t) (b := t) (A := 65536 * 1048576) (B := 1048576) h5 (by omega)
  have e1 : (q - p) * t = q * t - p * t := Int.sub_mul q p t
  have e2 : (q - p) * t * t = q * t * t - p * t * t := by rw [e1, Int.sub_mul]
  have e3 : 2 * p * t * L = 2 * (p * t * L) := by rw [Int.mul_assoc 2 p t, Int.mul_assoc]
  have h8 : p * t * t ≤ p * t * L := Int.mul_le_mul_of_nonneg_left h2 h5.1
  refine ⟨by omega, by omega, by omega, by omega, by omega⟩

set_option maxHeartbeats 1000000 in
theorem piece_any (p q L t : Int) (w : World) (hp : 1 ≤ p ∧ p ≤ 65536) (hq : 1 ≤ q ∧ q ≤ 65536) (h0 : 0 ≤ t) (h2 : t ≤ L) (hL : L ≤ 1048576) :
    Calls Try.prog 17 #[.int .i64 p, .int .i64 q, .int .i64 L, .int .i64 t] w fun e w' => e = .returned (.int .i64 (2 * p * t * L + (q - p) * t * t)) ∧ w = w' := by
  obtain ⟨⟨a1, a2⟩, ⟨a3, a4⟩, ⟨a5, a6⟩, ⟨a7, a8⟩, a9⟩ := piece_lo hp hq h0 h2 hL
  go_enter Try.func17, Try.ntmps17
  go_wp2
  go_ret
  exact ⟨rfl, rfl⟩

/-- What the reference has added up ahead of mark k. -/
def Sofar (n : Nat) (A P : Nat → Int) (R : Nat → Bool) (x : Int) (k : Nat) (acc : Int) : Prop :=
  (k < n ∧ A k < x ∧ acc + twFrom n A P R x (n - 1 - k) k = tw n A P R x) ∨ ((k < n → x ≤ A k) ∧ acc = tw n A P R x)
theorem Sofar.done {n : Nat} {A P : Nat → Int} {R : Nat → Bool} {x : Int} {k : Nat} {acc : Int} (h : Sofar n A P R x k acc) (hk : k < n → x ≤ A k) : acc = tw n A P R x := by
  rcases h with ⟨h1, h2, _⟩ | h
  · have := hk h1; omega
  · exact h.2
theorem Sofar.on {n : Nat} {A P : Nat → Int} {R : Nat → Bool} {x : Int} {k : Nat} {acc : Int} (h : Sofar n A P R x k acc) (hk : k < n) (hx : A k < x) : acc + twFrom n A P R x (n - 1 - k) k = tw n A P R x := by
  rcases h with ⟨_, _, h⟩ | h
  · exact h
  · have := h.1 hk; omega
theorem rs_flat {n : Nat} {A P : Nat → Int} {R : Nat → Bool} {k : Nat} {t : Int} (h : ¬ (k + 1 < n) ∨ R k = false) : rs n A P R k t = 2 * P k * t := by
  unfold rs; rw [if_neg]; rcases h with h | h <;> simp [h]
theorem rs_ramp {n : Nat} {A P : Nat → Int} {R : Nat → Bool} {k : Nat} {t : Int} (h : k + 1 < n) (hR : R k = true) : rs n A P R k t = (2 * P k * t * (A (k + 1) - A k) + (P (k + 1) - P k) * t * t) / (A (k + 1) - A k) := by
  unfold rs; rw [if_pos (by simp [h, hR])]

set_option maxHeartbeats 8000000 in
set_option maxRecDepth 100000 in
theorem ref_twice_any {b o n : Nat} {A P : Nat → Int} {R : Nat → Bool} (cap : Nat) (hk : Ok n A P) (x : Int) (w : World) (hx : 0 ≤ x ∧ x ≤ 1048576) (hm : Marks w b o n A P R) :
    Calls Try.prog 11 #[.slice (some ⟨b, o, none⟩) n cap, .int .i64 x] w fun e w' => e = .returned (.int .i64 (tw n A P R x)) ∧ Below w.heap.size w w' := by
  have hn1 := hk.pos
  have hn2 := hk.le
  have hbw := hm.block hn1
  have HZ := Lib.hid hk.zero
  go_enter Try.func11, Try.ntmps11
  go_wp2
  go_loopw [5, 12] (fun v5 v12 wr => ∃ (k : Nat) (acc : Int), v5 = .int .i64 acc ∧ v12 = .int .i64 k ∧ k ≤ n ∧ 0 ≤ acc ∧ acc ≤ 137438953472 * k ∧ Sofar n A P R x k acc ∧ Below w.heap.size w wr)
    (fun _ v12 _ => n - (intOf v12).toNat)
  case atStart =>
    refine ⟨0, 0, rfl, rfl, by omega, by omega, by omega, ?_, Below.refl _ _⟩
    by_cases h0 : 0 < x
    · exact .inl ⟨by omega, by rw [HZ.out]; exact h0, by rw [Int.zero_add]; rfl⟩
    · obtain rfl : x = 0 := by omega
      exact .inr ⟨fun _ => by rw [HZ.out]; omega, (tw_zero hk).symm⟩
  case round =>
    obtain ⟨k, acc, rfl, rfl, hkn, ha0, ha1, HS, hbr⟩ := hrel
    have hmr : Marks wr b o n A P R := hm.below hbr
    have hb1 : b < wr.heap.size := hmr.block hn1
    by_cases hl : k < n
    · obtain ⟨c0, c1, c2⟩ := hmr k hl
      have bA := hk.at_ k hl
      have bP := hk.pace k hl
      by_cases hxa : x ≤ A k
      · have HV := Lib.hid (HS.done fun _ => hxa)
        clear HS
        go_wp2
        go_ret
        exact ⟨ret_int HV.out, (by repeat (first | exact Below.refl _ _ | assumption | refine below_drewN ?_ _ | refine Below.drew ?_ | refine below_new ?_ _ | refine Below.setCell ?_ (by first | omega | (simp <;> omega)) _ | refine below_then (by assumption) ?_))⟩
      · have HT := Lib.hid (HS.on hl (by omega))
        clear HS
        by_cases hl1 : k + 1 < n
        · obtain ⟨d0, d1, d2⟩ := hmr (k + 1) hl1
          have bA' := hk.at_ (k + 1) hl1
          have bP' := hk.pace (k + 1) hl1
          have hri := hk.rises k hl1
          have f1 : (k : Int) + 1 < n := by omega
          by_cases hxb : A (k + 1) < x
          · cases hR : R k with
            | false =>
              have r1 := rs_lo (R := R) hk hl (t := A (k + 1) - A k) (by omega) (by omega)
              have r2 := rs_hi (R := R) hk hl (t := A (k + 1) - A k) (by omega) (by omega)
              have HV := Lib.hid (show acc + rs n A P R k (A (k + 1) - A k) + twFrom n A P R x (n - 1 - (k + 1)) (k + 1) = tw n A P R x by
                rw [← HT.out, show n - 1 - k = (n - 1 - (k + 1)) + 1 by omega, twFrom_on (by omega), Int.add_assoc])
              rw [rs_flat (.inr hR)] at HV r1 r2
              rw [hR] at c2
              have y2 := prod_hi (a := 2 * P k) (b := A (k + 1) - A k) (A := 131072) (B := 1048576) (by omega) (by omega)
              clear HT
              go_wp2
              go_roundw
              case rel => exact ⟨k + 1, _, rfl, by go_num, by omega, by omega, by omega, .inl ⟨hl1, hxb, HV.out⟩, (by repeat (first | exact Below.refl _ _ | assumption | refine below_drewN ?_ _ | refine Below.drew ?_ | refine below_new ?_ _ | refine Below.setCell ?_ (by first | omega | (simp <;> omega)) _ | refine below_then (by assumption) ?_))⟩
              case measure => simp [intOf]; omega
            | true =>
              have r1 := rs_lo (R := R) hk hl (t := A (k + 1) - A k) (by omega) (by omega)
              have r2 := rs_hi (R := R) hk hl (t := A (k + 1) - A k) (by omega) (by omega)
              have HV := Lib.hid (show acc + rs n A P R k (A (k + 1) - A k) + twFrom n A P R x (n - 1 - (k + 1)) (k + 1) = tw n A P R x by
                rw [← HT.out, show n - 1 - k = (n - 1 - (k + 1)) + 1 by omega, twFrom_on (by omega), Int.add_assoc])
              obtain ⟨⟨a1, a2⟩, ⟨a3, a4⟩, ⟨a5, a6⟩, ⟨a7, a8⟩, a9⟩ := piece_lo (p := P k) (q := P (k + 1)) (L := A (k + 1) - A k) (t := A (k + 1) - A k) bP bP' (by omega) (by omega) (by omega)
              rw [rs_ramp hl1 hR] at HV r1 r2
              rw [hR] at c2
              have y1 : 1 ≤ A (k + 1) - A k := by omega
              clear HT
              go_wp2
              go_quiet (fail)
              go_wp2
              go_quiet ((go_at_call 17; with_reducible refine quiet_add_left (piece_any (P k) (P (k + 1)) (A (k + 1) - A k) (A (k + 1) - A k) _ bP bP' (by omega) (by omega) (by omega))))
              go_wp2
              go_roundw
              case rel => exact ⟨k + 1, _, rfl, by go_num, by omega, by omega, by omega, .inl ⟨hl1, hxb, HV.out⟩, (by repeat (first | exact Below.refl _ _ | assumption | refine below_drewN ?_ _ | refine Below.drew ?_ | refine below_new ?_ _ | refine Below.setCell ?_ (by first | omega | (simp <;> omega)) _ | refine below_then (by assumption) ?_))⟩
              case measure => simp [intOf]; omega
          · cases hR : R k with
            | false =>
              have r1 := rs_lo (R := R) hk hl (t := x - A k) (by omega) (by omega)
              have r2 := rs_hi (R := R) hk hl (t := x - A k) (by omega) (by omega)
              have HV := Lib.hid (show acc + rs n A P R k (x - A k) = tw n A P R x by
                rw [← HT.out, show n - 1 - k = (n - 1 - k - 1) + 1 by omega, twFrom_in (by omega)])
              rw [rs_flat (.inr hR)] at HV r1 r2
              rw [hR] at c2
              have y2 := prod_hi (a := 2 * P k) (b := x - A k) (A := 131072) (B := 1048576) (by omega) (by omega)
              clear HT
              go_wp2
              go_roundw
              case rel => exact ⟨k + 1, _, rfl, by go_num, by omega, by omega, by omega, .inr ⟨fun _ => by omega, HV.out⟩, (by repeat (first | exact Below.refl _ _ | assumption | refine below_drewN ?_ _ | refine Below.drew ?_ | refine below_new ?_ _ | refine Below.setCell ?_ (by first | omega | (simp <;> omega)) _ | refine below_then (by assumption) ?_))⟩
              case measure => simp [intOf]; omega
            | true =>
              have r1 := rs_lo (R := R) hk hl (t := x - A k) (by omega) (by omega)
              have r2 := rs_hi (R := R) hk hl (t := x - A k) (by omega) (by omega)
              have HV := Lib.hid (show acc + rs n A P R k (x - A k) = tw n A P R x by
                rw [← HT.out, show n - 1 - k = (n - 1 - k - 1) + 1 by omega, twFrom_in (by omega)])
              obtain ⟨⟨a1, a2⟩, ⟨a3, a4⟩, ⟨a5, a6⟩, ⟨a7, a8⟩, a9⟩ := piece_lo (p := P k) (q := P (k + 1)) (L := A (k + 1) - A k) (t := x - A k) bP bP' (by omega) (by omega) (by omega)
              rw [rs_ramp hl1 hR] at HV r1 r2
              rw [hR] at c2
              have y1 : 1 ≤ A (k + 1) - A k := by omega
              clear HT
              go_wp2
              go_quiet (fail)
              go_wp2
              go_quiet ((go_at_call 17; with_reducible refine quiet_add_left (piece_any (P k) (P (k + 1)) (A (k + 1) - A k) (x - A k) _ bP bP' (by omega) (by omega) (by omega))))
              go_wp2
              go_roundw
              case rel => exact ⟨k + 1, _, rfl, by go_num, by omega, by omega, by omega, .inr ⟨fun _ => by omega, HV.out⟩, (by repeat (first | exact Below.refl _ _ | assumption | refine below_drewN ?_ _ | refine Below.drew ?_ | refine below_new ?_ _ | refine Below.setCell ?_ (by first | omega | (simp <;> omega)) _ | refine below_then (by assumption) ?_))⟩
              case measure => simp [intOf]; omega
        · have f2 : ¬ (k : Int) + 1 < n := by omega
          have f3 : decide ((k : Int) + 1 < n) = false := by simpa using f2
          have r1 := rs_lo (R := R) hk hl (t := x - A k) (by omega) (by omega)
          have r2 := rs_hi (R := R) hk hl (t := x - A k) (by omega) (by omega)
          have HV := Lib.hid (show acc + rs n A P R k (x - A k) = tw n A P R x by
            rw [← HT.out, show n - 1 - k = 0 by omega, twFrom])
          rw [rs_flat (.inl (by omega))] at HV r1 r2
          have y2 := prod_hi (a := 2 * P k) (b := x - A k) (A := 131072) (B := 1048576) (by omega) (by omega)
          clear HT
          go_wp2
          go_roundw
          case rel => exact ⟨k + 1, _, rfl, by go_num, by omega, by omega, by omega, .inr ⟨fun _ => by omega, HV.out⟩, (by repeat (first | exact Below.refl _ _ | assumption | refine below_drewN ?_ _ | refine Below.drew ?_ | refine below_new ?_ _ | refine Below.setCell ?_ (by first | omega | (simp <;> omega)) _ | refine below_then (by assumption) ?_))⟩
          case measure => simp [intOf]; omega
    · have HV := Lib.hid (HS.done fun h => absurd h hl)
      clear HS
      go_wp2
      go_ret
      exact ⟨ret_int HV.out, (by repeat (first | exact Below.refl _ _ | assumption | refine below_drewN ?_ _ | refine Below.drew ?_ | refine below_new ?_ _ | refine Below.setCell ?_ (by first | omega | (simp <;> omega)) _ | refine below_then (by assumption) ?_))⟩

end Go.Proofs.Ytinpnjiinadaeaa.Cl
