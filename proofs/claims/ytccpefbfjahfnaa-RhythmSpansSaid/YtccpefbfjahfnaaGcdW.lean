/-
  THE WALKS of the divisors: package frac's gcd and small, the reference's Divisor and Abs.
-/
import Derived.Test.YtccpefbfjahfnaaKit
import Derived.Test.YtccpefbfjahfnaaGcd
namespace Go.Proofs.Ytccpefbfjahfnaa.Gcd
open Go.RowKit

set_option maxHeartbeats 400000 in
theorem gcd_any (a b : Int) (w : World) (hb : 0 < b) (hb' : b ≤ 9223372036854775807) (ha : -9223372036854775808 ≤ a) (ha' : a ≤ 9223372036854775807) :
    Calls Try.prog 32 #[.int .i64 a, .int .i64 b] w fun e w' => e = .returned (.int .i64 (g a b)) ∧ ∃ n, w' = w.drewN n := by
  go_enter Try.func32, Try.ntmps32
  go_wp2
  go_loopw [0, 1] (fun x y wr => ∃ p q : Int, x = .int .i64 p ∧ y = .int .i64 q ∧ euclid (g a b) p q ∧ ∃ n, wr = w.drewN n) (fun _ y _ => (intOf y).natAbs)
  case atStart => exact ⟨a, b, rfl, rfl, ⟨by omega, hb', ha, ha', rfl, by omega⟩, 0, rfl⟩
  case round =>
    obtain ⟨p, q, rfl, rfl, hE, n, rfl⟩ := hrel
    obtain ⟨e1, e2, e3, e4, e5, e6⟩ := id hE
    have HE := Lib.hid hE
    clear hE e5 e6
    by_cases hq : q = 0
    · have hend := euclid_end HE.out hq
      have h1 := hend.2
      have HM := Lib.hid hend.1
      clear hend
      go_wp2
      all_goals
        go_ret
        exact ⟨ret_int (by rw [← HM.out]; omega), n, rfl⟩
    · have HS := Lib.hid (euclid_step HE.out hq)
      have ht := tmod_abs p q hq
      go_wp2
      go_quiet (fail)
      go_wp2
      go_roundw
      case rel => exact ⟨q, p.tmod q, rfl, rfl, HS.out, n + nq, by simp⟩
      case measure => exact ht

theorem small_any (n : Int) (w : World) :
    Calls Try.prog 33 #[.int .i64 n] w fun e w' => e = .returned (.bool (decide (-1073741824 ≤ n ∧ n ≤ 1073741824))) ∧ w = w' := by
  by_cases h : -1073741824 ≤ n
  · go_enter Try.func33, Try.ntmps33
    go_wp2
    go_ret
    exact ⟨ret_bool (by simp [h]), rfl⟩
  · go_enter Try.func33, Try.ntmps33
    go_wp2
    go_ret
    exact ⟨ret_bool (by simp; omega), rfl⟩

theorem abs_any (n : Int) (w : World) (h1 : -9223372036854775808 < n) (h2 : n ≤ 9223372036854775807) :
    Calls Try.prog 36 #[.int .i64 n] w fun e w' => e = .returned (.int .i64 (n.natAbs : Int)) ∧ w = w' := by
  go_enter Try.func36, Try.ntmps36
  go_wp2
  all_goals
    go_ret
    exact ⟨ret_int (by omega), rfl⟩


set_option maxHeartbeats 1000000 in
theorem divisor_any (a b : Int) (w : World) (ha : 0 ≤ a) (ha' : a ≤ 9223372036854775807) (hb : 0 < b) (hb' : b ≤ 9223372036854775807) :
    Calls Try.prog 35 #[.int .i64 a, .int .i64 b] w fun e w' => e = .returned (.int .i64 (g a b)) ∧ w = w' := by
  by_cases h0 : a = 0
  · have HG := Lib.hid (show g a b = b by rw [g_comm, g_zero h0]; omega)
    go_enter Try.func35, Try.ntmps35
    go_wp2
    go_ret
    exact ⟨ret_int (HG.out.symm), rfl⟩
  · go_enter Try.func35, Try.ntmps35
    go_wp2
    go_loop [0, 1, 5] (fun x y t => ∃ (p q : Int) (k : Nat), x = .int .i64 p ∧ y = .int .i64 q ∧ t = .int .i64 k ∧ p ≤ a ∧ q ≤ b ∧ twin p q k (g a b)) (fun x _ _ => (intOf x).toNat)
    case atStart => exact ⟨a, b, 0, rfl, rfl, rfl, by omega, by omega, by omega, by omega, by simp⟩
    case round =>
      obtain ⟨p, q, k, rfl, rfl, rfl, hp, hq, hT⟩ := hrel
      have hp0 := hT.1
      have hq0 := hT.2.1
      have hk := twin_k hT
      have hG := g_le (a := a) hb
      have HT := Lib.hid hT
      clear hT
      by_cases h2 : p % 2 = 0 ∧ q % 2 = 0
      · obtain ⟨h3, h4⟩ := h2
        have HS := Lib.hid (twin_half HT.out h3 h4)
        go_wp2
        go_round
        case rel => exact ⟨p / 2, q / 2, k + 1, rfl, rfl, by go_num, by omega, by omega, HS.out⟩
        case measure => (simp [intOf] <;> omega)
      · have HS := Lib.hid (show single (g p q) p q from ⟨hp0, hq0, rfl, h2⟩)
        have hb3 : p % 2 = 0 → q % 2 ≠ 0 := by omega
        clear h2
        by_cases h3 : p % 2 = 0
        all_goals
          go_wp2
          go_loop [0, 1] (fun x y => ∃ (r s : Int), x = .int .i64 r ∧ y = .int .i64 s ∧ r ≤ 9223372036854775807 ∧ s ≤ 9223372036854775807 ∧ single (g p q) r s) (fun x y => (intOf x + intOf y).toNat)
          case atStart => exact ⟨p, q, rfl, rfl, by omega, by omega, HS.out⟩
          case round =>
            clear h3 hb3
            obtain ⟨r, s, rfl, rfl, hr, hs, hI⟩ := hrel
            have hr0 := hI.1
            have hs0 := hI.2.1
            have HI := Lib.hid hI
            clear hI
            by_cases he : r = s
            · subst he
              have HD := Lib.hid (doubled_of HT.out (single_end HI.out))
              go_wp2
              go_loop [0, 5] (fun x t => ∃ (u : Int) (m : Nat), x = .int .i64 u ∧ t = .int .i64 m ∧ m ≤ k ∧ doubled (g a b) u m) (fun _ t => (intOf t).toNat)
              case atStart => exact ⟨r, k, rfl, rfl, Nat.le_refl _, HD.out⟩
              case round =>
                obtain ⟨u, m, rfl, rfl, hm, hdd⟩ := hrel
                have hu := doubled_le hdd
                have hu0 := hdd.1
                have HDD := Lib.hid hdd
                clear hdd
                rcases m with _ | m
                · go_wp2
                  go_ret
                  exact ⟨ret_int (doubled_end HDD.out), rfl⟩
                · have hu2 := hu.2 (by omega)
                  go_wp2
                  go_round
                  case rel => exact ⟨2 * u, m, rfl, by go_num, by omega, doubled_step HDD.out⟩
                  case measure => (simp [intOf] <;> omega)
            · by_cases k1 : r % 2 = 0
              · go_wp2
                go_round
                case rel => exact ⟨r / 2, s, rfl, rfl, by omega, by omega, single_left HI.out k1⟩
                case measure => (simp [intOf] <;> omega)
              · by_cases k2 : s % 2 = 0
                · go_wp2
                  go_round
                  case rel => exact ⟨r, s / 2, rfl, rfl, by omega, by omega, single_right HI.out k1 k2⟩
                  case measure => (simp [intOf] <;> omega)
                · by_cases k3 : s < r
                  · go_wp2
                    go_round
                    case rel => exact ⟨r - s, s, rfl, rfl, by omega, by omega, single_less HI.out k1 k2 k3⟩
                    case measure => (simp [intOf] <;> omega)
                  · go_wp2
                    go_round
                    case rel => exact ⟨r, s - r, rfl, rfl, by omega, by omega, single_more HI.out k1 k2 (by omega)⟩
                    case measure => (simp [intOf] <;> omega)

end Go.Proofs.Ytccpefbfjahfnaa.Gcd
