/-
  THE WALKS of fractions: Right, Make, Floor of the package and of the reference.
-/
import Derived.Test.YtccpefbfjahfnaaGcdW
import Derived.Test.YtccpefbfjahfnaaFrac
namespace Go.Proofs.Ytccpefbfjahfnaa.Fr
open Go.RowKit Gcd

theorem small_any' (n : Int) (w : World) :
    Calls Try.prog 33 #[.int .i64 n] w fun e w' => e = .returned (.bool (smallB n)) ∧ w = w' := small_any n w

/-- An int of the machine. -/
def I64 (n : Int) : Prop := -9223372036854775808 ≤ n ∧ n ≤ 9223372036854775807

set_option maxHeartbeats 1000000 in
theorem right_any (u d : Int) (w : World) (hu : I64 u) (hd : I64 d) :
    Calls Try.prog 23 #[.agg #[.int .i64 u, .int .i64 d]] w fun e w' => e = .returned (.bool (rightB u d)) ∧ Below w.heap.size w w' := by
  unfold I64 at hu hd
  by_cases h1 : 0 < d
  · by_cases h2 : smallB u = true
    · by_cases h3 : smallB d = true
      · go_enter Try.func23, Try.ntmps23
        go_wp2_with (first
          | (go_at_call 33; refine (small_any' _ _).mono ?_; rintro e w' ⟨rfl, rfl⟩)
          | (go_at_call 32; refine (gcd_any _ _ _ h1 hd.2 hu.1 hu.2).mono ?_; rintro e w' ⟨rfl, n, rfl⟩))
        go_ret
        refine ⟨ret_bool ?_, below_drewN ((Below.refl _ _).alloc (Nat.le_refl _) _) _⟩
        rw [Bool.eq_iff_iff, rightB_iff]
        simp only [smallB_iff] at h2 h3
        simp
        omega
      · go_enter Try.func23, Try.ntmps23
        go_wp2_with (go_at_call 33; refine (small_any' _ _).mono ?_; rintro e w' ⟨rfl, rfl⟩)
        go_ret
        refine ⟨ret_bool ?_, (Below.refl _ _).alloc (Nat.le_refl _) _⟩
        rw [eq_comm, ← Bool.not_eq_true, rightB_iff]
        rw [smallB_iff] at h3
        omega
    · go_enter Try.func23, Try.ntmps23
      go_wp2_with (go_at_call 33; refine (small_any' _ _).mono ?_; rintro e w' ⟨rfl, rfl⟩)
      go_ret
      refine ⟨ret_bool ?_, (Below.refl _ _).alloc (Nat.le_refl _) _⟩
      rw [eq_comm, ← Bool.not_eq_true, rightB_iff]
      rw [smallB_iff] at h2
      omega
  · go_enter Try.func23, Try.ntmps23
    go_wp2
    go_ret
    refine ⟨ret_bool ?_, (Below.refl _ _).alloc (Nat.le_refl _) _⟩
    rw [eq_comm, ← Bool.not_eq_true, rightB_iff]
    omega

theorem abs_g (u d : Int) : g (u.natAbs : Int) d = g u d := by
  unfold g; simp [Int.gcd]

set_option maxHeartbeats 1000000 in
theorem ref_right_any (u d : Int) (w : World) (hu : I64 u) (hd : I64 d) :
    Calls Try.prog 26 #[.agg #[.int .i64 u, .int .i64 d]] w fun e w' => e = .returned (.bool (rightB u d)) ∧ Below w.heap.size w w' := by
  unfold I64 at hu hd
  by_cases h1 : 0 < d
  · by_cases h2 : d ≤ 1073741824
    · by_cases h3 : u ≤ 1073741824
      · by_cases h4 : -1073741824 ≤ u
        · have Hg := Lib.hid (abs_g u d)
          go_enter Try.func26, Try.ntmps26
          go_wp2
          go_quiet (first
            | (go_at_call 36; exact quiet_left (abs_any _ _ (by omega) (by omega)))
            | (go_at_call 35; exact quiet_left (divisor_any _ _ _ (by omega) (by omega) (by omega) (by omega))))
          go_wp2
          go_ret
          refine ⟨ret_bool ?_, below_drewN ((Below.refl _ _).alloc (Nat.le_refl _) _) _⟩
          rw [Hg.out, Bool.eq_iff_iff, rightB_iff]
          simp
          omega
        · have hd : decide (-1073741824 ≤ u) = false := by simpa using h4
          go_enter Try.func26, Try.ntmps26
          go_wp2
          go_quiet (fail)
          go_wp2
          go_ret
          refine ⟨ret_bool ?_, below_drewN ((Below.refl _ _).alloc (Nat.le_refl _) _) _⟩
          rw [eq_comm, ← Bool.not_eq_true, rightB_iff]
          omega
      · have hd : decide (u ≤ 1073741824) = false := by simpa using h3
        go_enter Try.func26, Try.ntmps26
        go_wp2
        go_quiet (fail)
        go_wp2
        go_ret
        refine ⟨ret_bool ?_, below_drewN ((Below.refl _ _).alloc (Nat.le_refl _) _) _⟩
        rw [eq_comm, ← Bool.not_eq_true, rightB_iff]
        omega
    · have hd : decide (d ≤ 1073741824) = false := by simpa using h2
      go_enter Try.func26, Try.ntmps26
      go_wp2
      go_quiet (fail)
      go_wp2
      go_ret
      refine ⟨ret_bool ?_, below_drewN ((Below.refl _ _).alloc (Nat.le_refl _) _) _⟩
      rw [eq_comm, ← Bool.not_eq_true, rightB_iff]
      omega
  · have hd : decide (0 < d) = false := by simpa using h1
    go_enter Try.func26, Try.ntmps26
    go_wp2
    go_quiet (fail)
    go_wp2
    go_ret
    refine ⟨ret_bool ?_, below_drewN ((Below.refl _ _).alloc (Nat.le_refl _) _) _⟩
    rw [eq_comm, ← Bool.not_eq_true, rightB_iff]
    omega

end Go.Proofs.Ytccpefbfjahfnaa.Fr
