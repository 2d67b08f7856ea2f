/-
  FLOATS: products and the order of positive numbers. No program in sight. | FLOATS: their bits, taken apart and put together; scaled; who is fair. No program in sight. | FLOATS: all of them by sign and rung: how they are read, what they are worth, their order. No program in sight. | FLOATS: rounded to the nearest whole number, and by the floor: the same. No program in sight. | FOURIER: plain: what is wrong with a factor; what is read of the waves; rounding to even. | THE VALUE MACHINE (U): states said anew: numbers that take another one's place; a cell that holds nil. No program in sight. | THE VALUE MACHINE (Y): regions that draw, with the keys told: what each operation reads and writes. No program in sight. | THE VALUE MACHINE (SF): the same steps, said in fewer words. No program in sight. | THE VALUE MACHINE (T): texts as lists of bytes. No program in sight. | THE VALUE MACHINE: trailing dead numbers dropped where the result is a struct of values that nobody writes. No program in sight. | THE VALUE MACHINE (PX): calls and operations that panic; functions that hand back or panic. No program in sight. | THE VALUE MACHINE (DF): a function that puts off one call of a literal that recovers, with its two result cells lent to it. No program in sight. | THE VALUE MACHINE (DO): a function that puts calls off which hand nothing back, over the one block that it was lent. No program in sight. | FOURIER: what a plan is made ready once by: walks. (Printed by wip/pm.) | FOURIER: sync.Once: walks. (Printed by wip/pm.) | FOURIER: the roots: walk. (Printed by wip/pm.)
-/
import Derived.Test.YtfibadnkhbjciaaJLawFlat2
import Derived.Test.YtfibadnkhbjciaaJLawFlat1
import Derived.Recover
namespace Go.Proofs.Ytfibadnkhbjciaa.Fl
open Go Ieee

/-- The product of two positive normal numbers. -/
def mulR (a s : Nat) : Nat := F.nearest false (mnt a * mnt s) (plc a + plc s)
theorem mul_nrm {a s : Nat} (ha : Nrm a) (hs : Nrm s) : F.mul a s = some (mulR a s) := by
  unfold Format.mul
  rw [read_nrm ha, read_nrm hs]
  rfl
theorem word_pos (r : Nat) : F.word false r = r := rfl
/-- What is kept of a number of 53 + d digits. -/
def keep (n d : Nat) : Nat := n / 2 ^ d + (decide (2 ^ d < 2 * (n % 2 ^ d)) || (2 ^ d == 2 * (n % 2 ^ d) && n / 2 ^ d % 2 == 1)).toNat
theorem cut_keep {n d : Nat} (h : n.log2 = 52 + d) : Toward.even.cut false n d = keep n d := by
  unfold Toward.cut keep
  rw [Nat.min_eq_left (by omega), Nat.one_shiftLeft]
theorem log_bd {n k : Nat} (hn : n ≠ 0) (h : n.log2 = k) : 2 ^ k ≤ n ∧ n < 2 ^ (k + 1) := (Nat.log2_eq_iff hn).1 h
theorem keep_bd {n d : Nat} (hn : n ≠ 0) (h : n.log2 = 52 + d) : 4503599627370496 ≤ keep n d ∧ keep n d ≤ 9007199254740992 := by
  obtain ⟨h1, h2⟩ := log_bd hn h
  have hp := Nat.pow_pos (n := d) (show 0 < 2 by decide)
  have e1 : 4503599627370496 ≤ n / 2 ^ d := (Nat.le_div_iff_mul_le hp).2 (by rw [pow52, ← Nat.pow_add]; exact h1)
  have e2 : n / 2 ^ d < 9007199254740992 := (Nat.div_lt_iff_lt_mul hp).2 (by
    rw [show (9007199254740992 : Nat) = 2 ^ 53 from by decide, ← Nat.pow_add, show 53 + d = 52 + d + 1 from by omega]; exact h2)
  unfold keep
  have := Bool.toNat_le (decide (2 ^ d < 2 * (n % 2 ^ d)) || (2 ^ d == 2 * (n % 2 ^ d) && n / 2 ^ d % 2 == 1))
  omega
theorem nearest_keep {n d : Nat} {p : Int} (hn : n ≠ 0) (h : n.log2 = 52 + d) (hp : -1074 ≤ p + d) : F.nearest false n p = min ((p + d + 1074).toNat * 4503599627370496 + keep n d) 9218868437227405312 := by
  unfold Format.nearest
  rw [if_neg hn, h, D_least, D_inf, D_binade]
  have e : max (p + ((52 + d : Nat) : Int) - ((F.fractionBits : Nat) : Int)) (-1074) = p + d := by
    rw [show ((F.fractionBits : Nat) : Int) = 52 from rfl]; omega
  rw [e]
  simp only [show (p - (p + (d : Int))).toNat = 0 from by omega, show (p + (d : Int) - p).toNat = d from by omega, Nat.shiftLeft_zero]
  rw [cut_keep h, show p + (d : Int) - -1074 = p + d + 1074 from by omega, word_pos]
theorem keep_mono {n m d : Nat} (h : n ≤ m) : keep n d ≤ keep m d := by
  have hp := Nat.pow_pos (n := d) (show 0 < 2 by decide)
  have h1 : n / 2 ^ d ≤ m / 2 ^ d := Nat.div_le_div_right h
  unfold keep
  have b1 := Bool.toNat_le (decide (2 ^ d < 2 * (n % 2 ^ d)) || (2 ^ d == 2 * (n % 2 ^ d) && n / 2 ^ d % 2 == 1))
  rcases Nat.lt_or_ge (n / 2 ^ d) (m / 2 ^ d) with h2 | h2
  · omega
  · have h3 : n / 2 ^ d = m / 2 ^ d := by omega
    have e1 := Nat.div_add_mod n (2 ^ d)
    have e2 := Nat.div_add_mod m (2 ^ d)
    have h4 : n % 2 ^ d ≤ m % 2 ^ d := by rw [h3] at e1; omega
    rw [h3]
    apply Nat.add_le_add_left
    generalize n % 2 ^ d = x at *
    generalize m % 2 ^ d = y at *
    by_cases c1 : 2 ^ d < 2 * y
    · simp only [c1, decide_true, Bool.true_or, Bool.toNat_true]; exact Bool.toNat_le _
    · by_cases c2 : 2 ^ d < 2 * x
      · omega
      · simp only [c1, c2, decide_false, Bool.false_or]
        by_cases c3 : 2 ^ d = 2 * x
        · have c4 : 2 ^ d = 2 * y := by omega
          rw [show (2 ^ d == 2 * x) = true from by rw [beq_iff_eq]; exact c3, show (2 ^ d == 2 * y) = true from by rw [beq_iff_eq]; exact c4]
          exact Nat.le_refl _
        · rw [show (2 ^ d == 2 * x) = false from by rw [beq_eq_false_iff_ne]; exact c3]
          simp
theorem nearest_mono {n m d e : Nat} {p : Int} (hn : n ≠ 0) (h : n ≤ m) (h1 : n.log2 = 52 + d) (h2 : m.log2 = 52 + e) (hp : -1074 ≤ p + d) : F.nearest false n p ≤ F.nearest false m p := by
  have hm : m ≠ 0 := by omega
  obtain ⟨a1, a2⟩ := log_bd hn h1
  obtain ⟨b1, b2⟩ := log_bd hm h2
  have hde : d ≤ e := by
    rcases Nat.lt_or_ge e d with g | g
    · have : 2 ^ (52 + e + 1) ≤ 2 ^ (52 + d) := Nat.pow_le_pow_right (by decide) (by omega)
      omega
    · exact g
  rw [nearest_keep hn h1 hp, nearest_keep hm h2 (by omega)]
  have k1 := keep_bd hn h1
  have k2 := keep_bd hm h2
  rcases Nat.lt_or_ge d e with g | g
  · have : (p + d + 1074).toNat * 4503599627370496 + keep n d ≤ (p + e + 1074).toNat * 4503599627370496 + keep m e := by
      have : (p + d + 1074).toNat + 1 ≤ (p + e + 1074).toNat := by omega
      omega
    exact Nat.le_min.2 ⟨Nat.le_trans (Nat.min_le_left _ _) this, Nat.min_le_right _ _⟩
  · have hd : d = e := by omega
    subst hd
    have := keep_mono (d := d) h
    exact Nat.le_min.2 ⟨Nat.le_trans (Nat.min_le_left _ _) (Nat.add_le_add_left this _), Nat.min_le_right _ _⟩
theorem prod_log {m n : Nat} (h1 : 4503599627370496 ≤ m) (h2 : m < 9007199254740992) (h3 : 4503599627370496 ≤ n) (h4 : n < 9007199254740992) : m * n ≠ 0 ∧ ((m * n).log2 = 52 + 52 ∨ (m * n).log2 = 52 + 53) := by
  have a1 : 4503599627370496 * 4503599627370496 ≤ m * n := Nat.mul_le_mul h1 h3
  have a2 : m * n < 9007199254740992 * 9007199254740992 := Nat.mul_lt_mul'' h2 h4
  have hn : m * n ≠ 0 := by omega
  refine ⟨hn, ?_⟩
  have b1 : 104 ≤ (m * n).log2 := (Nat.le_log2 hn).2 (by rw [show (2 : Nat) ^ 104 = 4503599627370496 * 4503599627370496 from by decide]; exact a1)
  have b2 : (m * n).log2 < 106 := (Nat.log2_lt hn).2 (by rw [show (2 : Nat) ^ 106 = 9007199254740992 * 9007199254740992 from by decide]; exact a2)
  omega
/-- A product of two numbers of such a size has such a size. -/
theorem near_bd {z : Int} {d : Nat} {q : Nat} (h0 : -1074 ≤ z + d) (h1 : z + d ≤ 900) (hq : q ≤ 9007199254740992) : min ((z + d + 1074).toNat * 4503599627370496 + q) 9218868437227405312 = (z + d + 1074).toNat * 4503599627370496 + q := by
  have h2 : (z + d + 1074).toNat ≤ 1974 := by omega
  exact Nat.min_eq_left (by omega)
theorem mulR_bd {a s : Nat} (hp : -1074 ≤ plc a + plc s + 52) (hq : plc a + plc s ≤ 800) : (plc a + plc s + 52 + 1074).toNat * 4503599627370496 + 4503599627370496 ≤ mulR a s ∧ mulR a s ≤ (plc a + plc s + 53 + 1074).toNat * 4503599627370496 + 9007199254740992 := by
  obtain ⟨hn, hl⟩ := prod_log (mnt_bd a).1 (mnt_bd a).2 (mnt_bd s).1 (mnt_bd s).2
  unfold mulR
  have hz : (plc a + plc s + 53 + 1074).toNat = (plc a + plc s + 52 + 1074).toNat + 1 := by omega
  rcases hl with hl | hl
  · have k := keep_bd hn hl
    rw [nearest_keep hn hl (by omega), near_bd (by omega) (by omega) k.2, show plc a + plc s + ((52 : Nat) : Int) + 1074 = plc a + plc s + 52 + 1074 from rfl, hz]
    generalize (plc a + plc s + 52 + 1074).toNat = z at *
    generalize keep (mnt a * mnt s) 52 = q at *
    clear hl hn hz
    omega
  · have k := keep_bd hn hl
    rw [nearest_keep hn hl (by omega), near_bd (by omega) (by omega) k.2, show plc a + plc s + ((53 : Nat) : Int) + 1074 = plc a + plc s + 53 + 1074 from rfl, hz]
    generalize (plc a + plc s + 52 + 1074).toNat = z at *
    generalize keep (mnt a * mnt s) 53 = q at *
    clear hl hn hz
    omega
theorem mulR_mono {a s t : Nat} (hp : -1074 ≤ plc a + plc s + 52) (he : plc s = plc t) (h : mnt s ≤ mnt t) : mulR a s ≤ mulR a t := by
  obtain ⟨hn, hl⟩ := prod_log (mnt_bd a).1 (mnt_bd a).2 (mnt_bd s).1 (mnt_bd s).2
  obtain ⟨hm, hk⟩ := prod_log (mnt_bd a).1 (mnt_bd a).2 (mnt_bd t).1 (mnt_bd t).2
  unfold mulR
  rw [← he]
  have hle := Nat.mul_le_mul_left (mnt a) h
  rcases hl with hl | hl <;> rcases hk with hk | hk
  · exact nearest_mono hn hle hl hk (by omega)
  · exact nearest_mono hn hle hl hk (by omega)
  · exact nearest_mono hn hle hl hk (by omega)
  · exact nearest_mono hn hle hl hk (by omega)
/-- Less than twice, if it is less than twice. -/
theorem mulR_less {a s : Nat} (ha : Nrm a) (h2 : Nrm (a + 4503599627370496)) (hs : plc s = -52) : mulR a s ≤ a + 4503599627370496 := by
  obtain ⟨hn, hl⟩ := prod_log (mnt_bd a).1 (mnt_bd a).2 (mnt_bd s).1 (mnt_bd s).2
  have hb := mnt_bd a
  have hr := rung_of ha
  have hq : -1074 ≤ plc a := by unfold plc; omega
  have ep : mnt a * 2 ^ 53 ≠ 0 := by have := Nat.pow_pos (n := 53) (show 0 < 2 by decide); exact Nat.mul_ne_zero (by omega) (by omega)
  have el : (mnt a * 2 ^ 53).log2 = 52 + 53 := log2_of (by rw [Nat.pow_add]; exact Nat.mul_le_mul_right _ hb.1) (by
    rw [show 52 + 53 + 1 = 53 + 53 from by omega, Nat.pow_add]
    exact Nat.mul_lt_mul_of_pos_right hb.2 (Nat.pow_pos (by decide)))
  have ea : plc a + -52 + ((53 : Nat) : Int) + 1074 = plc a + 1074 + 1 := by omega
  have er : (plc a + -52 + ((53 : Nat) : Int) + 1074).toNat * 4503599627370496 + mnt a = a + 4503599627370496 := by
    rw [ea]
    generalize mnt a = q at *
    generalize plc a = z at *
    clear hl hn ep el
    omega
  have ex := nearest_exact (m := mnt a) (s := 53) (p := plc a + -52) hb.1 hb.2 (by omega) (by rw [er]; unfold Nrm at h2; omega)
  have hle : mnt a * mnt s ≤ mnt a * 2 ^ 53 := Nat.mul_le_mul_left _ (Nat.le_of_lt (mnt_bd s).2)
  rw [← er, ← ex]
  unfold mulR
  rw [hs]
  rcases hl with hl | hl
  · exact nearest_mono hn hle hl el (by omega)
  · exact nearest_mono hn hle hl el (by omega)
theorem mulR_one {a : Nat} (ha : Nrm a) : mulR a 4607182418800017408 = a := by
  have h := mul_nrm ha (show Nrm 4607182418800017408 by unfold Nrm; omega)
  have hb := mnt_bd a
  have hr := rung_of ha
  have hq : -1074 ≤ plc a := by unfold plc; omega
  have e1 : mnt 4607182418800017408 = 2 ^ 52 := by decide +kernel
  have e2 : plc 4607182418800017408 = -52 := by decide +kernel
  unfold mulR
  rw [e1, e2, nearest_exact hb.1 hb.2 (by omega) (by
    rw [show plc a + -52 + ((52 : Nat) : Int) + 1074 = plc a + 1074 from by omega, ← hr]; unfold Nrm at ha; omega),
    show plc a + -52 + ((52 : Nat) : Int) + 1074 = plc a + 1074 from by omega, ← hr]

/-! ### The order -/
theorem shl_bd {m d : Nat} (h : 4503599627370496 ≤ m) (hd : 1 ≤ d) : 9007199254740992 ≤ m <<< d := by
  rw [Nat.shiftLeft_eq]
  have : 2 ^ 1 ≤ 2 ^ d := Nat.pow_le_pow_right (by decide) hd
  have := Nat.mul_le_mul h this
  omega
theorem order_nrm {r s : Nat} (hr : Nrm r) (hs : Nrm s) : F.order r s = some (compare r s) := by
  unfold Format.order
  rw [read_nrm hr, read_nrm hs]
  show some (compare (signed false (mnt r) (plc r - min (plc r) (plc s)).toNat) (signed false (mnt s) (plc s - min (plc r) (plc s)).toNat)) = _
  congr 1
  have e1 := rung_of hr
  have e2 := rung_of hs
  have b1 := mnt_bd r
  have b2 := mnt_bd s
  have p1 : -1074 ≤ plc r := by unfold plc; omega
  have p2 : -1074 ≤ plc s := by unfold plc; omega
  unfold signed
  simp only [Bool.false_eq_true, if_false]
  rcases Int.lt_trichotomy (plc r) (plc s) with h | h | h
  · have hb := shl_bd b2.1 (show 1 ≤ (plc s - plc r).toNat from by omega)
    rw [Int.min_eq_left (Int.le_of_lt h), show (plc r - plc r).toNat = 0 from by omega, Nat.shiftLeft_zero]
    rw [Int.compare_eq_lt.2 (by omega), Nat.compare_eq_lt.2 (by omega)]
  · rw [h, Int.min_eq_left (Int.le_refl _), show (plc s - plc s).toNat = 0 from by omega, Nat.shiftLeft_zero, Nat.shiftLeft_zero]
    rw [h] at e1
    rcases Nat.lt_trichotomy (mnt r) (mnt s) with g | g | g
    · rw [Int.compare_eq_lt.2 (by omega), Nat.compare_eq_lt.2 (by omega)]
    · rw [Int.compare_eq_eq.2 (by omega), Nat.compare_eq_eq.2 (by omega)]
    · rw [Int.compare_eq_gt.2 (by omega), Nat.compare_eq_gt.2 (by omega)]
  · have hb := shl_bd b1.1 (show 1 ≤ (plc r - plc s).toNat from by omega)
    rw [Int.min_eq_right (Int.le_of_lt h), show (plc s - plc s).toNat = 0 from by omega, Nat.shiftLeft_zero]
    rw [Int.compare_eq_gt.2 (by omega), Nat.compare_eq_gt.2 (by omega)]
end Go.Proofs.Ytfibadnkhbjciaa.Fl
namespace Go.Proofs.Ytfibadnkhbjciaa.Fl
open Go Ieee

theorem wrap_u {n : Nat} (h : n < 18446744073709551616) : IntKind.wrap .u64 ((n : Nat) : Int) = ((n : Nat) : Int) := Pm.wrap_in (by simp only [Pm.InK]; omega)
theorem wrap_i {n : Nat} (h : n < 9223372036854775808) : IntKind.wrap .i64 ((n : Nat) : Int) = ((n : Nat) : Int) := Pm.wrap_in (by simp only [Pm.InK]; omega)
theorem mask_2047 (x : Nat) (h : x < 2048) : IntKind.wrap .i64 (BitVec.ofInt (IntKind.bits .i64) ((x : Nat) : Int) &&& BitVec.ofInt (IntKind.bits .i64) 2047).toNat = ((x : Nat) : Int) := by
  have e : (BitVec.ofInt 64 ((x : Nat) : Int) &&& BitVec.ofInt 64 2047).toNat = x := by
    rw [BitVec.ofInt_natCast, show (BitVec.ofInt 64 2047) = BitVec.ofNat 64 2047 from rfl, BitVec.toNat_and, BitVec.toNat_ofNat, BitVec.toNat_ofNat, Nat.mod_eq_of_lt (by omega), show 2047 % 2 ^ 64 = 2 ^ 11 - 1 from by decide, Nat.and_two_pow_sub_one_eq_mod]
    omega
  show IntKind.wrap .i64 ((BitVec.ofInt 64 ((x : Nat) : Int) &&& BitVec.ofInt 64 2047).toNat : Int) = _
  rw [e]; exact wrap_i (by omega)
theorem bit_in {r : Nat} (h : r < 9223372036854775808) {i : Nat} (hi : 63 ≤ i) : r.testBit i = false := Nat.testBit_lt_two_pow (Nat.lt_of_lt_of_le h (by
  rw [show (9223372036854775808 : Nat) = 2 ^ 63 from by decide]; exact Nat.pow_le_pow_right (by decide) hi))
theorem mask_frac {r : Nat} (h : r < 9223372036854775808) : IntKind.wrap .u64 (BitVec.ofInt (IntKind.bits .u64) ((r : Nat) : Int) &&& ~~~ BitVec.ofInt (IntKind.bits .u64) 9218868437227405312).toNat = ((r % 4503599627370496 : Nat) : Int) := by
  have e : (BitVec.ofInt 64 ((r : Nat) : Int) &&& ~~~ BitVec.ofInt 64 9218868437227405312).toNat = r % 4503599627370496 := by
    rw [BitVec.ofInt_natCast, show (~~~ BitVec.ofInt 64 9218868437227405312) = BitVec.ofNat 64 (2 ^ 63 + (2 ^ 52 - 1)) from by decide, BitVec.toNat_and, BitVec.toNat_ofNat, BitVec.toNat_ofNat, Nat.mod_eq_of_lt (by omega), show (2 ^ 63 + (2 ^ 52 - 1)) % 2 ^ 64 = 2 ^ 63 + (2 ^ 52 - 1) from by decide]
    apply Nat.eq_of_testBit_eq
    intro i
    rw [Nat.testBit_and, show (4503599627370496 : Nat) = 2 ^ 52 from by decide, Nat.testBit_mod_two_pow]
    by_cases h1 : i < 52
    · rw [Nat.testBit_two_pow_add_gt (by omega), Nat.testBit_two_pow_sub_one, decide_eq_true h1, Bool.and_true, Bool.true_and]
    · rw [decide_eq_false h1, Bool.false_and]
      by_cases h2 : i < 63
      · rw [Nat.testBit_two_pow_add_gt h2, Nat.testBit_two_pow_sub_one, decide_eq_false h1, Bool.and_false]
      · rw [bit_in h (by omega), Bool.false_and]
  show IntKind.wrap .u64 ((BitVec.ofInt 64 ((r : Nat) : Int) &&& ~~~ BitVec.ofInt 64 9218868437227405312).toNat : Int) = _
  rw [e]; exact wrap_u (by omega)
theorem mask_abs {r : Nat} (h : r < 9223372036854775808) : IntKind.wrap .u64 (BitVec.ofInt (IntKind.bits .u64) ((r : Nat) : Int) &&& ~~~ BitVec.ofInt (IntKind.bits .u64) 9223372036854775808).toNat = ((r : Nat) : Int) := by
  have e : (BitVec.ofInt 64 ((r : Nat) : Int) &&& ~~~ BitVec.ofInt 64 9223372036854775808).toNat = r := by
    rw [BitVec.ofInt_natCast, show (~~~ BitVec.ofInt 64 9223372036854775808) = BitVec.ofNat 64 (2 ^ 63 - 1) from by decide, BitVec.toNat_and, BitVec.toNat_ofNat, BitVec.toNat_ofNat, Nat.mod_eq_of_lt (by omega), show (2 ^ 63 - 1) % 2 ^ 64 = 2 ^ 63 - 1 from by decide, Nat.and_two_pow_sub_one_eq_mod]
    exact Nat.mod_eq_of_lt h
  show IntKind.wrap .u64 ((BitVec.ofInt 64 ((r : Nat) : Int) &&& ~~~ BitVec.ofInt 64 9223372036854775808).toNat : Int) = _
  rw [e]; exact wrap_u (by omega)
theorem join_bits {f x : Nat} (hf : f < 4503599627370496) (hx : x < 2048) : IntKind.wrap .u64 (BitVec.ofInt (IntKind.bits .u64) ((f : Nat) : Int) ||| BitVec.ofInt (IntKind.bits .u64) ((x * 4503599627370496 : Nat) : Int)).toNat = ((f + x * 4503599627370496 : Nat) : Int) := by
  have e : (BitVec.ofInt 64 ((f : Nat) : Int) ||| BitVec.ofInt 64 ((x * 4503599627370496 : Nat) : Int)).toNat = f + x * 4503599627370496 := by
    rw [BitVec.ofInt_natCast, BitVec.ofInt_natCast, BitVec.toNat_or, BitVec.toNat_ofNat, BitVec.toNat_ofNat, Nat.mod_eq_of_lt (by omega), Nat.mod_eq_of_lt (by omega), Nat.or_comm]
    have := Nat.shiftLeft_add_eq_or_of_lt (i := 52) hf x
    rw [Nat.shiftLeft_eq, show (2 : Nat) ^ 52 = 4503599627370496 from by decide] at this
    omega
  show IntKind.wrap .u64 ((BitVec.ofInt 64 ((f : Nat) : Int) ||| BitVec.ofInt 64 ((x * 4503599627370496 : Nat) : Int)).toNat : Int) = _
  rw [e]; exact wrap_u (by omega)
theorem shr_52 (r : Nat) : (((r : Nat) : Int)).fdiv (2 ^ (52 : Int).toNat) = ((r / 4503599627370496 : Nat) : Int) := by
  rw [show (2 ^ (52 : Int).toNat : Int) = 4503599627370496 from by decide, Int.fdiv_eq_ediv_of_nonneg _ (by decide)]; rfl
/-- A number scaled by a power of two. -/
def ldR (r : Nat) (e : Int) : Nat := r % 4503599627370496 + (((r / 4503599627370496 : Nat) : Int) + e).toNat * 4503599627370496
theorem ldR_nrm {r : Nat} {e : Int} (h1 : 1 ≤ ((r / 4503599627370496 : Nat) : Int) + e) (h2 : ((r / 4503599627370496 : Nat) : Int) + e ≤ 2046) : Nrm (ldR r e) := by unfold Nrm ldR; omega
theorem ldR_zero (r : Nat) : ldR r 0 = r := by unfold ldR; omega
theorem ldR_succ {r : Nat} {e : Int} (h1 : 0 ≤ ((r / 4503599627370496 : Nat) : Int) + e) : ldR r (e + 1) = ldR r e + 4503599627370496 := by unfold ldR; omega
theorem order_zero {r : Nat} (h : Nrm r) : F.order r 0 = some .gt := by
  unfold Format.order
  rw [read_nrm h, show F.read 0 = .number false 0 (-1074) from by decide +kernel]
  show some (compare (signed false (mnt r) (plc r - min (plc r) (-1074)).toNat) (signed false 0 (-1074 - min (plc r) (-1074)).toNat)) = _
  congr 1
  have b := mnt_bd r
  unfold signed
  simp only [Bool.false_eq_true, if_false, Nat.zero_shiftLeft]
  apply Int.compare_eq_gt.2
  have : 0 < mnt r <<< (plc r - min (plc r) (-1074)).toNat := by
    rw [Nat.shiftLeft_eq]
    exact Nat.mul_pos (by omega) (Nat.pow_pos (by decide))
  omega
theorem cmp_lt {r s : Nat} (h : r < s) : compare r s = .lt := Nat.compare_eq_lt.2 h
theorem cmp_gt {r s : Nat} (h : s < r) : compare r s = .gt := Nat.compare_eq_gt.2 h
theorem cmp_eq {r s : Nat} (h : r = s) : compare r s = .eq := Nat.compare_eq_eq.2 h
/-- Whether a float is from 1 to 100000. -/
def fairB (a : Nat) : Bool := (F.order a 4607182418800017408 == some .gt || F.order a 4607182418800017408 == some .eq) && (F.order a 4681608360884174848 == some .lt || F.order a 4681608360884174848 == some .eq)
theorem one_ok : Nrm 4607182418800017408 := by unfold Nrm; omega
theorem most_ok : Nrm 4681608360884174848 := by unfold Nrm; omega
theorem signed_neg_le (m u : Nat) : signed true m u ≤ 0 := by unfold signed; simp only [if_true]; exact Int.neg_nonpos_of_nonneg (Int.natCast_nonneg _)
theorem signed_pos (m u : Nat) (h : 1 ≤ m) : 0 < signed false m u := by
  unfold signed
  simp only [Bool.false_eq_true, if_false]
  have : 0 < m <<< u := by rw [Nat.shiftLeft_eq]; exact Nat.mul_pos h (Nat.pow_pos (by decide))
  omega
theorem fair_nrm {a : Nat} (ha : a < 18446744073709551616) (h : fairB a = true) : Nrm a ∧ 4607182418800017408 ≤ a ∧ a ≤ 4681608360884174848 := by
  unfold fairB at h
  simp only [Bool.and_eq_true, Bool.or_eq_true, beq_iff_eq] at h
  obtain ⟨h1, h2⟩ := h
  by_cases hn : Nrm a
  · refine ⟨hn, ?_⟩
    rw [order_nrm hn one_ok] at h1
    rw [order_nrm hn most_ok] at h2
    simp only [Option.some.injEq] at h1 h2
    rcases h1 with h1 | h1 <;> rcases h2 with h2 | h2
    · have := Nat.compare_eq_gt.1 h1; have := Nat.compare_eq_lt.1 h2; omega
    · have := Nat.compare_eq_gt.1 h1; have := Nat.compare_eq_eq.1 h2; omega
    · have := Nat.compare_eq_eq.1 h1; have := Nat.compare_eq_lt.1 h2; omega
    · have := Nat.compare_eq_eq.1 h1; have := Nat.compare_eq_eq.1 h2; omega
  · exfalso
    unfold Nrm at hn
    have r1 := read_nrm one_ok
    have r2 := read_nrm most_ok
    unfold Format.order at h1 h2
    rw [r1] at h1
    rw [r2] at h2
    by_cases hs : a < 9223372036854775808
    · -- not negative
      by_cases h3 : a < 4503599627370496
      · have e : F.read a = .number false a (-1074) := by
          unfold Format.read
          rw [D_binade, D_sign, D_least]
          have e1 : a % 9223372036854775808 = a := Nat.mod_eq_of_lt (by omega)
          have e2 : (a / 9223372036854775808 % 2 == 1) = false := by rw [Nat.div_eq_of_lt (by omega)]; rfl
          simp only [e1, e2]
          rw [if_pos h3]
        rw [e] at h1
        have hp : plc 4607182418800017408 = -52 := by decide +kernel
        have hm : mnt 4607182418800017408 = 4503599627370496 := by decide +kernel
        simp only [Datum.order, hp, hm, Option.some.injEq] at h1
        have gl : ∀ u : Nat, a < 4503599627370496 <<< u := fun u => by
          rw [Nat.shiftLeft_eq]
          exact Nat.lt_of_lt_of_le h3 (Nat.le_mul_of_pos_right _ (Nat.pow_pos (by decide)))
        have lt : signed false a (-1074 - min (-1074) (-52)).toNat < signed false 4503599627370496 (-52 - min (-1074) (-52)).toNat := by
          rw [show (-1074 - min (-1074) (-52) : Int).toNat = 0 from by decide, show (-52 - min (-1074) (-52) : Int).toNat = 1022 from by decide]
          unfold signed
          simp only [Bool.false_eq_true, if_false, Nat.shiftLeft_zero]
          exact Int.ofNat_lt.2 (gl _)
        rw [Int.compare_eq_lt.2 lt] at h1
        rcases h1 with h1 | h1 <;> cases h1
      · have h4 : 9218868437227405312 ≤ a := by omega
        by_cases h5 : a = 9218868437227405312
        · subst h5
          rw [show F.read 9218868437227405312 = .infinity false from by decide +kernel] at h2
          simp only [Datum.order] at h2
          rcases h2 with h2 | h2 <;> cases h2
        · have e : ∃ s t, F.read a = .nan s t := by
            refine ⟨false, a - 9218868437227405312, ?_⟩
            unfold Format.read
            rw [D_binade, D_sign, D_inf]
            have e1 : a % 9223372036854775808 = a := Nat.mod_eq_of_lt (by omega)
            have e2 : (a / 9223372036854775808 % 2 == 1) = false := by rw [Nat.div_eq_of_lt (by omega)]; rfl
            simp only [e1, e2]
            rw [if_neg h3, if_neg (by omega), if_neg h5]
          obtain ⟨s, t, e⟩ := e
          rw [e] at h1
          simp only [Datum.order] at h1
          rcases h1 with h1 | h1 <;> cases h1
    · have e2 : (a / 9223372036854775808 % 2 == 1) = true := by rw [beq_iff_eq]; omega
      -- negative
      cases hr : F.read a with
      | nan s t =>
        rw [hr] at h1
        simp only [Datum.order] at h1
        rcases h1 with h1 | h1 <;> cases h1
      | infinity s =>
        have hs' : s = true := by
          unfold Format.read at hr
          rw [D_sign] at hr
          simp only [e2] at hr
          split at hr
          · cases hr
          · split at hr
            · cases hr
            · split at hr
              · cases hr; rfl
              · cases hr
        subst hs'
        rw [hr] at h1
        simp only [Datum.order, if_true] at h1
        rcases h1 with h1 | h1 <;> cases h1
      | number s m i =>
        have hs' : s = true := by
          unfold Format.read at hr
          rw [D_sign] at hr
          simp only [e2] at hr
          split at hr
          · cases hr; rfl
          · split at hr
            · cases hr; rfl
            · split at hr <;> cases hr
        subst hs'
        rw [hr] at h1
        simp only [Datum.order, Option.some.injEq] at h1
        have lt : signed true m (i - min i (plc 4607182418800017408)).toNat < signed false (mnt 4607182418800017408) (plc 4607182418800017408 - min i (plc 4607182418800017408)).toNat :=
          Int.lt_of_le_of_lt (signed_neg_le _ _) (signed_pos _ _ (by have := mnt_bd 4607182418800017408; omega))
        rw [Int.compare_eq_lt.2 lt] at h1
        rcases h1 with h1 | h1 <;> cases h1
/-- A whole number, as a float. -/
theorem near_int {n : Nat} (h1 : 1 ≤ n) (h2 : n ≤ 1073741824) : Nrm (FloatKind.f64.nearest (n : Int)) ∧ plc (FloatKind.f64.nearest (n : Int)) ≤ -22 ∧ -52 ≤ plc (FloatKind.f64.nearest (n : Int)) := by
  have e : FloatKind.f64.nearest (n : Int) = F.nearest false n 0 := by
    unfold FloatKind.nearest FloatKind.encode
    rw [show (decide ((n : Int) < 0)) = false from decide_eq_false (by omega), show (n : Int).natAbs = n from Int.natAbs_natCast n]
    rfl
  have hn : n ≠ 0 := by omega
  obtain ⟨b1, b2⟩ := log_bd hn rfl
  have hl : n.log2 ≤ 30 := by
    rcases Nat.lt_or_ge 30 n.log2 with g | g
    · have : 2 ^ 31 ≤ 2 ^ n.log2 := Nat.pow_le_pow_right (by decide) g
      omega
    · exact g
  have c1 : 4503599627370496 ≤ n <<< (52 - n.log2) := by
    rw [Nat.shiftLeft_eq, show (4503599627370496 : Nat) = 2 ^ n.log2 * 2 ^ (52 - n.log2) from by rw [← Nat.pow_add, show n.log2 + (52 - n.log2) = 52 from by omega]]
    exact Nat.mul_le_mul_right _ b1
  have c2 : n <<< (52 - n.log2) < 9007199254740992 := by
    rw [Nat.shiftLeft_eq, show (9007199254740992 : Nat) = 2 ^ (n.log2 + 1) * 2 ^ (52 - n.log2) from by rw [← Nat.pow_add, show n.log2 + 1 + (52 - n.log2) = 53 from by omega]]
    exact Nat.mul_lt_mul_of_pos_right b2 (Nat.pow_pos (by decide))
  have r : F.nearest false n 0 = (n.log2 + 1022) * 4503599627370496 + n <<< (52 - n.log2) := by
    unfold Format.nearest
    rw [if_neg hn, D_least, D_inf, D_binade]
    have em : max (0 + ((n.log2 : Nat) : Int) - ((F.fractionBits : Nat) : Int)) (-1074) = ((n.log2 : Nat) : Int) - 52 := by
      rw [show ((F.fractionBits : Nat) : Int) = 52 from rfl]; omega
    rw [em]
    simp only [show ((0 : Int) - (((n.log2 : Nat) : Int) - 52)).toNat = 52 - n.log2 from by omega, show (((n.log2 : Nat) : Int) - 52 - 0).toNat = 0 from by omega]
    have ec : Toward.even.cut false (n <<< (52 - n.log2)) 0 = n <<< (52 - n.log2) := by
      have := cut_exact (n <<< (52 - n.log2)) 0 (by omega)
      rwa [Nat.pow_zero, Nat.mul_one] at this
    rw [ec, show (((n.log2 : Nat) : Int) - 52 - -1074).toNat = n.log2 + 1022 from by omega, Nat.min_eq_left (by omega), word_pos]
  rw [e, r]
  generalize n <<< (52 - n.log2) = q at *
  generalize n.log2 = z at *
  clear b1 b2 e r
  refine ⟨?_, ?_, ?_⟩
  · unfold Nrm; omega
  · unfold plc; omega
  · unfold plc; omega
def fdiv (a b : Nat) : Nat := (F.div a b).getD 0
theorem div_nrm {a b : Nat} (ha : Nrm a) (hb : Nrm b) : F.div a b = some (fdiv a b) := by
  have h : ∃ q, F.div a b = some q := by
    unfold Format.div
    rw [read_nrm ha, read_nrm hb]
    have := mnt_bd b
    simp only [Datum.quotient]
    rw [if_neg (by omega)]
    exact ⟨_, rfl⟩
  obtain ⟨q, hq⟩ := h
  unfold fdiv; rw [hq]; rfl
end Go.Proofs.Ytfibadnkhbjciaa.Fl
namespace Go.Proofs.Ytfibadnkhbjciaa.Fl
open Go Ieee

def mag (x : Nat) : Nat := x % 9223372036854775808
def sgn (x : Nat) : Bool := x / 9223372036854775808 % 2 == 1
/-- The digits of a finite number of a rung. -/
def md (a : Nat) : Nat := if a < 4503599627370496 then a else mnt a
theorem md_bd (a : Nat) : md a < 9007199254740992 := by unfold md mnt; split <;> omega
theorem plc_lo (a : Nat) : -1074 ≤ plc a := by unfold plc; omega
theorem read_fin {x : Nat} (h : mag x < 9218868437227405312) : F.read x = .number (sgn x) (md (mag x)) (plc (mag x)) := by
  unfold Format.read
  rw [D_binade, D_inf, D_least, D_sign]
  show (if mag x < 4503599627370496 then Datum.number (sgn x) (mag x) (-1074) else if mag x < 9218868437227405312 then Datum.number (sgn x) (4503599627370496 + mag x % 4503599627370496) (-1074 + ((mag x / 4503599627370496 - 1 : Nat) : Int)) else if mag x = 9218868437227405312 then Datum.infinity (sgn x) else Datum.nan (sgn x) (mag x - 9218868437227405312)) = _
  by_cases h1 : mag x < 4503599627370496
  · rw [if_pos h1, md, if_pos h1, plc, Nat.div_eq_of_lt h1]; rfl
  · rw [if_neg h1, if_pos h, md, if_neg h1]; rfl
theorem read_inf {x : Nat} (h : mag x = 9218868437227405312) : F.read x = .infinity (sgn x) := by
  unfold Format.read
  rw [D_binade, D_inf, D_least, D_sign]
  show (if mag x < 4503599627370496 then Datum.number (sgn x) (mag x) (-1074) else if mag x < 9218868437227405312 then Datum.number (sgn x) (4503599627370496 + mag x % 4503599627370496) (-1074 + ((mag x / 4503599627370496 - 1 : Nat) : Int)) else if mag x = 9218868437227405312 then Datum.infinity (sgn x) else Datum.nan (sgn x) (mag x - 9218868437227405312)) = _
  rw [if_neg (by omega), if_neg (by omega), if_pos h]
theorem read_nan {x : Nat} (h : 9218868437227405312 < mag x) : ∃ s t, F.read x = .nan s t := by
  unfold Format.read
  rw [D_binade, D_inf, D_least, D_sign]
  refine ⟨sgn x, mag x - 9218868437227405312, ?_⟩
  show (if mag x < 4503599627370496 then Datum.number (sgn x) (mag x) (-1074) else if mag x < 9218868437227405312 then Datum.number (sgn x) (4503599627370496 + mag x % 4503599627370496) (-1074 + ((mag x / 4503599627370496 - 1 : Nat) : Int)) else if mag x = 9218868437227405312 then Datum.infinity (sgn x) else Datum.nan (sgn x) (mag x - 9218868437227405312)) = _
  rw [if_neg (by omega), if_neg (by omega), if_neg (by omega)]
/-- The word of a sign and a rung. -/
def wd (s : Bool) (q : Nat) : Nat := if s then 9223372036854775808 + q else q
theorem wd_eq (s : Bool) (q : Nat) : F.word s q = wd s q := by cases s <;> rfl
theorem wd_mag {s : Bool} {q : Nat} (h : q < 9223372036854775808) : mag (wd s q) = q ∧ sgn (wd s q) = s := by
  unfold mag sgn wd
  cases s
  · rw [if_neg (by decide)]
    exact ⟨Nat.mod_eq_of_lt h, by rw [Nat.div_eq_of_lt h]; rfl⟩
  · rw [if_pos rfl]
    refine ⟨by omega, ?_⟩
    rw [beq_iff_eq]; omega
theorem wd_false (q : Nat) : wd false q = q := by unfold wd; exact if_neg (by decide)
theorem cut_sign (s : Bool) (k d : Nat) : Toward.even.cut s k d = Toward.even.cut false k d := rfl
theorem near_sign (s : Bool) (n : Nat) (p : Int) : F.nearest s n p = wd s (F.nearest false n p) := by
  unfold Format.nearest
  by_cases h : n = 0
  · rw [if_pos h, if_pos h, wd_eq, wd_eq, wd_false]
  · rw [if_neg h, if_neg h]
    simp only [wd_eq, wd_false, cut_sign s]
theorem near_le (n : Nat) (p : Int) : F.nearest false n p ≤ 9218868437227405312 := by
  unfold Format.nearest
  by_cases h : n = 0
  · rw [if_pos h, word_pos]; omega
  · rw [if_neg h, word_pos, D_inf]; exact Nat.min_le_right _ _

/-! ### What a rung is worth -/
/-- In units of the least number. -/
def V (a : Nat) : Nat := md a * 2 ^ (plc a + 1074).toNat
theorem V_low {a : Nat} (h : a < 4503599627370496) : V a = a := by
  unfold V md plc
  rw [if_pos h, Nat.div_eq_of_lt h]
  exact Nat.mul_one a
theorem V_high {e f : Nat} (hf : f < 4503599627370496) : V ((e + 1) * 4503599627370496 + f) = (4503599627370496 + f) * 2 ^ e := by
  unfold V md mnt plc
  rw [if_neg (by omega), show ((e + 1) * 4503599627370496 + f) % 4503599627370496 = f from by omega, show ((e + 1) * 4503599627370496 + f) / 4503599627370496 = e + 1 from by omega]
  congr 2
  omega
theorem V_succ (a : Nat) : V a < V (a + 1) := by
  by_cases h : a < 4503599627370496
  · rw [V_low h]
    by_cases h1 : a + 1 < 4503599627370496
    · rw [V_low h1]; omega
    · have := V_high (e := 0) (f := 0) (by decide)
      rw [show a + 1 = (0 + 1) * 4503599627370496 + 0 from by omega, this]
      omega
  · obtain ⟨e, f, hf, rfl⟩ : ∃ e f, f < 4503599627370496 ∧ a = (e + 1) * 4503599627370496 + f := ⟨a / 4503599627370496 - 1, a % 4503599627370496, Nat.mod_lt _ (by decide), by omega⟩
    have hp := Nat.pow_pos (n := e) (show 0 < 2 by decide)
    rw [V_high hf]
    by_cases h1 : f + 1 < 4503599627370496
    · rw [show (e + 1) * 4503599627370496 + f + 1 = (e + 1) * 4503599627370496 + (f + 1) from by omega, V_high h1]
      exact Nat.mul_lt_mul_of_pos_right (by omega) hp
    · have hf1 : f = 4503599627370495 := by omega
      subst hf1
      rw [show (e + 1) * 4503599627370496 + 4503599627370495 + 1 = (e + 1 + 1) * 4503599627370496 + 0 from by omega, V_high (by decide), Nat.pow_succ]
      have : (4503599627370496 + 0) * (2 ^ e * 2) = 9007199254740992 * 2 ^ e := by
        rw [Nat.mul_comm (2 ^ e) 2, ← Nat.mul_assoc]
      rw [this]
      exact Nat.mul_lt_mul_of_pos_right (by omega) hp
theorem V_lt {a b : Nat} (h : a < b) : V a < V b := by
  induction b with
  | zero => omega
  | succ b ih =>
    rcases Nat.lt_or_ge a b with g | g
    · exact Nat.lt_trans (ih g) (V_succ b)
    · rw [show a = b from by omega]; exact V_succ b
theorem V_cmp (a b : Nat) : compare (V a) (V b) = compare a b := by
  rcases Nat.lt_trichotomy a b with h | h | h
  · rw [cmp_lt h, cmp_lt (V_lt h)]
  · rw [h, cmp_eq rfl, cmp_eq rfl]
  · rw [cmp_gt h, cmp_gt (V_lt h)]
theorem V_inj {a b : Nat} (h : V a = V b) : a = b := by
  rcases Nat.lt_trichotomy a b with g | g | g
  · have := V_lt g; omega
  · exact g
  · have := V_lt g; omega
/-- A number of at most 53 digits is written as it is. -/
theorem near_V {n : Nat} {p : Int} (h1 : 1 ≤ n) (h2 : n < 9007199254740992) (hp : -1074 ≤ p) (hq : p ≤ 900) : F.nearest false n p < 9218868437227405312 ∧ V (F.nearest false n p) = n * 2 ^ (p + 1074).toNat := by
  have hn : n ≠ 0 := by omega
  obtain ⟨b1, b2⟩ := log_bd hn rfl
  have hl : n.log2 ≤ 52 := by
    rcases Nat.lt_or_ge 52 n.log2 with g | g
    · have : 2 ^ 53 ≤ 2 ^ n.log2 := Nat.pow_le_pow_right (by decide) g
      omega
    · exact g
  have e0 : ∀ last : Int, last ≤ p → Toward.even.cut false (n <<< (p - last).toNat) (last - p).toNat = n * 2 ^ (p - last).toNat := fun last hle => by
    rw [show (last - p).toNat = 0 from by omega, Nat.shiftLeft_eq]
    have hpp := Nat.pow_pos (n := (p - last).toNat) (show 0 < 2 by decide)
    have := cut_exact (n * 2 ^ (p - last).toNat) 0 (Nat.mul_pos h1 hpp)
    rwa [Nat.pow_zero, Nat.mul_one] at this
  have er : F.nearest false n p = min ((max (p + n.log2 - 52) (-1074) + 1074).toNat * 4503599627370496 + n * 2 ^ (p - max (p + n.log2 - 52) (-1074)).toNat) 9218868437227405312 := by
    unfold Format.nearest
    rw [if_neg hn, D_least, D_inf, D_binade, show ((F.fractionBits : Nat) : Int) = 52 from rfl, word_pos]
    rw [e0 _ (by omega), show max (p + (n.log2 : Int) - 52) (-1074) - -1074 = max (p + (n.log2 : Int) - 52) (-1074) + 1074 from by omega]
  rw [er]
  by_cases hc : -1074 ≤ p + n.log2 - 52
  · rw [Int.max_eq_left hc, show (p - (p + (n.log2 : Int) - 52)).toNat = 52 - n.log2 from by omega]
    have c1 : 4503599627370496 ≤ n * 2 ^ (52 - n.log2) := by
      rw [show (4503599627370496 : Nat) = 2 ^ n.log2 * 2 ^ (52 - n.log2) from by rw [← Nat.pow_add, show n.log2 + (52 - n.log2) = 52 from by omega]]
      exact Nat.mul_le_mul_right _ b1
    have c2 : n * 2 ^ (52 - n.log2) < 9007199254740992 := by
      rw [show (9007199254740992 : Nat) = 2 ^ (n.log2 + 1) * 2 ^ (52 - n.log2) from by rw [← Nat.pow_add, show n.log2 + 1 + (52 - n.log2) = 53 from by omega]]
      exact Nat.mul_lt_mul_of_pos_right b2 (Nat.pow_pos (by decide))
    have hE : (p + (n.log2 : Int) - 52 + 1074).toNat ≤ 1974 := by omega
    obtain ⟨K, hK⟩ : ∃ K, K = n * 2 ^ (52 - n.log2) := ⟨_, rfl⟩
    obtain ⟨E, hE0⟩ : ∃ E, E = (p + (n.log2 : Int) - 52 + 1074).toNat := ⟨_, rfl⟩
    rw [← hK] at c1 c2 ⊢
    rw [← hE0] at hE ⊢
    rw [Nat.min_eq_left (by omega)]
    refine ⟨by omega, ?_⟩
    rw [show E * 4503599627370496 + K = (E + 1) * 4503599627370496 + (K - 4503599627370496) from by omega, V_high (by omega), show 4503599627370496 + (K - 4503599627370496) = K from by omega, hK, Nat.mul_assoc, ← Nat.pow_add]
    congr 2
    omega
  · rw [Int.max_eq_right (by omega), show ((-1074 : Int) + 1074).toNat = 0 from rfl, Nat.zero_mul, Nat.zero_add, show (p - -1074).toNat = (p + 1074).toNat from by omega]
    have c2 : n * 2 ^ (p + 1074).toNat < 4503599627370496 := by
      have : n * 2 ^ (p + 1074).toNat < 2 ^ (n.log2 + 1) * 2 ^ (p + 1074).toNat := Nat.mul_lt_mul_of_pos_right b2 (Nat.pow_pos (by decide))
      rw [← Nat.pow_add] at this
      have h52 : 2 ^ (n.log2 + 1 + (p + 1074).toNat) ≤ 2 ^ 52 := Nat.pow_le_pow_right (by decide) (by omega)
      have : (4503599627370496 : Nat) = 2 ^ 52 := by decide
      omega
    rw [Nat.min_eq_left (by omega)]
    exact ⟨by omega, V_low c2⟩

/-! ### The order -/
/-- Where a float stands among all. -/
def key (x : Nat) : Int := if sgn x then -((mag x : Nat) : Int) else ((mag x : Nat) : Int)
theorem cmp_scale {a b : Int} {k : Nat} (hk : 1 ≤ k) : compare (a * (k : Int)) (b * (k : Int)) = compare a b := by
  have hk' : (0 : Int) < (k : Int) := by omega
  rcases Int.lt_trichotomy a b with h | h | h
  · rw [Int.compare_eq_lt.2 h, Int.compare_eq_lt.2 (Int.mul_lt_mul_of_pos_right h hk')]
  · rw [h, Int.compare_eq_eq.2 rfl, Int.compare_eq_eq.2 rfl]
  · rw [Int.compare_eq_gt.2 h, Int.compare_eq_gt.2 (Int.mul_lt_mul_of_pos_right h hk')]
def sg (s : Bool) (n : Nat) : Int := if s then -(n : Int) else (n : Int)
theorem signed_V {s : Bool} {a : Nat} {base : Int} (h : base ≤ plc a) (hb : -1074 ≤ base) : signed s (md a) (plc a - base).toNat * ((2 ^ (base + 1074).toNat : Nat) : Int) = sg s (V a) := by
  have e : md a <<< (plc a - base).toNat * 2 ^ (base + 1074).toNat = V a := by
    rw [Nat.shiftLeft_eq, Nat.mul_assoc, ← Nat.pow_add]
    unfold V
    congr 2
    omega
  unfold signed sg
  cases s
  · rw [if_neg (by decide), if_neg (by decide), ← Int.natCast_mul, e]
  · rw [if_pos rfl, if_pos rfl, Int.neg_mul, ← Int.natCast_mul, e]
theorem sg_cmp (s t : Bool) (a b : Nat) : compare (sg s (V a)) (sg t (V b)) = compare (sg s a) (sg t b) := by
  have h0 : ∀ n, n = 0 → V n = 0 := fun n hn => by subst hn; exact V_low (by decide)
  have h1 : ∀ n, 1 ≤ n → 1 ≤ V n := fun n hn => by have := V_lt (show 0 < n from hn); omega
  unfold sg
  have hv := V_cmp a b
  cases s <;> cases t <;> simp only [if_true, Bool.false_eq_true, if_false]
  · rcases Nat.lt_trichotomy a b with h | h | h
    · have := V_lt h; rw [Int.compare_eq_lt.2 (by omega), Int.compare_eq_lt.2 (by omega)]
    · rw [h, Int.compare_eq_eq.2 rfl, Int.compare_eq_eq.2 rfl]
    · have := V_lt h; rw [Int.compare_eq_gt.2 (by omega), Int.compare_eq_gt.2 (by omega)]
  · rcases Nat.eq_zero_or_pos a with h | h <;> rcases Nat.eq_zero_or_pos b with g | g
    · rw [h0 a h, h0 b g, h, g]
    · have := h1 b g; rw [h0 a h, h, Int.compare_eq_gt.2 (by omega), Int.compare_eq_gt.2 (by omega)]
    · have := h1 a h; rw [h0 b g, g, Int.compare_eq_gt.2 (by omega), Int.compare_eq_gt.2 (by omega)]
    · have := h1 a h; have := h1 b g; rw [Int.compare_eq_gt.2 (by omega), Int.compare_eq_gt.2 (by omega)]
  · rcases Nat.eq_zero_or_pos a with h | h <;> rcases Nat.eq_zero_or_pos b with g | g
    · rw [h0 a h, h0 b g, h, g]
    · have := h1 b g; rw [h0 a h, h, Int.compare_eq_lt.2 (by omega), Int.compare_eq_lt.2 (by omega)]
    · have := h1 a h; rw [h0 b g, g, Int.compare_eq_lt.2 (by omega), Int.compare_eq_lt.2 (by omega)]
    · have := h1 a h; have := h1 b g; rw [Int.compare_eq_lt.2 (by omega), Int.compare_eq_lt.2 (by omega)]
  · rcases Nat.lt_trichotomy a b with h | h | h
    · have := V_lt h; rw [Int.compare_eq_gt.2 (by omega), Int.compare_eq_gt.2 (by omega)]
    · rw [h, Int.compare_eq_eq.2 rfl, Int.compare_eq_eq.2 rfl]
    · have := V_lt h; rw [Int.compare_eq_lt.2 (by omega), Int.compare_eq_lt.2 (by omega)]
theorem order_key {x y : Nat} (hx : mag x ≤ 9218868437227405312) (hy : mag y ≤ 9218868437227405312) : F.order x y = some (compare (key x) (key y)) := by
  unfold Format.order
  by_cases h1 : mag x = 9218868437227405312
  · rw [read_inf h1]
    by_cases h2 : mag y = 9218868437227405312
    · rw [read_inf h2]
      show some (compare (sgn y).toNat (sgn x).toNat) = _
      unfold key
      rw [h1, h2]
      cases sgn x <;> cases sgn y <;> decide
    · rw [read_fin (by omega)]
      show some (if sgn x then Ordering.lt else Ordering.gt) = _
      unfold key
      rw [h1]
      cases sgn x
      · simp only [Bool.false_eq_true, if_false]
        rw [Int.compare_eq_gt.2 (by split <;> omega)]
      · simp only [if_true]
        rw [Int.compare_eq_lt.2 (by split <;> omega)]
  · rw [read_fin (by omega)]
    by_cases h2 : mag y = 9218868437227405312
    · rw [read_inf h2]
      show some (if sgn y then Ordering.gt else Ordering.lt) = _
      unfold key
      rw [h2]
      cases sgn y
      · simp only [Bool.false_eq_true, if_false]
        rw [Int.compare_eq_lt.2 (by split <;> omega)]
      · simp only [if_true]
        rw [Int.compare_eq_gt.2 (by split <;> omega)]
    · rw [read_fin (by omega)]
      show some (compare (signed (sgn x) (md (mag x)) (plc (mag x) - min (plc (mag x)) (plc (mag y))).toNat) (signed (sgn y) (md (mag y)) (plc (mag y) - min (plc (mag x)) (plc (mag y))).toNat)) = _
      have p1 := plc_lo (mag x)
      have p2 := plc_lo (mag y)
      congr 1
      rw [← cmp_scale (k := 2 ^ (min (plc (mag x)) (plc (mag y)) + 1074).toNat) (Nat.pow_pos (by decide)), signed_V (by omega) (by omega), signed_V (by omega) (by omega), sg_cmp]
      rfl
end Go.Proofs.Ytfibadnkhbjciaa.Fl
namespace Go.Proofs.Ytfibadnkhbjciaa.Fl
open Go Ieee

theorem log2_shift {n k : Nat} (hn : 1 ≤ n) : (n * 2 ^ k).log2 = n.log2 + k := by
  obtain ⟨b1, b2⟩ := log_bd (n := n) (by omega) rfl
  have hp := Nat.pow_pos (n := k) (show 0 < 2 by decide)
  exact log2_of (by rw [Nat.pow_add]; exact Nat.mul_le_mul_right _ b1) (by
    rw [show n.log2 + k + 1 = n.log2 + 1 + k from by omega, Nat.pow_add]
    exact Nat.mul_lt_mul_of_pos_right b2 hp)
theorem cut_none {n : Nat} (hn : 1 ≤ n) : Toward.even.cut false n 0 = n := by
  have := cut_exact n 0 hn
  rwa [Nat.pow_zero, Nat.mul_one] at this
/-- Twice as many units, each half as great. -/
theorem near_shift {n k : Nat} {p : Int} (hn : 1 ≤ n) (hl : n.log2 ≤ 52) (hp : -1074 ≤ p + k) : F.nearest false (n * 2 ^ k) p = F.nearest false n (p + k) := by
  have hk := Nat.pow_pos (n := k) (show 0 < 2 by decide)
  have hn0 : n ≠ 0 := by omega
  have hnk : n * 2 ^ k ≠ 0 := Nat.mul_ne_zero hn0 (by omega)
  unfold Format.nearest
  rw [if_neg hnk, if_neg hn0, D_least, D_inf, D_binade, log2_shift hn, show ((F.fractionBits : Nat) : Int) = 52 from rfl]
  rw [show p + ((n.log2 + k : Nat) : Int) - 52 = p + (k : Int) + ((n.log2 : Nat) : Int) - 52 from by omega]
  obtain ⟨L, hL⟩ : ∃ L, L = max (p + (k : Int) + ((n.log2 : Nat) : Int) - 52) (-1074) := ⟨_, rfl⟩
  rw [← hL]
  have hLk : L ≤ p + k := by omega
  have e : Toward.even.cut false ((n * 2 ^ k) <<< (p - L).toNat) (L - p).toNat = Toward.even.cut false (n <<< (p + k - L).toNat) (L - (p + k)).toNat := by
    rw [show (L - (p + k)).toNat = 0 from by omega, Nat.shiftLeft_eq, Nat.shiftLeft_eq]
    rw [cut_none (Nat.mul_pos hn (Nat.pow_pos (by decide)))]
    rcases Int.le_total L p with h | h
    · rw [show (L - p).toNat = 0 from by omega, cut_none (Nat.mul_pos (by omega) (Nat.pow_pos (by decide))), Nat.mul_assoc, ← Nat.pow_add]
      congr 2; omega
    · rw [show (p - L).toNat = 0 from by omega, Nat.pow_zero, Nat.mul_one]
      have e2 : n * 2 ^ k = n * 2 ^ (p + k - L).toNat * 2 ^ (L - p).toNat := by
        rw [Nat.mul_assoc, ← Nat.pow_add]
        congr 2; omega
      rw [e2]
      exact cut_exact _ _ (Nat.mul_pos hn (Nat.pow_pos (by decide)))
  show F.word false (min ((L - -1074).toNat * 4503599627370496 + Toward.even.cut false ((n * 2 ^ k) <<< (p - L).toNat) (L - p).toNat) 9218868437227405312) = F.word false (min ((L - -1074).toNat * 4503599627370496 + Toward.even.cut false (n <<< (p + k - L).toNat) (L - (p + k)).toNat) 9218868437227405312)
  rw [e]
theorem small_log (m : Nat) : m < 2 ^ (m.log2 + 1) := by
  rcases Nat.eq_zero_or_pos m with h | h
  · subst h; exact Nat.pow_pos (by decide)
  · exact (log_bd (n := m) (by omega) rfl).2
/-- What is cut, in one way or another. -/
theorem gap_cut (m k : Nat) : (m / 2 ^ min k (m.log2 + 2) = m / 2 ^ k ∧ m % 2 ^ min k (m.log2 + 2) = m % 2 ^ k) ∧ (min k (m.log2 + 2) = k ∨ (m % 2 ^ k = m ∧ 2 * m < 2 ^ k ∧ 2 * m < 2 ^ min k (m.log2 + 2))) := by
  rcases Nat.le_total k (m.log2 + 2) with h | h
  · rw [Nat.min_eq_left h]; exact ⟨⟨rfl, rfl⟩, .inl rfl⟩
  · have h1 := small_log m
    have h2 : 2 ^ (m.log2 + 2) = 2 * 2 ^ (m.log2 + 1) := by rw [show m.log2 + 2 = m.log2 + 1 + 1 from rfl, Nat.pow_succ, Nat.mul_comm]
    have h3 : 2 ^ (m.log2 + 2) ≤ 2 ^ k := Nat.pow_le_pow_right (by decide) h
    rw [Nat.min_eq_right h]
    have h4 : m < 2 ^ (m.log2 + 2) := by omega
    have h5 : m < 2 ^ k := by omega
    refine ⟨⟨by rw [Nat.div_eq_of_lt h4, Nat.div_eq_of_lt h5], by rw [Nat.mod_eq_of_lt h4, Nat.mod_eq_of_lt h5]⟩, .inr ⟨Nat.mod_eq_of_lt h5, by omega, by omega⟩⟩
theorem cut_even (s : Bool) (m k : Nat) : Toward.even.cut s m k = m / 2 ^ k + (decide (2 ^ k < 2 * (m % 2 ^ k)) || (2 ^ k == 2 * (m % 2 ^ k) && m / 2 ^ k % 2 == 1)).toNat := by
  obtain ⟨⟨h1, h2⟩, h3⟩ := gap_cut m k
  unfold Toward.cut
  simp only [Nat.one_shiftLeft]
  rw [h1, h2]
  rcases h3 with h3 | ⟨h3, h4, h5⟩
  · rw [h3]
  · rw [h3, decide_eq_false (show ¬ 2 ^ k < 2 * m by omega), decide_eq_false (show ¬ 2 ^ min k (m.log2 + 2) < 2 * m by omega), show (2 ^ k == 2 * m) = false from by rw [beq_eq_false_iff_ne]; omega, show (2 ^ min k (m.log2 + 2) == 2 * m) = false from by rw [beq_eq_false_iff_ne]; omega]
theorem cut_down (s : Bool) (m k : Nat) : Toward.down.cut s m k = m / 2 ^ k + (s && m % 2 ^ k != 0).toNat := by
  obtain ⟨⟨h1, h2⟩, _⟩ := gap_cut m k
  unfold Toward.cut
  simp only [Nat.one_shiftLeft]
  rw [h1, h2]
theorem cut_zero (s : Bool) (m k : Nat) : Toward.zero.cut s m k = m / 2 ^ k := by
  obtain ⟨⟨h1, h2⟩, _⟩ := gap_cut m k
  unfold Toward.cut
  simp only [Nat.one_shiftLeft]
  rw [h1]
  rfl

/-! ### 1, in units of the least number -/
theorem pw_split {a b c : Nat} (h : a + b = c) : 2 ^ a * 2 ^ b = 2 ^ c := by rw [← Nat.pow_add, h]
def U : Nat := 2 ^ 1074
theorem U_eq {c : Nat} (h : c = 1074) : 2 ^ c = U := by unfold U; rw [h]
theorem U_split {k : Nat} (h : k ≤ 1074) : 2 ^ k * 2 ^ (1074 - k) = U := by
  rw [pw_split (c := k + (1074 - k)) rfl, U_eq (by omega)]
theorem U_pos : 1 ≤ U := by
  obtain ⟨t, ht⟩ : ∃ t, t = 1074 := ⟨_, rfl⟩
  rw [← U_eq ht]; exact Nat.pow_pos (by decide)
theorem U_at {m k n : Nat} (hk : k ≤ 1074) (h : m = n * 2 ^ k) : m * 2 ^ (1074 - k) = n * U := by rw [h, Nat.mul_assoc, U_split hk]
theorem V_at {x e f n k : Nat} (hk : k ≤ 1074) (hx : x = (e + 1) * 4503599627370496 + f) (hf : f < 4503599627370496) (he : e = 1074 - k) (h : 4503599627370496 + f = n * 2 ^ k) : V x = n * U := by
  rw [hx, V_high hf, he, U_at hk h]
theorem V_C : V 4674736413210574848 = 32768 * U := V_at (e := 1037) (f := 0) (k := 37) (by decide) (by decide) (by decide) (by decide) (by decide)
theorem V_c1 : V 4674736138332667904 = 32767 * U := V_at (e := 1036) (f := 4503324749463552) (k := 38) (by decide) (by decide) (by decide) (by decide) (by decide)
theorem V_half : 2 * V 4602678819172646912 = U := by
  have := V_high (e := 1021) (f := 0) (by decide)
  rw [show (1021 + 1) * 4503599627370496 + 0 = 4602678819172646912 from by decide] at this
  have h2 := U_at (k := 53) (m := 9007199254740992) (n := 1) (by decide) (by decide)
  rw [show 1074 - 53 = 1021 from rfl, Nat.one_mul] at h2
  rw [this, ← h2]
  generalize 2 ^ 1021 = z
  omega
/-- A whole number as a float. -/
theorem whole {N : Nat} (h : N < 9007199254740992) : F.nearest false N 0 < 9218868437227405312 ∧ V (F.nearest false N 0) = N * U := by
  rcases Nat.eq_zero_or_pos N with h0 | h0
  · subst h0
    have e : F.nearest false 0 0 = 0 := by unfold Format.nearest; rw [if_pos rfl, word_pos]
    rw [e, V_low (by decide), Nat.zero_mul]
    exact ⟨by decide, rfl⟩
  · have := near_V (p := 0) h0 h (by decide) (by decide)
    rw [U_eq (c := ((0 : Int) + 1074).toNat) (by decide)] at this
    exact this
theorem cut_whole (s : Bool) {Y N : Nat} (h : V Y = N * U) : Toward.zero.cut s (md Y <<< (plc Y).toNat) (-plc Y).toNat = N := by
  rw [cut_zero, Nat.shiftLeft_eq]
  have hl := plc_lo Y
  unfold V at h
  rcases Int.le_total 0 (plc Y) with g | g
  · rw [show (-plc Y).toNat = 0 from by omega, Nat.pow_zero, Nat.div_one]
    obtain ⟨t, ht⟩ : ∃ t, t = 1074 := ⟨_, rfl⟩
    rw [show (plc Y + 1074).toNat = (plc Y).toNat + t from by omega, Nat.pow_add, ← Nat.mul_assoc, U_eq ht] at h
    exact Nat.mul_right_cancel U_pos h
  · rw [show (plc Y).toNat = 0 from by omega, Nat.pow_zero, Nat.mul_one]
    obtain ⟨k, hk⟩ : ∃ k, k = (-plc Y).toNat := ⟨_, rfl⟩
    rw [show (plc Y + 1074).toNat = 1074 - k from by omega, ← U_split (k := k) (by omega), ← Nat.mul_assoc] at h
    have hp := Nat.pow_pos (n := 1074 - k) (show 0 < 2 by decide)
    have h2 := Nat.mul_right_cancel hp h
    rw [← hk, h2, Nat.mul_div_cancel _ (Nat.pow_pos (by decide))]

/-! ### what is done -/
def rte (y : Nat) : Nat := F.write ((F.read y).integral .even)
def flr (y : Nat) : Nat := F.write ((F.read y).integral .down)
def cutI (y : Nat) : Int := ((F.read y).toInt .zero).getD 0
def y0 (x : Nat) : Nat := (F.mul x 4674736413210574848).getD 0
theorem read_C : F.read 4674736413210574848 = .number false 4503599627370496 (-37) := by decide +kernel
theorem mul_C {x : Nat} (h : mag x ≤ 9218868437227405312) : ∃ q, F.mul x 4674736413210574848 = some (wd (sgn x) q) ∧ q ≤ 9218868437227405312 ∧ (mag x < 4607182418800017408 → q < 4674736413210574848) ∧ (4607182418800017408 ≤ mag x → 4674736413210574848 ≤ q) := by
  unfold Format.mul
  rw [read_C]
  by_cases h1 : mag x = 9218868437227405312
  · rw [read_inf h1]
    refine ⟨9218868437227405312, ?_, by omega, fun g => by omega, fun _ => by omega⟩
    show Option.map F.write (if 4503599627370496 = 0 then none else some (Datum.infinity (sgn x ^^ false))) = _
    rw [if_neg (by decide), Bool.xor_false]
    show some (F.word (sgn x) F.infRung) = _
    rw [wd_eq, D_inf]
  · have h2 : mag x < 9218868437227405312 := by omega
    rw [read_fin h2]
    refine ⟨F.nearest false (md (mag x) * 2 ^ 52) (plc (mag x) + -37), ?_, near_le _ _, ?_, ?_⟩
    · show some (F.nearest (sgn x ^^ false) (md (mag x) * 4503599627370496) (plc (mag x) + -37)) = _
      rw [Bool.xor_false, near_sign, pow52]
    · intro g
      generalize mag x = a at *
      rcases Nat.eq_zero_or_pos (md a) with h3 | h3
      · rw [h3, Nat.zero_mul]
        unfold Format.nearest
        rw [if_pos rfl, word_pos]
        decide
      · have hb := md_bd a
        have hl := plc_lo a
        have hpl : plc a ≤ -53 := by unfold plc; omega
        obtain ⟨b1, b2⟩ := log_bd (n := md a) (by omega) rfl
        have hlog : (md a).log2 ≤ 52 := by
          rcases Nat.lt_or_ge 52 (md a).log2 with u | u
          · have : 2 ^ 53 ≤ 2 ^ (md a).log2 := Nat.pow_le_pow_right (by decide) u
            omega
          · exact u
        rw [near_shift h3 hlog (by omega), show plc a + -37 + ((52 : Nat) : Int) = plc a + 15 from by omega]
        obtain ⟨_, v⟩ := near_V (p := plc a + 15) h3 hb (by omega) (by omega)
        have v2 : V (F.nearest false (md a) (plc a + 15)) = V a * 32768 := by
          rw [v]
          unfold V
          rw [show (plc a + 15 + 1074).toNat = (plc a + 1074).toNat + 15 from by omega, Nat.pow_add, ← Nat.mul_assoc]
        have v3 : V 4674736413210574848 = V 4607182418800017408 * 32768 := by
          rw [V_C, show V 4607182418800017408 = 1 * U from V_at (e := 1022) (f := 0) (k := 52) (by decide) (by decide) (by decide) (by decide) (by decide)]
          omega
        have v4 := V_lt g
        rcases Nat.lt_or_ge (F.nearest false (md a) (plc a + 15)) 4674736413210574848 with u | u
        · exact u
        · exfalso
          have v5 : V 4674736413210574848 ≤ V (F.nearest false (md a) (plc a + 15)) := by
            rcases Nat.lt_or_ge 4674736413210574848 (F.nearest false (md a) (plc a + 15)) with z | z
            · exact Nat.le_of_lt (V_lt z)
            · rw [show F.nearest false (md a) (plc a + 15) = 4674736413210574848 from by omega]; exact Nat.le_refl _
          rw [v2, v3] at v5
          have := Nat.le_of_mul_le_mul_right v5 (by decide)
          omega
    · intro g
      generalize mag x = a at *
      have hm : md a = mnt a := by unfold md; rw [if_neg (by omega)]
      have hb := mnt_bd a
      have hlog : (mnt a).log2 = 52 + 0 := log2_of (by omega) (by omega)
      have hpl : -52 ≤ plc a := by unfold plc; omega
      rw [hm, near_shift (by omega) (by omega) (by omega), nearest_keep (by omega) hlog (by omega)]
      have hk := keep_bd (by omega) hlog
      rw [show plc a + -37 + ((52 : Nat) : Int) + ((0 : Nat) : Int) + 1074 = plc a + 1089 from by omega]
      generalize keep (mnt a) 0 = K at *
      obtain ⟨E, hE⟩ : ∃ E, E = (plc a + 1089).toNat := ⟨_, rfl⟩
      rw [← hE]
      have : 1037 ≤ E := by omega
      clear hE hlog hm hb h h1 h2
      exact Nat.le_min.2 ⟨by omega, by decide⟩
theorem y0_eq {x : Nat} (h : mag x ≤ 9218868437227405312) : F.mul x 4674736413210574848 = some (y0 x) := by
  obtain ⟨q, h1, _⟩ := mul_C h
  unfold y0; rw [h1]; rfl
end Go.Proofs.Ytfibadnkhbjciaa.Fl
namespace Go.Proofs.Ytfibadnkhbjciaa.Pm
open Go Go.Proofs.Ytfibadnkhbjciaa.Fl

theorem ext_round {name : String} {way : Ieee.Toward} {y : Nat} (h : mag y ≤ 9218868437227405312) (w : World) (P : Program) :
    (Extern.MathFloor.toIntegral name way #[.float .f64 y]).run P w = .ok (.float .f64 (F.write ((F.read y).integral way))) w := by
  conv in Extern.MathFloor.toIntegral _ _ _ => whnf
  rw [show FloatKind.f64.decode y = F.read y from rfl]
  by_cases h1 : mag y = 9218868437227405312
  · rw [read_inf h1]; rfl
  · rw [read_fin (by omega)]; rfl
theorem ext_rte {y : Nat} (h : mag y ≤ 9218868437227405312) : ExtTo Try.prog 17 [.av (.float .f64 y)] (.float .f64 (rte y)) :=
  ⟨Try.f17, Extern.MathFloor.toIntegral "math.RoundToEven" .even, [.float .f64 y], rfl, Try.func17, by kernel_rfl, by kernel_rfl, by kernel_rfl, by kernel_rfl, fun w => ext_round h w _⟩
def badI (n : Int) : Bool := decide (n < -512) || decide (512 < n)
theorem badI_of {n : Int} (h : n < -512 ∨ 512 < n) : badI n = true := by
  unfold badI
  rw [Bool.or_eq_true, decide_eq_true_iff, decide_eq_true_iff]
  exact h
def wholeE (l : List Int) : Int := if l.length = 0 ∨ 512 < l.length then 5 else if l.any badI then 3 else 0
theorem wholeE_many {l : List Int} (h : l.length = 0 ∨ 512 < l.length) : wholeE l = 5 := if_pos h
theorem wholeE_bad {l : List Int} {i : Nat} (h : ¬ (l.length = 0 ∨ 512 < l.length)) (hi : i < l.length) (hb : l.getD i 0 < -512 ∨ 512 < l.getD i 0) : wholeE l = 3 := by
  unfold wholeE
  rw [if_neg h, if_pos]
  refine List.any_eq_true.2 ⟨l.getD i 0, ?_, ?_⟩
  · rw [List.getD_eq_getElem?_getD, List.getElem?_eq_getElem hi]
    exact List.getElem_mem hi
  · exact badI_of hb
theorem wholeE_ok {l : List Int} (h : ¬ (l.length = 0 ∨ 512 < l.length)) (hb : ∀ i, i < l.length → ¬ (l.getD i 0 < -512) ∧ ¬ (512 < l.getD i 0)) : wholeE l = 0 := by
  unfold wholeE
  rw [if_neg h, if_neg]
  intro e
  obtain ⟨n, h1, h2⟩ := List.any_eq_true.1 e
  obtain ⟨i, hi, rfl⟩ := List.getElem_of_mem h1
  have h3 := hb i hi
  rw [List.getD_eq_getElem?_getD, List.getElem?_eq_getElem hi] at h3
  unfold badI at h2
  rw [Bool.or_eq_true, decide_eq_true_iff, decide_eq_true_iff] at h2
  rcases h2 with h2 | h2
  · exact h3.1 h2
  · exact h3.2 h2
theorem wholeE_zero {l : List Int} (h : wholeE l = 0) : 1 ≤ l.length ∧ l.length ≤ 512 ∧ ∀ i, i < l.length → -512 ≤ l.getD i 0 ∧ l.getD i 0 ≤ 512 := by
  unfold wholeE at h
  split at h
  · cases h
  · rename_i h1
    split at h
    · cases h
    · rename_i h2
      refine ⟨by omega, by omega, fun i hi => ?_⟩
      refine ⟨Int.not_lt.1 fun e => h2 (List.any_eq_true.2 ⟨l.getD i 0, ?_, badI_of (.inl e)⟩), Int.not_lt.1 fun e => h2 (List.any_eq_true.2 ⟨l.getD i 0, ?_, badI_of (.inr e)⟩)⟩ <;>
      · rw [List.getD_eq_getElem?_getD, List.getElem?_eq_getElem hi]
        exact List.getElem_mem hi
def prodE (a b : List Int) : Int := if wholeE a ≠ 0 then wholeE a else wholeE b
/-- What is read off a wave is the number n. -/
def RdOk (y : Nat) (n : Int) : Prop := ∃ q, FloatKind.f64.format.div y 4611686018427387904 = some q ∧ mag q ≤ 9218868437227405312 ∧ CutTo .f64 (rte q) .i64 n
def outD (c : List Int) (i : Nat) : List Int := (List.range c.length).map fun j => if j < i then c.getD j 0 else 0
theorem outD_len (c : List Int) (i : Nat) : (outD c i).length = c.length := by simp [outD]
theorem outD_zero (c : List Int) : List.replicate c.length (0 : Int) = outD c 0 := by
  apply List.ext_getElem (by simp [outD])
  intro k h1 h2
  simp [outD]
theorem outD_full (c : List Int) : outD c c.length = c := by
  apply List.ext_getElem (by rw [outD_len])
  intro k h1 h2
  simp [outD, h2, List.getD_eq_getElem?_getD]
theorem outD_set {c : List Int} {i : Nat} (_h : i < c.length) : (outD c i).set i (c.getD i 0) = outD c (i + 1) := by
  apply List.ext_getElem (by rw [List.length_set, outD_len, outD_len])
  intro k h1 h2
  rw [outD_len] at h2
  rw [List.getElem_set]
  simp only [outD, List.getElem_map, List.getElem_range]
  by_cases d : i = k
  · subst d
    rw [if_pos rfl, if_pos (by omega)]
  · rw [if_neg d]
    by_cases e : k < i
    · rw [if_pos e, if_pos (by omega)]
    · rw [if_neg e, if_neg (by omega)]
theorem outD_store {c : List Int} {i : Nat} (h : i < c.length) : i + 1 ≤ (ints (outD c i)).length ∧ splice (ints (outD c i)) i [iv (c.getD i 0)] = ints (outD c (i + 1)) := by
  rw [← outD_set h]
  exact ints_splice (by rw [outD_len]; exact h)
theorem nat_sub1 {n : Nat} (h : 1 ≤ n) : ((n : Nat) : Int) - 1 = ((n - 1 : Nat) : Int) := by omega
end Go.Proofs.Ytfibadnkhbjciaa.Pm
namespace Go.Proofs.Ytfibadnkhbjciaa.Pm
open Go

def liveK (σl : List Nat) (l : L) : List Nat := l.filterMap fun x => match x.2 with | some (.blk _ _) => some (σl.getD (x.1 / 2) 0) | _ => none
theorem liveK_mem {l : L} {k : Nat} {T : TypeId} {cs : List PV} (h : get l k = some (.blk T cs)) : ∃ i, ∃ h : i < l.length, (l[i]).1 = k ∧ ∃ T cs, (l[i]).2 = some (.blk T cs) := by
  induction l with
  | nil => simp [get, lk] at h
  | cons x l ih =>
    simp only [get, lk] at h ih
    by_cases e : Nat.beq k x.1 = true
    · rw [if_pos e] at h
      exact ⟨0, by simp, (Nat.eq_of_beq_eq_true e).symm, T, cs, by simpa using h⟩
    · rw [if_neg e] at h
      obtain ⟨i, hi, h1, h2⟩ := ih h
      exact ⟨i + 1, by simp; omega, h1, h2⟩
theorem liveK_inj {σl : List Nat} : ∀ {l : L}, nodupB (liveK σl l) = true → ∀ i j (hi : i < l.length) (hj : j < l.length), (∃ T cs, (l[i]).2 = some (.blk T cs)) → (∃ T cs, (l[j]).2 = some (.blk T cs)) → σl.getD ((l[i]).1 / 2) 0 = σl.getD ((l[j]).1 / 2) 0 → i = j
  | [], _, i, _, hi, _, _, _, _ => absurd hi (Nat.not_lt_zero _)
  | x :: l, h, i, j, hi, hj, ⟨T1, c1, h1⟩, ⟨T2, c2, h2⟩, he => by
    have mem : ∀ q (hq : q < l.length), (∃ T cs, (l[q]).2 = some (.blk T cs)) → σl.getD ((l[q]).1 / 2) 0 ∈ liveK σl l := fun q hq ⟨T, cs, hh⟩ =>
      List.mem_filterMap.2 ⟨l[q], List.getElem_mem hq, by rw [hh]⟩
    cases i with
    | zero =>
      cases j with
      | zero => rfl
      | succ j =>
        exfalso
        simp only [List.getElem_cons_zero, List.getElem_cons_succ] at h1 h2 he
        have hm := mem j (by simpa using hj) ⟨T2, c2, h2⟩
        simp only [liveK, List.filterMap_cons, h1] at h
        rw [← he] at hm
        simp only [nodupB, Bool.and_eq_true] at h
        have := List.all_eq_true.1 h.1 _ hm
        rw [Nat.beq_refl] at this
        cases this
    | succ i =>
      have hl : nodupB (liveK σl l) = true := by
        simp only [liveK, List.filterMap_cons] at h
        split at h
        · exact h
        · simp only [nodupB, Bool.and_eq_true] at h
          exact h.2
      cases j with
      | zero =>
        exfalso
        simp only [List.getElem_cons_zero, List.getElem_cons_succ] at h1 h2 he
        have hm := mem i (by simpa using hi) ⟨T1, c1, h1⟩
        simp only [liveK, List.filterMap_cons, h2] at h
        rw [he] at hm
        simp only [nodupB, Bool.and_eq_true] at h
        have := List.all_eq_true.1 h.1 _ hm
        rw [Nat.beq_refl] at this
        cases this
      | succ j =>
        have := liveK_inj hl i j (by simpa using hi) (by simpa using hj) ⟨T1, c1, h1⟩ ⟨T2, c2, h2⟩ he
        omega
section
variable {P : Program} {n : Nat} {c0 : Cx} {Bor : BorD} {n0 : Nat} {l : L}
/-- As Wk.ren; only numbers that live must be apart. -/
theorem Wk.renD {l' : L} (m : Nat) (hc0 : ∀ i x, c0.own i = some x → i < m) (σl : List Nat) (hσ : σl.take m = List.range m) (hnd : nodupB (liveK σl l') = true) (h : ∀ p ∈ reSt (sgm n0 σl) σl.length l' (get l), p) : Wk P n c0 Bor n0 l σl.length l' := fun cx a hI => by
  have hsp := reSt_spec h
  have hs1 : ∀ i, i < σl.length → sgm n0 σl i = σl.getD i 0 := fun i hi => by
    unfold sgm
    rw [show Nat.blt i σl.length = true from by simpa [Nat.blt_eq] using hi]
  have hs2 : ∀ i, σl.length ≤ i → cx.own (sgm n0 σl i) = none := fun i hi => by
    unfold sgm
    rw [show Nat.blt i σl.length = false from by rw [Bool.eq_false_iff, Ne, Nat.blt_eq]; omega]
    cases ho : cx.own (n0 + i) with
    | none => rfl
    | some x => have : n0 + i < n0 := hI.ids _ x ho; omega
  have hlv : ∀ i, Live (get l') i → i < σl.length ∧ Live (get l) (sgm n0 σl i) := fun i ⟨T, cs, hx⟩ => by
    have h1 := hsp _ _ hx
    simp only at h1
    rw [show kb i / 2 = i by simp only [kb]; omega] at h1
    exact ⟨h1.2.1, T, _, h1.2.2⟩
  refine ⟨cx.via (sgm n0 σl), rfl, { ids := fun i x hx => ?_, blk := fun i T cs hx => ?_, inj := fun i j b T T' l1 l2 h3 h4 => ?_, apart := fun i b T l1 h2 => hI.apart _ b T (hlv i l1).2 h2, bnd := fun i b T h1 => hI.bnd _ b T h1, sok := hI.sok, os := hI.os, tape := hI.tape, output := hI.output, size := hI.size, same := hI.same, laid := hI.laid, s0 := hI.s0, s1 := hI.s1, keep := ⟨hI.keep.S, fun i x hx => ?_, hI.keep.shape⟩, tmps := hI.tmps, dfr := hI.dfr, slot := fun s p hp => ?_, isv := fun s x hx => ?_ }⟩
  · show i < σl.length
    rcases Nat.lt_or_ge i σl.length with h1 | h1
    · exact h1
    · have : cx.own (sgm n0 σl i) = some x := hx
      rw [hs2 i h1] at this
      cases this
  · have h1 := hsp _ _ hx
    simp only at h1
    rw [show kb i / 2 = i by simp only [kb]; omega] at h1
    obtain ⟨ob, h5, h6, h7⟩ := hI.blk _ _ _ h1.2.2
    refine ⟨ob, h5, ones_renL.1 h6, ?_⟩
    rcases h7 with ⟨h7, h8⟩ | ⟨b, arr, h7, h8, h9, h10⟩
    · exact .inl ⟨h7, renL_nil h8⟩
    · rw [renL_length] at h9 h10
      exact .inr ⟨b, arr, h7, h8, h9, fun j hj => rep_via (h10 j hj) _ (renL_get _ _ j hj)⟩
  · obtain ⟨e1, l1'⟩ := hlv i l1
    obtain ⟨e2, l2'⟩ := hlv j l2
    have h5 := hI.inj _ _ b T T' l1' l2' h3 h4
    rw [hs1 i e1, hs1 j e2] at h5
    obtain ⟨_, _, hx1⟩ := l1
    obtain ⟨_, _, hx2⟩ := l2
    obtain ⟨p, hp, h6, h7⟩ := liveK_mem hx1
    obtain ⟨q, hq, h8, h9⟩ := liveK_mem hx2
    have h10 := liveK_inj hnd p q hp hq h7 h9 (by rw [h6, h8, show kb i / 2 = i by simp only [kb]; omega, show kb j / 2 = j by simp only [kb]; omega]; exact h5)
    subst h10
    rw [h6] at h8
    simp only [kb] at h8
    omega
  · have h1 := hc0 i x hx
    have h2 : i < σl.length := by
      have := congrArg List.length hσ
      simp at this
      omega
    have h3 : σl.getD i 0 = i := by
      have h4 := List.getElem?_take_of_lt (l := σl) h1
      rw [hσ] at h4
      rw [List.getD_eq_getElem?_getD, ← h4]
      simp [h1]
    show cx.own (sgm n0 σl i) = some x
    rw [hs1 i h2, h3]
    exact hI.keep.own i x hx
  · have h1 := hsp _ _ hp
    exact rep_via (hI.slot s _ h1) _ rfl
  · cases x with
    | pv p => exact ⟨p, rfl⟩
    | blk T cs =>
      have h1 := hsp _ _ hx
      simp only [Pm.ks] at h1
      omega
theorem Wk.ren2D (l' : L) (m : Nat) (hc0 : ∀ i x, c0.own i = some x → i < m) (σl : List Nat) (hσ : σl.take m = List.range m) (hnd : nodupB (liveK σl l') = true) (hb : shapeB σl.length l' = true)
    (h : l'.map (fun x => get l (rkey (sgm n0 σl) x.1)) = l'.map (fun x => rval (sgm n0 σl) x.2)) : Wk P n c0 Bor n0 l σl.length l' := Wk.renD m hc0 σl hσ hnd (reSt_of h hb)
theorem Wk.ren3D (l' : L) (m : Nat) (hc0 : ∀ i x, c0.own i = some x → i < m) (σl : List Nat) (F : List (Nat × List PV)) (hF : ∀ q ∈ F.map (fun x => shds x.2), q) (hx : l'.map (fixF F) = l'.map (fun x => x.2)) (hσ : σl.take m = List.range m) (hnd : nodupB (liveK σl l') = true) (hb : shapeB σl.length l' = true)
    (h : l'.map (fun x => get l (rkey (sgm n0 σl) x.1)) = l'.map (rvalF (sgm n0 σl) F)) : Wk P n c0 Bor n0 l σl.length l' :=
  Wk.ren2D l' m hc0 σl hσ hnd hb (h.trans (List.map_congr_left fun x hxl => by
    have h1 := List.map_inj_left.1 hx x hxl
    obtain ⟨k, v⟩ := x
    cases v with
    | none => rfl
    | some v =>
      cases v with
      | pv p => rfl
      | blk T cs =>
        simp only [fixF, rvalF, rval] at h1 ⊢
        cases hl : lf k F with
        | none => rfl
        | some ds =>
          rw [hl] at h1
          simp only [Option.some.injEq, Val.blk.injEq] at h1
          simp only [Option.some.injEq, Val.blk.injEq, true_and]
          rw [← h1.2, renL_shd (lf_shd hF hl)]))
/-- A cell that holds nil: an own row that has not been made. -/
theorem Wk.nilc (id j : Nat) (T : TypeId) {B : TypeId} {cells : List PV} (hs : get l (kb id) = some (.blk B cells)) (hj : cells[j]? = some (.av (.slice none 0 0))) : Wk P n c0 Bor n0 l (n0 + 1) ([(kb id, some (.blk B (cells.set j (.osl n0 0 0)))), (kb n0, some (.blk T []))] ++ l) := fun cx a hI => by
  obtain ⟨hk, hh⟩ := heap_virtual hI.toHeap (id := n0) (fun h => absurd h (Nat.lt_irrefl _)) T
  obtain ⟨ob0, ho0, _⟩ := hI.blk id B cells hs
  have hid : id < n0 := hI.ids id _ ho0
  have hg : over [(kb n0, some (.blk T []))] (get l) (kb id) = some (.blk B cells) := by rw [over_b, if_neg (by omega)]; exact hs
  refine ⟨⟨cx.w, cx.S, setOwn cx.own n0 (none, T)⟩, rfl, ?_⟩
  have hge : ∀ k, get ([(kb id, some (.blk B (cells.set j (.osl n0 0 0)))), (kb n0, some (.blk T []))] ++ l) k = if Nat.beq k (kb id) then some (.blk B (cells.set j (.osl n0 0 0))) else over [(kb n0, some (.blk T []))] (get l) k := fun k => by
    rw [get_append]
    simp only [over, lk]
    by_cases h1 : Nat.beq k (kb id) = true
    · simp [h1]
    · simp only [h1]; rfl
  have hb : ∀ i, get ([(kb id, some (.blk B (cells.set j (.osl n0 0 0)))), (kb n0, some (.blk T []))] ++ l) (kb i) = if i = id then some (.blk B (cells.set j (.osl n0 0 0))) else over [(kb n0, some (.blk T []))] (get l) (kb i) := fun i => by
    rw [hge, beq_kb]; by_cases e : i = id <;> simp [e]
  have hsl : ∀ s, get ([(kb id, some (.blk B (cells.set j (.osl n0 0 0)))), (kb n0, some (.blk T []))] ++ l) (Pm.ks s) = get l (Pm.ks s) := fun s => by
    rw [hge, beq_ksb, if_neg (by simp), over_s]
  have hl : ∀ i, Live (get ([(kb id, some (.blk B (cells.set j (.osl n0 0 0)))), (kb n0, some (.blk T []))] ++ l)) i → Live (over [(kb n0, some (.blk T []))] (get l)) i := fun i ⟨T', cs, hx⟩ => by
    rw [hb] at hx
    by_cases e : i = id
    · subst e; exact ⟨B, cells, hg⟩
    · rw [if_neg e] at hx; exact ⟨T', cs, hx⟩
  exact { ids := fun i x hx => by
            rcases hh.ids i x hx with h | h
            · exact Nat.lt_succ_of_lt h
            · subst h; exact Nat.lt_succ_self _
          blk := fun i T' cs hx => by
            rw [hb] at hx
            by_cases e : i = id
            · subst e
              rw [if_pos rfl] at hx
              cases hx
              obtain ⟨ob, h1, h2, h3⟩ := hh.blk i B cells hg
              refine ⟨ob, h1, fun p hp => ?_, ?_⟩
              · rcases List.mem_or_eq_of_mem_set hp with h | h
                · exact h2 p h
                · rw [h]; rfl
              · rcases h3 with ⟨_, h4⟩ | ⟨b, arr, h4, h5, h6, h7⟩
                · rw [h4] at hj; simp at hj
                · refine .inr ⟨b, arr, h4, h5, by rw [List.length_set]; exact h6, fun q hq => ?_⟩
                  rw [List.length_set] at hq
                  by_cases e : q = j
                  · subst e
                    have h8 := h7 q hq
                    have e2 : cells.getD q P0 = .av (.slice none 0 0) := by rw [List.getD_eq_getElem?_getD, hj]; rfl
                    rw [e2] at h8
                    rw [show (cells.set q (.osl n0 0 0)).getD q P0 = .osl n0 0 0 from by rw [List.getD_eq_getElem?_getD, List.getElem?_set_self hq]; rfl, rep_av h8]
                    exact .osl setOwn_same (.inl ⟨_, rfl, rfl⟩)
                  · rw [show (cells.set j (.osl n0 0 0)).getD q P0 = cells.getD q P0 from by rw [List.getD_eq_getElem?_getD, List.getD_eq_getElem?_getD, List.getElem?_set_ne (Ne.symm e)]]
                    exact h7 q hq
            · rw [if_neg e] at hx
              exact hh.blk i T' cs hx
          inj := fun i j b T T' l1 l2 => hh.inj i j b T T' (hl i l1) (hl j l2), apart := fun i b T l1 => hh.apart i b T (hl i l1), bnd := hh.bnd, sok := hh.sok,
          os := hh.os, tape := hh.tape, output := hh.output, size := hh.size, same := hh.same, laid := hh.laid, s0 := hh.s0, s1 := hh.s1, keep := hh.keep, tmps := hI.tmps, dfr := hI.dfr
          slot := fun s' p hp => by
            rw [hsl] at hp
            exact (hI.slot s' p hp).mono hk
          isv := fun s' x hx => by
            rw [hsl] at hx
            exact hI.isv s' x hx }
end
end Go.Proofs.Ytfibadnkhbjciaa.Pm
namespace Go.Proofs.Ytfibadnkhbjciaa.Pm
open Go

def apartK (ws : Nat → List Nat) (rd : Nat → List Nat) (bf : List (List Nat)) (n : Nat) : Bool :=
  (List.range n).all fun j => (List.range j).all fun i => (bf.getD j []).contains i ||
    (((ws i).all fun k => !(ws j).contains k && !(rd j).contains k) && (ws j).all fun k => !(rd i).contains k)
theorem hits_mem {l : L} {k : Nat} : hits l k = true → k ∈ l.map (·.1) := fun h => by
  obtain ⟨x, hx, rfl⟩ := mem_of_hits h
  exact List.mem_map.2 ⟨x, hx, rfl⟩
theorem apart_of {W : Nat → L} {rd : Nat → List Nat} {ws rs : Nat → List Nat} {bf : List (List Nat)} {n : Nat} (hw : ∀ i, i < n → ∀ x ∈ W i, x.1 ∈ ws i) (hr : ∀ i, i < n → ∀ k ∈ rd i, k ∈ rs i) (h : apartK ws rs bf n = true) : apartB W rd bf n = true := by
  simp only [apartK, apartB, List.all_eq_true, List.mem_range, Bool.or_eq_true, Bool.and_eq_true, Bool.not_eq_true'] at h ⊢
  intro j hj i hi
  rcases h j hj i hi with h1 | ⟨h1, h2⟩
  · exact .inl h1
  · refine .inr ⟨fun x hx => ?_, fun x hx => ?_⟩
    · obtain ⟨h3, h4⟩ := h1 x.1 (hw i (by omega) x hx)
      refine ⟨?_, ?_⟩
      · cases hh : hits (W j) x.1 with
        | false => rfl
        | true =>
          obtain ⟨y, hy, e⟩ := List.mem_map.1 (hits_mem hh)
          have := hw j hj y hy
          rw [e] at this
          rw [List.contains_iff_mem.2 this] at h3
          cases h3
      · cases hh : (rd j).contains x.1 with
        | false => rfl
        | true =>
          have := hr j hj x.1 (List.contains_iff_mem.1 hh)
          rw [List.contains_iff_mem.2 this] at h4
          cases h4
    · have h3 := h2 x.1 (hw j hj x hx)
      cases hh : (rd i).contains x.1 with
      | false => rfl
      | true =>
        have := hr i (by omega) x.1 (List.contains_iff_mem.1 hh)
        rw [List.contains_iff_mem.2 this] at h3
        cases h3
def subK (l m : List Nat) : Bool := l.all fun k => m.contains k
def keysB : List Oper → List Out → List (List Nat × List Nat) → Bool
  | [], [], [] => true
  | o :: os, x :: xs, k :: ks => match subK ((wr o.dst x).map (·.1)) k.1, subK x.reads k.2 with
    | true, true => keysB os xs ks
    | _, _ => false
  | _, _, _ => false
theorem keysB_spec : ∀ {os : List Oper} {xs : List Out} {ks : List (List Nat × List Nat)}, keysB os xs ks = true → ∀ i o x, os[i]? = some o → xs[i]? = some x →
    (∀ y ∈ wr o.dst x, y.1 ∈ (ks.getD i ([], [])).1) ∧ ∀ k ∈ x.reads, k ∈ (ks.getD i ([], [])).2
  | o :: os, x :: xs, k :: ks, h, 0, o', x', ho, hx => by
    simp only [keysB] at h
    split at h
    · rename_i h1 h2
      simp only [List.getElem?_cons_zero, Option.some.injEq] at ho hx
      subst ho; subst hx
      refine ⟨fun y hy => ?_, fun q hq => ?_⟩
      · exact List.contains_iff_mem.1 (List.all_eq_true.1 h1 y.1 (List.mem_map.2 ⟨y, hy, rfl⟩))
      · exact List.contains_iff_mem.1 (List.all_eq_true.1 h2 q hq)
    · cases h
  | o :: os, x :: xs, k :: ks, h, i + 1, o', x', ho, hx => by
    simp only [keysB] at h
    split at h
    · exact keysB_spec h i o' x' (by simpa using ho) (by simpa using hx)
    · cases h
  | [], _, _, _, i, _, _, ho, _ => by simp at ho
  | _ :: _, [], _, _, i, _, _, _, hx => by simp at hx
def evrK (P : Program) (n : Nat) (ops : List Oper) (n0 : Nat) (ans : List (Nat × Ans)) (ks : List (List Nat × List Nat)) (live : List Nat) (l : L) : Option (L × List Prop) :=
  match evs P n ops n0 ans ops 0 l with
  | some (l', obs, outs) => match keysB ops outs ks with
    | true => some (live.map fun k => (k, get l' k), obs)
    | false => none
  | none => none
def drawB (ops : List Oper) (bf : List (List Nat)) (ks : List (List Nat × List Nat)) : Bool := befB ops bf && apartK (fun i => (ks.getD i ([], [])).1) (fun i => (ks.getD i ([], [])).2) bf ops.length
theorem evs_len {P : Program} {n : Nat} {ops : List Oper} {n0 : Nat} {ans : List (Nat × Ans)} : ∀ {r : List Oper} {i : Nat} {l l' : L} {obs : List Prop} {outs : List Out}, evs P n ops n0 ans r i l = some (l', obs, outs) → outs.length = r.length
  | [], i, l, l', obs, outs, h => by
    simp only [evs, Option.some.injEq, Prod.mk.injEq] at h
    obtain ⟨_, _, rfl⟩ := h
    rfl
  | o :: r, i, l, l', obs, outs, h => by
    simp only [evs] at h
    split at h
    case h_2 => cases h
    split at h
    case h_2 => cases h
    rename_i l1 obs1 outs1 he
    simp only [Option.some.injEq, Prod.mk.injEq] at h
    obtain ⟨_, _, rfl⟩ := h
    simp [evs_len he]
theorem regionK_ok {E : Env} {n0 : Nat} {l l' : L} {id : Nat} {ops : Array Oper} {ans : List (Nat × Ans)} {bf : List (List Nat)} {ks : List (List Nat × List Nat)} {live : List Nat} {obs : List Prop} (hm : E.P.follows .mixedOrders = true) (h : evrK E.P E.n ops.toList n0 ans ks live l = some (l', obs)) (hd : drawB ops.toList bf ks = true) (hob : ∀ p ∈ obs, p)
    {Q : Exit → Act → World → Prop} (hQ : ∀ c a, Inv E (· < n0 + 8 * ops.size) c (get l') a → Q .normal a c.w) {c : Cx} {a : Act} (hI : Inv E (· < n0) c (get l) a) : (Code.region id ops true).wp E.P Q a c.w := by
  unfold evrK at h
  split at h
  case h_2 => cases h
  rename_i l1 obs1 outs he
  split at h
  case h_2 => cases h
  rename_i hk
  simp only [Option.some.injEq, Prod.mk.injEq] at h
  obtain ⟨rfl, rfl⟩ := h
  simp only [drawB, Bool.and_eq_true] at hd
  have hl := evs_len he
  have hap : apartB (Wt ops.toList.toArray fun i => outs.getD i out0) (fun i => (outs.getD i out0).reads) bf ops.toList.length = true := by
    refine apart_of (fun i hi x hx => ?_) (fun i hi k hk' => ?_) hd.2
    · have h1 : ops.toList[i]? = some ops.toList[i] := by simp only [List.getElem?_eq_getElem hi]
      have h2 : outs[i]? = some (outs.getD i out0) := by rw [List.getD_eq_getElem?_getD, List.getElem?_eq_getElem (by omega)]; rfl
      refine (keysB_spec hk i _ _ h1 h2).1 x ?_
      have : Wt ops.toList.toArray (fun i => outs.getD i out0) i = wr ops.toList[i].dst (outs.getD i out0) := by
        unfold Wt
        rw [List.getElem?_toArray, h1]
        rfl
      rw [this] at hx
      exact hx
    · have h1 : ops.toList[i]? = some ops.toList[i] := by simp only [List.getElem?_eq_getElem hi]
      have h2 : outs[i]? = some (outs.getD i out0) := by rw [List.getD_eq_getElem?_getD, List.getElem?_eq_getElem (by omega)]; rfl
      exact (keysB_spec hk i _ _ h1 h2).2 k hk'
  obtain ⟨h1, h2, h3⟩ := evs_spec (g0 := get l) (tab := fun i => outs.getD i out0) he (by simp) (fun j _ => by simp) (by
    funext k
    have : ∀ m, fold (get l) (Wt ops.toList.toArray fun i => outs.getD i out0) (fun j => decide (j < 0)) m = get l := fun m => by
      induction m with
      | zero => rfl
      | succ m ih => simp only [fold, Nat.not_lt_zero, decide_false, Bool.false_eq_true, if_false]; exact ih
    rw [this])
  have hops : ops.toList.toArray = ops := by simp
  have hlen : ops.toList.length = ops.size := by simp
  have hstep : ∀ i o, ops.toList[i]? = some o → ∀ g, (∀ k ∈ (outs.getD i out0).reads, g k = fold (get l) (Wt ops.toList.toArray fun i => outs.getD i out0) (fun j => decide (j < i)) ops.toList.length k) → StepOk E ops.toList.toArray i o (outs.getD i out0) (n0 + 8 * i) g := by
    intro i o ho g hg
    obtain ⟨h4, h5, h6⟩ := h3 i o (Nat.zero_le _) ho
    exact gplan_ok ho h6 (run_congr h4 hg) fun p hp => hob p (h5 p hp)
  have hfin : ∀ {c : Cx} {a : Act}, Inv E (fun id => id < n0 + 8 * ops.toList.length) c (fold (get l) (Wt ops.toList.toArray fun i => outs.getD i out0) (fun _ => true) ops.toList.length) a → Q .normal a c.w := by
    intro c a h
    rw [← h2, hlen] at h
    exact hQ c a (h.less fun k v hk => get_live k v hk)
  have hs := any_ops (E := E) (l := ops.toList) (g0 := get l) (tab := fun i => outs.getD i out0) (n0 := n0) hd.1 hap hstep (Q := Q) (fun c a h => hfin h)
      ops.toList.length (Array.replicate ops.toList.length false) ⟨{ c.w with drawn := c.w.drawn + 1 }, c.S, c.own⟩ a (by simp) (by
        rw [left_congr (g := fun _ => false) fun i _ => repl_false _ _]
        exact left_false _) (fun j o _ hj => by
        have hj' : (Array.replicate ops.toList.length false).getD j false = true := hj
        rw [repl_false] at hj'
        cases hj') (by
        have h0 : fold (get l) (Wt ops.toList.toArray fun i => outs.getD i out0) (fun j => (Array.replicate ops.toList.length false).getD j false) ops.toList.length = get l := by
          have e : (fun j => (Array.replicate ops.toList.length false).getD j false) = fun _ => false := funext fun j => repl_false _ j
          rw [e]
          have : ∀ m, fold (get l) (Wt ops.toList.toArray fun i => outs.getD i out0) (fun _ => false) m = get l := fun m => by
            induction m with
            | zero => rfl
            | succ m ih => simp only [fold, Bool.false_eq_true, if_false]; exact ih
          exact this _
        rw [h0]
        exact (hI.drawn _).more fun i hi => .inl hi)
  rw [hops] at hs
  refine wp_region_any hm ?_
  rw [hlen] at hs
  exact hs
theorem T_regionD {P : Program} {n : Nat} {c0 : Cx} {Bor : BorD} {Q : Post} {n0 : Nat} {l : L} {rs : List Item} {id : Nat} {ops : Array Oper} (ans : List (Nat × Ans)) (bf : List (List Nat)) (ks : List (List Nat × List Nat)) (live : List Nat) {l' : L} {obs : List Prop} (hm : P.follows .mixedOrders = true) (h : evrK P n ops.toList n0 ans ks live l = some (l', obs)) (hd : drawB ops.toList bf ks = true) (hob : ∀ p ∈ obs, p)
    (hT : T P n c0 Bor Q (n0 + 8 * ops.size) l' rs) : T P n c0 Bor Q n0 l (.code (.region id ops true) :: rs) := fun _ _ hI =>
  regionK_ok (E := ⟨P, n, c0, Bor⟩) hm h hd hob (fun c a h => ⟨c, rfl, hT c a h⟩) hI
/-- A natural number's value. -/
abbrev nv (n : Nat) : PV := iv (n : Int)
/-- A double's value. -/
abbrev flv (n : Nat) : PV := .av (.float .f64 n)
/-- A function's value. -/
abbrev fv (n : FuncId) : PV := .av (.func (.func n) #[] #[])
end Go.Proofs.Ytfibadnkhbjciaa.Pm
namespace Go.Proofs.Ytfibadnkhbjciaa.Pm
open Go

section
variable {P : Program} {n : Nat} {c0 : Cx} {Bor : BorD} {Q : Post} {n0 : Nat} {l : L} {rs : List Item}
/-- A region: the state behind it, what is to be shown. -/
theorem T_r (hm : P.follows .mixedOrders = true) {id : Nat} {ops : Array Oper} {draw : Bool} (ans : List (Nat × Ans)) (l' : L) {obs : List Prop} (hob : ∀ p ∈ obs, p) (hT : T P n c0 Bor Q (n0 + 8 * ops.size) l' rs)
    (h : evr P n ops.toList n0 ans draw (l'.map (·.1)) l = some (l', obs) := by kernel_rfl) : T P n c0 Bor Q n0 l (.code (.region id ops draw) :: rs) :=
  T_region ans _ (fun _ => hm) h hob hT
theorem T_rd (hm : P.follows .mixedOrders = true) {id : Nat} {ops : Array Oper} (ans : List (Nat × Ans)) (bf : List (List Nat)) (ks : List (List Nat × List Nat)) (l' : L) {obs : List Prop} (hob : ∀ p ∈ obs, p) (hT : T P n c0 Bor Q (n0 + 8 * ops.size) l' rs)
    (h : evrK P n ops.toList n0 ans ks (l'.map (·.1)) l = some (l', obs) := by kernel_rfl) (hd : drawB ops.toList bf ks = true := by kernel_rfl) : T P n c0 Bor Q n0 l (.code (.region id ops true) :: rs) :=
  T_regionD ans bf ks _ hm h hd hob hT
theorem T_th {t : Nat} {x y : Code} {b : Bool} (hv : b = true) (h : T P n c0 Bor Q n0 l (.code x :: rs)) (hb : get l (ks t) = some (.pv (.av (.bool b))) := by rfl) : T P n c0 Bor Q n0 l (.code (.cond (.tmp t) x y) :: rs) := T_then hb hv h
theorem T_el {t : Nat} {x y : Code} {b : Bool} (hv : b = false) (h : T P n c0 Bor Q n0 l (.code y :: rs)) (hb : get l (ks t) = some (.pv (.av (.bool b))) := by rfl) : T P n c0 Bor Q n0 l (.code (.cond (.tmp t) x y) :: rs) := T_else hb hv h
theorem rt {m : Nat} {fn : Func} {r : PV} {H' : Hp} (hc0 : ∀ i x, c0.own i = some x → i < m) (l' : L) (σl : List Nat) {cx : Cx} {a : Act} (hI : Inv ⟨P, n, c0, Bor⟩ (· < n0) cx (get l) a)
    (hσ : σl.take m = List.range m := by rfl) (hnd : nodupB σl = true := by rfl) (hb : shapeB σl.length l' = true := by kernel_rfl)
    (h : l'.map (fun x => get l (rkey (sgm n0 σl) x.1)) = l'.map (fun x => rval (sgm n0 σl) x.2) := by kernel_rfl) (hn : σl.length = H'.length := by rfl)
    (hr : runv (get l') (resP P fn.results.toList fun ps => .done (resPV ps) []) = some (r, []) := by kernel_rfl) (hbk : ∀ p ∈ blksB l' 0 H', p := by exact obs_nil) : retQ P fn c0 Bor r H' .ret cx a :=
  ret_ok (.inr rfl) (Wk.ren2 l' m hc0 σl hσ hnd hb h) hn hbk (fun cx a hI => ret_res hr cx a hI) hI
/-- The arguments of a call that lends nothing. -/
abbrev Ren0 (k : Nat) (a : List PV) : Prop := a = renL (sigi [] k) a
end
theorem bt {p : Prop} [Decidable p] (h : p) : (!decide p) = false := by rw [decide_eq_true h]; rfl
theorem bf {p : Prop} [Decidable p] (h : ¬ p) : (!decide p) = true := by rw [decide_eq_false h]; rfl
/-- Results as they are: nil stays nil. -/
def resPN : List PV → PV
  | [p] => p
  | ps => .tup ps
theorem ret_resN {P : Program} {n : Nat} {c0 : Cx} {Bor : BorD} {n0 : Nat} {fn : Func} {l' : L} {r : PV} (h : runv (get l') (resP P fn.results.toList fun ps => .done (resPN ps) []) = some (r, [])) (cx : Cx) (a : Act)
    (hI : Inv ⟨P, n, c0, Bor⟩ (· < n0) cx (get l') a) : ∃ v, (results fn a.tmps).run P cx.w = .ok v cx.w ∧ Rep P cx r v := by
  unfold runv at h
  split at h
  case h_2 => cases h
  rename_i o h0
  simp only [Option.some.injEq, Prod.mk.injEq] at h
  obtain ⟨hr, ho⟩ := h
  obtain ⟨ps, vs, h1, h2, h3⟩ := resP_ok hI (p := r) (wb := o.wb) ⟨o, h0, hr, rfl, fun q hq => by rw [ho] at hq; cases hq⟩
  obtain ⟨rfl, _⟩ := Res.done h3
  have e : (results fn a.tmps).run P cx.w = .ok (if hs : vs.toArray.size = 1 then vs.toArray[0] else .tuple vs.toArray) cx.w := by
    have e0 : results fn a.tmps = (do let vs ← fn.results.mapM (resF a.tmps); pure (if h : vs.size = 1 then vs[0] else .tuple vs)) := rfl
    rw [e0, Array.mapM_eq_mapM_toList]
    simp only [Sem.run_bind, Sem.run_map, h2, Result.andThen_ok]
    rfl
  refine ⟨_, e, ?_⟩
  have hlen : vs.length = ps.length := by simpa using h1.1
  unfold resPN
  split
  · rename_i p
    have h5 : vs.toArray.size = 1 := by simpa using hlen
    rw [dif_pos h5]
    have := h1.2 0 (by simp)
    have h6 : (0 : Nat) < vs.length := by simpa using hlen ▸ Nat.one_pos
    simp [Array.getD_eq_getD_getElem?, h6] at this
    simpa using this
  · rename_i hne
    have h5 : ¬ vs.toArray.size = 1 := fun e => by
      have : ps.length = 1 := by simp at e; omega
      obtain ⟨q, rfl⟩ := List.length_eq_one_iff.1 this
      exact hne q rfl
    rw [dif_neg h5]
    refine .tup (by simp [hlen]) fun i hi => ?_
    have hi' : i < ps.length := by simpa using hi
    have := h1.2 i hi'
    simpa [List.getD_eq_getElem?_getD, hi'] using this

section
variable {P : Program} {n : Nat} {c0 : Cx} {Bor : BorD} {Q : Post} {n0 : Nat} {l : L} {rs : List Item}
theorem rtN {m : Nat} {fn : Func} {r : PV} {H' : Hp} (hc0 : ∀ i x, c0.own i = some x → i < m) (l' : L) (σl : List Nat) {cx : Cx} {a : Act} (hI : Inv ⟨P, n, c0, Bor⟩ (· < n0) cx (get l) a)
    (hσ : σl.take m = List.range m := by rfl) (hnd : nodupB σl = true := by rfl) (hb : shapeB σl.length l' = true := by kernel_rfl)
    (h : l'.map (fun x => get l (rkey (sgm n0 σl) x.1)) = l'.map (fun x => rval (sgm n0 σl) x.2) := by kernel_rfl) (hn : σl.length = H'.length := by rfl)
    (hr : runv (get l') (resP P fn.results.toList fun ps => .done (resPN ps) []) = some (r, []) := by kernel_rfl) (hbk : ∀ p ∈ blksB l' 0 H', p := by exact obs_nil) : retQ P fn c0 Bor r H' .ret cx a :=
  ret_ok (.inr rfl) (Wk.ren2 l' m hc0 σl hσ hnd hb h) hn hbk (fun cx a hI => ret_resN hr cx a hI) hI
theorem dty {p : Prop} [Decidable p] (h : p) : decide p = true := decide_eq_true h
theorem dtn {p : Prop} [Decidable p] (h : ¬ p) : decide p = false := decide_eq_false h
/-! ### a state told by what changes -/
/-- How a state is made of the one before: so many kept (k1 ..), one dropped, one new, the rest kept. -/
inductive Mk where
  | k1 | k2 | k3 | k4 | k5 | k6 | k7 | k8 | d | n | r
/-- A state, and how it is changed, as types: 'HXor' finds the state behind (no class of our own). -/
structure Kl (l : L) : Type where
structure Kc (m : List Mk) (ch : L) : Type where
instance kpe : HXor (Kl []) (Kc [] []) (Kl []) := ⟨fun _ _ => ⟨⟩⟩
instance kpr (l : L) : HXor (Kl l) (Kc [.r] []) (Kl l) := ⟨fun _ _ => ⟨⟩⟩
instance kpn (l : L) (m : List Mk) (ch l' : L) (c : Nat × Option Val) [HXor (Kl l) (Kc m ch) (Kl l')] : HXor (Kl l) (Kc (.n :: m) (c :: ch)) (Kl (c :: l')) := ⟨fun _ _ => ⟨⟩⟩
instance kpd (l : L) (m : List Mk) (ch l' : L) (a : Nat × Option Val) [HXor (Kl l) (Kc m ch) (Kl l')] : HXor (Kl (a :: l)) (Kc (.d :: m) ch) (Kl l') := ⟨fun _ _ => ⟨⟩⟩
instance kp1 (l : L) (m : List Mk) (ch l' : L) (a0 : Nat × Option Val) [HXor (Kl l) (Kc m ch) (Kl l')] : HXor (Kl (a0 :: l)) (Kc (.k1 :: m) ch) (Kl (a0 :: l')) := ⟨fun _ _ => ⟨⟩⟩
instance kp2 (l : L) (m : List Mk) (ch l' : L) (a0 a1 : Nat × Option Val) [HXor (Kl l) (Kc m ch) (Kl l')] : HXor (Kl (a0 :: a1 :: l)) (Kc (.k2 :: m) ch) (Kl (a0 :: a1 :: l')) := ⟨fun _ _ => ⟨⟩⟩
instance kp3 (l : L) (m : List Mk) (ch l' : L) (a0 a1 a2 : Nat × Option Val) [HXor (Kl l) (Kc m ch) (Kl l')] : HXor (Kl (a0 :: a1 :: a2 :: l)) (Kc (.k3 :: m) ch) (Kl (a0 :: a1 :: a2 :: l')) := ⟨fun _ _ => ⟨⟩⟩
instance kp4 (l : L) (m : List Mk) (ch l' : L) (a0 a1 a2 a3 : Nat × Option Val) [HXor (Kl l) (Kc m ch) (Kl l')] : HXor (Kl (a0 :: a1 :: a2 :: a3 :: l)) (Kc (.k4 :: m) ch) (Kl (a0 :: a1 :: a2 :: a3 :: l')) := ⟨fun _ _ => ⟨⟩⟩
instance kp5 (l : L) (m : List Mk) (ch l' : L) (a0 a1 a2 a3 a4 : Nat × Option Val) [HXor (Kl l) (Kc m ch) (Kl l')] : HXor (Kl (a0 :: a1 :: a2 :: a3 :: a4 :: l)) (Kc (.k5 :: m) ch) (Kl (a0 :: a1 :: a2 :: a3 :: a4 :: l')) := ⟨fun _ _ => ⟨⟩⟩
instance kp6 (l : L) (m : List Mk) (ch l' : L) (a0 a1 a2 a3 a4 a5 : Nat × Option Val) [HXor (Kl l) (Kc m ch) (Kl l')] : HXor (Kl (a0 :: a1 :: a2 :: a3 :: a4 :: a5 :: l)) (Kc (.k6 :: m) ch) (Kl (a0 :: a1 :: a2 :: a3 :: a4 :: a5 :: l')) := ⟨fun _ _ => ⟨⟩⟩
instance kp7 (l : L) (m : List Mk) (ch l' : L) (a0 a1 a2 a3 a4 a5 a6 : Nat × Option Val) [HXor (Kl l) (Kc m ch) (Kl l')] : HXor (Kl (a0 :: a1 :: a2 :: a3 :: a4 :: a5 :: a6 :: l)) (Kc (.k7 :: m) ch) (Kl (a0 :: a1 :: a2 :: a3 :: a4 :: a5 :: a6 :: l')) := ⟨fun _ _ => ⟨⟩⟩
instance kp8 (l : L) (m : List Mk) (ch l' : L) (a0 a1 a2 a3 a4 a5 a6 a7 : Nat × Option Val) [HXor (Kl l) (Kc m ch) (Kl l')] : HXor (Kl (a0 :: a1 :: a2 :: a3 :: a4 :: a5 :: a6 :: a7 :: l)) (Kc (.k8 :: m) ch) (Kl (a0 :: a1 :: a2 :: a3 :: a4 :: a5 :: a6 :: a7 :: l')) := ⟨fun _ _ => ⟨⟩⟩
theorem T_k (hm : P.follows .mixedOrders = true) {id : Nat} {ops : Array Oper} {draw : Bool} (ans : List (Nat × Ans)) (m : List Mk) (ch : L) {l' : L} [HXor (Kl l) (Kc m ch) (Kl l')] {obs : List Prop} (hob : ∀ p ∈ obs, p) (hT : T P n c0 Bor Q (n0 + 8 * ops.size) l' rs)
    (h : evr P n ops.toList n0 ans draw (l'.map (·.1)) l = some (l', obs) := by kernel_rfl) : T P n c0 Bor Q n0 l (.code (.region id ops draw) :: rs) :=
  T_r hm ans l' hob hT h
theorem T_kd (hm : P.follows .mixedOrders = true) {id : Nat} {ops : Array Oper} (ans : List (Nat × Ans)) (bf : List (List Nat)) (ks : List (List Nat × List Nat)) (m : List Mk) (ch : L) {l' : L} [HXor (Kl l) (Kc m ch) (Kl l')] {obs : List Prop} (hob : ∀ p ∈ obs, p) (hT : T P n c0 Bor Q (n0 + 8 * ops.size) l' rs)
    (h : evrK P n ops.toList n0 ans ks (l'.map (·.1)) l = some (l', obs) := by kernel_rfl) (hd : drawB ops.toList bf ks = true := by kernel_rfl) : T P n c0 Bor Q n0 l (.code (.region id ops true) :: rs) :=
  T_rd hm ans bf ks l' hob hT h hd
/-! ### what several branches come to -/
theorem lk_mem {α : Type} {k : Nat} : ∀ {l : List (Nat × α)} {v : α}, lk k l = some v → (k, v) ∈ l
  | [], _, h => by simp [lk] at h
  | (j, u) :: l, v, h => by
    simp only [lk] at h
    split at h
    · rename_i e
      obtain rfl := Option.some.inj h
      obtain rfl := Nat.eq_of_beq_eq_true e
      simp
    · exact List.mem_cons_of_mem _ (lk_mem h)
theorem get_less {l' : L} (hl : l'.map (fun x => get l x.1) = l'.map (·.2)) {k : Nat} {v : Val} (h : get l' k = some v) : get l k = some v := by
  unfold get at h
  obtain ⟨o, h1, h2⟩ := Option.join_eq_some_iff.1 h |> fun h => (⟨some v, h, rfl⟩ : ∃ o, lk k l' = some o ∧ o = some v)
  have := List.map_inj_left.1 hl _ (lk_mem h1)
  rw [← h2]; exact this
theorem T_up {n' : Nat} {l' : L} (h : T P n c0 Bor Q n' l' rs) (hn : Nat.ble n0 n' = true := by kernel_rfl) (hl : l'.map (fun x => get l x.1) = l'.map (·.2) := by kernel_rfl) : T P n c0 Bor Q n0 l rs := fun cx a hI =>
  have lv : ∀ {id}, Live (get l') id → Live (get l) id := fun ⟨T, cs, h⟩ => ⟨T, cs, get_less hl h⟩
  h cx a { hI with
    ids := fun id x hx => Nat.lt_of_lt_of_le (hI.ids id x hx) (Nat.le_of_ble_eq_true hn)
    blk := fun id T cs h => hI.blk id T cs (get_less hl h)
    inj := fun id id' b T T' h1 h2 => hI.inj id id' b T T' (lv h1) (lv h2)
    apart := fun id b T h1 => hI.apart id b T (lv h1)
    slot := fun s p h => hI.slot s p (get_less hl h)
    isv := fun s x h => hI.isv s x (get_less hl h) }
theorem T_f1 (n' : Nat) (l' : L) {x0 : Item} (h : T P n c0 Bor Q n' l' rs) (f : T P n c0 Bor Q n' l' rs → T P n c0 Bor Q n0 l (x0 :: rs)) : T P n c0 Bor Q n0 l (x0 :: rs) := f h
theorem T_f2 (n' : Nat) (l' : L) {x0 x1 : Item} (h : T P n c0 Bor Q n' l' rs) (f : T P n c0 Bor Q n' l' rs → T P n c0 Bor Q n0 l (x0 :: x1 :: rs)) : T P n c0 Bor Q n0 l (x0 :: x1 :: rs) := f h
theorem T_f3 (n' : Nat) (l' : L) {x0 x1 x2 : Item} (h : T P n c0 Bor Q n' l' rs) (f : T P n c0 Bor Q n' l' rs → T P n c0 Bor Q n0 l (x0 :: x1 :: x2 :: rs)) : T P n c0 Bor Q n0 l (x0 :: x1 :: x2 :: rs) := f h
theorem T_f4 (n' : Nat) (l' : L) {x0 x1 x2 x3 : Item} (h : T P n c0 Bor Q n' l' rs) (f : T P n c0 Bor Q n' l' rs → T P n c0 Bor Q n0 l (x0 :: x1 :: x2 :: x3 :: rs)) : T P n c0 Bor Q n0 l (x0 :: x1 :: x2 :: x3 :: rs) := f h
theorem T_f5 (n' : Nat) (l' : L) {x0 x1 x2 x3 x4 : Item} (h : T P n c0 Bor Q n' l' rs) (f : T P n c0 Bor Q n' l' rs → T P n c0 Bor Q n0 l (x0 :: x1 :: x2 :: x3 :: x4 :: rs)) : T P n c0 Bor Q n0 l (x0 :: x1 :: x2 :: x3 :: x4 :: rs) := f h
theorem T_f6 (n' : Nat) (l' : L) {x0 x1 x2 x3 x4 x5 : Item} (h : T P n c0 Bor Q n' l' rs) (f : T P n c0 Bor Q n' l' rs → T P n c0 Bor Q n0 l (x0 :: x1 :: x2 :: x3 :: x4 :: x5 :: rs)) : T P n c0 Bor Q n0 l (x0 :: x1 :: x2 :: x3 :: x4 :: x5 :: rs) := f h
theorem T_f7 (n' : Nat) (l' : L) {x0 x1 x2 x3 x4 x5 x6 : Item} (h : T P n c0 Bor Q n' l' rs) (f : T P n c0 Bor Q n' l' rs → T P n c0 Bor Q n0 l (x0 :: x1 :: x2 :: x3 :: x4 :: x5 :: x6 :: rs)) : T P n c0 Bor Q n0 l (x0 :: x1 :: x2 :: x3 :: x4 :: x5 :: x6 :: rs) := f h
theorem T_f8 (n' : Nat) (l' : L) {x0 x1 x2 x3 x4 x5 x6 x7 : Item} (h : T P n c0 Bor Q n' l' rs) (f : T P n c0 Bor Q n' l' rs → T P n c0 Bor Q n0 l (x0 :: x1 :: x2 :: x3 :: x4 :: x5 :: x6 :: x7 :: rs)) : T P n c0 Bor Q n0 l (x0 :: x1 :: x2 :: x3 :: x4 :: x5 :: x6 :: x7 :: rs) := f h
end
end Go.Proofs.Ytfibadnkhbjciaa.Pm
namespace Go.Proofs.Ytfibadnkhbjciaa.Pm
open Go

abbrev st (l : List UInt8) : ByteArray := ⟨l.toArray⟩
theorem st_list (l : List UInt8) : (st l).data.toList = l := rfl
theorem st_of (s : ByteArray) : st s.data.toList = s := rfl
theorem st_size (l : List UInt8) : (st l).size = l.length := rfl
theorem st_app (a b : List UInt8) : st a ++ st b = st (a ++ b) := by
  apply ByteArray.ext
  rw [ByteArray.data_append]
  simp
theorem st_toList (l : List UInt8) : (st l).toList = l := by
  rw [ByteArray.toList_eq]
theorem st_eq (a b : List UInt8) : ((st a).toList == (st b).toList) = decide (a = b) := by
  rw [st_toList, st_toList]
  rw [Bool.eq_iff_iff]; simp
theorem st_ne (a b : List UInt8) : (!((st a).toList == (st b).toList)) = !decide (a = b) := by rw [st_eq]
theorem st_cut (l : List UInt8) (i j : Nat) : (st l).extract i j = st ((l.drop i).take (j - i)) := by
  apply ByteArray.ext
  rw [ByteArray.data_extract]
  apply Array.ext'
  simp
theorem st_from (l : List UInt8) (i : Nat) (j : Nat) (hj : j = l.length) : (st l).extract i j = st (l.drop i) := by
  rw [st_cut, List.take_of_length_le (by simp; omega)]
theorem st_upto (l : List UInt8) (j : Nat) : (st l).extract 0 j = st (l.take j) := by
  rw [st_cut, List.drop_zero, Nat.sub_zero]
end Go.Proofs.Ytfibadnkhbjciaa.Pm
namespace Go.Proofs.Ytfibadnkhbjciaa.Pm
open Go

theorem pc_trimS {P : Program} {f : FuncId} {args rs : List PV} (H' : Hp) (hr : shds rs) (_hd : ∀ i, H'.getD i none = none) (h : PC P f args [] (.agg rs) H') : PC P f args [] (.agg rs) [] := by
  obtain ⟨h1, _, h2⟩ := h
  refine ⟨h1, Nat.le_refl _, fun c vs hh hrl => (h2 c vs hh hrl).mono ?_⟩
  rintro e w' ⟨u, c', rfl, rfl, h3, h4⟩
  have hno : ∀ (H : Hp), (∀ i, H.getD i none = none) → ∀ i, ¬ Live (hSt H) i := fun H hH i ⟨T, cs, hx⟩ => by rw [hSt_b, hH] at hx; cases hx
  have hno0 := hno [] (fun i => by simp)
  have hown : ∀ i x, c.own i = some x → False := fun i x hx => by have : i < 0 := hh.ids i x hx; omega
  have hk := h3.keep
  refine ⟨u, ⟨c'.w, c'.S, fun _ => none⟩, rfl, rfl, { ids := fun i x hx => (by cases hx), blk := fun i T cs hx => absurd ⟨T, cs, hx⟩ (hno0 i), inj := fun i j b T T' l1 => absurd l1 (hno0 i), apart := fun i b T l1 => absurd l1 (hno0 i), bnd := fun i b T hx => (by cases hx), sok := h3.sok, os := h3.os, tape := h3.tape, output := h3.output, size := h3.size, same := h3.same, laid := h3.laid, s0 := h3.s0, s1 := h3.s1, keep := ⟨hk.S, fun i x hx => (hown i x hx).elim, hk.shape⟩ }, ?_⟩
  obtain ⟨us, rfl, q1, q2⟩ := rep_agg h4
  have hsr : ∀ i, i < rs.length → SRep c'.w c'.S (rs.getD i P0) (us.getD i undef) := fun i hi => shd_rep (q2 i hi) (hr _ (by
    rw [List.getD_eq_getElem?_getD, List.getElem?_eq_getElem hi]
    exact List.getElem_mem hi))
  exact .sh (.agg q1 hsr)
end Go.Proofs.Ytfibadnkhbjciaa.Pm
namespace Go.Proofs.Ytfibadnkhbjciaa.Pm
open Go

/-- Called with such arguments, the lent blocks as H tells them, function f panics with v; behind it the lent blocks are as H' tells. -/
def PX (P : Program) (f : FuncId) (args : List PV) (H : Hp) (v : Value) (H' : Hp) : Prop := FnOk P f ∧ H.length ≤ H'.length ∧ ∀ (c : Cx) (vs : Array Value), Heap (cEnv P c H) (· < H.length) c (hSt H) → RL P c args vs →
  Calls P f vs c.w fun e w' => ∃ c', e = .panicked [{ v := v, recovered := false }] ∧ c'.w = w' ∧ Heap (cEnv P c H) (· < H'.length) c' (hSt H')
/-- How a function ends. -/
inductive O where
  | ret (r : PV) (H' : Hp)
  | pan (v : Value) (H' : Hp)
def O.H : O → Hp
  | .ret _ H' => H'
  | .pan _ H' => H'
def PO (P : Program) (f : FuncId) (args : List PV) (H : Hp) : O → Prop
  | .ret r H' => PC P f args H r H'
  | .pan v H' => PX P f args H v H'

/-! ### an operation that panics -/
def callX (P : Program) (f : FuncId) (args : List PV) (id : Nat) (ids : List Nat) (bs : List PV) (H : Hp) (v : Value) (H' : Hp) : Plan :=
  match Nat.ble H'.length (ids.length + 8), nodupB ids with
  | true, true => .ob (PX P f bs H v H') (.ob (args = renL (sigi ids id) bs) (lentP (sigi ids id) ids H (.done (.av v) (wcall (sigo ids id) 0 H'))))
  | _, _ => .fail
def panP (x : Operand) : Plan := opd x fun p => match p with
  | .av (.iface t v) => .done (.av (.iface t v)) []
  | _ => .fail
def planX (P : Program) (o : Oper) (an : Ans) (id : Nat) : Plan := match o.op with
  | .panic x => panP x
  | .call { callee := .value fx, args, .. } => opd fx fun fv => opdl args.toList fun qs => match fv, an with
    | .av (.func (.func f) fs cs), .call ids bs H (.av v) H' => callX P f (fs.toList.map .av ++ qs.map cz ++ cs.toList.map .av) id ids bs H v H'
    | _, _ => .fail
  | _ => .fail
abbrev chn (v : Value) : Exit := .panic [{ v := v, recovered := false }]
def XOk (E : Env) (o : Oper) (id : Nat) (pl : Plan) : Prop := ∀ (g : St) (v : Value) (wb : L), Res g pl (.av v) wb → ∀ (nx : Nat → Prop) (c : Cx) (a : Act) (K : Act → World → Prop) (Q : Exit → Act → World → Prop), (∀ t, t < 8 → ¬ nx (id + t)) → Inv E nx c g a →
  (∀ c', Inv E (fun j => nx j ∨ (id ≤ j ∧ j < id + 8)) c' (over wb g) a → Q (chn v) a c'.w) → o.wp E.P a c.w K Q
theorem over_nil (g : St) : over [] g = g := rfl
theorem Inv.keeps {E : Env} {nx nx' : Nat → Prop} {c c' : Cx} {g g' : St} {a : Act} (h : Inv E nx c g a) (hk : Keep c c') (hh : Heap E nx' c' g') (hs : ∀ s, g' (ks s) = g (ks s)) : Inv E nx' c' g' a :=
  { hh with tmps := h.tmps, dfr := h.dfr, slot := fun s p hp => (h.slot s p (by rw [← hs]; exact hp)).mono hk, isv := fun s x hx => h.isv s x (by rw [← hs]; exact hx) }
theorem planX_ok {E : Env} {o : Oper} {id : Nat} {an : Ans} : XOk E o id (planX E.P o an id) := by
  intro g v wb h nx c a K Q hn hI hQ
  unfold planX at h
  split at h
  · rename_i x ho
    unfold panP at h
    obtain ⟨q, hq, h1⟩ := Res.opd hI h
    split at h1
    · rename_i t u
      obtain ⟨h2, rfl⟩ := Res.done h1
      cases h2
      have hv := rep_av hq
      have hr : (execOp a.eval o).run E.P c.w = .halt (.panic (.iface t u)) c.w := by
        simp [execOp, ho, hv, Instr.panic, goPanic, Sem.run]
      unfold Oper.wp
      rw [hr, Oper.upon_panic]
      exact hQ c (hI.more fun _ h => .inl h)
    · exact (Res.fail h1).elim
  · rename_i fx xs ts ho
    obtain ⟨q, hq, h1⟩ := Res.opd hI h
    obtain ⟨ps, hps, h2⟩ := Res.opdl hI h1
    have hps' : RL E.P c ps (xs.map a.eval) := by
      have e : (xs.toList.map a.eval).toArray = xs.map a.eval := by apply Array.ext'; simp
      rw [← e]; exact hps
    split at h2
    · rename_i f fs cs ids bs H u H'
      unfold callX at h2
      split at h2
      case h_2 => exact (Res.fail h2).elim
      rename_i hb1 hb2
      obtain ⟨⟨hfn, hHl, hpc⟩, h3⟩ := Res.ob h2
      obtain ⟨he, h4⟩ := Res.ob h3
      obtain ⟨hlen, h5, hlent⟩ := lent_ok h4
      obtain ⟨h6, rfl⟩ := Res.done h5
      cases h6
      have hrl := ((avs_rl (P := E.P) (c := c) fs).append hps'.czs).append (avs_rl cs)
      rw [he] at hrl
      have hex : (execOp a.eval o).run E.P c.w = .ok (.enter f (fs ++ xs.map a.eval ++ cs)) c.w := by
        obtain ⟨fn, h1, h2, h3⟩ := hfn
        have h4 : (callFunc f (fs ++ xs.map a.eval ++ cs)).run E.P c.w = .ok (.enter f (fs ++ xs.map a.eval ++ cs)) c.w := by
          have h2' : ¬ fn.body = none := fun e => by rw [e] at h2; cases h2
          have h3' : ¬ fn.name = "runtime.NumGoroutine" := by simpa using h3
          simp [callFunc, h1, h3', h2']
        simp only [execOp, ho, resolve, rep_av hq, Deferred.ofValue, invoke, Sem.run_bind, Sem.run_pure, Result.andThen_ok]
        exact h4
      refine call_any (G := fun e _ => e = .panicked [{ v := v, recovered := false }]) hn hI (Nat.le_of_ble_eq_true hb1) hb2 hHl hlen hlent (fun c vs h1 h2 => (hpc c vs h1 h2).mono ?_) hrl hex ?_
      · rintro e w' ⟨c', rfl, rfl, h4⟩
        exact ⟨c', rfl, h4, rfl⟩
      · rintro e c' own2 rfl hk hto hh2
        refine hQ ⟨c'.w, c'.S, own2⟩ (hI.keeps hk hh2 fun s => ?_)
        unfold over
        rw [lk_wcall_s]
    · exact (Res.fail h2).elim
  · exact (Res.fail h).elim
/-- A guarded one. -/
def gplanX (P : Program) (ops : List Oper) (o : Oper) (an : Ans) (id : Nat) : Plan := match o.guard with
  | none => planX P o an id
  | some (j, want) => match (ops[j]?).bind (·.dst) with
    | some d => .look (ks d) fun v => match v, an with
      | .pv (.av (.bool t)), .gd b an' => .ob (t = b) (match b == want with | true => planX P o an' id | false => .fail)
      | _, _ => .fail
    | none => .fail
def StepX (E : Env) (ops : Array Oper) (i : Nat) (v : Value) (wb : L) (id : Nat) (g : St) : Prop :=
  ∀ (nx : Nat → Prop) (c : Cx) (a : Act) (K : Act → World → Prop) (Q : Exit → Act → World → Prop), (∀ t, t < 8 → ¬ nx (id + t)) → Inv E nx c g a →
    (∀ c', Inv E (fun j => nx j ∨ (id ≤ j ∧ j < id + 8)) c' (over wb g) a → Q (chn v) a c'.w) → wpOp E.P ops Q i K a c.w
theorem gplanX_ok {E : Env} {l : List Oper} {i : Nat} {o : Oper} {id : Nat} {an : Ans} (ho : l[i]? = some o) {g : St} {out : Out} {v : Value} (hr : run g (gplanX E.P l o an id) = some out) (hv : out.pv = .av v) (hob : ∀ p ∈ out.obs, p) :
    StepX E l.toArray i v out.wb id g := by
  intro nx c a K Q hn hI hQ
  have hres : Res g (gplanX E.P l o an id) (.av v) out.wb := ⟨out, hr, hv, rfl, hob⟩
  have ho' : l.toArray[i]? = some o := by simpa using ho
  unfold wpOp
  simp only [ho']
  unfold gplanX at hres
  split at hres
  · rename_i hg
    rw [if_pos (by simp [Region.wanted, hg])]
    exact .inl (planX_ok g _ _ hres nx c a K Q hn hI hQ)
  · rename_i j want hg
    split at hres
    · rename_i d hj
      obtain ⟨v', hv', h1⟩ := Res.look hres
      split at h1
      · rename_i t b an'
        obtain ⟨rfl, h2⟩ := Res.ob h1
        have h3 := rep_av (hI.slot d _ hv')
        have h4 : a.tmps[d]? = some (.bool t) := by
          rw [Array.getD_eq_getD_getElem?] at h3
          cases hx : a.tmps[d]? with
          | none => rw [hx] at h3; cases h3
          | some x => rw [hx] at h3; simp only [Option.getD_some] at h3; rw [h3]
        have hy : yielded l.toArray a.tmps j = some t := by
          unfold yielded
          have hj' : (l.toArray[j]?).bind (·.dst) = some d := by simpa using hj
          rw [hj']
          simp [h4]
        have hw : Region.wanted o (yielded l.toArray a.tmps) = (t == want) := by
          unfold Region.wanted
          simp only [hg, hy]
          cases t <;> cases want <;> rfl
        split at h2
        · rename_i hbw
          rw [if_pos (by rw [hw]; exact hbw)]
          exact .inl (planX_ok g _ _ h2 nx c a K Q hn hI hQ)
        · exact (Res.fail h2).elim
      · exact (Res.fail h1).elim
    · exact (Res.fail hres).elim

/-! ### a region in which one panics -/
section
variable {E : Env} {n0 : Nat} {g0 : St} {W : Nat → L}
theorem nx_lt {n0 m : Nat} {p : Nat → Bool} (hp : ∀ j, p j = true → j < m) {id : Nat} (h : nxP n0 p id) : id < n0 + 8 * m := by
  rcases h with h | ⟨j, h1, h2, h3⟩
  · omega
  · have := hp j h1
    omega
/-- In the order of the text. -/
theorem seq_opsX {ops : Array Oper} {j : Nat} (hj : j < ops.size) {v : Value} {wb : L}
    (hs : ∀ i, i < j → ∃ o out, ops[i]? = some o ∧ W i = wr o.dst out ∧ StepOk E ops i o out (n0 + 8 * i) (fold g0 W (fun t => decide (t < i)) ops.size))
    (hx : StepX E ops j v wb (n0 + 8 * j) (fold g0 W (fun t => decide (t < j)) ops.size)) {Q : Exit → Act → World → Prop}
    (hQ : ∀ p c a, Inv E (fun id => id < n0 + 8 * ops.size) c (over wb (fold g0 W p ops.size)) a → Q (chn v) a c.w) :
    ∀ (r k : Nat), k + r = j → ∀ c a, Inv E (nxP n0 (fun t => decide (t < k))) c (fold g0 W (fun t => decide (t < k)) ops.size) a →
      wpOps E.P ops Q ((List.range ops.size).drop k) a c.w
  | 0, k, hk, c, a, h => by
    obtain rfl : k = j := by omega
    rw [List.drop_eq_getElem_cons (by simpa using hj), List.getElem_range, wpOps_cons]
    refine hx _ c a _ Q (nx_new (by simp)) h fun c' h' => hQ _ c' a (h'.more fun id hid => ?_)
    rcases hid with h1 | h1
    · have := nx_lt (m := k) (fun j hj => by simpa using hj) h1
      omega
    · omega
  | r + 1, k, hk, c, a, h => by
    have hlt : k < ops.size := by omega
    rw [List.drop_eq_getElem_cons (by simpa using hlt), List.getElem_range, wpOps_cons]
    obtain ⟨o, out, ho, hW, hst⟩ := hs k (by omega)
    refine hst (nxP n0 (fun j => decide (j < k))) c a _ Q (nx_new (by simp)) h fun c' a' h' => ?_
    refine seq_opsX hj hs hx hQ r (k + 1) (by omega) c' a' ?_
    have e : (fun j => decide (j < k + 1)) = addP (fun j => decide (j < k)) k := by
      funext j
      unfold addP
      by_cases e : j = k
      · subst e; simp
      · simp [e]; omega
    rw [e, fold_add (by simp) hlt fun j x h1 h2 h3 => by simp at h3; omega, hW]
    exact h'.more fun id hid => nx_add hid
/-- In any order. -/
theorem any_opsX {l : List Oper} {rd : Nat → List Nat} {bf : List (List Nat)} {j : Nat} {dead : Nat → Bool} (hj : j < l.length) (hdj : dead j = true) {v : Value} {wb : L} (hb : befB l bf = true) (hap : apartB W rd bf l.length = true)
    (hdead : ∀ i, i < l.length → dead i = true → i = j ∨ j ∈ bf.getD i [])
    (hs : ∀ i o, l[i]? = some o → dead i = false → ∃ out, W i = wr o.dst out ∧ ∀ g, (∀ k ∈ rd i, g k = fold g0 W (fun t => decide (t < i)) l.length k) → StepOk E l.toArray i o out (n0 + 8 * i) g)
    (hx : ∀ g, (∀ k ∈ rd j, g k = fold g0 W (fun t => decide (t < j)) l.length k) → StepX E l.toArray j v wb (n0 + 8 * j) g) {Q : Exit → Act → World → Prop}
    (hQ : ∀ p c a, Inv E (fun id => id < n0 + 8 * l.length) c (over wb (fold g0 W p l.length)) a → Q (chn v) a c.w) :
    ∀ (fuel : Nat) (listed : Array Bool) (c : Cx) (a : Act), listed.size = l.length → left (fun i => listed.getD i false) l.length = fuel → Closed l.toArray (fun i => listed.getD i false) → listed.getD j false = false →
      Inv E (nxP n0 (fun j => listed.getD j false)) c (fold g0 W (fun j => listed.getD j false) l.length) a → wpAny E.P .any l.toArray Q fuel listed a c.w := by
  have hnil : ∀ (listed : Array Bool), listed.size = l.length → Region.ready .any l.toArray listed = [] → ∀ i, i < l.length → listed.getD i false = true := by
    intro listed hsz hr i
    induction i using Nat.strongRecOn with
    | ind i ih =>
      intro hi
      by_cases hl : listed.getD i false = true
      · exact hl
      · exfalso
        have hm : i ∈ Region.ready .any l.toArray listed := mem_ready.2 ⟨by rw [getD_some (by omega) true false]; simpa using hl, l[i], by simp [hi], fun e he hbd => by
          simp only [befB, List.all_eq_true, List.mem_range] at hb
          have h1 := hb i hi
          rw [List.getElem?_eq_getElem hi] at h1
          simp only [Option.all_some, Bool.and_eq_true, Array.all_eq_true_iff_forall_mem] at h1
          have h2 : e.on < i := by have := h1.1 e he; rw [hbd] at this; simpa using this
          exact ih e.on h2 (by omega)⟩
        rw [hr] at hm
        cases hm
  have hno : ∀ {α : Prop} (listed : Array Bool), listed.getD j false = false → (∀ i, i < l.length → listed.getD i false = true) → α := fun listed h1 h2 => by
    have := h2 j hj
    rw [h1] at this
    cases this
  intro fuel
  induction fuel with
  | zero =>
    intro listed c a hsz hc hcl hlj h
    exact hno listed hlj (left_zero hc)
  | succ fuel ih =>
    intro listed c a hsz hc hcl hlj h
    refine ⟨fun hr => hno listed hlj (hnil listed hsz hr), fun i hm => ?_⟩
    obtain ⟨h1, o, ho, hdeps⟩ := mem_ready.1 hm
    have ho' : l[i]? = some o := by simpa using ho
    have hi : i < l.length := (List.getElem?_eq_some_iff.1 ho').1
    have hli : listed.getD i false = false := by rw [getD_some (by omega) false true]; exact h1
    have hbef := bef_done hb hcl i o ho' hdeps
    have hfar : ∀ j, i < j → j < l.length → listed.getD j false = true → i ∉ bf.getD j [] := fun j hij hj hlj hmem => by
      have := bef_done hb hcl j l[j] (by simp [hj]) (hcl j l[j] (by simp [hj]) hlj) i hmem
      rw [hli] at this
      cases this
    have hrd : ∀ k ∈ rd i, fold g0 W (fun j => listed.getD j false) l.length k = fold g0 W (fun t => decide (t < i)) l.length k := fun k hk => by
      refine fold_congr fun j hj hh => ?_
      rcases Nat.lt_trichotomy j i with h2 | h2 | h2
      · by_cases hmem : j ∈ bf.getD i []
        · rw [hbef j hmem]; simp [h2]
        · exact absurd hk ((apart_spec hap h2 hi hmem).1 hh).2
      · subst h2; rw [hli]; simp
      · have : ¬ j < i := by omega
        simp only [this, decide_false]
        cases hlj : listed.getD j false with
        | false => rfl
        | true => exact absurd hk ((apart_spec hap h2 hj (hfar j h2 hj hlj)).2 hh)
    have hlt : ∀ t, listed.getD t false = true → t < l.length := fun t ht => by
      rcases Nat.lt_or_ge t l.length with h4 | h4
      · exact h4
      · rw [Array.getD_eq_getD_getElem?, Array.getElem?_eq_none (by omega)] at ht
        cases ht
    cases hdi : dead i with
    | true =>
      rcases hdead i hi hdi with rfl | hm2
      · refine hx _ hrd _ c a _ Q (nx_new (by exact hli)) h fun c' h' => hQ _ c' a (h'.more fun id hid => ?_)
        rcases hid with h3 | h3
        · exact nx_lt hlt h3
        · omega
      · have := hbef j hm2
        rw [hlj] at this
        cases this
    | false =>
      have hij : i ≠ j := fun e => by rw [e, hdj] at hdi; cases hdi
      obtain ⟨out, hW, hst⟩ := hs i o ho' hdi
      refine hst _ hrd _ c a _ Q (nx_new (by exact hli)) h fun c' a' h' => ?_
      have e : (fun j => (listed.setIfInBounds i true).getD j false) = addP (fun j => listed.getD j false) i := by
        funext j
        unfold addP
        by_cases e : j = i
        · subst e
          rw [if_pos rfl, Array.getD_eq_getD_getElem?]
          simp [hsz, hi]
        · rw [if_neg e, getD_set_ne _ (Ne.symm e)]
      refine ih (listed.setIfInBounds i true) c' a' (by simpa using hsz) ?_ ?_ (by rw [getD_set_ne _ hij]; exact hlj) ?_
      · have := left_add (f := fun i => listed.getD i false) hli hi
        rw [e]
        omega
      · intro j oj hj hjl e' he' hb'
        by_cases ej : j = i
        · subst ej
          rw [ho] at hj
          cases hj
          exact getD_set_true (hdeps e' he' hb')
        · have hjl' : listed.getD j false = true := by
            have h2 : (listed.setIfInBounds i true).getD j false = true := hjl
            rwa [getD_set_ne _ (Ne.symm ej)] at h2
          exact getD_set_true (hcl j oj hj hjl' e' he' hb')
      · rw [e, fold_add (by exact hli) hi fun j x h2 h3 h4 h5 => ((apart_spec hap h2 h3 (hfar j h2 h3 h4)).1 h5).1, hW]
        exact h'.more fun id hid => nx_add hid
end

/-! ### such a region reckoned -/
/-- What the operations do that aren't left out (dead); what number j, which panics, does. -/
def evd (P : Program) (n : Nat) (ops : List Oper) (n0 : Nat) (ans : List (Nat × Ans)) (dead : List Nat) (j : Nat) : List Oper → Nat → L → Option (List Prop × List (Option Out) × Option Out)
  | [], _, _ => some ([], [], none)
  | o :: r, i, l => match Nat.beq i j with
    | true => match run (get l) (gplanX P ops o (ansAt ans i) (n0 + 8 * i)), evd P n ops n0 ans dead j r (i + 1) l with
      | some x, some (obs, outs, _) => some (x.obs ++ obs, none :: outs, some x)
      | _, _ => none
    | false => match dead.contains i with
      | true => match evd P n ops n0 ans dead j r (i + 1) l with
        | some (obs, outs, x) => some (obs, none :: outs, x)
        | none => none
      | false => match run (get l) (gplan P ops o (ansAt ans i) (n0 + 8 * i)), dstOk n o with
        | some out, true => match evd P n ops n0 ans dead j r (i + 1) (wr o.dst out ++ l) with
          | some (obs, outs, x) => some (out.obs ++ obs, some out :: outs, x)
          | none => none
        | _, _ => none
def Wd (ops : List Oper) (outs : List (Option Out)) (i : Nat) : L := match outs.getD i none with | some out => wr ((ops[i]?).bind (·.dst)) out | none => []
theorem fold_none {W : Nat → L} {g0 : St} {k : Nat} (h : W k = []) (m : Nat) : fold g0 W (fun t => decide (t < k + 1)) m = fold g0 W (fun t => decide (t < k)) m := by
  funext x
  refine fold_congr fun t _ hh => ?_
  by_cases e : t = k
  · subst e
    rw [h] at hh
    cases hh
  · have : (t < k + 1) = (t < k) := by rw [eq_iff_iff]; omega
    simp only [this]
theorem evd_spec {P : Program} {n : Nat} {ops : List Oper} {n0 : Nat} {ans : List (Nat × Ans)} {dead : List Nat} {j : Nat} {g0 : St} {tab : List (Option Out)} : ∀ {r : List Oper} {i : Nat} {l : L} {obs : List Prop} {outs : List (Option Out)} {x : Option Out}, evd P n ops n0 ans dead j r i l = some (obs, outs, x) →
    ops.drop i = r → (∀ t, t < r.length → outs.getD t none = tab.getD (i + t) none) → get l = fold g0 (Wd ops tab) (fun t => decide (t < i)) ops.length →
    outs.length = r.length ∧ (∀ t o, i ≤ t → ops[t]? = some o → t ≠ j → dead.contains t = false → ∃ out, tab.getD t none = some out ∧ run (fold g0 (Wd ops tab) (fun k => decide (k < t)) ops.length) (gplan P ops o (ansAt ans t) (n0 + 8 * t)) = some out ∧ (∀ p ∈ out.obs, p ∈ obs) ∧ ∀ d, o.dst = some d → d < n) ∧
      (∀ o, i ≤ j → ops[j]? = some o → ∃ out, x = some out ∧ run (fold g0 (Wd ops tab) (fun k => decide (k < j)) ops.length) (gplanX P ops o (ansAt ans j) (n0 + 8 * j)) = some out ∧ ∀ p ∈ out.obs, p ∈ obs)
  | [], i, l, obs, outs, x, h, hd, ht, hg => by
    simp only [evd, Option.some.injEq, Prod.mk.injEq] at h
    obtain ⟨rfl, rfl, rfl⟩ := h
    have hi : ops.length ≤ i := by simpa using hd
    refine ⟨rfl, fun t o hj ho => ?_, fun o hj ho => ?_⟩
    · rw [List.getElem?_eq_none (by omega)] at ho; cases ho
    · rw [List.getElem?_eq_none (by omega)] at ho; cases ho
  | o :: r, i, l, obs, outs, x, h, hd, ht, hg => by
    have hlt : i < ops.length := by
      rcases Nat.lt_or_ge i ops.length with h1 | h1
      · exact h1
      · rw [List.drop_eq_nil_of_le h1] at hd; cases hd
    have hoi : ops[i]? = some o := by
      have := List.getElem?_drop (xs := ops) (i := i) (j := 0)
      rw [hd] at this
      simpa using this.symm
    have hdr : ops.drop (i + 1) = r := by
      have := List.drop_drop (i := 1) (j := i) (l := ops)
      rw [hd] at this
      simpa [Nat.add_comm] using this.symm
    have htab : outs.getD 0 none = tab.getD i none := by
      have := ht 0 (by simp)
      simpa using this
    have hnext : ∀ (out : Out), outs.getD 0 none = some out → get (wr o.dst out ++ l) = fold g0 (Wd ops tab) (fun t => decide (t < i + 1)) ops.length := fun out ho => by
      rw [get_append, hg]
      have e : (fun j => decide (j < i + 1)) = addP (fun j => decide (j < i)) i := by
        funext j
        unfold addP
        by_cases e : j = i
        · subst e; simp
        · simp [e]; omega
      rw [e, fold_add (by simp) hlt fun j x h1 h2 h3 => by simp at h3; omega]
      have : Wd ops tab i = wr o.dst out := by unfold Wd; rw [← htab, ho, hoi]; rfl
      rw [this]
    have hskip : outs.getD 0 none = none → get l = fold g0 (Wd ops tab) (fun t => decide (t < i + 1)) ops.length := fun ho => by
      rw [fold_none (by unfold Wd; rw [← htab, ho]), hg]
    simp only [evd] at h
    split at h
    · rename_i hij
      have hij := Nat.eq_of_beq_eq_true hij
      subst hij
      split at h
      case h_2 => cases h
      rename_i xo ob1 outs1 x1 hrun he
      simp only [Option.some.injEq, Prod.mk.injEq] at h
      obtain ⟨rfl, rfl, rfl⟩ := h
      obtain ⟨h1, h2, _⟩ := evd_spec he hdr (fun t htt => by
        have := ht (t + 1) (by simp; omega)
        rw [show i + (t + 1) = i + 1 + t by omega] at this
        simpa using this) (hskip rfl)
      refine ⟨by simp [h1], fun t o' hj ho' hne hdd => ?_, fun o' _ ho' => ?_⟩
      · obtain ⟨out, q1, q2, q3, q4⟩ := h2 t o' (by omega) ho' hne hdd
        exact ⟨out, q1, q2, fun p hp => by simp [q3 p hp], q4⟩
      · rw [hoi] at ho'
        cases ho'
        exact ⟨xo, rfl, by rw [← hg]; exact hrun, fun p hp => by simp [hp]⟩
    · rename_i hij
      have hij : i ≠ j := fun e => by rw [e, Nat.beq_refl] at hij; cases hij
      split at h
      · rename_i hdd0
        split at h
        case h_2 => cases h
        rename_i ob1 outs1 x1 he
        simp only [Option.some.injEq, Prod.mk.injEq] at h
        obtain ⟨rfl, rfl, rfl⟩ := h
        obtain ⟨h1, h2, h3⟩ := evd_spec he hdr (fun t htt => by
          have := ht (t + 1) (by simp; omega)
          rw [show i + (t + 1) = i + 1 + t by omega] at this
          simpa using this) (hskip rfl)
        refine ⟨by simp [h1], fun t o' hj ho' hne hdd => ?_, fun o' hj ho' => h3 o' (by omega) ho'⟩
        by_cases e : t = i
        · subst e; rw [hdd0] at hdd; cases hdd
        · exact h2 t o' (by omega) ho' hne hdd
      · rename_i hdd0
        split at h
        case h_2 => cases h
        rename_i out hrun hdst
        split at h
        case h_2 => cases h
        rename_i ob1 outs1 x1 he
        simp only [Option.some.injEq, Prod.mk.injEq] at h
        obtain ⟨rfl, rfl, rfl⟩ := h
        obtain ⟨h1, h2, h3⟩ := evd_spec he hdr (fun t htt => by
          have := ht (t + 1) (by simp; omega)
          rw [show i + (t + 1) = i + 1 + t by omega] at this
          simpa using this) (hnext out rfl)
        refine ⟨by simp [h1], fun t o' hj ho' hne hdd => ?_, fun o' hj ho' => ?_⟩
        · by_cases e : t = i
          · subst e
            rw [hoi] at ho'
            cases ho'
            refine ⟨out, by rw [← htab]; rfl, by rw [← hg]; exact hrun, fun p hp => by simp [hp], fun d hx => ?_⟩
            unfold dstOk at hdst
            rw [hx] at hdst
            simpa [Nat.blt_eq] using hdst
          · obtain ⟨out', q1, q2, q3, q4⟩ := h2 t o' (by omega) ho' hne hdd
            exact ⟨out', q1, q2, fun p hp => by simp [q3 p hp], q4⟩
        · obtain ⟨out', q1, q2, q3⟩ := h3 o' (by omega) ho'
          exact ⟨out', q1, q2, fun p hp => by simp [q3 p hp]⟩
/-- No operation writes these. -/
def freeB (ops : List Oper) (outs : List (Option Out)) (live : List Nat) : Bool := live.all fun k => (List.range ops.length).all fun i => !hits (Wd ops outs i) k
def rdD (outs : List (Option Out)) (j : Nat) (x : Out) (i : Nat) : List Nat := match Nat.beq i j with | true => x.reads | false => match outs.getD i none with | some out => out.reads | none => []
/-- The panic's value, what is still spoken of behind it, the obligations. -/
def evx (P : Program) (n : Nat) (ops : List Oper) (n0 : Nat) (ans : List (Nat × Ans)) (draw : Bool) (dead : List Nat) (j : Nat) (live : List Nat) (l : L) : Option (Value × L × List Prop) :=
  match evd P n ops n0 ans dead j ops 0 l with
  | some (obs, outs, some x) => match x.pv, freeB ops outs (live.filter fun k => !hits x.wb k), Nat.blt j ops.length with
    | .av v, true, true => match draw with
      | false => match (List.range j).all (fun i => !dead.contains i) with
        | true => some (v, live.map fun k => (k, get (x.wb ++ l) k), obs)
        | false => none
      | true => match befB ops (befs ops), apartB (Wd ops outs) (rdD outs j x) (befs ops) ops.length, dead.all (fun i => Nat.beq i j || ((befs ops).getD i []).contains j) with
        | true, true, true => some (v, live.map fun k => (k, get (x.wb ++ l) k), obs)
        | _, _, _ => none
    | _, _, _ => none
  | _ => none
theorem fold_free {g0 : St} {W : Nat → L} {p : Nat → Bool} {k : Nat} : ∀ {m : Nat}, (∀ i, i < m → hits (W i) k = false) → fold g0 W p m k = g0 k
  | 0, _ => rfl
  | m + 1, h => by
    simp only [fold]
    split
    · rw [over_miss (h m (by omega))]; exact fold_free fun i hi => h i (by omega)
    · exact fold_free fun i hi => h i (by omega)
theorem regionX_ok {E : Env} {n0 : Nat} {l l' : L} {id : Nat} {ops : Array Oper} {draw : Bool} {ans : List (Nat × Ans)} {dead : List Nat} {j : Nat} {live : List Nat} {obs : List Prop} {v : Value} (hm : draw = true → E.P.follows .mixedOrders = true)
    (h : evx E.P E.n ops.toList n0 ans draw dead j live l = some (v, l', obs)) (hob : ∀ p ∈ obs, p)
    {Q : Exit → Act → World → Prop} (hQ : ∀ c a, Inv E (· < n0 + 8 * ops.size) c (get l') a → Q (chn v) a c.w) {c : Cx} {a : Act} (hI : Inv E (· < n0) c (get l) a) : (Code.region id ops draw).wp E.P Q a c.w := by
  unfold evx at h
  split at h
  case h_2 => cases h
  rename_i obs1 outs x he
  split at h
  case h_2 => cases h
  rename_i v1 hpv hfr hjl
  have hjl : j < ops.toList.length := by simpa [Nat.blt_eq] using hjl
  obtain ⟨oj, hoj⟩ : ∃ o, ops.toList[j]? = some o := ⟨_, List.getElem?_eq_getElem hjl⟩
  have hz : ∀ m, fold (get l) (Wd ops.toList outs) (fun t => decide (t < 0)) m = get l := fun m => by
    induction m with
    | zero => rfl
    | succ m ih => simp only [fold, Nat.not_lt_zero, decide_false, Bool.false_eq_true, if_false]; exact ih
  obtain ⟨h1, h2, h3⟩ := evd_spec (g0 := get l) (tab := outs) he (by simp) (fun j _ => by simp) (hz _).symm
  have hops : ops.toList.toArray = ops := by simp
  have hlen : ops.toList.length = ops.size := by simp
  obtain ⟨x', hx', hxr, hxo⟩ := h3 oj (Nat.zero_le _) hoj
  cases hx'
  have hstep : obs = obs1 → ∀ i o, ops.toList[i]? = some o → i ≠ j → dead.contains i = false → ∃ out, outs.getD i none = some out ∧ Wd ops.toList outs i = wr o.dst out ∧ ∀ g, (∀ k ∈ out.reads, g k = fold (get l) (Wd ops.toList outs) (fun t => decide (t < i)) ops.toList.length k) → StepOk E ops.toList.toArray i o out (n0 + 8 * i) g := by
    intro hobs i o ho hne hdd
    obtain ⟨out, q1, q2, q3, q4⟩ := h2 i o (Nat.zero_le _) ho hne hdd
    exact ⟨out, q1, by unfold Wd; rw [q1, ho]; rfl, fun g hg => gplan_ok ho q4 (run_congr q2 hg) fun p hp => hob p (by rw [hobs]; exact q3 p hp)⟩
  have hstepX : obs = obs1 → ∀ g, (∀ k ∈ x.reads, g k = fold (get l) (Wd ops.toList outs) (fun t => decide (t < j)) ops.toList.length k) → StepX E ops.toList.toArray j v1 x.wb (n0 + 8 * j) g := fun hobs g hg =>
    gplanX_ok hoj (run_congr hxr hg) hpv fun p hp => hob p (by rw [hobs]; exact hxo p hp)
  have hfin : v = v1 → l' = live.map (fun k => (k, get (x.wb ++ l) k)) → ∀ p c a, Inv E (fun id => id < n0 + 8 * ops.toList.length) c (over x.wb (fold (get l) (Wd ops.toList outs) p ops.toList.length)) a → Q (chn v1) a c.w := by
    intro hv hl' p c a h
    rw [hlen] at h
    rw [← hv]
    refine hQ c a (h.less fun k u hk => ?_)
    rw [hl'] at hk
    have hmem : k ∈ live := by
      rcases Classical.em (k ∈ live) with h | h
      · exact h
      · exfalso
        have : ∀ (m : List Nat), k ∉ m → get (m.map fun k => (k, get (x.wb ++ l) k)) k = none := by
          intro m
          induction m with
          | nil => intro _; rfl
          | cons a m ih =>
            intro hm
            simp only [get, List.map_cons, lk] at ih ⊢
            rw [if_neg (fun e => hm (by rw [Nat.eq_of_beq_eq_true e]; simp))]
            exact ih (fun h => hm (by simp [h]))
        rw [this live h] at hk
        cases hk
    have hk := get_live k u hk
    rw [get_append] at hk
    by_cases hh : hits x.wb k = true
    · rw [over_hit hh _ (get l)]; exact hk
    · have hh' : hits x.wb k = false := by simpa using hh
      rw [over_miss hh'] at hk ⊢
      rw [fold_free]
      · exact hk
      · intro i hi
        unfold freeB at hfr
        rw [List.all_eq_true] at hfr
        have h5 := hfr k (List.mem_filter.2 ⟨hmem, by simp [hh']⟩)
        rw [List.all_eq_true] at h5
        simpa using h5 i (List.mem_range.2 hi)
  split at h
  · split at h
    case h_2 => cases h
    rename_i hdd
    simp only [Option.some.injEq, Prod.mk.injEq] at h
    obtain ⟨hv, hl', hobs⟩ := h
    have hs := seq_opsX (E := E) (ops := ops.toList.toArray) (g0 := get l) (W := Wd ops.toList outs) (n0 := n0) (j := j) (by simpa using hjl) (v := v1) (wb := x.wb) (fun i hi => by
      obtain ⟨o, ho⟩ : ∃ o, ops.toList[i]? = some o := ⟨_, List.getElem?_eq_getElem (by omega)⟩
      have hd : dead.contains i = false := by
        rw [List.all_eq_true] at hdd
        simpa using hdd i (List.mem_range.2 hi)
      obtain ⟨out, _, q2, q3⟩ := hstep hobs.symm i o ho (by omega) hd
      exact ⟨o, out, by simpa using ho, q2, by
        have := q3 (fold (get l) (Wd ops.toList outs) (fun t => decide (t < i)) ops.toList.length) (fun _ _ => rfl)
        simpa using this⟩) (by
      have := hstepX hobs.symm (fold (get l) (Wd ops.toList outs) (fun t => decide (t < j)) ops.toList.length) (fun _ _ => rfl)
      simpa using this) (Q := Q) (fun p c a h => hfin hv.symm hl'.symm p c a (by simpa using h)) j 0 (by omega) c a (by
        rw [hz]
        exact hI.more fun i hi => .inl hi)
    rw [hops] at hs
    exact wp_region (by simpa using hs)
  · split at h
    case h_2 => cases h
    rename_i hbf hap hdd
    simp only [Option.some.injEq, Prod.mk.injEq] at h
    obtain ⟨hv, hl', hobs⟩ := h
    have hs := any_opsX (E := E) (l := ops.toList) (g0 := get l) (W := Wd ops.toList outs) (rd := rdD outs j x) (n0 := n0) (j := j) (dead := fun i => Nat.beq i j || dead.contains i) hjl (by simp [Nat.beq_refl]) (v := v1) (wb := x.wb) hbf hap
      (fun i hi hd => by
        rw [Bool.or_eq_true] at hd
        rcases hd with hd | hd
        · exact .inl (Nat.eq_of_beq_eq_true hd)
        · rw [List.all_eq_true] at hdd
          have := hdd i (by simpa using hd)
          rw [Bool.or_eq_true] at this
          rcases this with h5 | h5
          · exact .inl (Nat.eq_of_beq_eq_true h5)
          · exact .inr (by simpa using h5))
      (fun i o ho hd => by
        rw [Bool.or_eq_false_iff] at hd
        have hne : i ≠ j := fun e => by rw [e, Nat.beq_refl] at hd; cases hd.1
        obtain ⟨out, q1, q2, q3⟩ := hstep hobs.symm i o ho hne hd.2
        refine ⟨out, q2, fun g hg => q3 g fun k hk => hg k ?_⟩
        unfold rdD
        rw [hd.1, q1]
        exact hk)
      (fun g hg => hstepX hobs.symm g fun k hk => hg k (by unfold rdD; rw [Nat.beq_refl]; exact hk)) (Q := Q) (fun p c a h => hfin hv.symm hl'.symm p c a h)
      ops.toList.length (Array.replicate ops.toList.length false) ⟨{ c.w with drawn := c.w.drawn + 1 }, c.S, c.own⟩ a (by simp) (by
        rw [left_congr (g := fun _ => false) fun i _ => repl_false _ _]
        exact left_false _) (fun j o _ hj => by
        have hj' : (Array.replicate ops.toList.length false).getD j false = true := hj
        rw [repl_false] at hj'
        cases hj') (repl_false _ _) (by
        have h0 : fold (get l) (Wd ops.toList outs) (fun j => (Array.replicate ops.toList.length false).getD j false) ops.toList.length = get l := by
          have e : (fun j => (Array.replicate ops.toList.length false).getD j false) = fun _ => false := funext fun j => repl_false _ j
          rw [e]
          have : ∀ m, fold (get l) (Wd ops.toList outs) (fun _ => false) m = get l := fun m => by
            induction m with
            | zero => rfl
            | succ m ih => simp only [fold, Bool.false_eq_true, if_false]; exact ih
          exact this _
        rw [h0]
        exact (hI.drawn _).more fun i hi => .inl hi)
    rw [hops] at hs
    refine wp_region_any (hm rfl) ?_
    rw [hlen] at hs
    exact hs

/-! ### in a walk -/
section
variable {P : Program} {n : Nat} {c0 : Cx} {Bor : BorD} {Q : Post} {n0 : Nat} {l : L} {rs : List Item}
theorem ws_panic {E : Env} {cx : Cx} {a : Act} {ch : List PanicEntry} : ∀ {rs : List Item}, Q (.panic ch) cx a → WS E Q rs (.panic ch) cx a
  | [], k => k
  | .code _ :: rs, k => ws_panic (rs := rs) k
  | .blk _ :: rs, k => ws_panic (rs := rs) k
/-- A region in which operation j panics. -/
theorem T_rx (hm : P.follows .mixedOrders = true) {id : Nat} {ops : Array Oper} {draw : Bool} (ans : List (Nat × Ans)) (dead : List Nat) (j : Nat) (l' : L) {v : Value} {obs : List Prop} (hob : ∀ p ∈ obs, p)
    (hQ : ∀ cx a, Inv ⟨P, n, c0, Bor⟩ (· < n0 + 8 * ops.size) cx (get l') a → Q (chn v) cx a)
    (h : evx P n ops.toList n0 ans draw dead j (l'.map (·.1)) l = some (v, l', obs) := by kernel_rfl) : T P n c0 Bor Q n0 l (.code (.region id ops draw) :: rs) := fun _ _ hI =>
  regionX_ok (E := ⟨P, n, c0, Bor⟩) (fun _ => hm) h hob (fun c a h => ⟨c, rfl, ws_panic (hQ c a h)⟩) hI
theorem loop_pan {α : Type} {I : α → L} {μ : α → Nat} {n1 : Nat} {x : α} {cx : Cx} {a : Act} {ch : List PanicEntry} (h : Q (.panic ch) cx a) : loopQ P n c0 Bor Q rs n1 I μ x (.panic ch) cx a := ws_panic h
/-- What a function must end in. -/
def outQ (P : Program) (fn : Func) (c0 : Cx) (Bor : BorD) : O → Post
  | .ret r H' => retQ P fn c0 Bor r H'
  | .pan v H' => fun e cx a => e = chn v ∧ a.defers = Bor.ds ∧ ∃ cx', cx'.w = cx.w ∧ Heap ⟨P, 0, c0, Bor⟩ (· < H'.length) cx' (hSt H')
theorem po_intro {f : FuncId} {fn : Func} {code : Code} {args : List PV} {H : Hp} {o : O} {l0 : L} (hf : P.funcs[f]? = some fn) (hb : fn.body = some code) (hname : (fn.name == "runtime.NumGoroutine") = false) (hlen : H.length ≤ o.H.length)
    (hn : Nat.ble args.length fn.ntmps = true) (hl0 : initA 0 args ++ initB 0 H = l0) (h : ∀ c0 (Bor : Nat → Prop), (∀ i x, c0.own i = some x → i < H.length) → T P fn.ntmps c0 ⟨Bor, []⟩ (outQ P fn c0 ⟨Bor, []⟩ o) H.length l0 [.code code]) : PO P f args H o := by
  cases o with
  | ret r H' => exact pc_intro hf hb hname hlen hn hl0 h
  | pan v H' =>
    refine ⟨⟨fn, hf, by rw [hb]; rfl, hname⟩, hlen, fun c vs hh hrl => ?_⟩
    refine calls_of_wp hf hb (wp_mono (body_intro hn hl0 h c vs hh hrl) ?_)
    rintro e a' w' ⟨cx', rfl, rfl, hd, cx2, h1, h2⟩
    exact ⟨hd, cx2, rfl, h1, h2⟩
theorem ite_len {c : Prop} [Decidable c] {n : Nat} {a b : O} (h1 : n ≤ a.H.length) (h2 : n ≤ b.H.length) : n ≤ (if c then a else b).H.length := by split <;> assumption
theorem po_ok {f : FuncId} {args : List PV} {H H' H2 : Hp} {c : Prop} [Decidable c] {r : PV} {v : Value} (h : PO P f args H (if c then .ret r H' else .pan v H2)) (hc : c) : PC P f args H r H' := by rw [if_pos hc] at h; exact h
theorem po_no {f : FuncId} {args : List PV} {H H' H2 : Hp} {c : Prop} [Decidable c] {r : PV} {v : Value} (h : PO P f args H (if c then .ret r H' else .pan v H2)) (hc : ¬ c) : PX P f args H v H2 := by rw [if_neg hc] at h; exact h
/-- Behind a panic nobody looks at what was lent. -/
theorem pan_ok {fn : Func} {m : Nat} {v : Value} (hc0 : ∀ i x, c0.own i = some x → i < m) {l' : L} {cx : Cx} {a : Act} (hI : Inv ⟨P, n, c0, Bor⟩ (· < n0) cx (get l') a) : outQ P fn c0 Bor (.pan v (List.replicate m none)) (chn v) cx a := by
  have hno : ∀ i T cs, ¬ hSt (List.replicate m none) (kb i) = some (.blk T cs) := fun i T cs h => by
    rw [hSt_b] at h
    have : (List.replicate m (none : Option (TypeId × List PV))).getD i none = none := by
      rw [List.getD_eq_getElem?_getD, List.getElem?_replicate]
      split <;> rfl
    rw [this] at h
    cases h
  have hnl : ∀ i, ¬ Live (hSt (List.replicate m none)) i := fun i ⟨T, cs, h⟩ => hno i T cs h
  refine ⟨rfl, hI.dfr, ⟨cx.w, cx.S, c0.own⟩, rfl, { ids := fun i x hx => by rw [List.length_replicate]; exact hc0 i x hx, blk := fun i T cs h => (hno i T cs h).elim, inj := fun i j b T T' h => (hnl i h).elim, apart := fun i b T h => (hnl i h).elim, bnd := fun i b T h => hI.bnd i b T (hI.keep.own i _ h), sok := hI.sok, os := hI.os, tape := hI.tape, output := hI.output, size := hI.size, same := hI.same, s0 := hI.s0, s1 := hI.s1, keep := ⟨hI.keep.S, fun _ _ h => h, hI.keep.shape⟩, laid := hI.laid }⟩
end
end Go.Proofs.Ytfibadnkhbjciaa.Pm
namespace Go.Proofs.Ytfibadnkhbjciaa.Pm
open Go

/-- Called at a frame's end, in mode u, a literal hands back, and leaves the mode as u'. -/
def PD (P : Program) (f : FuncId) (args : List PV) (H : Hp) (u u' : FrameMode) (H' : Hp) : Prop := FnOk P f ∧ H.length ≤ H'.length ∧ ∀ (c : Cx) (vs : Array Value), Heap (cEnv P c H) (· < H.length) c (hSt H) → RL P c args vs →
  CallsD P f vs u c.w fun e u2 w' => ∃ v c', e = .returned v ∧ u2 = u' ∧ c'.w = w' ∧ Heap (cEnv P c H) (· < H'.length) c' (hSt H')
/-- What recover finds. -/
def Recs (u : FrameMode) (x : Value) (u' : FrameMode) : Prop := ∀ (c₀ : Frame) (cs : List Frame), c₀.mode = u → recoverD (c₀ :: cs) = some (x, { c₀ with mode := u' } :: cs) ∨ (recoverD (c₀ :: cs) = none ∧ x = .nilIface ∧ u' = u)
theorem recs_ret : Recs .returning .nilIface .returning := fun c₀ cs h => .inr ⟨by simp only [recoverD, h], rfl, rfl⟩
theorem recs_pan (v : Value) : Recs (.panicking [{ v := v, recovered := false }]) v (.panicking [{ v := v, recovered := true }]) := fun c₀ cs h => .inl (by simp only [recoverD, h])
theorem pd_intro {P : Program} {f : FuncId} {fn : Func} {rest : Code} {id : Nat} {o : Oper} {t : Nat} {ts : Array TypeId} {args : List PV} {H H' : Hp} {x : Value} {u u' : FrameMode} {l0 : L} (hf : P.funcs[f]? = some fn) (hb : fn.body = some (.seq (.region id #[o] false) rest))
    (hname : (fn.name == "runtime.NumGoroutine") = false) (hop : o.op = .call { callee := .builtin .recover, args := #[], argTypes := ts }) (hg : o.guard = none) (hdst : o.dst = some t) (ht : Nat.blt t fn.ntmps = true) (hrec : Recs u x u') (hlen : H.length ≤ H'.length)
    (hn : Nat.ble args.length fn.ntmps = true) (hl0 : initA 0 args ++ initB 0 H = l0)
    (h : ∀ c0 (Bor : Nat → Prop), (∀ i x, c0.own i = some x → i < H.length) → T P fn.ntmps c0 ⟨Bor, []⟩ (retQ P fn c0 ⟨Bor, []⟩ (.tup []) H') H.length ([(ks t, some (.pv (.av x)))] ++ l0) [.code rest]) : PD P f args H u u' H' := by
  refine ⟨⟨fn, hf, by rw [hb]; rfl, hname⟩, hlen, fun c vs hh hrl => ?_⟩
  have hI := init_inv (Nat.le_of_ble_eq_true hn) hl0 c vs hh hrl
  have ht' : t < fn.ntmps := by simpa [Nat.blt_eq] using ht
  have hI2 := hI.pure (nx' := fun i => i < H.length) (fun _ h => h) (some t) (fun y hy => by cases hy; exact ht') (p := .av x) (v := x) fun _ => .sh (.av _)
  have key := h c (cEnv P c H).Bor.bor (fun i x hx => hh.ids i x hx) c _ (by rw [get_append]; exact hI2)
  refine callsD_of_wpS hf hb fun c₀ cs hu => wpS_seq (wpS_region ?_)
  have hrun : ∀ a : Act, (execOp a.eval o).run P c.w = .ok .recover c.w := fun a => by simp [execOp, hop, resolve, invoke, builtin]
  show wpOpsS P #[o] _ [0] _ _ _
  have hw : ∀ y, Region.wanted o y = true := fun y => by simp [Region.wanted, hg]
  have hrest : ∀ cs' : List Frame, cs' = { c₀ with mode := u' } :: cs → rest.wpS P (bodyPostS P fn c₀ cs fun e u2 w' => ∃ v c', e = .returned v ∧ u2 = u' ∧ c'.w = w' ∧ Heap (cEnv P c H) (· < H'.length) c' (hSt H'))
      (Act.put { tmps := vs ++ Array.replicate (fn.ntmps - vs.size) undef, defers := [] } (some t) x) cs' c.w := by
    intro cs' hcs
    refine wpS_of_wp (wp_mono key ?_)
    rintro e a' w' ⟨cx', rfl, he, hd, v, cx2, h1, h2, h3, h4⟩
    rcases he with rfl | rfl
    · exact ⟨hd, u', hcs, v, h2, v, cx2, rfl, rfl, h1, h4⟩
    · exact ⟨hd, u', hcs, v, h2, v, cx2, rfl, rfl, h1, h4⟩
  simp only [wpOpsS, List.getElem?_toArray, List.getElem?_cons_zero, hw, if_true, hrun, hdst]
  rcases hrec c₀ cs hu with h1 | ⟨h1, rfl, rfl⟩
  · rw [h1]
    exact hrest _ rfl
  · rw [h1]
    exact hrest _ (by subst hu; rfl)
theorem Heap.envD {P : Program} {n m : Nat} {c0 c : Cx} {B : Nat → Prop} {d e : List Deferred} {nx : Nat → Prop} {g : St} (h : Heap ⟨P, n, c0, ⟨B, d⟩⟩ nx c g) : Heap ⟨P, m, c0, ⟨B, e⟩⟩ nx c g :=
  { ids := h.ids, blk := h.blk, inj := h.inj, apart := h.apart, bnd := h.bnd, sok := h.sok, os := h.os, tape := h.tape, output := h.output, size := h.size, same := h.same, laid := h.laid, s0 := h.s0, s1 := h.s1, keep := h.keep }
/-- Nothing of what is own is spoken of any more. -/
theorem Heap.bare {E : Env} {nx : Nat → Prop} {c : Cx} {g : St} (h : Heap E nx c g) {k : Nat} (hk : ∀ i x, E.c0.own i = some x → i < k) : Heap E (· < k) ⟨c.w, c.S, E.c0.own⟩ (fun _ => none) :=
  { ids := hk, blk := fun i T cs h => (by cases h), inj := fun i j b T T' ⟨_, _, h⟩ => (by cases h), apart := fun i b T ⟨_, _, h⟩ => (by cases h), bnd := fun i b T hx => h.bnd i b T (h.keep.own i _ hx), sok := h.sok, os := h.os, tape := h.tape, output := h.output, size := h.size, same := h.same, laid := h.laid, s0 := h.s0, s1 := h.s1, keep := ⟨h.keep.S, fun _ _ h => h, h.keep.shape⟩ }
theorem hSt_none {H : Hp} (h : ∀ i, H.getD i none = none) : ∀ i T cs, ¬ hSt H (kb i) = some (.blk T cs) := fun i T cs hx => by
  rw [hSt_b, h i] at hx
  cases hx
theorem Heap.bareH {E : Env} {nx : Nat → Prop} {c : Cx} {g : St} (h : Heap E nx c g) {H : Hp} (hH : ∀ i, H.getD i none = none) (hk : ∀ i x, E.c0.own i = some x → i < H.length) : Heap E (· < H.length) ⟨c.w, c.S, E.c0.own⟩ (hSt H) :=
  (h.bare hk).less fun i T cs hx => absurd hx (hSt_none hH i T cs)

theorem wp_one {P : Program} {ops : Array Oper} {Q : Exit → Act → World → Prop} {i : Nat} {rest : List Nat} {o : Oper} {a : Act} {w : World} (ho : ops[i]? = some o) (hg : o.guard = none) (h : o.wp P a w (wpOps P ops Q rest) Q) : wpOps P ops Q (i :: rest) a w := by
  rw [wpOps_cons]
  unfold wpOp
  simp only [ho]
  rw [if_pos (by simp [Region.wanted, hg])]
  exact .inl h
section
variable {P : Program} {n : Nat} {c0 : Cx} {B : Nat → Prop} {m : Nat} {l : L} {cx : Cx} {a : Act} {d : Deferred} {fn : Func} {fl : FuncId} {t0 t1 : Nat} {T0 T1 : TypeId} {X0 X1 Y0 Y1 : List PV} {u u' : FrameMode} {r : PV}
/-- A frame's end, with the put-off call of the literal to which the two result cells are lent. -/
theorem leave_one {v0 v1 : Value} (hI : Inv ⟨P, n, c0, ⟨B, [d]⟩⟩ (· < m) cx (get l) a) (hdd : d = { target := .fn (.func fl) #[v0, v1], args := #[] }) (hv0 : a.tmps.getD t0 undef = v0) (hv1 : a.tmps.getD t1 undef = v1)
    (h0 : get l (ks t0) = some (.pv (.opt 0 0))) (h1 : get l (ks t1) = some (.pv (.opt 1 0))) (hb0 : get l (kb 0) = some (.blk T0 X0)) (hb1 : get l (kb 1) = some (.blk T1 X1)) (hX0 : ∀ σ, renL σ X0 = X0) (hX1 : ∀ σ, renL σ X1 = X1) (hY0 : ∀ σ, renL σ Y0 = Y0) (hY1 : ∀ σ, renL σ Y1 = Y1)
    (hpd : PD P fl [.opt 0 0, .opt 1 0] [some (T0, X0), some (T1, X1)] u u' [some (T0, Y0), some (T1, Y1)]) (hu : u ≠ .run) (hs : settle u' = .returning)
    (hr : runv (get [(ks t0, some (.pv (.opt 0 0))), (ks t1, some (.pv (.opt 1 0))), (kb 0, some (.blk T0 Y0)), (kb 1, some (.blk T1 Y1))]) (resP P fn.results.toList fun ps => .done (resPV ps) []) = some (r, []))
    {R : Ending → World → Prop} (hR : ∀ v own2 (c' : Cx), Heap ⟨P, n, c0, ⟨B, [d]⟩⟩ (· < m + 8) ⟨c'.w, c'.S, own2⟩ (fun _ => none) → Rep P ⟨c'.w, c'.S, own2⟩ r v → R (.returned v) c'.w) : Leaves P fn a.tmps R a.defers u cx.w := by
  have hdf : a.defers = [d] := hI.dfr
  rw [hdf, hdd]
  obtain ⟨hfn, hHl, hpd⟩ := hpd
  have hinv : (invoke (.fn (.func fl) #[v0, v1]) #[]).run P cx.w = .ok (.enter fl #[v0, v1]) cx.w := by
    obtain ⟨fn, h1, h2, h3⟩ := hfn
    have h2' : ¬ fn.body = none := fun e => by rw [e] at h2; cases h2
    have h3' : ¬ fn.name = "runtime.NumGoroutine" := by simpa using h3
    simp [invoke, callFunc, h1, h3', h2']
  have hfr : ∀ t, t < 8 → ¬ (m + t < m) := fun t _ => by omega
  have hlent : ∀ i, i < [0, 1].length → ∃ T cs, ([some (T0, X0), some (T1, X1)] : Hp).getD i none = some (T, cs) ∧ get l (kb ([0, 1].getD i 0)) = some (.blk T (renL (sigi [0, 1] m) cs)) := fun i hi => by
    match i, hi with
    | 0, _ => exact ⟨T0, X0, rfl, by rw [hX0]; exact hb0⟩
    | 1, _ => exact ⟨T1, X1, rfl, by rw [hX1]; exact hb1⟩
  have hh := lend_heap (id := m) (ids := [0, 1]) (H := [some (T0, X0), some (T1, X1)]) hfr hI.toHeap rfl rfl hlent
  have hra : RL P (cx.via (sigi [0, 1] m)) [.opt 0 0, .opt 1 0] #[v0, v1] := ⟨rfl, fun i hi => by
    match i, hi with
    | 0, _ => exact rep_via (hv0 ▸ hI.slot t0 _ h0) (.opt 0 0) rfl
    | 1, _ => exact rep_via (hv1 ▸ hI.slot t1 _ h1) (.opt 1 0) rfl⟩
  refine leaves_cons hu hinv ((hpd _ _ hh hra).mono ?_)
  rintro e u2 w' ⟨v, c', rfl, rfl, rfl, hh'⟩
  obtain ⟨own2, hk, hto, hh2⟩ := back_heap (E := ⟨P, n, c0, ⟨B, [d]⟩⟩) (id := m) (ids := [0, 1]) (H := [some (T0, X0), some (T1, X1)]) (H' := [some (T0, Y0), some (T1, Y1)]) (Nat.le_of_ble_eq_true rfl) hHl hfr hI.toHeap rfl rfl hlent hh'
  have hI2 : Inv ⟨P, n, c0, ⟨B, [d]⟩⟩ (· < m + 8) ⟨c'.w, c'.S, own2⟩ (over (wcall (sigo [0, 1] m) 0 [some (T0, Y0), some (T1, Y1)]) (get l)) a := (hI.keeps hk hh2 fun s => by unfold over; rw [lk_wcall_s]).more fun i hi => by
    rcases hi with h | h
    · omega
    · omega
  have hI3 : Inv ⟨P, n, c0, ⟨B, [d]⟩⟩ (· < m + 8) ⟨c'.w, c'.S, own2⟩ (get [(ks t0, some (.pv (.opt 0 0))), (ks t1, some (.pv (.opt 1 0))), (kb 0, some (.blk T0 Y0)), (kb 1, some (.blk T1 Y1))]) a := hI2.less fun k v hx => by
    simp only [get, lk] at hx
    split at hx
    · rename_i e
      rw [Nat.eq_of_beq_eq_true e]
      unfold over
      rw [lk_wcall_s, h0]
      simpa using hx
    split at hx
    · rename_i e
      rw [Nat.eq_of_beq_eq_true e]
      unfold over
      rw [lk_wcall_s, h1]
      simpa using hx
    split at hx
    · rename_i e
      rw [Nat.eq_of_beq_eq_true e]
      show (match lk (kb 0) (wcall (sigo [0, 1] m) 0 [some (T0, Y0), some (T1, Y1)]) with | some x => x | none => get l (kb 0)) = some v
      rw [show lk (kb 0) (wcall (sigo [0, 1] m) 0 [some (T0, Y0), some (T1, Y1)]) = some (some (.blk T0 (renL (sigo [0, 1] m) Y0))) from rfl, hY0]
      simpa using hx
    split at hx
    · rename_i e
      rw [Nat.eq_of_beq_eq_true e]
      show (match lk (kb 1) (wcall (sigo [0, 1] m) 0 [some (T0, Y0), some (T1, Y1)]) with | some x => x | none => get l (kb 1)) = some v
      rw [show lk (kb 1) (wcall (sigo [0, 1] m) 0 [some (T0, Y0), some (T1, Y1)]) = some (some (.blk T1 (renL (sigo [0, 1] m) Y1))) from rfl, hY1]
      simpa using hx
    · simp at hx
  obtain ⟨v', h2, h3⟩ := ret_res hr _ a hI3
  show Leaves P fn a.tmps R [] (settle u2) c'.w
  rw [hs]
  exact ⟨v', h2, hR v' own2 c' (hI3.toHeap.less fun i T cs hx => by cases hx) h3⟩
/-- Lend two cells to what is still to run. -/
theorem lend_two {d0 : List Deferred} {c0 : Cx} {B : Nat → Prop} {n0 : Nat} {l : L} {cx : Cx} {a a2 : Act} {i1 t0 t1 : Nat} {rest : List (Nat × PV)} (hI : Inv ⟨P, n, c0, ⟨B, d0⟩⟩ (· < n0) cx (get l) a) (hn : Nat.blt 0 i1 = true) (hb0 : get l (kb 0) = some (.blk T0 X0)) (hb1 : get l (kb i1) = some (.blk T1 X1)) (hX0 : ∀ σ, renL σ X0 = X0) (hX1 : ∀ σ, renL σ X1 = X1)
    (h0 : get l (ks t0) = some (.pv (.opt 0 0))) (h1 : get l (ks t1) = some (.pv (.opt i1 0))) (hts : a2.tmps.size = a.tmps.size) (hsame : ∀ s p, get l (ks s) = some (.pv p) → a2.tmps.getD s undef = a.tmps.getD s undef)
    (hrest : ∀ x ∈ rest, get l (ks x.1) = some (.pv x.2) ∧ ∀ σ, ren σ x.2 = x.2) :
    Inv ⟨P, n, cx.via (sigi [0, i1] n0), ⟨(cEnv P (cx.via (sigi [0, i1] n0)) [some (T0, X0), some (T1, X1)]).Bor.bor, a2.defers⟩⟩ (· < 2) (cx.via (sigi [0, i1] n0))
      (get ([(ks t0, some (.pv (.opt 0 0))), (ks t1, some (.pv (.opt 1 0))), (kb 0, some (.blk T0 X0)), (kb 1, some (.blk T1 X1))] ++ rest.map fun x => (ks x.1, some (.pv x.2)))) a2 := by
  have hi1 : 0 < i1 := by simpa [Nat.blt_eq] using hn
  have hnd : nodupB [0, i1] = true := by
    have : Nat.beq 0 i1 = false := by rw [Bool.eq_false_iff]; intro h; have := Nat.eq_of_beq_eq_true h; omega
    simp [nodupB, this]
  have hlent : ∀ i, i < [0, i1].length → ∃ T cs, ([some (T0, X0), some (T1, X1)] : Hp).getD i none = some (T, cs) ∧ get l (kb ([0, i1].getD i 0)) = some (.blk T (renL (sigi [0, i1] n0) cs)) := fun i hi => by
    match i, hi with
    | 0, _ => exact ⟨T0, X0, rfl, by rw [hX0]; exact hb0⟩
    | 1, _ => exact ⟨T1, X1, rfl, by rw [hX1]; exact hb1⟩
  have hh := lend_heap (E := ⟨P, n, c0, ⟨B, d0⟩⟩) (id := n0) (ids := [0, i1]) (H := [some (T0, X0), some (T1, X1)]) (fun t _ => by omega) hI.toHeap hnd rfl hlent
  have hsl : ∀ s p, get ([(ks t0, some (.pv (.opt 0 0))), (ks t1, some (.pv (.opt 1 0))), (kb 0, some (.blk T0 X0)), (kb 1, some (.blk T1 X1))] ++ rest.map fun x => (ks x.1, some (.pv x.2))) (ks s) = some p → ∃ q, p = .pv q ∧ Rep P (cx.via (sigi [0, i1] n0)) q (a2.tmps.getD s undef) := by
    intro s p hx
    simp only [get, List.cons_append, List.nil_append, lk, beq_ks, beq_ksb] at hx
    by_cases e0 : s = t0
    · subst e0
      simp only [decide_true, if_true, Option.join_some, Option.some.injEq] at hx
      exact ⟨_, hx.symm, by rw [hsame s _ h0]; exact rep_via (hI.slot s _ h0) (.opt 0 0) rfl⟩
    by_cases e1 : s = t1
    · subst e1
      simp only [e0, decide_false, decide_true, Bool.false_eq_true, if_true, if_false, Option.join_some, Option.some.injEq] at hx
      exact ⟨_, hx.symm, by rw [hsame s _ h1]; exact rep_via (hI.slot s _ h1) (.opt 1 0) rfl⟩
    simp only [e0, e1, decide_false, Bool.false_eq_true, if_false] at hx
    have key : ∀ rs : List (Nat × PV), (∀ x ∈ rs, x ∈ rest) → (lk (ks s) (rs.map fun x => (ks x.1, some (Val.pv x.2)))).join = some p → ∃ x ∈ rs, x.1 = s ∧ p = .pv x.2 := by
      intro rs
      induction rs with
      | nil => intro _ h; simp [lk] at h
      | cons y rs ih =>
        intro hy h
        simp only [List.map_cons, lk, beq_ks] at h
        by_cases e : s = y.1
        · simp only [e, decide_true, if_true, Option.join_some, Option.some.injEq] at h
          exact ⟨y, by simp, e.symm, h.symm⟩
        · simp only [e, decide_false, Bool.false_eq_true, if_false] at h
          obtain ⟨x, h1, h2, h3⟩ := ih (fun x hx => hy x (by simp [hx])) h
          exact ⟨x, by simp [h1], h2, h3⟩
    obtain ⟨x, h2, h3, h4⟩ := key rest (fun x hx => hx) hx
    obtain ⟨h5, h6⟩ := hrest x h2
    subst h3
    exact ⟨x.2, h4, by rw [hsame x.1 _ h5]; exact rep_via (hI.slot x.1 _ h5) x.2 (h6 _).symm⟩
  have hbk : ∀ i T cs, get ([(ks t0, some (.pv (.opt 0 0))), (ks t1, some (.pv (.opt 1 0))), (kb 0, some (.blk T0 X0)), (kb 1, some (.blk T1 X1))] ++ rest.map fun x => (ks x.1, some (.pv x.2))) (kb i) = some (.blk T cs) → hSt [some (T0, X0), some (T1, X1)] (kb i) = some (.blk T cs) := by
    intro i T cs hx
    simp only [get, List.cons_append, List.nil_append, lk, beq_kbs, beq_kb] at hx
    rw [hSt_b]
    match i, hx with
    | 0, hx => simpa using hx
    | 1, hx => simpa using hx
    | i + 2, hx =>
      exfalso
      have e0 : ¬ i + 2 = 0 := by omega
      have e1 : ¬ i + 2 = 1 := by omega
      simp only [e0, e1, decide_false, Bool.false_eq_true, if_false] at hx
      have : ∀ rs : List (Nat × PV), lk (kb (i + 2)) (rs.map fun x => (ks x.1, some (Val.pv x.2))) = none := by
        intro rs
        induction rs with
        | nil => rfl
        | cons y rs ih => simp only [List.map_cons, lk, beq_kbs]; exact ih
      rw [this rest] at hx
      cases hx
  have hh2 : Heap ⟨P, n, cx.via (sigi [0, i1] n0), ⟨(cEnv P (cx.via (sigi [0, i1] n0)) [some (T0, X0), some (T1, X1)]).Bor.bor, a2.defers⟩⟩ (· < 2) (cx.via (sigi [0, i1] n0)) (hSt [some (T0, X0), some (T1, X1)]) := Heap.envD (n := 0) (d := []) hh
  exact { hh2.less hbk with
    tmps := by rw [hts]; exact hI.tmps
    dfr := rfl
    slot := fun s p hp => by
      obtain ⟨q, h2, h3⟩ := hsl s _ hp
      cases h2
      exact h3
    isv := fun s x hx => by
      obtain ⟨q, h2, _⟩ := hsl s _ hx
      exact ⟨q, h2⟩ }
/-- What two lent cells were lent to has ended: nothing own is spoken of. -/
theorem back_two {d0 ds : List Deferred} {c0 : Cx} {B : Nat → Prop} {n0 : Nat} {l : L} {cx : Cx} {a : Act} {i1 : Nat} (hI : Inv ⟨P, n, c0, ⟨B, d0⟩⟩ (· < n0) cx (get l) a) (hn : Nat.blt 0 i1 = true) (hb0 : get l (kb 0) = some (.blk T0 X0)) (hb1 : get l (kb i1) = some (.blk T1 X1)) (hX0 : ∀ σ, renL σ X0 = X0) (hX1 : ∀ σ, renL σ X1 = X1)
    (hc0 : ∀ i x, c0.own i = some x → i < 0) {nx : Nat → Prop} {c' : Cx} {g' : St} (h : Heap ⟨P, n, cx.via (sigi [0, i1] n0), ⟨(cEnv P (cx.via (sigi [0, i1] n0)) [some (T0, X0), some (T1, X1)]).Bor.bor, ds⟩⟩ nx c' g') :
    Heap ⟨P, 0, c0, ⟨B, []⟩⟩ (· < 0) ⟨c'.w, c'.S, c0.own⟩ (fun _ => none) := by
  have hi1 : 0 < i1 := by simpa [Nat.blt_eq] using hn
  have hnd : nodupB [0, i1] = true := by
    have : Nat.beq 0 i1 = false := by rw [Bool.eq_false_iff]; intro h; have := Nat.eq_of_beq_eq_true h; omega
    simp [nodupB, this]
  have hlent : ∀ i, i < [0, i1].length → ∃ T cs, ([some (T0, X0), some (T1, X1)] : Hp).getD i none = some (T, cs) ∧ get l (kb ([0, i1].getD i 0)) = some (.blk T (renL (sigi [0, i1] n0) cs)) := fun i hi => by
    match i, hi with
    | 0, _ => exact ⟨T0, X0, rfl, by rw [hX0]; exact hb0⟩
    | 1, _ => exact ⟨T1, X1, rfl, by rw [hX1]; exact hb1⟩
  have hh := lend_heap (E := ⟨P, n, c0, ⟨B, d0⟩⟩) (id := n0) (ids := [0, i1]) (H := [some (T0, X0), some (T1, X1)]) (fun t _ => by omega) hI.toHeap hnd rfl hlent
  have h2 := (h.bareH (H := [none, none]) (fun i => by rcases i with _ | _ | i <;> rfl) (fun i x hx => hh.ids i x hx)).envD (m := 0) (e := [])
  obtain ⟨own3, _, _, hh3⟩ := back_heap (E := ⟨P, n, c0, ⟨B, d0⟩⟩) (id := n0) (ids := [0, i1]) (H := [some (T0, X0), some (T1, X1)]) (H' := [none, none]) (show 2 ≤ 2 + 8 by omega) (Nat.le_refl 2) (fun t _ => by omega) hI.toHeap hnd rfl hlent h2
  exact (hh3.bare hc0).envD
mutual
/-- Nothing own is in it. -/
def dsh : PV → Bool
  | .agg cs => dshL cs
  | .tup cs => dshL cs
  | .fn _ cs ds => dshL cs && dshL ds
  | .osl _ _ _ => false
  | .opt _ _ => false
  | .opn _ _ => false
  | .av _ => true
  | .ssl _ _ _ => true
  | .spt _ _ => true
  | .err => true
def dshL : List PV → Bool
  | [] => true
  | p :: l => dsh p && dshL l
end
theorem dshL_get : ∀ {l : List PV} {i : Nat}, dshL l = true → i < l.length → dsh (l.getD i P0) = true
  | [], i, _, h => absurd h (Nat.not_lt_zero i)
  | p :: l, 0, h, _ => by
    simp only [dshL, Bool.and_eq_true] at h
    exact h.1
  | p :: l, i + 1, h, hi => by
    simp only [dshL, Bool.and_eq_true] at h
    simpa using dshL_get (i := i) h.2 (by simpa using hi)
theorem rep_dsh {c : Cx} {p : PV} {v : Value} (h : Rep P c p v) (hd : dsh p = true) : SRep c.w c.S p v := by
  induction h with
  | sh h => exact h
  | agg hn _ ih =>
    simp only [dsh] at hd
    exact .agg hn fun i hi => ih i hi (dshL_get hd hi)
  | tup hn _ ih =>
    simp only [dsh] at hd
    exact .tup hn fun i hi => ih i hi (dshL_get hd hi)
  | osl => cases hd
  | opt => cases hd
  | opn => cases hd
  | fn hn _ hm _ ih ik =>
    simp only [dsh, Bool.and_eq_true] at hd
    exact .fn hn (fun i hi => ih i hi (dshL_get hd.1 hi)) hm fun i hi => ik i hi (dshL_get hd.2 hi)
/-- A cell's value told as it is. -/
theorem cell_av {g : St} {nx : Nat → Prop} {E : Env} {c : Cx} (h : Heap E nx c g) {i : Nat} {T : TypeId} {p : PV} (hg : g (kb i) = some (.blk T [p])) : ∃ v : Value, v.oneCell' = true ∧ Heap E nx c (over [(kb i, some (.blk T [.av v]))] g) := by
  obtain ⟨ob, h1, h2, h3⟩ := h.blk i T _ hg
  have hp : p.one = true := h2 p (by simp)
  rcases h3 with ⟨_, h4⟩ | ⟨b, cs, h4, h5, h6, h7⟩
  · cases h4
  have hr := h7 0 (by simp)
  refine ⟨cs.getD 0 undef, Rep.one hr hp, ?_⟩
  have hl : ∀ j, Live (over [(kb i, some (.blk T [.av (cs.getD 0 undef)]))] g) j → Live g j := fun j ⟨T', cs', hx⟩ => by
    rw [over_b] at hx
    by_cases e : j = i
    · subst e; exact ⟨T, _, hg⟩
    · rw [if_neg e] at hx; exact ⟨T', cs', hx⟩
  exact { h with
    blk := fun j T' cs' hx => by
      rw [over_b] at hx
      by_cases e : j = i
      · subst e
        rw [if_pos rfl] at hx
        simp only [Option.some.injEq, Val.blk.injEq] at hx
        obtain ⟨rfl, rfl⟩ := hx
        refine ⟨ob, h1, fun q hq => ?_, .inr ⟨b, cs, h4, h5, h6, fun k hk => ?_⟩⟩
        · rw [List.mem_singleton.1 hq]; exact Rep.one hr hp
        · obtain rfl : k = 0 := by simpa using hk
          exact .sh (.av _)
      · rw [if_neg e] at hx
        exact h.blk j T' cs' hx
    inj := fun j j' b T T' l1 l2 => h.inj j j' b T T' (hl j l1) (hl j' l2)
    apart := fun j b T l1 => h.apart j b T (hl j l1) }
end
end Go.Proofs.Ytfibadnkhbjciaa.Pm
namespace Go.Proofs.Ytfibadnkhbjciaa.Pm
open Go

/-- A contract of a function that is called at a frame's end. -/
def PCD (P : Program) (f : FuncId) (args : List PV) (H : Hp) (r : PV) (H' : Hp) : Prop := FnOk P f ∧ H.length ≤ H'.length ∧ ∀ (c : Cx) (vs : Array Value) (u : FrameMode), Heap (cEnv P c H) (· < H.length) c (hSt H) → RL P c args vs →
  CallsD P f vs u c.w fun e u2 w' => u2 = u ∧ ∃ v c', e = .returned v ∧ c'.w = w' ∧ Heap (cEnv P c H) (· < H'.length) c' (hSt H') ∧ Rep P c' r v
section
variable {P : Program}
theorem pcd_intro {f : FuncId} {fn : Func} {code : Code} {args : List PV} {H H' : Hp} {r : PV} {l0 : L} (hf : P.funcs[f]? = some fn) (hb : fn.body = some code) (hname : (fn.name == "runtime.NumGoroutine") = false) (hlen : H.length ≤ H'.length)
    (hn : Nat.ble args.length fn.ntmps = true) (hl0 : initA 0 args ++ initB 0 H = l0) (h : ∀ c0 (Bor : Nat → Prop), (∀ i x, c0.own i = some x → i < H.length) → T P fn.ntmps c0 ⟨Bor, []⟩ (retQ P fn c0 ⟨Bor, []⟩ r H') H.length l0 [.code code]) : PCD P f args H r H' := by
  refine ⟨⟨fn, hf, by rw [hb]; rfl, hname⟩, hlen, fun c vs u hh hrl => ?_⟩
  refine callsD_of_wp hf hb ?_
  have key := body_intro hn hl0 h c vs hh hrl
  refine wp_mono key ?_
  rintro e a' w' ⟨cx', rfl, he, hd, v, cx2, h1, h2, h3, h4⟩
  rcases he with rfl | rfl
  · exact ⟨hd, v, h2, v, cx2, rfl, h1, h4, h3⟩
  · exact ⟨hd, v, h2, v, cx2, rfl, h1, h4, h3⟩
variable {n : Nat} {c0 : Cx} {B : Nat → Prop}
/-- The same with another list of what is put off. -/
theorem inv_dfr {d e : List Deferred} {nx : Nat → Prop} {c : Cx} {g : St} {a : Act} (hI : Inv ⟨P, n, c0, ⟨B, d⟩⟩ nx c g a) : Inv ⟨P, n, c0, ⟨B, e⟩⟩ nx c g { a with defers := e } :=
  { (hI.toHeap.envD (m := n) (e := e)) with tmps := hI.tmps, dfr := rfl, slot := hI.slot, isv := hI.isv }
theorem run_deferF {w : World} {ρ : Operand → Value} {o : Oper} {f : FuncId} {xs : Array Operand} {ts : Array TypeId} (ho : o.op = .defer { callee := .value (.func f), args := xs, argTypes := ts }) (hρ : ρ (.func f) = .func (.func f) #[] #[]) :
    (execOp ρ o).run P w = .ok (.defer { target := .fn (.func f) #[], args := xs.map ρ }) w := by
  simp [execOp, ho, resolve, hρ, Deferred.ofValue]
theorem ws_env {E E' : Env} {Q : Post} (hP : E.P = E'.P) : ∀ (rs : List Item) (e : Exit) (cx : Cx) (a : Act), WS E Q rs e cx a → WS E' Q rs e cx a
  | [], e, cx, a, h => h
  | .code c :: rs, e, cx, a, h => by
    cases e with
    | normal =>
      show c.wp E'.P _ a cx.w
      rw [← hP]
      refine wp_mono (show c.wp E.P _ a cx.w from h) ?_
      rintro e a' w' ⟨cx', h1, h2⟩
      exact ⟨cx', h1, ws_env hP rs e cx' a' h2⟩
    | ret => exact ws_env hP rs _ cx a h
    | exit j => exact ws_env hP rs _ cx a h
    | goto j => exact ws_env hP rs _ cx a h
    | panic ch => exact ws_env hP rs _ cx a h
    | outgrown => exact ws_env hP rs _ cx a h
  | .blk id :: rs, e, cx, a, h => by
    cases e with
    | exit j =>
      show (if j = id then WS E' Q rs .normal cx a else WS E' Q rs (.exit j) cx a)
      have h' : (if j = id then WS E Q rs .normal cx a else WS E Q rs (.exit j) cx a) := h
      split at h'
      · rename_i c; rw [if_pos c]; exact ws_env hP rs _ cx a h'
      · rename_i c; rw [if_neg c]; exact ws_env hP rs _ cx a h'
    | normal => exact ws_env hP rs _ cx a h
    | ret => exact ws_env hP rs _ cx a h
    | goto j => exact ws_env hP rs _ cx a h
    | panic ch => exact ws_env hP rs _ cx a h
    | outgrown => exact ws_env hP rs _ cx a h
/-- Three operations, then a call is put off. -/
theorem T_dfr {id : Nat} {ops : Array Oper} {o0 o1 o2 o3 : Oper} {k : FuncId} {xs : Array Operand} {ts : Array TypeId} {l l' : L} {d : List Deferred} {D : Deferred} {Q : Post} {n0 : Nat} {rs : List Item} {p0 p1 p2 : PV}
    (hops : ops = #[o0, o1, o2, o3]) (g0 : o0.guard = none) (g1 : o1.guard = none) (g2 : o2.guard = none) (g3 : o3.guard = none)
    (d0 : ∀ x, o0.dst = some x → x < n) (d1 : ∀ x, o1.dst = some x → x < n) (d2 : ∀ x, o2.dst = some x → x < n) (d3 : o3.dst = none)
    (r0 : Res (get l) (plan P o0 .no n0) p0 []) (r1 : Res (over (wd o0.dst p0) (over [] (get l))) (plan P o1 .no (n0 + 8)) p1 [])
    (r2 : Res (over (wd o1.dst p1) (over [] (over (wd o0.dst p0) (over [] (get l))))) (plan P o2 .no (n0 + 16)) p2 [])
    (ho3 : o3.op = .defer { callee := .value (.func k), args := xs, argTypes := ts })
    (hx : ∀ cx a, Inv ⟨P, n, c0, ⟨B, d⟩⟩ (· < n0 + 24) cx (over (wd o2.dst p2) (over [] (over (wd o1.dst p1) (over [] (over (wd o0.dst p0) (over [] (get l))))))) a → ({ target := .fn (.func k) #[], args := xs.map a.eval } : Deferred) = D)
    (hl : ∀ key v, get l' key = some v → (over (wd o2.dst p2) (over [] (over (wd o1.dst p1) (over [] (over (wd o0.dst p0) (over [] (get l))))))) key = some v)
    (hT : T P n c0 ⟨B, D :: d⟩ Q (n0 + 32) l' rs) : T P n c0 ⟨B, d⟩ Q n0 l (.code (.region id ops false) :: rs) := by
  intro cx a hI
  subst hops
  show (Code.region id #[o0, o1, o2, o3] false).wp P _ a cx.w
  refine wp_region ?_
  show wpOps P _ _ [0, 1, 2, 3] a cx.w
  refine wp_one (o := o0) rfl g0 ?_
  refine plan_ok (E := ⟨P, n, c0, ⟨B, d⟩⟩) (id := n0) d0 _ _ _ r0 _ cx a _ _ (fun t _ => by omega) hI fun c1 a1 h1 => ?_
  refine wp_one (o := o1) rfl g1 ?_
  refine plan_ok (E := ⟨P, n, c0, ⟨B, d⟩⟩) (id := n0 + 8) d1 _ _ _ r1 _ c1 a1 _ _ (fun t _ => by omega) h1 fun c2 a2 h2 => ?_
  refine wp_one (o := o2) rfl g2 ?_
  refine plan_ok (E := ⟨P, n, c0, ⟨B, d⟩⟩) (id := n0 + 16) d2 _ _ _ r2 _ c2 a2 _ _ (fun t _ => by omega) h2 fun c3 a3 h3 => ?_
  refine wp_one (o := o3) rfl g3 ?_
  unfold Oper.wp
  rw [run_deferF (w := c3.w) ho3 rfl, Oper.upon_defer, d3]
  have h3' := h3.more (nx' := (· < n0 + 24)) fun i hi => by omega
  rw [hx c3 a3 h3']
  have h4 := inv_dfr (e := D :: d) ((h3'.less hl).more (nx' := (· < n0 + 32)) fun i hi => by omega)
  have hd : ({ a3 with defers := D :: a3.defers } : Act) = { a3 with defers := D :: d } := by rw [show a3.defers = d from h3.dfr]
  show ∃ cx', cx'.w = c3.w ∧ WS ⟨P, n, c0, ⟨B, d⟩⟩ Q rs .normal cx' _
  refine ⟨c3, rfl, ?_⟩
  show WS ⟨P, n, c0, ⟨B, d⟩⟩ Q rs .normal c3 { a3 with defers := D :: a3.defers }
  rw [hd]
  exact ws_env (E := ⟨P, n, c0, ⟨B, D :: d⟩⟩) (E' := ⟨P, n, c0, ⟨B, d⟩⟩) rfl rs _ c3 _ (hT c3 _ h4)
/-- One call that was put off, over the block 0. -/
theorem leave_pcd {m : Nat} {g : St} {cx : Cx} {d ds : List Deferred} {f : FuncId} {args : List PV} {vs : Array Value} {fn : Func} {tmps : Array Value} {R : Ending → World → Prop} {T0 : TypeId} {X0 Y0 : List PV} (hh : Heap ⟨P, n, c0, ⟨B, d⟩⟩ (· < m) cx g)
    (hb : g (kb 0) = some (.blk T0 X0)) (hX : ∀ σ, renL σ X0 = X0) (hpcd : PCD P f args [some (T0, X0)] (.tup []) [some (T0, Y0)]) (hra : RL P (cx.via (sigi [0] m)) args vs)
    (hnext : ∀ own2 (c' : Cx), Heap ⟨P, n, c0, ⟨B, d⟩⟩ (· < m + 8) ⟨c'.w, c'.S, own2⟩ (over (wcall (sigo [0] m) 0 [some (T0, Y0)]) g) → Leaves P fn tmps R ds .returning c'.w) :
    Leaves P fn tmps R ({ target := .fn (.func f) #[], args := vs } :: ds) .returning cx.w := by
  obtain ⟨hfn, hHl, hp⟩ := hpcd
  have hinv : (invoke (.fn (.func f) #[]) vs).run P cx.w = .ok (.enter f vs) cx.w := by
    obtain ⟨fn, h1, h2, h3⟩ := hfn
    have h2' : ¬ fn.body = none := fun e => by rw [e] at h2; cases h2
    have h3' : ¬ fn.name = "runtime.NumGoroutine" := by simpa using h3
    simp [invoke, callFunc, h1, h3', h2']
  have hfr : ∀ t, t < 8 → ¬ (m + t < m) := fun t _ => by omega
  have hlent : ∀ i, i < [0].length → ∃ T cs, ([some (T0, X0)] : Hp).getD i none = some (T, cs) ∧ g (kb ([0].getD i 0)) = some (.blk T (renL (sigi [0] m) cs)) := fun i hi => by
    match i, hi with
    | 0, _ => exact ⟨T0, X0, rfl, by rw [hX]; exact hb⟩
  have hh2 := lend_heap (id := m) (ids := [0]) (H := [some (T0, X0)]) hfr hh rfl rfl hlent
  refine leaves_cons (fun h => by cases h) hinv ((hp _ _ .returning hh2 hra).mono ?_)
  rintro e u2 w' ⟨rfl, v, c', rfl, rfl, hh', _⟩
  obtain ⟨own2, hk, hto, hh3⟩ := back_heap (E := ⟨P, n, c0, ⟨B, d⟩⟩) (id := m) (ids := [0]) (H := [some (T0, X0)]) (H' := [some (T0, Y0)]) (Nat.le_of_ble_eq_true rfl) hHl hfr hh rfl rfl hlent hh'
  show Leaves P fn tmps R ds (settle .returning) c'.w
  exact hnext own2 c' { hh3 with ids := fun i x hx => by rcases hh3.ids i x hx with h | h <;> omega }
/-- A pointer into block 0 and what else is handed over. -/
theorem rl_ptr {cx : Cx} {b off : Nat} {T0 : TypeId} {m : Nat} {ps : List PV} {vs : List Value} (hown : cx.own 0 = some (some b, T0)) (hps : ps = vs.map PV.av) : RL P (cx.via (sigi [0] m)) (.opt 0 off :: ps) (Value.pointer (some ⟨b, off, none⟩) :: vs).toArray := by
  subst hps
  refine ⟨by simp, fun i hi => ?_⟩
  cases i with
  | zero => exact rep_via (.opt hown) (.opt 0 off) rfl
  | succ i =>
    have hi' : i < vs.length := by simpa using hi
    have e1 : (PV.opt 0 off :: vs.map PV.av).getD (i + 1) P0 = .av vs[i] := by simp [List.getD_eq_getElem?_getD, hi']
    have e2 : (Value.pointer (some ⟨b, off, none⟩) :: vs).toArray.getD (i + 1) undef = vs[i] := by simp [hi']
    rw [e1, e2]
    exact .sh (.av _)
/-- Block 0 alone, at the end: its cells hold nothing own. -/
theorem heap_one {E : Env} {nx : Nat → Prop} {c : Cx} {g : St} (h : Heap E nx c g) (hk : ∀ i x, E.c0.own i = some x → i < 1) {T0 : TypeId} {Y : List PV} {b : Nat} (hb0 : E.c0.own 0 = some (some b, T0)) (hg : g (kb 0) = some (.blk T0 Y)) (hY : ∀ j, j < Y.length → dsh (Y.getD j P0) = true) :
    Heap E (· < 1) ⟨c.w, c.S, E.c0.own⟩ (hSt [some (T0, Y)]) := by
  have hown : c.own 0 = some (some b, T0) := h.keep.own 0 _ hb0
  have hlv : ∀ i, Live (hSt [some (T0, Y)]) i → i = 0 := fun i ⟨T, cs, hx⟩ => by
    rw [hSt_b] at hx
    match i, hx with
    | 0, _ => rfl
    | i + 1, hx => simp at hx
  have hl0 : Live g 0 := ⟨_, _, hg⟩
  refine { ids := hk, blk := fun i T cs hx => ?_, inj := fun i j b T T' l1 l2 _ _ => (hlv i l1).trans (hlv j l2).symm, apart := fun i b' T l1 ho => ?_, bnd := fun i b T hx => h.bnd i b T (h.keep.own i _ hx), sok := h.sok, os := h.os, tape := h.tape, output := h.output, size := h.size, same := h.same, laid := h.laid, s0 := h.s0, s1 := h.s1, keep := ⟨h.keep.S, fun _ _ h => h, h.keep.shape⟩ }
  · rw [hSt_b] at hx
    match i, hx with
    | 0, hx =>
      simp only [List.getD_cons_zero, Option.some.injEq, Val.blk.injEq] at hx
      obtain ⟨rfl, rfl⟩ := hx
      obtain ⟨ob, ho, hone, hb⟩ := h.blk 0 _ _ hg
      rw [hown] at ho
      cases ho
      refine ⟨some b, hb0, hone, ?_⟩
      rcases hb with ⟨hb, _⟩ | ⟨b', vs, hb1, hb2, hb3, hb4⟩
      · cases hb
      exact .inr ⟨b', vs, hb1, hb2, hb3, fun j hj => .sh (rep_dsh (c := c) (hb4 j hj) (hY j hj) : SRep c.w c.S _ _)⟩
    | i + 1, hx => simp at hx
  · obtain rfl := hlv i l1
    have ho' : E.c0.own 0 = some (some b', T) := ho
    exact h.apart 0 b' T hl0 (h.keep.own 0 _ ho')
theorem over_wd_none {t : Nat} {p : PV} {g : St} {key : Nat} {v : Val} (hn : g (ks t) = none) (h : g key = some v) : over (wd (some t) p) (over [] g) key = some v := by
  have hk : ¬ key = ks t := fun e => by rw [e, hn] at h; cases h
  show (match lk key [(ks t, some (Val.pv p))] with | some x => x | none => g key) = some v
  rw [show lk key [(ks t, some (Val.pv p))] = none from by
    simp only [lk]
    split
    · rename_i e; exact absurd (Nat.eq_of_beq_eq_true e) hk
    · rfl]
  exact h
theorem leaves_monoD {fn : Func} {tmps : Array Value} {R R' : Ending → World → Prop} (hR : ∀ e w, R e w → R' e w) : ∀ {ds : List Deferred} {u : FrameMode} {w : World}, Leaves P fn tmps R ds u w → Leaves P fn tmps R' ds u w
  | [], .returning, w, h => let ⟨v, h1, h2⟩ := h; ⟨v, h1, hR _ _ h2⟩
  | [], .panicking _, w, h => hR _ _ h
  | [], .run, w, h => h.elim
  | d :: ds, u, w, h => by
    obtain ⟨h0, fv, cap, f, args, h1, h2, h3⟩ := h
    refine ⟨h0, fv, cap, f, args, h1, h2, h3.mono fun e u' w' h4 => ?_⟩
    cases e with
    | returned v => exact leaves_monoD hR h4
    | panicked ch => exact leaves_monoD hR h4
    | outgrown => exact hR _ _ h4
/-- A lent block that has cells stands somewhere. -/
theorem own_at {c : Cx} {H : Hp} {nx : Nat → Prop} {T0 : TypeId} {x : PV} {X : List PV} (hh : Heap (cEnv P c H) nx c (hSt H)) (hH : H.getD 0 none = some (T0, x :: X)) : ∃ b, c.own 0 = some (some b, T0) := by
  obtain ⟨ob, ho, _, hb⟩ := hh.blk 0 T0 (x :: X) (by rw [hSt_b, hH])
  rcases hb with ⟨_, h⟩ | ⟨b, vs, rfl, _⟩
  · cases h
  · exact ⟨b, ho⟩
end
end Go.Proofs.Ytfibadnkhbjciaa.Pm
namespace Go.Proofs.Ytfibadnkhbjciaa.Pm
open Go

set_option maxRecDepth 100000 in
set_option maxHeartbeats 4000000 in
theorem ilock_pc (g : Int) : PC Try.prog 34 [(.opt 0 2)] [some (63, [(iv g), (.av (.int .u32 0)), (.av (.int .i32 0)), (.av (.int .u32 0)), (.av (.slice none 0 0))])] (.tup []) [some (63, [(iv g), (.av (.int .u32 0)), (.av (.int .i32 1)), (.av (.int .u32 0)), (.av (.slice none 0 0))])] := by
  refine pc_intro Try.func34 rfl (by kernel_rfl) (Nat.le_of_ble_eq_true rfl) (by kernel_rfl) (l0 := [ps 0 (.opt 0 2), pb 0 63 [(iv g), (.av (.int .u32 0)), (.av (.int .i32 0)), (.av (.int .u32 0)), (.av (.slice none 0 0))]]) rfl (fun c0 Bor hc0 => ?_)
  refine T_seq ?_
  refine T_k mixed [(0, .wrap)] [.r] [] (obs_cons (⟨_, .disable, Try.func38, by kernel_rfl, by kernel_rfl, by kernel_rfl, by kernel_rfl⟩ : IsMark0 Try.prog 38) obs_nil) ?_
  refine T_seq <| T_seq ?_
  refine T_r mixed [(3, .wrap)] [ps 0 (.opt 0 2), ps 6 (bv true), pb 0 63 [(iv g), (.av (.int .u32 0)), (.av (.int .i32 1)), (.av (.int .u32 0)), (.av (.slice none 0 0))]] (obs_cons (⟨_, Try.func39, by kernel_rfl, by kernel_rfl, by kernel_rfl, by kernel_rfl⟩ : IsCas Try.prog 39 .i32) obs_nil) ?_
  refine T_then (b := true) rfl rfl ?_
  refine T_seq ?_
  refine T_thenc ?_
  refine T_seq ?_
  refine T_k mixed [(0, .wrap)] [.k1, .d, .r] [] (obs_cons (⟨_, .enable, Try.func40, by kernel_rfl, by kernel_rfl, by kernel_rfl, by kernel_rfl⟩ : IsMark0 Try.prog 40) obs_nil) ?_
  refine T_k mixed [(2, .wrap)] [.d, .r] [] (obs_cons (⟨by simp, by kernel_rfl⟩ : 2 < ([(iv g), (.av (.int .u32 0)), (.av (.int .i32 1)), (.av (.int .u32 0)), (.av (.slice none 0 0))] : List PV).length ∧ (Try.prog.info? 56).map (fun i => decide (i.size = 0)) = some false) (obs_cons (⟨_, .acquire, Try.func41, by kernel_rfl, by kernel_rfl, by kernel_rfl, by kernel_rfl⟩ : IsMark1 Try.prog 41) obs_nil)) ?_
  exact T_ret fun cx_ a_ hI_ => rt hc0 [pb 0 63 [(iv g), (.av (.int .u32 0)), (.av (.int .i32 1)), (.av (.int .u32 0)), (.av (.slice none 0 0))]] [0] hI_ (hbk := by exact obs_cons rfl (obs_nil))
set_option maxRecDepth 100000 in
set_option maxHeartbeats 4000000 in
theorem lock_pc (g : Int) : PC Try.prog 31 [(.opt 0 2)] [some (63, [(iv g), (.av (.int .u32 0)), (.av (.int .i32 0)), (.av (.int .u32 0)), (.av (.slice none 0 0))])] (.tup []) [some (63, [(iv g), (.av (.int .u32 0)), (.av (.int .i32 1)), (.av (.int .u32 0)), (.av (.slice none 0 0))])] := by
  refine pc_intro Try.func31 rfl (by kernel_rfl) (Nat.le_of_ble_eq_true rfl) (by kernel_rfl) (l0 := [ps 0 (.opt 0 2), pb 0 63 [(iv g), (.av (.int .u32 0)), (.av (.int .i32 0)), (.av (.int .u32 0)), (.av (.slice none 0 0))]]) rfl (fun c0 Bor hc0 => ?_)
  refine T_r mixed [(3, .call [0] [(.opt 0 2)] [some (63, [(iv g), (.av (.int .u32 0)), (.av (.int .i32 0)), (.av (.int .u32 0)), (.av (.slice none 0 0))])] (.tup []) [some (63, [(iv g), (.av (.int .u32 0)), (.av (.int .i32 1)), (.av (.int .u32 0)), (.av (.slice none 0 0))])])] [pb 0 63 [(iv g), (.av (.int .u32 0)), (.av (.int .i32 1)), (.av (.int .u32 0)), (.av (.slice none 0 0))]] (obs_cons (ilock_pc g) (obs_cons (rfl : [(.opt 0 2)] = renL (sigi [0] 25) [(.opt 0 2)]) (obs_cons (rfl : [(iv g), (.av (.int .u32 0)), (.av (.int .i32 0)), (.av (.int .u32 0)), (.av (.slice none 0 0))] = renL (sigi [0] 25) [(iv g), (.av (.int .u32 0)), (.av (.int .i32 0)), (.av (.int .u32 0)), (.av (.slice none 0 0))]) obs_nil))) ?_
  exact fun cx_ a_ hI_ => ret_ok (H' := [some (63, [(iv g), (.av (.int .u32 0)), (.av (.int .i32 1)), (.av (.int .u32 0)), (.av (.slice none 0 0))])]) (.inl rfl) (Wk.ren2 [pb 0 63 [(iv g), (.av (.int .u32 0)), (.av (.int .i32 1)), (.av (.int .u32 0)), (.av (.slice none 0 0))]] 1 hc0 [0] rfl rfl (by kernel_rfl) (by kernel_rfl)) rfl (obs_cons rfl (obs_nil)) (fun cx_ a_ hI_ => ret_res (l' := [pb 0 63 [(iv g), (.av (.int .u32 0)), (.av (.int .i32 1)), (.av (.int .u32 0)), (.av (.slice none 0 0))]]) (by kernel_rfl) cx_ a_ hI_) hI_
set_option maxRecDepth 100000 in
set_option maxHeartbeats 4000000 in
theorem iunlock_pc (g : Int) : PC Try.prog 35 [(.opt 0 2)] [some (63, [(iv g), (.av (.int .u32 1)), (.av (.int .i32 1)), (.av (.int .u32 0)), (.av (.slice none 0 0))])] (.tup []) [some (63, [(iv g), (.av (.int .u32 1)), (.av (.int .i32 0)), (.av (.int .u32 0)), (.av (.slice none 0 0))])] := by
  refine pc_intro Try.func35 rfl (by kernel_rfl) (Nat.le_of_ble_eq_true rfl) (by kernel_rfl) (l0 := [ps 0 (.opt 0 2), pb 0 63 [(iv g), (.av (.int .u32 1)), (.av (.int .i32 1)), (.av (.int .u32 0)), (.av (.slice none 0 0))]]) rfl (fun c0 Bor hc0 => ?_)
  refine T_seq ?_
  refine T_thenc ?_
  refine T_seq ?_
  refine T_k mixed [] [.r] [] (obs_nil) ?_
  refine T_seq ?_
  refine T_k mixed [(2, .wrap)] [.r] [] (obs_cons (⟨by simp, by kernel_rfl⟩ : 2 < ([(iv g), (.av (.int .u32 1)), (.av (.int .i32 1)), (.av (.int .u32 0)), (.av (.slice none 0 0))] : List PV).length ∧ (Try.prog.info? 56).map (fun i => decide (i.size = 0)) = some false) (obs_cons (⟨_, .releaseMerge, Try.func43, by kernel_rfl, by kernel_rfl, by kernel_rfl, by kernel_rfl⟩ : IsMark1 Try.prog 43) obs_nil)) ?_
  refine T_k mixed [(0, .wrap)] [.r] [] (obs_cons (⟨_, .disable, Try.func38, by kernel_rfl, by kernel_rfl, by kernel_rfl, by kernel_rfl⟩ : IsMark0 Try.prog 38) obs_nil) ?_
  refine T_seq ?_
  refine T_r mixed [(3, .wrap)] [ps 0 (.opt 0 2), ps 2 (.av (.int .i32 0)), pb 0 63 [(iv g), (.av (.int .u32 1)), (.av (.int .i32 0)), (.av (.int .u32 0)), (.av (.slice none 0 0))]] (obs_cons (⟨_, Try.func44, by kernel_rfl, by kernel_rfl, by kernel_rfl, by kernel_rfl⟩ : IsAdd Try.prog 44 .i32) (obs_cons (by simp only [InK]; omega : InK .i32 (1 + (-1))) obs_nil)) ?_
  refine T_seq <| T_seq ?_
  refine T_k mixed [] [.k2, .n, .r] [ps 16 (bv false)] (obs_nil) ?_
  refine T_else (b := false) rfl rfl ?_
  refine T_skip ?_
  refine T_k mixed [(0, .wrap)] [.d, .d, .d, .r] [] (obs_cons (⟨_, .enable, Try.func40, by kernel_rfl, by kernel_rfl, by kernel_rfl, by kernel_rfl⟩ : IsMark0 Try.prog 40) obs_nil) ?_
  exact fun cx_ a_ hI_ => ret_ok (H' := [some (63, [(iv g), (.av (.int .u32 1)), (.av (.int .i32 0)), (.av (.int .u32 0)), (.av (.slice none 0 0))])]) (.inl rfl) (Wk.ren2 [pb 0 63 [(iv g), (.av (.int .u32 1)), (.av (.int .i32 0)), (.av (.int .u32 0)), (.av (.slice none 0 0))]] 1 hc0 [0] rfl rfl (by kernel_rfl) (by kernel_rfl)) rfl (obs_cons rfl (obs_nil)) (fun cx_ a_ hI_ => ret_res (l' := [pb 0 63 [(iv g), (.av (.int .u32 1)), (.av (.int .i32 0)), (.av (.int .u32 0)), (.av (.slice none 0 0))]]) (by kernel_rfl) cx_ a_ hI_) hI_
set_option maxRecDepth 100000 in
set_option maxHeartbeats 4000000 in
theorem unlock_pc (g : Int) : PC Try.prog 32 [(.opt 0 2)] [some (63, [(iv g), (.av (.int .u32 1)), (.av (.int .i32 1)), (.av (.int .u32 0)), (.av (.slice none 0 0))])] (.tup []) [some (63, [(iv g), (.av (.int .u32 1)), (.av (.int .i32 0)), (.av (.int .u32 0)), (.av (.slice none 0 0))])] := by
  refine pc_intro Try.func32 rfl (by kernel_rfl) (Nat.le_of_ble_eq_true rfl) (by kernel_rfl) (l0 := [ps 0 (.opt 0 2), pb 0 63 [(iv g), (.av (.int .u32 1)), (.av (.int .i32 1)), (.av (.int .u32 0)), (.av (.slice none 0 0))]]) rfl (fun c0 Bor hc0 => ?_)
  refine T_r mixed [(3, .call [0] [(.opt 0 2)] [some (63, [(iv g), (.av (.int .u32 1)), (.av (.int .i32 1)), (.av (.int .u32 0)), (.av (.slice none 0 0))])] (.tup []) [some (63, [(iv g), (.av (.int .u32 1)), (.av (.int .i32 0)), (.av (.int .u32 0)), (.av (.slice none 0 0))])])] [pb 0 63 [(iv g), (.av (.int .u32 1)), (.av (.int .i32 0)), (.av (.int .u32 0)), (.av (.slice none 0 0))]] (obs_cons (iunlock_pc g) (obs_cons (rfl : [(.opt 0 2)] = renL (sigi [0] 25) [(.opt 0 2)]) (obs_cons (rfl : [(iv g), (.av (.int .u32 1)), (.av (.int .i32 1)), (.av (.int .u32 0)), (.av (.slice none 0 0))] = renL (sigi [0] 25) [(iv g), (.av (.int .u32 1)), (.av (.int .i32 1)), (.av (.int .u32 0)), (.av (.slice none 0 0))]) obs_nil))) ?_
  exact fun cx_ a_ hI_ => ret_ok (H' := [some (63, [(iv g), (.av (.int .u32 1)), (.av (.int .i32 0)), (.av (.int .u32 0)), (.av (.slice none 0 0))])]) (.inl rfl) (Wk.ren2 [pb 0 63 [(iv g), (.av (.int .u32 1)), (.av (.int .i32 0)), (.av (.int .u32 0)), (.av (.slice none 0 0))]] 1 hc0 [0] rfl rfl (by kernel_rfl) (by kernel_rfl)) rfl (obs_cons rfl (obs_nil)) (fun cx_ a_ hI_ => ret_res (l' := [pb 0 63 [(iv g), (.av (.int .u32 1)), (.av (.int .i32 0)), (.av (.int .u32 0)), (.av (.slice none 0 0))]]) (by kernel_rfl) cx_ a_ hI_) hI_
set_option maxRecDepth 100000 in
set_option maxHeartbeats 4000000 in
theorem iunlock_pc_w (g : Int) (ws : List PV) (n : Nat) : PC Try.prog 35 [(.opt 0 2)] [some (63, [(iv g), (.av (.int .u32 1)), (.av (.int .i32 1)), (.av (.int .u32 0)), (.ssl ws 0 n)])] (.tup []) [some (63, [(iv g), (.av (.int .u32 1)), (.av (.int .i32 0)), (.av (.int .u32 0)), (.ssl ws 0 n)])] := by
  refine pc_intro Try.func35 rfl (by kernel_rfl) (Nat.le_of_ble_eq_true rfl) (by kernel_rfl) (l0 := [ps 0 (.opt 0 2), pb 0 63 [(iv g), (.av (.int .u32 1)), (.av (.int .i32 1)), (.av (.int .u32 0)), (.ssl ws 0 n)]]) rfl (fun c0 Bor hc0 => ?_)
  refine T_seq ?_
  refine T_thenc ?_
  refine T_seq ?_
  refine T_k mixed [] [.r] [] (obs_nil) ?_
  refine T_seq ?_
  refine T_k mixed [(2, .wrap)] [.r] [] (obs_cons (⟨by simp, by kernel_rfl⟩ : 2 < ([(iv g), (.av (.int .u32 1)), (.av (.int .i32 1)), (.av (.int .u32 0)), (.ssl ws 0 n)] : List PV).length ∧ (Try.prog.info? 56).map (fun i => decide (i.size = 0)) = some false) (obs_cons (⟨_, .releaseMerge, Try.func43, by kernel_rfl, by kernel_rfl, by kernel_rfl, by kernel_rfl⟩ : IsMark1 Try.prog 43) obs_nil)) ?_
  refine T_k mixed [(0, .wrap)] [.r] [] (obs_cons (⟨_, .disable, Try.func38, by kernel_rfl, by kernel_rfl, by kernel_rfl, by kernel_rfl⟩ : IsMark0 Try.prog 38) obs_nil) ?_
  refine T_seq ?_
  refine T_r mixed [(3, .wrap)] [ps 0 (.opt 0 2), ps 2 (.av (.int .i32 0)), pb 0 63 [(iv g), (.av (.int .u32 1)), (.av (.int .i32 0)), (.av (.int .u32 0)), (.ssl ws 0 n)]] (obs_cons (⟨_, Try.func44, by kernel_rfl, by kernel_rfl, by kernel_rfl, by kernel_rfl⟩ : IsAdd Try.prog 44 .i32) (obs_cons (by simp only [InK]; omega : InK .i32 (1 + (-1))) obs_nil)) ?_
  refine T_seq <| T_seq ?_
  refine T_k mixed [] [.k2, .n, .r] [ps 16 (bv false)] (obs_nil) ?_
  refine T_else (b := false) rfl rfl ?_
  refine T_skip ?_
  refine T_k mixed [(0, .wrap)] [.d, .d, .d, .r] [] (obs_cons (⟨_, .enable, Try.func40, by kernel_rfl, by kernel_rfl, by kernel_rfl, by kernel_rfl⟩ : IsMark0 Try.prog 40) obs_nil) ?_
  exact fun cx_ a_ hI_ => ret_ok (H' := [some (63, [(iv g), (.av (.int .u32 1)), (.av (.int .i32 0)), (.av (.int .u32 0)), (.ssl ws 0 n)])]) (.inl rfl) (Wk.ren2 [pb 0 63 [(iv g), (.av (.int .u32 1)), (.av (.int .i32 0)), (.av (.int .u32 0)), (.ssl ws 0 n)]] 1 hc0 [0] rfl rfl (by kernel_rfl) (by kernel_rfl)) rfl (obs_cons rfl (obs_nil)) (fun cx_ a_ hI_ => ret_res (l' := [pb 0 63 [(iv g), (.av (.int .u32 1)), (.av (.int .i32 0)), (.av (.int .u32 0)), (.ssl ws 0 n)]]) (by kernel_rfl) cx_ a_ hI_) hI_
set_option maxRecDepth 100000 in
set_option maxHeartbeats 4000000 in
theorem unlock_pc_w (g : Int) (ws : List PV) (n : Nat) : PC Try.prog 32 [(.opt 0 2)] [some (63, [(iv g), (.av (.int .u32 1)), (.av (.int .i32 1)), (.av (.int .u32 0)), (.ssl ws 0 n)])] (.tup []) [some (63, [(iv g), (.av (.int .u32 1)), (.av (.int .i32 0)), (.av (.int .u32 0)), (.ssl ws 0 n)])] := by
  refine pc_intro Try.func32 rfl (by kernel_rfl) (Nat.le_of_ble_eq_true rfl) (by kernel_rfl) (l0 := [ps 0 (.opt 0 2), pb 0 63 [(iv g), (.av (.int .u32 1)), (.av (.int .i32 1)), (.av (.int .u32 0)), (.ssl ws 0 n)]]) rfl (fun c0 Bor hc0 => ?_)
  refine T_r mixed [(3, .call [0] [(.opt 0 2)] [some (63, [(iv g), (.av (.int .u32 1)), (.av (.int .i32 1)), (.av (.int .u32 0)), (.ssl ws 0 n)])] (.tup []) [some (63, [(iv g), (.av (.int .u32 1)), (.av (.int .i32 0)), (.av (.int .u32 0)), (.ssl ws 0 n)])])] [pb 0 63 [(iv g), (.av (.int .u32 1)), (.av (.int .i32 0)), (.av (.int .u32 0)), (.ssl ws 0 n)]] (obs_cons (iunlock_pc_w g ws n) (obs_cons (rfl : [(.opt 0 2)] = renL (sigi [0] 25) [(.opt 0 2)]) (obs_cons (rfl : [(iv g), (.av (.int .u32 1)), (.av (.int .i32 1)), (.av (.int .u32 0)), (.ssl ws 0 n)] = renL (sigi [0] 25) [(iv g), (.av (.int .u32 1)), (.av (.int .i32 1)), (.av (.int .u32 0)), (.ssl ws 0 n)]) obs_nil))) ?_
  exact fun cx_ a_ hI_ => ret_ok (H' := [some (63, [(iv g), (.av (.int .u32 1)), (.av (.int .i32 0)), (.av (.int .u32 0)), (.ssl ws 0 n)])]) (.inl rfl) (Wk.ren2 [pb 0 63 [(iv g), (.av (.int .u32 1)), (.av (.int .i32 0)), (.av (.int .u32 0)), (.ssl ws 0 n)]] 1 hc0 [0] rfl rfl (by kernel_rfl) (by kernel_rfl)) rfl (obs_cons rfl (obs_nil)) (fun cx_ a_ hI_ => ret_res (l' := [pb 0 63 [(iv g), (.av (.int .u32 1)), (.av (.int .i32 0)), (.av (.int .u32 0)), (.ssl ws 0 n)]]) (by kernel_rfl) cx_ a_ hI_) hI_
set_option maxRecDepth 100000 in
set_option maxHeartbeats 4000000 in
theorem load0_pc (g s : Int) : PC Try.prog 26 [(.opt 0 1)] [some (63, [(iv g), (.av (.int .u32 0)), (.av (.int .i32 s)), (.av (.int .u32 0)), (.av (.slice none 0 0))])] (bv false) [some (63, [(iv g), (.av (.int .u32 0)), (.av (.int .i32 s)), (.av (.int .u32 0)), (.av (.slice none 0 0))])] := by
  refine pc_intro Try.func26 rfl (by kernel_rfl) (Nat.le_of_ble_eq_true rfl) (by kernel_rfl) (l0 := [ps 0 (.opt 0 1), pb 0 63 [(iv g), (.av (.int .u32 0)), (.av (.int .i32 s)), (.av (.int .u32 0)), (.av (.slice none 0 0))]]) rfl (fun c0 Bor hc0 => ?_)
  refine T_seq ?_
  refine T_k mixed [] [.r] [] (obs_nil) ?_
  refine T_seq ?_
  refine T_k mixed [(3, .ext true)] [.d, .n, .r] [ps 2 (bv false)] (obs_cons (⟨_, Try.func30, by kernel_rfl, by kernel_rfl, by kernel_rfl, by kernel_rfl⟩ : IsLoad Try.prog 30 .u32) obs_nil) ?_
  exact T_ret fun cx_ a_ hI_ => rt hc0 [ps 2 (bv false), pb 0 63 [(iv g), (.av (.int .u32 0)), (.av (.int .i32 s)), (.av (.int .u32 0)), (.av (.slice none 0 0))]] [0] hI_ (hbk := by exact obs_cons rfl (obs_nil))
set_option maxRecDepth 100000 in
set_option maxHeartbeats 4000000 in
theorem load1_pc (g s : Int) : PC Try.prog 26 [(.opt 0 1)] [some (63, [(iv g), (.av (.int .u32 1)), (.av (.int .i32 s)), (.av (.int .u32 0)), (.av (.slice none 0 0))])] (bv true) [some (63, [(iv g), (.av (.int .u32 1)), (.av (.int .i32 s)), (.av (.int .u32 0)), (.av (.slice none 0 0))])] := by
  refine pc_intro Try.func26 rfl (by kernel_rfl) (Nat.le_of_ble_eq_true rfl) (by kernel_rfl) (l0 := [ps 0 (.opt 0 1), pb 0 63 [(iv g), (.av (.int .u32 1)), (.av (.int .i32 s)), (.av (.int .u32 0)), (.av (.slice none 0 0))]]) rfl (fun c0 Bor hc0 => ?_)
  refine T_seq ?_
  refine T_k mixed [] [.r] [] (obs_nil) ?_
  refine T_seq ?_
  refine T_k mixed [(3, .ext true)] [.d, .n, .r] [ps 2 (bv true)] (obs_cons (⟨_, Try.func30, by kernel_rfl, by kernel_rfl, by kernel_rfl, by kernel_rfl⟩ : IsLoad Try.prog 30 .u32) obs_nil) ?_
  exact T_ret fun cx_ a_ hI_ => rt hc0 [ps 2 (bv true), pb 0 63 [(iv g), (.av (.int .u32 1)), (.av (.int .i32 s)), (.av (.int .u32 0)), (.av (.slice none 0 0))]] [0] hI_ (hbk := by exact obs_cons rfl (obs_nil))
set_option maxRecDepth 100000 in
set_option maxHeartbeats 4000000 in
theorem load1_pc_w (g s : Int) (ws : List PV) (n : Nat) : PC Try.prog 26 [(.opt 0 1)] [some (63, [(iv g), (.av (.int .u32 1)), (.av (.int .i32 s)), (.av (.int .u32 0)), (.ssl ws 0 n)])] (bv true) [some (63, [(iv g), (.av (.int .u32 1)), (.av (.int .i32 s)), (.av (.int .u32 0)), (.ssl ws 0 n)])] := by
  refine pc_intro Try.func26 rfl (by kernel_rfl) (Nat.le_of_ble_eq_true rfl) (by kernel_rfl) (l0 := [ps 0 (.opt 0 1), pb 0 63 [(iv g), (.av (.int .u32 1)), (.av (.int .i32 s)), (.av (.int .u32 0)), (.ssl ws 0 n)]]) rfl (fun c0 Bor hc0 => ?_)
  refine T_seq ?_
  refine T_k mixed [] [.r] [] (obs_nil) ?_
  refine T_seq ?_
  refine T_k mixed [(3, .ext true)] [.d, .n, .r] [ps 2 (bv true)] (obs_cons (⟨_, Try.func30, by kernel_rfl, by kernel_rfl, by kernel_rfl, by kernel_rfl⟩ : IsLoad Try.prog 30 .u32) obs_nil) ?_
  exact T_ret fun cx_ a_ hI_ => rt hc0 [ps 2 (bv true), pb 0 63 [(iv g), (.av (.int .u32 1)), (.av (.int .i32 s)), (.av (.int .u32 0)), (.ssl ws 0 n)]] [0] hI_ (hbk := by exact obs_cons rfl (obs_nil))
set_option maxRecDepth 100000 in
set_option maxHeartbeats 4000000 in
theorem b32_pc  : PC Try.prog 37 [(bv true)] [] (.av (.int .u32 1)) [] := by
  refine pc_intro Try.func37 rfl (by kernel_rfl) (Nat.le_of_ble_eq_true rfl) (by kernel_rfl) (l0 := [ps 0 (bv true)]) rfl (fun c0 Bor hc0 => ?_)
  refine T_seq ?_
  refine T_k mixed [] [.r] [] (obs_nil) ?_
  refine T_seq <| T_seq ?_
  refine T_r mixed [] [ps 3 (bv true)] (obs_nil) ?_
  refine T_then (b := true) rfl rfl ?_
  refine T_seq ?_
  refine T_r mixed [] [ps 2 (.av (.int .u32 1))] (obs_nil) ?_
  exact T_ret fun cx_ a_ hI_ => rt hc0 [ps 2 (.av (.int .u32 1))] [] hI_
set_option maxRecDepth 100000 in
set_option maxHeartbeats 4000000 in
theorem store_pc (g : Int) : PC Try.prog 33 [(.opt 0 1), (bv true)] [some (63, [(iv g), (.av (.int .u32 0)), (.av (.int .i32 1)), (.av (.int .u32 0)), (.av (.slice none 0 0))])] (.tup []) [some (63, [(iv g), (.av (.int .u32 1)), (.av (.int .i32 1)), (.av (.int .u32 0)), (.av (.slice none 0 0))])] := by
  refine pc_intro Try.func33 rfl (by kernel_rfl) (Nat.le_of_ble_eq_true rfl) (by kernel_rfl) (l0 := [ps 0 (.opt 0 1), ps 1 (bv true), pb 0 63 [(iv g), (.av (.int .u32 0)), (.av (.int .i32 1)), (.av (.int .u32 0)), (.av (.slice none 0 0))]]) rfl (fun c0 Bor hc0 => ?_)
  refine T_rd mixed [(4, .call [] [(bv true)] [] (.av (.int .u32 1)) []), (5, .ext false)] [[], [0], [0, 1], [], [3], [0, 1, 2, 3, 4]] [([8], [0]), ([10], [8]), ([12], [10]), ([14], [2]), ([16], [14]), ([18, 1], [1, 12, 16])] [pb 0 63 [(iv g), (.av (.int .u32 1)), (.av (.int .i32 1)), (.av (.int .u32 0)), (.av (.slice none 0 0))]] (obs_cons b32_pc (obs_cons (rfl : Ren0 33 [(bv true)]) (obs_cons (⟨_, Try.func36, by kernel_rfl, by kernel_rfl, by kernel_rfl, by kernel_rfl⟩ : IsStore Try.prog 36) obs_nil))) ?_
  exact fun cx_ a_ hI_ => ret_ok (H' := [some (63, [(iv g), (.av (.int .u32 1)), (.av (.int .i32 1)), (.av (.int .u32 0)), (.av (.slice none 0 0))])]) (.inl rfl) (Wk.ren2 [pb 0 63 [(iv g), (.av (.int .u32 1)), (.av (.int .i32 1)), (.av (.int .u32 0)), (.av (.slice none 0 0))]] 1 hc0 [0] rfl rfl (by kernel_rfl) (by kernel_rfl)) rfl (obs_cons rfl (obs_nil)) (fun cx_ a_ hI_ => ret_res (l' := [pb 0 63 [(iv g), (.av (.int .u32 1)), (.av (.int .i32 1)), (.av (.int .u32 0)), (.av (.slice none 0 0))]]) (by kernel_rfl) cx_ a_ hI_) hI_
set_option maxRecDepth 100000 in
set_option maxHeartbeats 4000000 in
theorem store_pc_w (g : Int) (ws : List PV) (n : Nat) : PC Try.prog 33 [(.opt 0 1), (bv true)] [some (63, [(iv g), (.av (.int .u32 0)), (.av (.int .i32 1)), (.av (.int .u32 0)), (.ssl ws 0 n)])] (.tup []) [some (63, [(iv g), (.av (.int .u32 1)), (.av (.int .i32 1)), (.av (.int .u32 0)), (.ssl ws 0 n)])] := by
  refine pc_intro Try.func33 rfl (by kernel_rfl) (Nat.le_of_ble_eq_true rfl) (by kernel_rfl) (l0 := [ps 0 (.opt 0 1), ps 1 (bv true), pb 0 63 [(iv g), (.av (.int .u32 0)), (.av (.int .i32 1)), (.av (.int .u32 0)), (.ssl ws 0 n)]]) rfl (fun c0 Bor hc0 => ?_)
  refine T_rd mixed [(4, .call [] [(bv true)] [] (.av (.int .u32 1)) []), (5, .ext false)] [[], [0], [0, 1], [], [3], [0, 1, 2, 3, 4]] [([8], [0]), ([10], [8]), ([12], [10]), ([14], [2]), ([16], [14]), ([18, 1], [1, 12, 16])] [pb 0 63 [(iv g), (.av (.int .u32 1)), (.av (.int .i32 1)), (.av (.int .u32 0)), (.ssl ws 0 n)]] (obs_cons b32_pc (obs_cons (rfl : Ren0 33 [(bv true)]) (obs_cons (⟨_, Try.func36, by kernel_rfl, by kernel_rfl, by kernel_rfl, by kernel_rfl⟩ : IsStore Try.prog 36) obs_nil))) ?_
  exact fun cx_ a_ hI_ => ret_ok (H' := [some (63, [(iv g), (.av (.int .u32 1)), (.av (.int .i32 1)), (.av (.int .u32 0)), (.ssl ws 0 n)])]) (.inl rfl) (Wk.ren2 [pb 0 63 [(iv g), (.av (.int .u32 1)), (.av (.int .i32 1)), (.av (.int .u32 0)), (.ssl ws 0 n)]] 1 hc0 [0] rfl rfl (by kernel_rfl) (by kernel_rfl)) rfl (obs_cons rfl (obs_nil)) (fun cx_ a_ hI_ => ret_res (l' := [pb 0 63 [(iv g), (.av (.int .u32 1)), (.av (.int .i32 1)), (.av (.int .u32 0)), (.ssl ws 0 n)]]) (by kernel_rfl) cx_ a_ hI_) hI_
set_option maxRecDepth 100000 in
set_option maxHeartbeats 4000000 in
theorem unlock_pcd (g : Int) : PCD Try.prog 32 [(.opt 0 2)] [some (63, [(iv g), (.av (.int .u32 1)), (.av (.int .i32 1)), (.av (.int .u32 0)), (.av (.slice none 0 0))])] (.tup []) [some (63, [(iv g), (.av (.int .u32 1)), (.av (.int .i32 0)), (.av (.int .u32 0)), (.av (.slice none 0 0))])] := by
  refine pcd_intro Try.func32 rfl (by kernel_rfl) (Nat.le_of_ble_eq_true rfl) (by kernel_rfl) (l0 := [ps 0 (.opt 0 2), pb 0 63 [(iv g), (.av (.int .u32 1)), (.av (.int .i32 1)), (.av (.int .u32 0)), (.av (.slice none 0 0))]]) rfl (fun c0 Bor hc0 => ?_)
  refine T_r mixed [(3, .call [0] [(.opt 0 2)] [some (63, [(iv g), (.av (.int .u32 1)), (.av (.int .i32 1)), (.av (.int .u32 0)), (.av (.slice none 0 0))])] (.tup []) [some (63, [(iv g), (.av (.int .u32 1)), (.av (.int .i32 0)), (.av (.int .u32 0)), (.av (.slice none 0 0))])])] [pb 0 63 [(iv g), (.av (.int .u32 1)), (.av (.int .i32 0)), (.av (.int .u32 0)), (.av (.slice none 0 0))]] (obs_cons (iunlock_pc g) (obs_cons (rfl : [(.opt 0 2)] = renL (sigi [0] 25) [(.opt 0 2)]) (obs_cons (rfl : [(iv g), (.av (.int .u32 1)), (.av (.int .i32 1)), (.av (.int .u32 0)), (.av (.slice none 0 0))] = renL (sigi [0] 25) [(iv g), (.av (.int .u32 1)), (.av (.int .i32 1)), (.av (.int .u32 0)), (.av (.slice none 0 0))]) obs_nil))) ?_
  exact fun cx_ a_ hI_ => ret_ok (H' := [some (63, [(iv g), (.av (.int .u32 1)), (.av (.int .i32 0)), (.av (.int .u32 0)), (.av (.slice none 0 0))])]) (.inl rfl) (Wk.ren2 [pb 0 63 [(iv g), (.av (.int .u32 1)), (.av (.int .i32 0)), (.av (.int .u32 0)), (.av (.slice none 0 0))]] 1 hc0 [0] rfl rfl (by kernel_rfl) (by kernel_rfl)) rfl (obs_cons rfl (obs_nil)) (fun cx_ a_ hI_ => ret_res (l' := [pb 0 63 [(iv g), (.av (.int .u32 1)), (.av (.int .i32 0)), (.av (.int .u32 0)), (.av (.slice none 0 0))]]) (by kernel_rfl) cx_ a_ hI_) hI_
set_option maxRecDepth 100000 in
set_option maxHeartbeats 4000000 in
theorem unlock_pcd_w (g : Int) (ws : List PV) (n : Nat) : PCD Try.prog 32 [(.opt 0 2)] [some (63, [(iv g), (.av (.int .u32 1)), (.av (.int .i32 1)), (.av (.int .u32 0)), (.ssl ws 0 n)])] (.tup []) [some (63, [(iv g), (.av (.int .u32 1)), (.av (.int .i32 0)), (.av (.int .u32 0)), (.ssl ws 0 n)])] := by
  refine pcd_intro Try.func32 rfl (by kernel_rfl) (Nat.le_of_ble_eq_true rfl) (by kernel_rfl) (l0 := [ps 0 (.opt 0 2), pb 0 63 [(iv g), (.av (.int .u32 1)), (.av (.int .i32 1)), (.av (.int .u32 0)), (.ssl ws 0 n)]]) rfl (fun c0 Bor hc0 => ?_)
  refine T_r mixed [(3, .call [0] [(.opt 0 2)] [some (63, [(iv g), (.av (.int .u32 1)), (.av (.int .i32 1)), (.av (.int .u32 0)), (.ssl ws 0 n)])] (.tup []) [some (63, [(iv g), (.av (.int .u32 1)), (.av (.int .i32 0)), (.av (.int .u32 0)), (.ssl ws 0 n)])])] [pb 0 63 [(iv g), (.av (.int .u32 1)), (.av (.int .i32 0)), (.av (.int .u32 0)), (.ssl ws 0 n)]] (obs_cons (iunlock_pc_w g ws n) (obs_cons (rfl : [(.opt 0 2)] = renL (sigi [0] 25) [(.opt 0 2)]) (obs_cons (rfl : [(iv g), (.av (.int .u32 1)), (.av (.int .i32 1)), (.av (.int .u32 0)), (.ssl ws 0 n)] = renL (sigi [0] 25) [(iv g), (.av (.int .u32 1)), (.av (.int .i32 1)), (.av (.int .u32 0)), (.ssl ws 0 n)]) obs_nil))) ?_
  exact fun cx_ a_ hI_ => ret_ok (H' := [some (63, [(iv g), (.av (.int .u32 1)), (.av (.int .i32 0)), (.av (.int .u32 0)), (.ssl ws 0 n)])]) (.inl rfl) (Wk.ren2 [pb 0 63 [(iv g), (.av (.int .u32 1)), (.av (.int .i32 0)), (.av (.int .u32 0)), (.ssl ws 0 n)]] 1 hc0 [0] rfl rfl (by kernel_rfl) (by kernel_rfl)) rfl (obs_cons rfl (obs_nil)) (fun cx_ a_ hI_ => ret_res (l' := [pb 0 63 [(iv g), (.av (.int .u32 1)), (.av (.int .i32 0)), (.av (.int .u32 0)), (.ssl ws 0 n)]]) (by kernel_rfl) cx_ a_ hI_) hI_
set_option maxRecDepth 100000 in
set_option maxHeartbeats 4000000 in
theorem store_pcd (g : Int) : PCD Try.prog 33 [(.opt 0 1), (bv true)] [some (63, [(iv g), (.av (.int .u32 0)), (.av (.int .i32 1)), (.av (.int .u32 0)), (.av (.slice none 0 0))])] (.tup []) [some (63, [(iv g), (.av (.int .u32 1)), (.av (.int .i32 1)), (.av (.int .u32 0)), (.av (.slice none 0 0))])] := by
  refine pcd_intro Try.func33 rfl (by kernel_rfl) (Nat.le_of_ble_eq_true rfl) (by kernel_rfl) (l0 := [ps 0 (.opt 0 1), ps 1 (bv true), pb 0 63 [(iv g), (.av (.int .u32 0)), (.av (.int .i32 1)), (.av (.int .u32 0)), (.av (.slice none 0 0))]]) rfl (fun c0 Bor hc0 => ?_)
  refine T_rd mixed [(4, .call [] [(bv true)] [] (.av (.int .u32 1)) []), (5, .ext false)] [[], [0], [0, 1], [], [3], [0, 1, 2, 3, 4]] [([8], [0]), ([10], [8]), ([12], [10]), ([14], [2]), ([16], [14]), ([18, 1], [1, 12, 16])] [pb 0 63 [(iv g), (.av (.int .u32 1)), (.av (.int .i32 1)), (.av (.int .u32 0)), (.av (.slice none 0 0))]] (obs_cons b32_pc (obs_cons (rfl : Ren0 33 [(bv true)]) (obs_cons (⟨_, Try.func36, by kernel_rfl, by kernel_rfl, by kernel_rfl, by kernel_rfl⟩ : IsStore Try.prog 36) obs_nil))) ?_
  exact fun cx_ a_ hI_ => ret_ok (H' := [some (63, [(iv g), (.av (.int .u32 1)), (.av (.int .i32 1)), (.av (.int .u32 0)), (.av (.slice none 0 0))])]) (.inl rfl) (Wk.ren2 [pb 0 63 [(iv g), (.av (.int .u32 1)), (.av (.int .i32 1)), (.av (.int .u32 0)), (.av (.slice none 0 0))]] 1 hc0 [0] rfl rfl (by kernel_rfl) (by kernel_rfl)) rfl (obs_cons rfl (obs_nil)) (fun cx_ a_ hI_ => ret_res (l' := [pb 0 63 [(iv g), (.av (.int .u32 1)), (.av (.int .i32 1)), (.av (.int .u32 0)), (.av (.slice none 0 0))]]) (by kernel_rfl) cx_ a_ hI_) hI_
set_option maxRecDepth 100000 in
set_option maxHeartbeats 4000000 in
theorem store_pcd_w (g : Int) (ws : List PV) (n : Nat) : PCD Try.prog 33 [(.opt 0 1), (bv true)] [some (63, [(iv g), (.av (.int .u32 0)), (.av (.int .i32 1)), (.av (.int .u32 0)), (.ssl ws 0 n)])] (.tup []) [some (63, [(iv g), (.av (.int .u32 1)), (.av (.int .i32 1)), (.av (.int .u32 0)), (.ssl ws 0 n)])] := by
  refine pcd_intro Try.func33 rfl (by kernel_rfl) (Nat.le_of_ble_eq_true rfl) (by kernel_rfl) (l0 := [ps 0 (.opt 0 1), ps 1 (bv true), pb 0 63 [(iv g), (.av (.int .u32 0)), (.av (.int .i32 1)), (.av (.int .u32 0)), (.ssl ws 0 n)]]) rfl (fun c0 Bor hc0 => ?_)
  refine T_rd mixed [(4, .call [] [(bv true)] [] (.av (.int .u32 1)) []), (5, .ext false)] [[], [0], [0, 1], [], [3], [0, 1, 2, 3, 4]] [([8], [0]), ([10], [8]), ([12], [10]), ([14], [2]), ([16], [14]), ([18, 1], [1, 12, 16])] [pb 0 63 [(iv g), (.av (.int .u32 1)), (.av (.int .i32 1)), (.av (.int .u32 0)), (.ssl ws 0 n)]] (obs_cons b32_pc (obs_cons (rfl : Ren0 33 [(bv true)]) (obs_cons (⟨_, Try.func36, by kernel_rfl, by kernel_rfl, by kernel_rfl, by kernel_rfl⟩ : IsStore Try.prog 36) obs_nil))) ?_
  exact fun cx_ a_ hI_ => ret_ok (H' := [some (63, [(iv g), (.av (.int .u32 1)), (.av (.int .i32 1)), (.av (.int .u32 0)), (.ssl ws 0 n)])]) (.inl rfl) (Wk.ren2 [pb 0 63 [(iv g), (.av (.int .u32 1)), (.av (.int .i32 1)), (.av (.int .u32 0)), (.ssl ws 0 n)]] 1 hc0 [0] rfl rfl (by kernel_rfl) (by kernel_rfl)) rfl (obs_cons rfl (obs_nil)) (fun cx_ a_ hI_ => ret_res (l' := [pb 0 63 [(iv g), (.av (.int .u32 1)), (.av (.int .i32 1)), (.av (.int .u32 0)), (.ssl ws 0 n)]]) (by kernel_rfl) cx_ a_ hI_) hI_
end Go.Proofs.Ytfibadnkhbjciaa.Pm
namespace Go.Proofs.Ytfibadnkhbjciaa.Pm
open Go

def RS (Y : List PV) (c0 : Cx) (Bor : Nat → Prop) : Ending → World → Prop := fun e w' => ∃ v c', e = .returned v ∧ c'.w = w' ∧ Heap ⟨Try.prog, 0, c0, ⟨Bor, []⟩⟩ (· < 1) c' (hSt [some (63, Y)]) ∧ Rep Try.prog c' (.tup []) v
def QS (Y : List PV) (c0 : Cx) (Bor : Nat → Prop) : Post := fun e cx a => match e with
  | .normal => Leaves Try.prog Try.f27 a.tmps (RS Y c0 Bor) a.defers .returning cx.w
  | .ret => Leaves Try.prog Try.f27 a.tmps (RS Y c0 Bor) a.defers .returning cx.w
  | _ => False
def dUn (b : Nat) : Deferred := { target := .fn (.func 32) #[], args := #[.pointer (some ⟨b, 2, none⟩)] }
def dSt (b : Nat) : Deferred := { target := .fn (.func 33) #[], args := #[.pointer (some ⟨b, 1, none⟩), .bool true] }
set_option maxRecDepth 100000 in
set_option maxHeartbeats 4000000 in
theorem slow_T (g : Int) (hfill : PC Try.prog 23 [.opt 0 0] [some (63, [(iv g), (.av (.int .u32 0)), (.av (.int .i32 1)), (.av (.int .u32 0)), (.av (.slice none 0 0))])] (.tup []) [some (63, [(iv g), (.av (.int .u32 0)), (.av (.int .i32 1)), (.av (.int .u32 0)), (.av (.slice none 0 0))])]) {c0 : Cx} {Bor : Nat → Prop} (hc0 : ∀ i x, c0.own i = some x → i < 1) {b : Nat} (hb0 : c0.own 0 = some (some b, 63)) {code : Code} (hcode : Try.f27.body = some code) :
    T Try.prog Try.f27.ntmps c0 ⟨Bor, []⟩ (QS [(iv g), (.av (.int .u32 1)), (.av (.int .i32 0)), (.av (.int .u32 0)), (.av (.slice none 0 0))] c0 Bor) 1 [ps 0 (.opt 0 1), ps 1 (PV.fn (.func 23) [(.opt 0 0)] []), pb 0 63 [(iv g), (.av (.int .u32 0)), (.av (.int .i32 0)), (.av (.int .u32 0)), (.av (.slice none 0 0))]] [.code code] := by
  cases hcode
  refine T_seq ?_
  refine T_r mixed [(3, .call [0] [(.opt 0 2)] [some (63, [(iv g), (.av (.int .u32 0)), (.av (.int .i32 0)), (.av (.int .u32 0)), (.av (.slice none 0 0))])] (.tup []) [some (63, [(iv g), (.av (.int .u32 0)), (.av (.int .i32 1)), (.av (.int .u32 0)), (.av (.slice none 0 0))])])] [ps 0 (.opt 0 1), ps 1 (PV.fn (.func 23) [(.opt 0 0)] []), pb 0 63 [(iv g), (.av (.int .u32 0)), (.av (.int .i32 1)), (.av (.int .u32 0)), (.av (.slice none 0 0))]] (obs_cons (lock_pc g) (obs_cons (rfl : [(.opt 0 2)] = renL (sigi [0] 25) [(.opt 0 2)]) (obs_cons (rfl : [(iv g), (.av (.int .u32 0)), (.av (.int .i32 0)), (.av (.int .u32 0)), (.av (.slice none 0 0))] = renL (sigi [0] 25) [(iv g), (.av (.int .u32 0)), (.av (.int .i32 0)), (.av (.int .u32 0)), (.av (.slice none 0 0))]) obs_nil))) ?_
  refine T_seq ?_
  refine T_dfr (D := dUn b) rfl rfl rfl rfl rfl (fun x hx => by cases hx; exact Nat.le_of_ble_eq_true rfl) (fun x hx => by cases hx; exact Nat.le_of_ble_eq_true rfl) (fun x hx => by cases hx; exact Nat.le_of_ble_eq_true rfl) rfl ⟨⟨(.opt 0 1), [], [], [ks 0]⟩, by kernel_rfl, rfl, rfl, fun q h => by cases h⟩ ⟨⟨(.opt 0 1), [], [], [ks 8]⟩, by kernel_rfl, rfl, rfl, fun q h => by cases h⟩ ⟨⟨(.opt 0 2), [], [], [ks 9]⟩, by kernel_rfl, rfl, rfl, fun q h => by cases h⟩ rfl (fun cx a hI => by
      obtain ⟨b', T2, ho, hv⟩ := rep_opt (hI.slot 10 (.opt 0 2) (by kernel_rfl))
      rw [hI.keep.own 0 _ hb0] at ho
      cases ho
      rw [show (Array.map a.eval #[Operand.tmp 10] : Array Value) = #[a.tmps.getD 10 undef] from by simp [Act.eval]]
      rw [hv]; rfl) (fun key v h => over_wd_none (by kernel_rfl) (over_wd_none (by kernel_rfl) (over_wd_none (by kernel_rfl) h))) ?_
  refine T_seq ?_
  refine T_r mixed [(3, .call [0] [(.opt 0 1)] [some (63, [(iv g), (.av (.int .u32 0)), (.av (.int .i32 1)), (.av (.int .u32 0)), (.av (.slice none 0 0))])] (bv false) [some (63, [(iv g), (.av (.int .u32 0)), (.av (.int .i32 1)), (.av (.int .u32 0)), (.av (.slice none 0 0))])])] [ps 0 (.opt 0 1), ps 1 (PV.fn (.func 23) [(.opt 0 0)] []), ps 15 (bv true), pb 0 63 [(iv g), (.av (.int .u32 0)), (.av (.int .i32 1)), (.av (.int .u32 0)), (.av (.slice none 0 0))]] (obs_cons (load0_pc g 1) (obs_cons (rfl : [(.opt 0 1)] = renL (sigi [0] 89) [(.opt 0 1)]) (obs_cons (rfl : [(iv g), (.av (.int .u32 0)), (.av (.int .i32 1)), (.av (.int .u32 0)), (.av (.slice none 0 0))] = renL (sigi [0] 89) [(iv g), (.av (.int .u32 0)), (.av (.int .i32 1)), (.av (.int .u32 0)), (.av (.slice none 0 0))]) obs_nil))) ?_
  refine T_then (b := true) rfl rfl ?_
  refine T_seq ?_
  refine T_dfr (D := dSt b) rfl rfl rfl rfl rfl (fun x hx => by cases hx; exact Nat.le_of_ble_eq_true rfl) (fun x hx => by cases hx; exact Nat.le_of_ble_eq_true rfl) (fun x hx => by cases hx; exact Nat.le_of_ble_eq_true rfl) rfl ⟨⟨(.opt 0 1), [], [], [ks 0]⟩, by kernel_rfl, rfl, rfl, fun q h => by cases h⟩ ⟨⟨(.opt 0 1), [], [], [ks 16]⟩, by kernel_rfl, rfl, rfl, fun q h => by cases h⟩ ⟨⟨(.opt 0 1), [], [], [ks 17]⟩, by kernel_rfl, rfl, rfl, fun q h => by cases h⟩ rfl (fun cx a hI => by
      obtain ⟨b', T2, ho, hv⟩ := rep_opt (hI.slot 18 (.opt 0 1) (by kernel_rfl))
      rw [hI.keep.own 0 _ hb0] at ho
      cases ho
      rw [show (Array.map a.eval #[Operand.tmp 18, Operand.const (Value.bool true)] : Array Value) = #[a.tmps.getD 18 undef, .bool true] from by simp [Act.eval]]
      rw [hv]; rfl) (fun key v h => over_wd_none (by kernel_rfl) (over_wd_none (by kernel_rfl) (over_wd_none (by kernel_rfl) h))) ?_
  refine T_r mixed [(1, .call [0] [(.opt 0 0)] [some (63, [(iv g), (.av (.int .u32 0)), (.av (.int .i32 1)), (.av (.int .u32 0)), (.av (.slice none 0 0))])] (.tup []) [some (63, [(iv g), (.av (.int .u32 0)), (.av (.int .i32 1)), (.av (.int .u32 0)), (.av (.slice none 0 0))])])] [pb 0 63 [(iv g), (.av (.int .u32 0)), (.av (.int .i32 1)), (.av (.int .u32 0)), (.av (.slice none 0 0))]] (obs_cons hfill (obs_cons (rfl : [(.opt 0 0)] = renL (sigi [0] 145) [(.opt 0 0)]) (obs_cons (rfl : [(iv g), (.av (.int .u32 0)), (.av (.int .i32 1)), (.av (.int .u32 0)), (.av (.slice none 0 0))] = renL (sigi [0] 145) [(iv g), (.av (.int .u32 0)), (.av (.int .i32 1)), (.av (.int .u32 0)), (.av (.slice none 0 0))]) obs_nil))) ?_
  refine T_end fun cx a hI => ?_
  obtain ⟨cx1, hw, hI1⟩ := (Wk.ren2 [pb 0 63 [(iv g), (.av (.int .u32 0)), (.av (.int .i32 1)), (.av (.int .u32 0)), (.av (.slice none 0 0))]] 1 hc0 [0] rfl rfl (by kernel_rfl) (by kernel_rfl)) cx a hI
  show Leaves Try.prog Try.f27 a.tmps (RS [(iv g), (.av (.int .u32 1)), (.av (.int .i32 0)), (.av (.int .u32 0)), (.av (.slice none 0 0))] c0 Bor) a.defers .returning cx.w
  rw [← hw, show a.defers = [dSt b, dUn b] from hI.dfr]
  refine leave_pcd (vs := #[.pointer (some ⟨b, 1, none⟩), .bool true]) hI1.toHeap (by kernel_rfl) (fun _ => rfl) (store_pcd g) (rl_ptr (vs := [.bool true]) (hI1.keep.own 0 _ hb0) rfl) fun own2 c2 h2 => ?_
  refine leave_pcd (vs := #[.pointer (some ⟨b, 2, none⟩)]) (cx := ⟨c2.w, c2.S, own2⟩) h2 (by kernel_rfl) (fun _ => rfl) (unlock_pcd g) (rl_ptr (vs := []) (h2.keep.own 0 _ hb0) rfl) fun own3 c3 h3 => ?_
  exact ⟨.tuple #[], by simp [results, Try.f27], .tuple #[], ⟨c3.w, c3.S, c0.own⟩, rfl, rfl, (heap_one h3 hc0 hb0 (by kernel_rfl) (fun j hj => by
    match j, hj with
    | 0, _ => rfl
    | 1, _ => rfl
    | 2, _ => rfl
    | 3, _ => rfl
    | 4, _ => rfl)).envD, .tup rfl fun i hi => absurd hi (Nat.not_lt_zero i)⟩
set_option maxRecDepth 100000 in
set_option maxHeartbeats 4000000 in
theorem slow_pc (g : Int) (hfill : PC Try.prog 23 [.opt 0 0] [some (63, [(iv g), (.av (.int .u32 0)), (.av (.int .i32 1)), (.av (.int .u32 0)), (.av (.slice none 0 0))])] (.tup []) [some (63, [(iv g), (.av (.int .u32 0)), (.av (.int .i32 1)), (.av (.int .u32 0)), (.av (.slice none 0 0))])]) : PC Try.prog 27 [.opt 0 1, (PV.fn (.func 23) [(.opt 0 0)] [])] [some (63, [(iv g), (.av (.int .u32 0)), (.av (.int .i32 0)), (.av (.int .u32 0)), (.av (.slice none 0 0))])] (.tup []) [some (63, [(iv g), (.av (.int .u32 1)), (.av (.int .i32 0)), (.av (.int .u32 0)), (.av (.slice none 0 0))])] := by
  refine ⟨fn_ok Try.func27 (by kernel_rfl) (by kernel_rfl), Nat.le_refl _, fun c vs hh hrl => ?_⟩
  obtain ⟨b, hb0⟩ := own_at hh rfl
  have key := slow_T g hfill (fun i x hx => hh.ids i x hx) hb0 rfl c _ (init_inv (Nat.le_of_ble_eq_true (by kernel_rfl)) rfl c vs hh hrl)
  refine calls_of_wp_defers Try.func27 rfl (wp_mono key ?_)
  rintro e a' w' ⟨cx', rfl, h⟩
  cases e with
  | normal => exact leaves_monoD (fun _ _ h => h) h
  | ret => exact leaves_monoD (fun _ _ h => h) h
  | panic ch => exact h.elim
  | exit id => exact h.elim
  | goto l => exact h.elim
  | outgrown => exact h.elim
set_option maxRecDepth 100000 in
set_option maxHeartbeats 4000000 in
theorem do_first_pc (g : Int) (hfill : PC Try.prog 23 [.opt 0 0] [some (63, [(iv g), (.av (.int .u32 0)), (.av (.int .i32 1)), (.av (.int .u32 0)), (.av (.slice none 0 0))])] (.tup []) [some (63, [(iv g), (.av (.int .u32 0)), (.av (.int .i32 1)), (.av (.int .u32 0)), (.av (.slice none 0 0))])]) : PC Try.prog 22 [(.opt 0 1), (PV.fn (.func 23) [(.opt 0 0)] [])] [some (63, [(iv g), (.av (.int .u32 0)), (.av (.int .i32 0)), (.av (.int .u32 0)), (.av (.slice none 0 0))])] (.tup []) [some (63, [(iv g), (.av (.int .u32 1)), (.av (.int .i32 0)), (.av (.int .u32 0)), (.av (.slice none 0 0))])] := by
  refine pc_intro Try.func22 rfl (by kernel_rfl) (Nat.le_of_ble_eq_true rfl) (by kernel_rfl) (l0 := [ps 0 (.opt 0 1), ps 1 (PV.fn (.func 23) [(.opt 0 0)] []), pb 0 63 [(iv g), (.av (.int .u32 0)), (.av (.int .i32 0)), (.av (.int .u32 0)), (.av (.slice none 0 0))]]) rfl (fun c0 Bor hc0 => ?_)
  refine T_seq ?_
  refine T_k mixed [(3, .call [0] [(.opt 0 1)] [some (63, [(iv g), (.av (.int .u32 0)), (.av (.int .i32 0)), (.av (.int .u32 0)), (.av (.slice none 0 0))])] (bv false) [some (63, [(iv g), (.av (.int .u32 0)), (.av (.int .i32 0)), (.av (.int .u32 0)), (.av (.slice none 0 0))])])] [.k2, .n, .r] [ps 8 (bv true)] (obs_cons (load0_pc g 0) (obs_cons (rfl : [(.opt 0 1)] = renL (sigi [0] 25) [(.opt 0 1)]) (obs_cons (rfl : [(iv g), (.av (.int .u32 0)), (.av (.int .i32 0)), (.av (.int .u32 0)), (.av (.slice none 0 0))] = renL (sigi [0] 25) [(iv g), (.av (.int .u32 0)), (.av (.int .i32 0)), (.av (.int .u32 0)), (.av (.slice none 0 0))]) obs_nil))) ?_
  refine T_then (b := true) rfl rfl ?_
  refine T_r mixed [(2, .call [0] [(.opt 0 1), (PV.fn (.func 23) [(.opt 0 0)] [])] [some (63, [(iv g), (.av (.int .u32 0)), (.av (.int .i32 0)), (.av (.int .u32 0)), (.av (.slice none 0 0))])] (.tup []) [some (63, [(iv g), (.av (.int .u32 1)), (.av (.int .i32 0)), (.av (.int .u32 0)), (.av (.slice none 0 0))])])] [pb 0 63 [(iv g), (.av (.int .u32 1)), (.av (.int .i32 0)), (.av (.int .u32 0)), (.av (.slice none 0 0))]] (obs_cons (slow_pc g hfill) (obs_cons (rfl : [(.opt 0 1), (PV.fn (.func 23) [(.opt 0 0)] [])] = renL (sigi [0] 57) [(.opt 0 1), (PV.fn (.func 23) [(.opt 0 0)] [])]) (obs_cons (rfl : [(iv g), (.av (.int .u32 0)), (.av (.int .i32 0)), (.av (.int .u32 0)), (.av (.slice none 0 0))] = renL (sigi [0] 57) [(iv g), (.av (.int .u32 0)), (.av (.int .i32 0)), (.av (.int .u32 0)), (.av (.slice none 0 0))]) obs_nil))) ?_
  exact fun cx_ a_ hI_ => ret_ok (H' := [some (63, [(iv g), (.av (.int .u32 1)), (.av (.int .i32 0)), (.av (.int .u32 0)), (.av (.slice none 0 0))])]) (.inl rfl) (Wk.ren2 [pb 0 63 [(iv g), (.av (.int .u32 1)), (.av (.int .i32 0)), (.av (.int .u32 0)), (.av (.slice none 0 0))]] 1 hc0 [0] rfl rfl (by kernel_rfl) (by kernel_rfl)) rfl (obs_cons rfl (obs_nil)) (fun cx_ a_ hI_ => ret_res (l' := [pb 0 63 [(iv g), (.av (.int .u32 1)), (.av (.int .i32 0)), (.av (.int .u32 0)), (.av (.slice none 0 0))]]) (by kernel_rfl) cx_ a_ hI_) hI_
set_option maxRecDepth 100000 in
set_option maxHeartbeats 4000000 in
theorem slow_T_w (g : Int) (ws : List PV) (n : Nat) (hfill : PC Try.prog 23 [.opt 0 0] [some (63, [(iv g), (.av (.int .u32 0)), (.av (.int .i32 1)), (.av (.int .u32 0)), (.av (.slice none 0 0))])] (.tup []) [some (63, [(iv g), (.av (.int .u32 0)), (.av (.int .i32 1)), (.av (.int .u32 0)), (.ssl ws 0 n)])]) {c0 : Cx} {Bor : Nat → Prop} (hc0 : ∀ i x, c0.own i = some x → i < 1) {b : Nat} (hb0 : c0.own 0 = some (some b, 63)) {code : Code} (hcode : Try.f27.body = some code) :
    T Try.prog Try.f27.ntmps c0 ⟨Bor, []⟩ (QS [(iv g), (.av (.int .u32 1)), (.av (.int .i32 0)), (.av (.int .u32 0)), (.ssl ws 0 n)] c0 Bor) 1 [ps 0 (.opt 0 1), ps 1 (PV.fn (.func 23) [(.opt 0 0)] []), pb 0 63 [(iv g), (.av (.int .u32 0)), (.av (.int .i32 0)), (.av (.int .u32 0)), (.av (.slice none 0 0))]] [.code code] := by
  cases hcode
  refine T_seq ?_
  refine T_r mixed [(3, .call [0] [(.opt 0 2)] [some (63, [(iv g), (.av (.int .u32 0)), (.av (.int .i32 0)), (.av (.int .u32 0)), (.av (.slice none 0 0))])] (.tup []) [some (63, [(iv g), (.av (.int .u32 0)), (.av (.int .i32 1)), (.av (.int .u32 0)), (.av (.slice none 0 0))])])] [ps 0 (.opt 0 1), ps 1 (PV.fn (.func 23) [(.opt 0 0)] []), pb 0 63 [(iv g), (.av (.int .u32 0)), (.av (.int .i32 1)), (.av (.int .u32 0)), (.av (.slice none 0 0))]] (obs_cons (lock_pc g) (obs_cons (rfl : [(.opt 0 2)] = renL (sigi [0] 25) [(.opt 0 2)]) (obs_cons (rfl : [(iv g), (.av (.int .u32 0)), (.av (.int .i32 0)), (.av (.int .u32 0)), (.av (.slice none 0 0))] = renL (sigi [0] 25) [(iv g), (.av (.int .u32 0)), (.av (.int .i32 0)), (.av (.int .u32 0)), (.av (.slice none 0 0))]) obs_nil))) ?_
  refine T_seq ?_
  refine T_dfr (D := dUn b) rfl rfl rfl rfl rfl (fun x hx => by cases hx; exact Nat.le_of_ble_eq_true rfl) (fun x hx => by cases hx; exact Nat.le_of_ble_eq_true rfl) (fun x hx => by cases hx; exact Nat.le_of_ble_eq_true rfl) rfl ⟨⟨(.opt 0 1), [], [], [ks 0]⟩, by kernel_rfl, rfl, rfl, fun q h => by cases h⟩ ⟨⟨(.opt 0 1), [], [], [ks 8]⟩, by kernel_rfl, rfl, rfl, fun q h => by cases h⟩ ⟨⟨(.opt 0 2), [], [], [ks 9]⟩, by kernel_rfl, rfl, rfl, fun q h => by cases h⟩ rfl (fun cx a hI => by
      obtain ⟨b', T2, ho, hv⟩ := rep_opt (hI.slot 10 (.opt 0 2) (by kernel_rfl))
      rw [hI.keep.own 0 _ hb0] at ho
      cases ho
      rw [show (Array.map a.eval #[Operand.tmp 10] : Array Value) = #[a.tmps.getD 10 undef] from by simp [Act.eval]]
      rw [hv]; rfl) (fun key v h => over_wd_none (by kernel_rfl) (over_wd_none (by kernel_rfl) (over_wd_none (by kernel_rfl) h))) ?_
  refine T_seq ?_
  refine T_r mixed [(3, .call [0] [(.opt 0 1)] [some (63, [(iv g), (.av (.int .u32 0)), (.av (.int .i32 1)), (.av (.int .u32 0)), (.av (.slice none 0 0))])] (bv false) [some (63, [(iv g), (.av (.int .u32 0)), (.av (.int .i32 1)), (.av (.int .u32 0)), (.av (.slice none 0 0))])])] [ps 0 (.opt 0 1), ps 1 (PV.fn (.func 23) [(.opt 0 0)] []), ps 15 (bv true), pb 0 63 [(iv g), (.av (.int .u32 0)), (.av (.int .i32 1)), (.av (.int .u32 0)), (.av (.slice none 0 0))]] (obs_cons (load0_pc g 1) (obs_cons (rfl : [(.opt 0 1)] = renL (sigi [0] 89) [(.opt 0 1)]) (obs_cons (rfl : [(iv g), (.av (.int .u32 0)), (.av (.int .i32 1)), (.av (.int .u32 0)), (.av (.slice none 0 0))] = renL (sigi [0] 89) [(iv g), (.av (.int .u32 0)), (.av (.int .i32 1)), (.av (.int .u32 0)), (.av (.slice none 0 0))]) obs_nil))) ?_
  refine T_then (b := true) rfl rfl ?_
  refine T_seq ?_
  refine T_dfr (D := dSt b) rfl rfl rfl rfl rfl (fun x hx => by cases hx; exact Nat.le_of_ble_eq_true rfl) (fun x hx => by cases hx; exact Nat.le_of_ble_eq_true rfl) (fun x hx => by cases hx; exact Nat.le_of_ble_eq_true rfl) rfl ⟨⟨(.opt 0 1), [], [], [ks 0]⟩, by kernel_rfl, rfl, rfl, fun q h => by cases h⟩ ⟨⟨(.opt 0 1), [], [], [ks 16]⟩, by kernel_rfl, rfl, rfl, fun q h => by cases h⟩ ⟨⟨(.opt 0 1), [], [], [ks 17]⟩, by kernel_rfl, rfl, rfl, fun q h => by cases h⟩ rfl (fun cx a hI => by
      obtain ⟨b', T2, ho, hv⟩ := rep_opt (hI.slot 18 (.opt 0 1) (by kernel_rfl))
      rw [hI.keep.own 0 _ hb0] at ho
      cases ho
      rw [show (Array.map a.eval #[Operand.tmp 18, Operand.const (Value.bool true)] : Array Value) = #[a.tmps.getD 18 undef, .bool true] from by simp [Act.eval]]
      rw [hv]; rfl) (fun key v h => over_wd_none (by kernel_rfl) (over_wd_none (by kernel_rfl) (over_wd_none (by kernel_rfl) h))) ?_
  refine T_r mixed [(1, .call [0] [(.opt 0 0)] [some (63, [(iv g), (.av (.int .u32 0)), (.av (.int .i32 1)), (.av (.int .u32 0)), (.av (.slice none 0 0))])] (.tup []) [some (63, [(iv g), (.av (.int .u32 0)), (.av (.int .i32 1)), (.av (.int .u32 0)), (.ssl ws 0 n)])])] [pb 0 63 [(iv g), (.av (.int .u32 0)), (.av (.int .i32 1)), (.av (.int .u32 0)), (.ssl ws 0 n)]] (obs_cons hfill (obs_cons (rfl : [(.opt 0 0)] = renL (sigi [0] 145) [(.opt 0 0)]) (obs_cons (rfl : [(iv g), (.av (.int .u32 0)), (.av (.int .i32 1)), (.av (.int .u32 0)), (.av (.slice none 0 0))] = renL (sigi [0] 145) [(iv g), (.av (.int .u32 0)), (.av (.int .i32 1)), (.av (.int .u32 0)), (.av (.slice none 0 0))]) obs_nil))) ?_
  refine T_end fun cx a hI => ?_
  obtain ⟨cx1, hw, hI1⟩ := (Wk.ren2 [pb 0 63 [(iv g), (.av (.int .u32 0)), (.av (.int .i32 1)), (.av (.int .u32 0)), (.ssl ws 0 n)]] 1 hc0 [0] rfl rfl (by kernel_rfl) (by kernel_rfl)) cx a hI
  show Leaves Try.prog Try.f27 a.tmps (RS [(iv g), (.av (.int .u32 1)), (.av (.int .i32 0)), (.av (.int .u32 0)), (.ssl ws 0 n)] c0 Bor) a.defers .returning cx.w
  rw [← hw, show a.defers = [dSt b, dUn b] from hI.dfr]
  refine leave_pcd (vs := #[.pointer (some ⟨b, 1, none⟩), .bool true]) hI1.toHeap (by kernel_rfl) (fun _ => rfl) (store_pcd_w g ws n) (rl_ptr (vs := [.bool true]) (hI1.keep.own 0 _ hb0) rfl) fun own2 c2 h2 => ?_
  refine leave_pcd (vs := #[.pointer (some ⟨b, 2, none⟩)]) (cx := ⟨c2.w, c2.S, own2⟩) h2 (by kernel_rfl) (fun _ => rfl) (unlock_pcd_w g ws n) (rl_ptr (vs := []) (h2.keep.own 0 _ hb0) rfl) fun own3 c3 h3 => ?_
  exact ⟨.tuple #[], by simp [results, Try.f27], .tuple #[], ⟨c3.w, c3.S, c0.own⟩, rfl, rfl, (heap_one h3 hc0 hb0 (by kernel_rfl) (fun j hj => by
    match j, hj with
    | 0, _ => rfl
    | 1, _ => rfl
    | 2, _ => rfl
    | 3, _ => rfl
    | 4, _ => rfl)).envD, .tup rfl fun i hi => absurd hi (Nat.not_lt_zero i)⟩
set_option maxRecDepth 100000 in
set_option maxHeartbeats 4000000 in
theorem slow_pc_w (g : Int) (ws : List PV) (n : Nat) (hfill : PC Try.prog 23 [.opt 0 0] [some (63, [(iv g), (.av (.int .u32 0)), (.av (.int .i32 1)), (.av (.int .u32 0)), (.av (.slice none 0 0))])] (.tup []) [some (63, [(iv g), (.av (.int .u32 0)), (.av (.int .i32 1)), (.av (.int .u32 0)), (.ssl ws 0 n)])]) : PC Try.prog 27 [.opt 0 1, (PV.fn (.func 23) [(.opt 0 0)] [])] [some (63, [(iv g), (.av (.int .u32 0)), (.av (.int .i32 0)), (.av (.int .u32 0)), (.av (.slice none 0 0))])] (.tup []) [some (63, [(iv g), (.av (.int .u32 1)), (.av (.int .i32 0)), (.av (.int .u32 0)), (.ssl ws 0 n)])] := by
  refine ⟨fn_ok Try.func27 (by kernel_rfl) (by kernel_rfl), Nat.le_refl _, fun c vs hh hrl => ?_⟩
  obtain ⟨b, hb0⟩ := own_at hh rfl
  have key := slow_T_w g ws n hfill (fun i x hx => hh.ids i x hx) hb0 rfl c _ (init_inv (Nat.le_of_ble_eq_true (by kernel_rfl)) rfl c vs hh hrl)
  refine calls_of_wp_defers Try.func27 rfl (wp_mono key ?_)
  rintro e a' w' ⟨cx', rfl, h⟩
  cases e with
  | normal => exact leaves_monoD (fun _ _ h => h) h
  | ret => exact leaves_monoD (fun _ _ h => h) h
  | panic ch => exact h.elim
  | exit id => exact h.elim
  | goto l => exact h.elim
  | outgrown => exact h.elim
set_option maxRecDepth 100000 in
set_option maxHeartbeats 4000000 in
theorem do_first_pc_w (g : Int) (ws : List PV) (n : Nat) (hfill : PC Try.prog 23 [.opt 0 0] [some (63, [(iv g), (.av (.int .u32 0)), (.av (.int .i32 1)), (.av (.int .u32 0)), (.av (.slice none 0 0))])] (.tup []) [some (63, [(iv g), (.av (.int .u32 0)), (.av (.int .i32 1)), (.av (.int .u32 0)), (.ssl ws 0 n)])]) : PC Try.prog 22 [(.opt 0 1), (PV.fn (.func 23) [(.opt 0 0)] [])] [some (63, [(iv g), (.av (.int .u32 0)), (.av (.int .i32 0)), (.av (.int .u32 0)), (.av (.slice none 0 0))])] (.tup []) [some (63, [(iv g), (.av (.int .u32 1)), (.av (.int .i32 0)), (.av (.int .u32 0)), (.ssl ws 0 n)])] := by
  refine pc_intro Try.func22 rfl (by kernel_rfl) (Nat.le_of_ble_eq_true rfl) (by kernel_rfl) (l0 := [ps 0 (.opt 0 1), ps 1 (PV.fn (.func 23) [(.opt 0 0)] []), pb 0 63 [(iv g), (.av (.int .u32 0)), (.av (.int .i32 0)), (.av (.int .u32 0)), (.av (.slice none 0 0))]]) rfl (fun c0 Bor hc0 => ?_)
  refine T_seq ?_
  refine T_k mixed [(3, .call [0] [(.opt 0 1)] [some (63, [(iv g), (.av (.int .u32 0)), (.av (.int .i32 0)), (.av (.int .u32 0)), (.av (.slice none 0 0))])] (bv false) [some (63, [(iv g), (.av (.int .u32 0)), (.av (.int .i32 0)), (.av (.int .u32 0)), (.av (.slice none 0 0))])])] [.k2, .n, .r] [ps 8 (bv true)] (obs_cons (load0_pc g 0) (obs_cons (rfl : [(.opt 0 1)] = renL (sigi [0] 25) [(.opt 0 1)]) (obs_cons (rfl : [(iv g), (.av (.int .u32 0)), (.av (.int .i32 0)), (.av (.int .u32 0)), (.av (.slice none 0 0))] = renL (sigi [0] 25) [(iv g), (.av (.int .u32 0)), (.av (.int .i32 0)), (.av (.int .u32 0)), (.av (.slice none 0 0))]) obs_nil))) ?_
  refine T_then (b := true) rfl rfl ?_
  refine T_r mixed [(2, .call [0] [(.opt 0 1), (PV.fn (.func 23) [(.opt 0 0)] [])] [some (63, [(iv g), (.av (.int .u32 0)), (.av (.int .i32 0)), (.av (.int .u32 0)), (.av (.slice none 0 0))])] (.tup []) [some (63, [(iv g), (.av (.int .u32 1)), (.av (.int .i32 0)), (.av (.int .u32 0)), (.ssl ws 0 n)])])] [pb 0 63 [(iv g), (.av (.int .u32 1)), (.av (.int .i32 0)), (.av (.int .u32 0)), (.ssl ws 0 n)]] (obs_cons (slow_pc_w g ws n hfill) (obs_cons (rfl : [(.opt 0 1), (PV.fn (.func 23) [(.opt 0 0)] [])] = renL (sigi [0] 57) [(.opt 0 1), (PV.fn (.func 23) [(.opt 0 0)] [])]) (obs_cons (rfl : [(iv g), (.av (.int .u32 0)), (.av (.int .i32 0)), (.av (.int .u32 0)), (.av (.slice none 0 0))] = renL (sigi [0] 57) [(iv g), (.av (.int .u32 0)), (.av (.int .i32 0)), (.av (.int .u32 0)), (.av (.slice none 0 0))]) obs_nil))) ?_
  exact fun cx_ a_ hI_ => ret_ok (H' := [some (63, [(iv g), (.av (.int .u32 1)), (.av (.int .i32 0)), (.av (.int .u32 0)), (.ssl ws 0 n)])]) (.inl rfl) (Wk.ren2 [pb 0 63 [(iv g), (.av (.int .u32 1)), (.av (.int .i32 0)), (.av (.int .u32 0)), (.ssl ws 0 n)]] 1 hc0 [0] rfl rfl (by kernel_rfl) (by kernel_rfl)) rfl (obs_cons rfl (obs_nil)) (fun cx_ a_ hI_ => ret_res (l' := [pb 0 63 [(iv g), (.av (.int .u32 1)), (.av (.int .i32 0)), (.av (.int .u32 0)), (.ssl ws 0 n)]]) (by kernel_rfl) cx_ a_ hI_) hI_
set_option maxRecDepth 100000 in
set_option maxHeartbeats 4000000 in
theorem do_done_pc (g : Int) : PC Try.prog 22 [(.opt 0 1), (PV.fn (.func 23) [(.opt 0 0)] [])] [some (63, [(iv g), (.av (.int .u32 1)), (.av (.int .i32 0)), (.av (.int .u32 0)), (.av (.slice none 0 0))])] (.tup []) [some (63, [(iv g), (.av (.int .u32 1)), (.av (.int .i32 0)), (.av (.int .u32 0)), (.av (.slice none 0 0))])] := by
  refine pc_intro Try.func22 rfl (by kernel_rfl) (Nat.le_of_ble_eq_true rfl) (by kernel_rfl) (l0 := [ps 0 (.opt 0 1), ps 1 (PV.fn (.func 23) [(.opt 0 0)] []), pb 0 63 [(iv g), (.av (.int .u32 1)), (.av (.int .i32 0)), (.av (.int .u32 0)), (.av (.slice none 0 0))]]) rfl (fun c0 Bor hc0 => ?_)
  refine T_seq ?_
  refine T_k mixed [(3, .call [0] [(.opt 0 1)] [some (63, [(iv g), (.av (.int .u32 1)), (.av (.int .i32 0)), (.av (.int .u32 0)), (.av (.slice none 0 0))])] (bv true) [some (63, [(iv g), (.av (.int .u32 1)), (.av (.int .i32 0)), (.av (.int .u32 0)), (.av (.slice none 0 0))])])] [.k2, .n, .r] [ps 8 (bv false)] (obs_cons (load1_pc g 0) (obs_cons (rfl : [(.opt 0 1)] = renL (sigi [0] 25) [(.opt 0 1)]) (obs_cons (rfl : [(iv g), (.av (.int .u32 1)), (.av (.int .i32 0)), (.av (.int .u32 0)), (.av (.slice none 0 0))] = renL (sigi [0] 25) [(iv g), (.av (.int .u32 1)), (.av (.int .i32 0)), (.av (.int .u32 0)), (.av (.slice none 0 0))]) obs_nil))) ?_
  refine T_else (b := false) rfl rfl ?_
  refine T_skip ?_
  exact fun cx_ a_ hI_ => ret_ok (H' := [some (63, [(iv g), (.av (.int .u32 1)), (.av (.int .i32 0)), (.av (.int .u32 0)), (.av (.slice none 0 0))])]) (.inl rfl) (Wk.ren2 [pb 0 63 [(iv g), (.av (.int .u32 1)), (.av (.int .i32 0)), (.av (.int .u32 0)), (.av (.slice none 0 0))]] 1 hc0 [0] rfl rfl (by kernel_rfl) (by kernel_rfl)) rfl (obs_cons rfl (obs_nil)) (fun cx_ a_ hI_ => ret_res (l' := [pb 0 63 [(iv g), (.av (.int .u32 1)), (.av (.int .i32 0)), (.av (.int .u32 0)), (.av (.slice none 0 0))]]) (by kernel_rfl) cx_ a_ hI_) hI_
set_option maxRecDepth 100000 in
set_option maxHeartbeats 4000000 in
theorem do_done_pc_w (g : Int) (ws : List PV) (n : Nat) : PC Try.prog 22 [(.opt 0 1), (PV.fn (.func 23) [(.opt 0 0)] [])] [some (63, [(iv g), (.av (.int .u32 1)), (.av (.int .i32 0)), (.av (.int .u32 0)), (.ssl ws 0 n)])] (.tup []) [some (63, [(iv g), (.av (.int .u32 1)), (.av (.int .i32 0)), (.av (.int .u32 0)), (.ssl ws 0 n)])] := by
  refine pc_intro Try.func22 rfl (by kernel_rfl) (Nat.le_of_ble_eq_true rfl) (by kernel_rfl) (l0 := [ps 0 (.opt 0 1), ps 1 (PV.fn (.func 23) [(.opt 0 0)] []), pb 0 63 [(iv g), (.av (.int .u32 1)), (.av (.int .i32 0)), (.av (.int .u32 0)), (.ssl ws 0 n)]]) rfl (fun c0 Bor hc0 => ?_)
  refine T_seq ?_
  refine T_k mixed [(3, .call [0] [(.opt 0 1)] [some (63, [(iv g), (.av (.int .u32 1)), (.av (.int .i32 0)), (.av (.int .u32 0)), (.ssl ws 0 n)])] (bv true) [some (63, [(iv g), (.av (.int .u32 1)), (.av (.int .i32 0)), (.av (.int .u32 0)), (.ssl ws 0 n)])])] [.k2, .n, .r] [ps 8 (bv false)] (obs_cons (load1_pc_w g 0 ws n) (obs_cons (rfl : [(.opt 0 1)] = renL (sigi [0] 25) [(.opt 0 1)]) (obs_cons (rfl : [(iv g), (.av (.int .u32 1)), (.av (.int .i32 0)), (.av (.int .u32 0)), (.ssl ws 0 n)] = renL (sigi [0] 25) [(iv g), (.av (.int .u32 1)), (.av (.int .i32 0)), (.av (.int .u32 0)), (.ssl ws 0 n)]) obs_nil))) ?_
  refine T_else (b := false) rfl rfl ?_
  refine T_skip ?_
  exact fun cx_ a_ hI_ => ret_ok (H' := [some (63, [(iv g), (.av (.int .u32 1)), (.av (.int .i32 0)), (.av (.int .u32 0)), (.ssl ws 0 n)])]) (.inl rfl) (Wk.ren2 [pb 0 63 [(iv g), (.av (.int .u32 1)), (.av (.int .i32 0)), (.av (.int .u32 0)), (.ssl ws 0 n)]] 1 hc0 [0] rfl rfl (by kernel_rfl) (by kernel_rfl)) rfl (obs_cons rfl (obs_nil)) (fun cx_ a_ hI_ => ret_res (l' := [pb 0 63 [(iv g), (.av (.int .u32 1)), (.av (.int .i32 0)), (.av (.int .u32 0)), (.ssl ws 0 n)]]) (by kernel_rfl) cx_ a_ hI_) hI_
end Go.Proofs.Ytfibadnkhbjciaa.Pm
namespace Go.Proofs.Ytfibadnkhbjciaa.Pm
open Go

set_option maxRecDepth 100000 in
set_option maxHeartbeats 4000000 in
theorem root_pc (k : Nat) (h0 : 1 ≤ k) (h1 : k ≤ 12) : PC Try.prog 28 [(nv k)] [] (.av (.complex .f64 ((rtOf k).1) ((rtOf k).2))) [] := by
  refine pc_intro Try.func28 rfl (by kernel_rfl) (Nat.le_of_ble_eq_true rfl) (by kernel_rfl) (l0 := [ps 0 (nv k)]) rfl (fun c0 Bor hc0 => ?_)
  refine T_seq ?_
  refine T_k mixed [] [.r] [] (obs_nil) ?_
  refine T_seq <| T_seq ?_
  refine T_r mixed [] [ps 3 (nv k)] (obs_nil) ?_
  refine T_block <| T_seq ?_
  refine T_k mixed [] [.k1, .n] [ps 4 (bv (decide (((k : Nat) : Int) = 1)))] (obs_nil) ?_
  by_cases h1 : ((k : Nat) : Int) = 1
  · refine T_th (dty h1) ?_
    refine T_seq ?_
    refine T_r mixed [] [ps 2 (.av (.complex .f64 13830554455654793216 0))] (obs_nil) ?_
    have hR : rtOf k = (13830554455654793216, 0) := by rw [show k = 1 from by omega]; rfl
    rw [hR]
    exact T_ret fun cx_ a_ hI_ => rt hc0 [ps 2 (.av (.complex .f64 13830554455654793216 0))] [] hI_
  refine T_el (dtn h1) ?_
  refine T_seq ?_
  refine T_r mixed [] [ps 3 (nv k), ps 6 (bv (decide (((k : Nat) : Int) = 2)))] (obs_nil) ?_
  by_cases h2 : ((k : Nat) : Int) = 2
  · refine T_th (dty h2) ?_
    refine T_seq ?_
    refine T_r mixed [] [ps 2 (.av (.complex .f64 0 13830554455654793216))] (obs_nil) ?_
    have hR : rtOf k = (0, 13830554455654793216) := by rw [show k = 2 from by omega]; rfl
    rw [hR]
    exact T_ret fun cx_ a_ hI_ => rt hc0 [ps 2 (.av (.complex .f64 0 13830554455654793216))] [] hI_
  refine T_el (dtn h2) ?_
  refine T_seq ?_
  refine T_r mixed [] [ps 3 (nv k), ps 8 (bv (decide (((k : Nat) : Int) = 3)))] (obs_nil) ?_
  by_cases h3 : ((k : Nat) : Int) = 3
  · refine T_th (dty h3) ?_
    refine T_seq ?_
    refine T_r mixed [] [ps 2 (.av (.complex .f64 4604544271217802189 13827916308072577997))] (obs_nil) ?_
    have hR : rtOf k = (4604544271217802189, 13827916308072577997) := by rw [show k = 3 from by omega]; rfl
    rw [hR]
    exact T_ret fun cx_ a_ hI_ => rt hc0 [ps 2 (.av (.complex .f64 4604544271217802189 13827916308072577997))] [] hI_
  refine T_el (dtn h3) ?_
  refine T_seq ?_
  refine T_r mixed [] [ps 3 (nv k), ps 10 (bv (decide (((k : Nat) : Int) = 4)))] (obs_nil) ?_
  by_cases h4 : ((k : Nat) : Int) = 4
  · refine T_th (dty h4) ?_
    refine T_seq ?_
    refine T_r mixed [] [ps 2 (.av (.complex .f64 4606496786581982534 13823937468626282851))] (obs_nil) ?_
    have hR : rtOf k = (4606496786581982534, 13823937468626282851) := by rw [show k = 4 from by omega]; rfl
    rw [hR]
    exact T_ret fun cx_ a_ hI_ => rt hc0 [ps 2 (.av (.complex .f64 4606496786581982534 13823937468626282851))] [] hI_
  refine T_el (dtn h4) ?_
  refine T_seq ?_
  refine T_r mixed [] [ps 3 (nv k), ps 12 (bv (decide (((k : Nat) : Int) = 5)))] (obs_nil) ?_
  by_cases h5 : ((k : Nat) : Int) = 5
  · refine T_th (dty h5) ?_
    refine T_seq ?_
    refine T_r mixed [] [ps 2 (.av (.complex .f64 4607009347991985328 13819568926757594634))] (obs_nil) ?_
    have hR : rtOf k = (4607009347991985328, 13819568926757594634) := by rw [show k = 5 from by omega]; rfl
    rw [hR]
    exact T_ret fun cx_ a_ hI_ => rt hc0 [ps 2 (.av (.complex .f64 4607009347991985328 13819568926757594634))] [] hI_
  refine T_el (dtn h5) ?_
  refine T_seq ?_
  refine T_r mixed [] [ps 3 (nv k), ps 14 (bv (decide (((k : Nat) : Int) = 6)))] (obs_nil) ?_
  by_cases h6 : ((k : Nat) : Int) = 6
  · refine T_th (dty h6) ?_
    refine T_seq ?_
    refine T_r mixed [] [ps 2 (.av (.complex .f64 4607139046673687846 13815099336824566828))] (obs_nil) ?_
    have hR : rtOf k = (4607139046673687846, 13815099336824566828) := by rw [show k = 6 from by omega]; rfl
    rw [hR]
    exact T_ret fun cx_ a_ hI_ => rt hc0 [ps 2 (.av (.complex .f64 4607139046673687846 13815099336824566828))] [] hI_
  refine T_el (dtn h6) ?_
  refine T_seq ?_
  refine T_r mixed [] [ps 3 (nv k), ps 16 (bv (decide (((k : Nat) : Int) = 7)))] (obs_nil) ?_
  by_cases h7 : ((k : Nat) : Int) = 7
  · refine T_th (dty h7) ?_
    refine T_seq ?_
    refine T_r mixed [] [ps 2 (.av (.complex .f64 4607171569234046334 13810604255004710932))] (obs_nil) ?_
    have hR : rtOf k = (4607171569234046334, 13810604255004710932) := by rw [show k = 7 from by omega]; rfl
    rw [hR]
    exact T_ret fun cx_ a_ hI_ => rt hc0 [ps 2 (.av (.complex .f64 4607171569234046334 13810604255004710932))] [] hI_
  refine T_el (dtn h7) ?_
  refine T_seq ?_
  refine T_r mixed [] [ps 3 (nv k), ps 18 (bv (decide (((k : Nat) : Int) = 8)))] (obs_nil) ?_
  by_cases h8 : ((k : Nat) : Int) = 8
  · refine T_th (dty h8) ?_
    refine T_seq ?_
    refine T_r mixed [] [ps 2 (.av (.complex .f64 4607179706000002317 13806102785791583870))] (obs_nil) ?_
    have hR : rtOf k = (4607179706000002317, 13806102785791583870) := by rw [show k = 8 from by omega]; rfl
    rw [hR]
    exact T_ret fun cx_ a_ hI_ => rt hc0 [ps 2 (.av (.complex .f64 4607179706000002317 13806102785791583870))] [] hI_
  refine T_el (dtn h8) ?_
  refine T_seq ?_
  refine T_r mixed [] [ps 3 (nv k), ps 20 (bv (decide (((k : Nat) : Int) = 9)))] (obs_nil) ?_
  by_cases h9 : ((k : Nat) : Int) = 9
  · refine T_th (dty h9) ?_
    refine T_seq ?_
    refine T_r mixed [] [ps 2 (.av (.complex .f64 4607181740574479067 13801599718827935620))] (obs_nil) ?_
    have hR : rtOf k = (4607181740574479067, 13801599718827935620) := by rw [show k = 9 from by omega]; rfl
    rw [hR]
    exact T_ret fun cx_ a_ hI_ => rt hc0 [ps 2 (.av (.complex .f64 4607181740574479067 13801599718827935620))] [] hI_
  refine T_el (dtn h9) ?_
  refine T_seq ?_
  refine T_r mixed [] [ps 3 (nv k), ps 22 (bv (decide (((k : Nat) : Int) = 10)))] (obs_nil) ?_
  by_cases h10 : ((k : Nat) : Int) = 10
  · refine T_th (dty h10) ?_
    refine T_seq ?_
    refine T_r mixed [] [ps 2 (.av (.complex .f64 4607182249242036882 13797096252370255985))] (obs_nil) ?_
    have hR : rtOf k = (4607182249242036882, 13797096252370255985) := by rw [show k = 10 from by omega]; rfl
    rw [hR]
    exact T_ret fun cx_ a_ hI_ => rt hc0 [ps 2 (.av (.complex .f64 4607182249242036882 13797096252370255985))] [] hI_
  refine T_el (dtn h10) ?_
  refine T_seq ?_
  refine T_r mixed [] [ps 3 (nv k), ps 24 (bv (decide (((k : Nat) : Int) = 11)))] (obs_nil) ?_
  by_cases h11 : ((k : Nat) : Int) = 11
  · refine T_th (dty h11) ?_
    refine T_seq ?_
    refine T_r mixed [] [ps 2 (.av (.complex .f64 4607182376410422530 13792592686035543226))] (obs_nil) ?_
    have hR : rtOf k = (4607182376410422530, 13792592686035543226) := by rw [show k = 11 from by omega]; rfl
    rw [hR]
    exact T_ret fun cx_ a_ hI_ => rt hc0 [ps 2 (.av (.complex .f64 4607182376410422530 13792592686035543226))] [] hI_
  refine T_el (dtn h11) ?_
  refine T_seq ?_
  refine T_r mixed [] [ps 26 (bv (decide (((k : Nat) : Int) = 12)))] (obs_nil) ?_
  by_cases h12 : ((k : Nat) : Int) = 12
  · refine T_th (dty h12) ?_
    refine T_seq ?_
    refine T_r mixed [] [ps 2 (.av (.complex .f64 4607182408202612454 13788089094731351853))] (obs_nil) ?_
    have hR : rtOf k = (4607182408202612454, 13788089094731351853) := by rw [show k = 12 from by omega]; rfl
    rw [hR]
    exact T_ret fun cx_ a_ hI_ => rt hc0 [ps 2 (.av (.complex .f64 4607182408202612454 13788089094731351853))] [] hI_
  refine T_el (dtn h12) ?_
  refine T_skip <| T_blk <| T_seq ?_
  refine T_r mixed [] [ps 2 (.av (.complex .f64 4607182418800017408 0))] (obs_nil) ?_
  exfalso; omega
end Go.Proofs.Ytfibadnkhbjciaa.Pm
