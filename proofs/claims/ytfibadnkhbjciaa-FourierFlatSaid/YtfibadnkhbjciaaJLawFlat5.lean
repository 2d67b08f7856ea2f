/-
  FOURIER: plain: the whole transform by floats is near that without rounding. No program in sight. | FOURIER: plain: apart, squared and together again, without rounding: the product. No program in sight. | FOURIER: plain: the product by waves is the product. No program in sight. | FOURIER: plain: the product by waves is the product: the last steps. No program in sight. | FOURIER: plain: products of lists: in either order, moved, with sums; the document's product, step by step. No program in sight. | FOURIER: the document's product; are they the same: walks. (Printed by wip/pm.) | FOURIER: the law Exact; alive: walks. (Printed by wip/pm.) | FOURIER: plain: one point alone, at the beginning, is told as it is of each wave. No program in sight. | FOURIER: the law Flat: walks. (Printed by wip/pm.) | What every law's row of this seat needs: the arguments read behind the call as before it, whatever their types, if the call has turned nothing that was there. | THE VALUE MACHINE (Row): a law's arguments, opened to values. | THE VALUE MACHINE (Open): whatever came in, by its type: numbers, truth values, floats, strings, slices and structs of such, as deep as they are. | What came in, at its types: lists of numbers, lists of such; how much they hold. | A CALL IN ONE GOROUTINE, told as a run of which a row that bears 'leaving' asks. No program in sight.
-/
import Derived.Test.YtfibadnkhbjciaaJLawFlat4
import Derived.Test.YtfibadnkhbjciaaJLawFlat3
import Derived.Test.YtfibadnkhbjciaaJLawFlat2
import Derived.Test.YtfibadnkhbjciaaRows
import Derived.WalkKit
import Derived.ProofKit
import Derived.OpenShut
import Derived.Lib.SmallJoins
import Derived.Below
import Derived.ChangeSame
import Derived.SizedLaws
import Derived.Deep.Matrix
import Derived.Conc.HoldsTime
import Derived.Handed
import Derived.Leaving
import Derived.Eval
namespace Go.Proofs.Ytfibadnkhbjciaa.Pm
open Go Ieee Fl

theorem getD_set_self {o : List FC} {i : Nat} (x : FC) (h : i < o.length) : (o.set i x).getD i (0, 0) = x := by
  rw [List.getD_eq_getElem?_getD, List.getElem?_set_self h]
  rfl
theorem getD_set_ne {o : List FC} {i j : Nat} (x : FC) (h : i ≠ j) : (o.set i x).getD j (0, 0) = o.getD j (0, 0) := by
  rw [List.getD_eq_getElem?_getD, List.getElem?_set_ne h, ← List.getD_eq_getElem?_getD]
section
variable {v : List FC} {M : Rat}
def At (v : List FC) (M : Rat) (l : Nat) (o : List FC) (c k : Nat) : Prop := Ok (EE M l) (o.getD (c + k) (0, 0)) (Ide v l c k)
theorem ee_step {l : Nat} (hM : 1 ≤ M) : tw l * M * uu * (2 * gl l + 7 * tw l + 19 / 2) + 2 * (tw l * (M * th)) ≤ EE M (l + 1) := by
  unfold EE
  have h := gl_succ l
  rw [tw_succ]
  have h1 : 0 ≤ tw l * M := Rat.mul_nonneg (by have := tw_pos l; grind) (by grind)
  have h2 := Rat.mul_le_mul_of_nonneg_left th_small h1
  have h3 : 2 * tw l * M * uu * gl (l + 1) = tw l * M * uu * (2 * gl (l + 1)) := by grind
  rw [h3, h]
  generalize gl l = g
  generalize tw l = t at *
  grind
theorem kRun_ok {l c : Nat} (hl : l < 10) (hM1 : 1 ≤ M) (hM2 : M ≤ p2 200) (hM : ∀ i, Bd (zAt v i) M) : ∀ (m k : Nat) (o : List FC), k + m = 2 ^ l → c + 2 ^ l + 2 ^ l ≤ o.length →
    (∀ k', k ≤ k' → k' < 2 ^ l → At v M l o c k' ∧ At v M l o (c + 2 ^ l) k') →
    ∃ r, kRun l c m k o = some r ∧ r.length = o.length ∧ (∀ i, i < c + k ∨ (c + 2 ^ l ≤ i ∧ i < c + 2 ^ l + k) ∨ c + 2 ^ l + 2 ^ l ≤ i → r.getD i (0, 0) = o.getD i (0, 0)) ∧
      ∀ k', k ≤ k' → k' < 2 ^ l → At v M (l + 1) r c k' ∧ At v M (l + 1) r c (k' + 2 ^ l)
  | 0, k, o, hk, _, _ => ⟨o, rfl, rfl, fun _ _ => rfl, fun k' h1 h2 => by omega⟩
  | m + 1, k, o, hk, ho, hat => by
    obtain ⟨ha, hb⟩ := hat k (Nat.le_refl _) (by omega)
    unfold At at ha hb
    have hw := pow_err hl k (by omega)
    have hw2 : Ok (6 * tw l * uu) (powR l k) (pw (Rt (l + 1)) k) := by
      refine ⟨hw.1, hw.2.1, bd_mono hw.2.2 ?_⟩
      have h1 : (k : Rat) ≤ tw l := Rat.natCast_le_natCast.2 (by omega)
      have h2 := Rat.mul_le_mul_of_nonneg_right h1 (Rat.le_of_lt uu_pos)
      grind
    obtain ⟨t, s, d, h1, h2, h3, h4, h5⟩ := bfly_num hl hM1 hM2 hw2 (un_pw (un_Rt _) k) ha (ide_bd hM l c k) hb (ide_bd hM l (c + 2 ^ l) k)
    have hbf : bfly (powR l k) (c + k) (c + k + 2 ^ l) o = some ((o.set (c + k) s).set (c + k + 2 ^ l) d) := by
      unfold bfly
      rw [show c + k + 2 ^ l = c + 2 ^ l + k from by omega, h1]
      dsimp only
      rw [h2]
      dsimp only
      rw [h3]
    have hp : 0 < 2 ^ l := Nat.pow_pos (by decide)
    have hlen : ((o.set (c + k) s).set (c + k + 2 ^ l) d).length = o.length := by rw [List.length_set, List.length_set]
    have hoff : ∀ i, i ≠ c + k → i ≠ c + k + 2 ^ l → ((o.set (c + k) s).set (c + k + 2 ^ l) d).getD i (0, 0) = o.getD i (0, 0) := fun i e1 e2 => by
      rw [getD_set_ne _ (Ne.symm e2), getD_set_ne _ (Ne.symm e1)]
    have ho1 : ((o.set (c + k) s).set (c + k + 2 ^ l) d).getD (c + k) (0, 0) = s := by
      rw [getD_set_ne _ (by omega), getD_set_self _ (by omega)]
    have ho2 : ((o.set (c + k) s).set (c + k + 2 ^ l) d).getD (c + k + 2 ^ l) (0, 0) = d := getD_set_self _ (by rw [List.length_set]; omega)
    obtain ⟨o', e0⟩ : ∃ o', (o.set (c + k) s).set (c + k + 2 ^ l) d = o' := ⟨_, rfl⟩
    rw [e0] at hbf hlen ho1 ho2
    simp only [e0] at hoff
    obtain ⟨r, r1, r2, r3, r4⟩ := kRun_ok (c := c) hl hM1 hM2 hM m (k + 1) o' (by omega) (by omega) (fun k' e1 e2 => by
      obtain ⟨x1, x2⟩ := hat k' (by omega) e2
      unfold At at x1 x2 ⊢
      rw [hoff (c + k') (by omega) (by omega), hoff (c + 2 ^ l + k') (by omega) (by omega)]
      exact ⟨x1, x2⟩)
    refine ⟨r, ?_, r2.trans hlen, fun i hi => ?_, fun k' e1 e2 => ?_⟩
    · rw [kRun, hbf]
      exact r1
    · rw [r3 i (by omega), hoff i (by omega) (by omega)]
    · by_cases e : k' = k
      · subst e
        have hs := ee_step (l := l) hM1
        have hx : 0 ≤ 2 * (tw l * (M * th)) := by
          have := Rat.mul_nonneg (show 0 ≤ tw l by have := tw_pos l; grind) (Rat.mul_nonneg (show 0 ≤ M by grind) th_nn)
          grind
        unfold At
        constructor
        · rw [r3 (c + k') (by omega), ho1, ide_lo hl]
          exact ⟨h4.1, h4.2.1, bd_mono h4.2.2 (by grind)⟩
        · rw [r3 (c + (k' + 2 ^ l)) (by omega), ← Nat.add_assoc, ho2]
          exact ⟨h5.1, h5.2.1, bd_mono (bd_via h5.2.2 (bd_swap (ide_hi hl hM c k'))) hs⟩
      · exact r4 k' (by omega) e2
theorem aRun_ok {l : Nat} (hl : l < 10) (hM1 : 1 ≤ M) (hM2 : M ≤ p2 200) (hM : ∀ i, Bd (zAt v i) M) : ∀ (m c : Nat) (o : List FC), c + m * (2 * 2 ^ l) = o.length →
    (∀ q, q < 2 * m → ∀ k, k < 2 ^ l → At v M l o (c + q * 2 ^ l) k) →
    ∃ r, aRun l m c o = some r ∧ r.length = o.length ∧ (∀ i, i < c → r.getD i (0, 0) = o.getD i (0, 0)) ∧
      ∀ q, q < m → ∀ k, k < 2 ^ l → At v M (l + 1) r (c + q * (2 * 2 ^ l)) k ∧ At v M (l + 1) r (c + q * (2 * 2 ^ l)) (k + 2 ^ l)
  | 0, c, o, _, _ => ⟨o, rfl, rfl, fun _ _ => rfl, fun q h => absurd h (Nat.not_lt_zero q)⟩
  | m + 1, c, o, hc, hat => by
    have hp : 0 < 2 ^ l := Nat.pow_pos (by decide)
    rw [Nat.add_mul m 1, Nat.one_mul] at hc
    obtain ⟨o', h1, h2, h3, h4⟩ := kRun_ok (c := c) hl hM1 hM2 hM (2 ^ l) 0 o (Nat.zero_add _) (by omega) (fun k' _ e2 => by
      have x1 := hat 0 (by omega) k' e2
      have x2 := hat 1 (by omega) k' e2
      rw [Nat.zero_mul, Nat.add_zero] at x1
      rw [Nat.one_mul] at x2
      exact ⟨x1, x2⟩)
    obtain ⟨r, r1, r2, r3, r4⟩ := aRun_ok hl hM1 hM2 hM m (c + 2 * 2 ^ l) o' (by omega) (fun q hq k hk => by
      have x := hat (q + 2) (by omega) k hk
      rw [Nat.add_mul, show c + (q * 2 ^ l + 2 * 2 ^ l) = c + 2 * 2 ^ l + q * 2 ^ l from by omega] at x
      unfold At at x ⊢
      rw [h3 (c + 2 * 2 ^ l + q * 2 ^ l + k) (by omega)]
      exact x)
    refine ⟨r, ?_, r2.trans h2, fun i hi => ?_, fun q hq k hk => ?_⟩
    · rw [aRun, h1]
      exact r1
    · rw [r3 i (by omega), h3 i (by omega)]
    · rcases Nat.eq_zero_or_pos q with rfl | hq0
      · rw [show c + 0 * (2 * 2 ^ l) = c from by rw [Nat.zero_mul]; rfl]
        obtain ⟨x1, x2⟩ := h4 k (Nat.zero_le _) hk
        unfold At at x1 x2 ⊢
        rw [r3 (c + k) (by omega), r3 (c + (k + 2 ^ l)) (by omega)]
        exact ⟨x1, x2⟩
      · obtain ⟨p, rfl⟩ : ∃ p, q = p + 1 := ⟨q - 1, by omega⟩
        have x := r4 p (by omega) k hk
        rw [show c + 2 * 2 ^ l + p * (2 * 2 ^ l) = c + (p + 1) * (2 * 2 ^ l) from by rw [Nat.add_mul p 1, Nat.one_mul]; omega] at x
        exact x
theorem lRun_ok {L : Nat} (hL : L ≤ 10) (hM1 : 1 ≤ M) (hM2 : M ≤ p2 200) (hM : ∀ i, Bd (zAt v i) M) : ∀ (m l : Nat) (o : List FC), l + m = L → o.length = 2 ^ L →
    (∀ q, q < 2 ^ (L - l) → ∀ k, k < 2 ^ l → At v M l o (q * 2 ^ l) k) → ∃ r, lRun L m l o = some r ∧ ∀ k, k < 2 ^ L → At v M L r 0 k
  | 0, l, o, hl, _, hat => by
    obtain rfl : l = L := by omega
    refine ⟨o, rfl, fun k hk => ?_⟩
    have := hat 0 (by rw [Nat.sub_self]; decide) k hk
    rw [Nat.zero_mul] at this
    exact this
  | m + 1, l, o, hl, ho, hat => by
    have hl1 : l < L := by omega
    have hsp := p2_split hl1
    have h2 : 2 ^ (L - l) = 2 * 2 ^ (L - 1 - l) := by rw [← Nat.pow_succ']; exact congrArg _ (by omega)
    obtain ⟨o', h3, h4, _, h5⟩ := aRun_ok (l := l) (by omega) hM1 hM2 hM (2 ^ (L - 1 - l)) 0 o (by omega) (fun q hq k hk => by
      rw [Nat.zero_add]
      exact hat q (by omega) k hk)
    obtain ⟨r, r1, r2⟩ := lRun_ok hL hM1 hM2 hM m (l + 1) o' (by omega) (h4.trans ho) (fun q hq k hk => by
      rw [show L - (l + 1) = L - 1 - l from by omega] at hq
      rw [Nat.pow_succ'] at hk ⊢
      by_cases c : k < 2 ^ l
      · have x := (h5 q hq k c).1
        rw [Nat.zero_add] at x
        exact x
      · have x := (h5 q hq (k - 2 ^ l) (by omega)).2
        rw [Nat.zero_add, Nat.sub_add_cancel (by omega)] at x
        exact x)
    refine ⟨r, ?_, r2⟩
    rw [lRun, h3]
    exact r1
/-- Without rounding. -/
def Dft (L : Nat) (v : List FC) (k : Nat) : Cq := sm (fun i => zAt v i * pw (Rt L) (i * k)) (2 ^ L)
theorem load_at {L : Nat} (v : List FC) {j : Nat} (h : j < 2 ^ L) : (loadL L v).getD j (0, 0) = v.getD (brev L j) (0, 0) := by
  simp [loadL, List.getD_eq_getElem?_getD, h]
theorem load_out {L : Nat} (v : List FC) {j : Nat} (h : ¬ j < 2 ^ L) : (loadL L v).getD j (0, 0) = (0, 0) := by
  rw [List.getD_eq_getElem?_getD, List.getElem?_eq_none (by rw [loadL_len]; omega)]
  rfl
theorem zval : cval (0, 0) = c0 := by apply ext_c <;> decide +kernel
theorem apart_ok {L : Nat} (hL : L ≤ 10) (hM1 : 1 ≤ M) (hM2 : M ≤ p2 200) (hnum : ∀ i, Num (v.getD i (0, 0)).1 ∧ Num (v.getD i (0, 0)).2) (hM : ∀ i, Bd (zAt v i) M) :
    ∃ r, apartO L v = some r ∧ ∀ k, k < 2 ^ L → Ok (EE M L) (r.getD k (0, 0)) (Dft L v k) := by
  have hM0 : ∀ i, Bd (zAt (loadL L v) i) M := fun i => by
    unfold zAt
    by_cases h : i < 2 ^ L
    · rw [load_at v h]
      exact hM _
    · rw [load_out v h, zval]
      exact bd_zero (by grind)
  obtain ⟨r, h1, h2⟩ := lRun_ok (v := loadL L v) hL hM1 hM2 hM0 L 0 (loadL L v) (Nat.zero_add _) (loadL_len L v) (fun q hq k hk => by
    rw [Nat.sub_zero] at hq
    obtain rfl : k = 0 := by rw [Nat.pow_zero] at hk; omega
    unfold At
    rw [Nat.pow_zero, Nat.mul_one, Nat.add_zero]
    have e : Ide (loadL L v) 0 q 0 = cval ((loadL L v).getD q (0, 0)) := by
      unfold Ide
      rw [Nat.pow_zero, sm, sm, zero_add_c, Nat.mul_zero, pw, mul_one_c, Nat.add_zero]
      rfl
    rw [e, load_at v hq]
    refine ⟨(hnum _).1, (hnum _).2, bd_self _ ?_⟩
    unfold EE
    exact Rat.mul_nonneg (Rat.mul_nonneg (Rat.mul_nonneg (by have := tw_pos 0; grind) (by grind)) (Rat.le_of_lt uu_pos)) (gl_nn 0))
  refine ⟨r, h1, fun k hk => ?_⟩
  have h3 := h2 k hk
  unfold At at h3
  rw [Nat.zero_add] at h3
  have e : Ide (loadL L v) L 0 k = Dft L v k := by
    unfold Ide Dft
    rw [← sm_brev L (fun i => zAt v i * pw (Rt L) (i * k))]
    refine sm_congr fun j hj => ?_
    unfold zAt
    rw [Nat.zero_add, load_at v hj]
  rw [e] at h3
  exact h3
end
end Go.Proofs.Ytfibadnkhbjciaa.Pm
namespace Go.Proofs.Ytfibadnkhbjciaa.Pm
open Go Ieee Fl

theorem pw_mulz (z w : Cq) : ∀ k, pw (z * w) k = pw z k * pw w k
  | 0 => (mul_one_c _).symm
  | k + 1 => by
    rw [pw, pw_mulz z w k, pw, pw]
    apply ext_c <;> simp only [re_mul, im_mul] <;> grind
theorem half_m : Bd (pw W1 512 - -c1) eta := by
  have h := half_way
  have e3 : c1 + pw W1 512 = pw W1 512 - -c1 := by apply ext_c <;> simp only [re_sub, im_sub, re_add, im_add, re_neg, im_neg] <;> grind
  rw [e3] at h
  exact h
theorem full_near {L : Nat} (hL : L ≤ 10) : Bd (pw (Rt L) (2 ^ L) - c1) (2 * eta) := by
  have e : pw (Rt L) (2 ^ L) = pw W1 512 * pw W1 512 := by
    unfold Rt
    rw [← pw_mul, ← Nat.pow_add, show 10 - L + L = 10 from by omega]
    exact pw_add W1 512 512
  rw [e]
  have h1 := bd_mul half_m (bd_sub (un_bd (un_pw un_W1 512)) (un_bd un_one))
  have e2 : ∀ x : Cq, (x - -c1) * (x - c1) = x * x - c1 := fun x => by apply ext_c <;> simp only [re_sub, im_sub, re_mul, im_mul, re_neg, im_neg, re_c1, im_c1] <;> grind
  rw [e2] at h1
  exact bd_mono h1 (by grind)
theorem odd_split : ∀ (L d : Nat), 0 < d → d < 2 * 2 ^ L → d ≠ 2 ^ L → ∃ s o, s < L ∧ d * 2 ^ s = 2 ^ (L - 1) * (2 * o + 1)
  | 0, d, h1, h2, h3 => by
    rw [Nat.pow_zero] at h2 h3
    omega
  | L + 1, d, h1, h2, h3 => by
    rcases Nat.mod_two_eq_zero_or_one d with h | h
    · obtain ⟨e, rfl⟩ : ∃ e, d = 2 * e := ⟨d / 2, by omega⟩
      rw [Nat.pow_succ] at h2 h3
      obtain ⟨s, o, g1, g2⟩ := odd_split L e (by omega) (by omega) (by omega)
      refine ⟨s, o, by omega, ?_⟩
      rw [Nat.mul_assoc, g2, show L + 1 - 1 = L - 1 + 1 from by omega, Nat.pow_succ, Nat.mul_comm (2 ^ (L - 1)) 2, Nat.mul_assoc]
    · obtain ⟨o, rfl⟩ : ∃ o, d = 2 * o + 1 := ⟨d / 2, by omega⟩
      exact ⟨L, o, by omega, by rw [Nat.mul_comm]; rfl⟩
def tau : Rat := 4194304 * eta
def peak (L : Nat) (b : Bool) : Cq := if b then ⟨tw L, 0⟩ else c0
theorem eta_nn : 0 ≤ eta := half_m.1
theorem tw_le10 {L : Nat} (h : L ≤ 10) : tw L ≤ 1024 := by
  have h1 := Nat.pow_le_pow_right (n := 2) (by decide) h
  exact Rat.natCast_le_natCast.2 h1
theorem geo_at {L d : Nat} (hL : L ≤ 10) (hd : d < 2 * 2 ^ L) : Bd (sm (pw (pw (Rt L) d)) (2 ^ L) - peak L (decide (d = 0) || decide (d = 2 ^ L))) tau := by
  have hN := tw_le10 hL
  have hN1 := tw_pos L
  have he := eta_nn
  by_cases c0' : d = 0
  · subst c0'
    have e : sm (pw (pw (Rt L) 0)) (2 ^ L) = ⟨tw L, 0⟩ := by
      rw [pw, show sm (pw c1) (2 ^ L) = sm (fun _ => c1) (2 ^ L) from sm_congr fun i _ => pw_one i]
      exact sm_c1 _
    rw [e, decide_eq_true rfl, Bool.true_or]
    unfold peak
    rw [if_pos rfl]
    exact bd_self _ (by unfold tau; grind)
  · by_cases c1' : d = 2 ^ L
    · subst c1'
      rw [decide_eq_true (rfl : 2 ^ L = 2 ^ L), Bool.or_true]
      unfold peak
      rw [if_pos rfl]
      have h1 : Bd (sm (pw (pw (Rt L) (2 ^ L))) (2 ^ L) - sm (fun _ => c1) (2 ^ L)) (tw L * (1024 * (2 * eta))) := sm_near fun k hk => by
        have h := pw_near (un_pw (un_Rt L) (2 ^ L)) un_one (full_near hL) k
        rw [pw_one] at h
        refine bd_mono h ?_
        have hk2 : (k : Rat) ≤ tw L := Rat.natCast_le_natCast.2 (by omega)
        have := Rat.mul_le_mul_of_nonneg_right (show (k : Rat) ≤ 1024 by grind) (show 0 ≤ 2 * eta by grind)
        grind
      rw [sm_c1] at h1
      refine bd_mono h1 ?_
      have := Rat.mul_le_mul_of_nonneg_right hN (show 0 ≤ 1024 * (2 * eta) by grind)
      unfold tau
      grind
    · rw [decide_eq_false c0', decide_eq_false c1']
      unfold peak
      rw [Bool.false_or, if_neg (by decide)]
      obtain ⟨s, o, hs, ho⟩ := odd_split L d (by omega) hd c1'
      have ho2 : 2 * o + 1 ≤ 2048 := by
        have h2 : 2 ^ s ≤ 2 ^ (L - 1) := Nat.pow_le_pow_right (by decide) (by omega)
        have h3 : d * 2 ^ s ≤ (2 * 2 ^ L) * 2 ^ (L - 1) := Nat.mul_le_mul (by omega) h2
        rw [ho, Nat.mul_comm (2 * 2 ^ L)] at h3
        have h4 := Nat.le_of_mul_le_mul_left h3 (Nat.pow_pos (by decide))
        have h5 : 2 ^ L ≤ 2 ^ 10 := Nat.pow_le_pow_right (by decide) hL
        have h6 : (2 : Nat) ^ 10 = 1024 := by decide
        omega
      have e : pw (pw (Rt L) d) (2 ^ s) = pw (pw W1 512) (2 * o + 1) := by
        rw [← pw_mul, ho, pw_mul]
        refine congrArg (fun x => pw x (2 * o + 1)) ?_
        unfold Rt
        rw [← pw_mul, ← Nat.pow_add, show 10 - L + (L - 1) = 9 from by omega]
      have h1 := pw_near (un_pw un_W1 512) un_m1 half_m (2 * o + 1)
      rw [pw_m1_odd, ← e] at h1
      have e2 : ∀ x : Cq, x - -c1 = c1 + x := fun x => by apply ext_c <;> simp only [re_sub, im_sub, re_add, im_add, re_neg, im_neg] <;> grind
      rw [e2] at h1
      have h2 := geo_small (un_pw (un_Rt L) d) hs h1
      have e3 : ∀ x : Cq, x - c0 = x := fun x => by apply ext_c <;> simp only [re_sub, im_sub, re_c0, im_c0] <;> grind
      rw [e3]
      refine bd_mono h2 ?_
      have h3 : ((2 * o + 1 : Nat) : Rat) ≤ 2048 := Rat.natCast_le_natCast.2 ho2
      have h4 := Rat.mul_le_mul_of_nonneg_right h3 he
      have h5 := mul_le hN h4 (by decide +kernel) h1.1
      unfold tau
      grind
theorem tri {L i j n : Nat} (hL : L ≤ 10) (hi : i < 2 ^ L) (hj : j < 2 ^ L) (hn : n < 2 ^ L) :
    Bd (sm (pw (pw (Rt L) i * pw (Rt L) j * cj (pw (Rt L) n))) (2 ^ L) - peak L (decide (i + j = n) || decide (i + j = n + 2 ^ L))) tau := by
  by_cases c : n ≤ i + j
  · have e : pw (Rt L) i * pw (Rt L) j * cj (pw (Rt L) n) = pw (Rt L) (i + j - n) := by
      rw [← pw_add, show i + j = i + j - n + n from by omega, pw_add, mul_assoc_c, un_inv (un_pw (un_Rt L) n), mul_one_c, Nat.add_sub_cancel]
    rw [e, show (decide (i + j = n) || decide (i + j = n + 2 ^ L)) = (decide (i + j - n = 0) || decide (i + j - n = 2 ^ L)) from by
      rw [decide_eq_decide.2 (show i + j = n ↔ i + j - n = 0 by omega), decide_eq_decide.2 (show i + j = n + 2 ^ L ↔ i + j - n = 2 ^ L by omega)]]
    exact geo_at hL (by omega)
  · have e : pw (Rt L) i * pw (Rt L) j * cj (pw (Rt L) n) = cj (pw (Rt L) (n - (i + j))) := by
      rw [← pw_add, show pw (Rt L) n = pw (Rt L) (i + j) * pw (Rt L) (n - (i + j)) from by rw [← pw_add]; exact congrArg _ (by omega), cj_mul, ← mul_assoc_c, un_inv (un_pw (un_Rt L) (i + j)), one_mul_c]
    have h := geo_at (L := L) (d := n - (i + j)) hL (by omega)
    rw [show (decide (n - (i + j) = 0) || decide (n - (i + j) = 2 ^ L)) = false from by rw [decide_eq_false (by omega), decide_eq_false (by omega)]; rfl] at h
    rw [e, show (decide (i + j = n) || decide (i + j = n + 2 ^ L)) = false from by rw [decide_eq_false (by omega), decide_eq_false (by omega)]; rfl]
    rw [show sm (pw (cj (pw (Rt L) (n - (i + j))))) (2 ^ L) = cj (sm (pw (pw (Rt L) (n - (i + j)))) (2 ^ L)) from by rw [← sm_cj]; exact sm_congr fun k _ => pw_cj _ k]
    have h2 := bd_cj h
    have e3 : ∀ x : Cq, cj (x - peak L false) = cj x - peak L false := fun x => by
      show cj (x - c0) = cj x - c0
      apply ext_c <;> simp only [re_sub, im_sub, re_cj, im_cj, re_c0, im_c0] <;> grind
    rw [e3] at h2
    exact h2
/-- Three sums, in another order. -/
theorem triple (z : Nat → Cq) (V : Cq) (N n : Nat) :
    sm (fun k => (sm (fun i => z i * pw V (i * k)) N * sm (fun j => z j * pw V (j * k)) N) * cj (pw V (k * n))) N = sm (fun i => sm (fun j => (z i * z j) * sm (pw (pw V i * pw V j * cj (pw V n))) N) N) N := by
  have h1 : sm (fun i => sm (fun j => (z i * z j) * sm (pw (pw V i * pw V j * cj (pw V n))) N) N) N = sm (fun i => sm (fun k => sm (fun j => (z i * z j) * pw (pw V i * pw V j * cj (pw V n)) k) N) N) N := sm_congr fun i _ => by
    rw [← sm_swap]
    exact sm_congr fun j _ => (sm_mul _ _ _).symm
  rw [h1, sm_swap]
  refine sm_congr fun k _ => ?_
  have h2 : ∀ i, sm (fun j => (z i * z j) * pw (pw V i * pw V j * cj (pw V n)) k) N = (sm (fun j => z j * pw V (j * k)) N * cj (pw V (k * n))) * (z i * pw V (i * k)) := fun i => by
    have e : ∀ S y x : Cq, (S * y) * x = (x * y) * S := fun S y x => by apply ext_c <;> simp only [re_mul, im_mul] <;> grind
    rw [e, ← sm_mul (z i * pw V (i * k) * cj (pw V (k * n))) (fun j => z j * pw V (j * k)) N]
    refine sm_congr fun j _ => ?_
    rw [pw_mulz, pw_mulz, ← pw_mul, ← pw_mul, pw_cj, ← pw_mul, Nat.mul_comm n k]
    apply ext_c <;> simp only [re_mul, im_mul] <;> grind
  rw [show sm (fun i => sm (fun j => (z i * z j) * pw (pw V i * pw V j * cj (pw V n)) k) N) N = sm (fun i => (sm (fun j => z j * pw V (j * k)) N * cj (pw V (k * n))) * (z i * pw V (i * k))) N from sm_congr fun i _ => h2 i, sm_mul]
  apply ext_c <;> simp only [re_mul, im_mul] <;> grind
/-! ### the imaginary parts -/
def rs (f : Nat → Rat) : Nat → Rat
  | 0 => 0
  | n + 1 => rs f n + f n
theorem rs_congr {f g : Nat → Rat} : ∀ {n : Nat}, (∀ i, i < n → f i = g i) → rs f n = rs g n
  | 0, _ => rfl
  | n + 1, h => by rw [rs, rs, rs_congr (n := n) fun i hi => h i (by omega), h n (Nat.lt_succ_self n)]
theorem rs_add (f g : Nat → Rat) : ∀ n, rs (fun i => f i + g i) n = rs f n + rs g n
  | 0 => by simp only [rs]; grind
  | n + 1 => by
    rw [rs, rs_add f g n, rs, rs]
    grind
theorem rs_mul (c : Rat) (f : Nat → Rat) : ∀ n, rs (fun i => c * f i) n = c * rs f n
  | 0 => by simp only [rs]; grind
  | n + 1 => by
    rw [rs, rs_mul c f n, rs]
    grind
theorem rs_zero : ∀ n, rs (fun _ => 0) n = 0
  | 0 => rfl
  | n + 1 => by rw [rs, rs_zero n]; grind
theorem rs_swap (f : Nat → Nat → Rat) (m : Nat) : ∀ n, rs (fun i => rs (fun j => f i j) m) n = rs (fun j => rs (fun i => f i j) n) m
  | 0 => (rs_zero m).symm
  | n + 1 => by
    rw [rs, rs_swap f m n, ← rs_add]
    rfl
theorem rs_one (x : Nat → Rat) (t : Nat) : ∀ n, rs (fun j => if j = t then x j else 0) n = if t < n then x t else 0
  | 0 => (if_neg (Nat.not_lt_zero t)).symm
  | n + 1 => by
    rw [rs, rs_one x t n]
    by_cases c : n = t
    · subst c
      rw [if_neg (Nat.lt_irrefl n), if_pos rfl, if_pos (Nat.lt_succ_self n)]
      grind
    · rw [if_neg c]
      by_cases d : t < n
      · rw [if_pos d, if_pos (by omega)]
        grind
      · rw [if_neg d, if_neg (by omega)]
        grind
theorem im_sm (f : Nat → Cq) : ∀ n, (sm f n).im = rs (fun i => (f i).im) n
  | 0 => rfl
  | n + 1 => by rw [sm, im_add, im_sm f n, rs]
/-! ### the product of lists -/
def cnv (a b : List Int) (n i : Nat) : Int := if i ≤ n then a.getD i 0 * b.getD (n - i) 0 else 0
def isum (f : Nat → Int) : Nat → Int
  | 0 => 0
  | n + 1 => isum f n + f n
def cnvN (a b : List Int) (n : Nat) : Int := isum (cnv a b n) a.length
theorem isum_rs (f : Nat → Int) : ∀ n, ((isum f n : Int) : Rat) = rs (fun i => ((f i : Int) : Rat)) n
  | 0 => rfl
  | n + 1 => by rw [isum, Rat.intCast_add, isum_rs f n, rs]
theorem isum_more {f : Nat → Int} {m : Nat} (h : ∀ i, m ≤ i → f i = 0) : ∀ n, m ≤ n → isum f n = isum f m
  | 0, hn => by obtain rfl : m = 0 := by omega
                rfl
  | n + 1, hn => by
    by_cases c : m = n + 1
    · rw [c]
    · rw [isum, isum_more h n (by omega), h n (by omega), Int.add_zero]
theorem getD_out {a : List Int} {i : Nat} (h : a.length ≤ i) : a.getD i 0 = 0 := by
  rw [List.getD_eq_getElem?_getD, List.getElem?_eq_none h]
  rfl
def rI (a : List Int) (i : Nat) : Rat := ((a.getD i 0 : Int) : Rat)
theorem rI_out {a : List Int} {i : Nat} (h : a.length ≤ i) : rI a i = 0 := by
  unfold rI
  rw [getD_out h]
  rfl
theorem conv_im {a b : List Int} {L n : Nat} (hn : n < 2 ^ L) (hab : a.length + b.length ≤ 2 ^ L + 1) :
    (sm (fun i => sm (fun j => ((⟨rI a i, rI b i⟩ : Cq) * ⟨rI a j, rI b j⟩) * peak L (decide (i + j = n) || decide (i + j = n + 2 ^ L))) (2 ^ L)) (2 ^ L)).im = tw L * (2 * ((cnvN a b n : Int) : Rat)) := by
  have hin : ∀ i j, i < 2 ^ L → j < 2 ^ L → rI a i * rI b j * (if (decide (i + j = n) || decide (i + j = n + 2 ^ L)) = true then 1 else 0) = if j = n - i then (if i ≤ n then rI a i * rI b j else 0) else 0 := fun i j hi hj => by
    by_cases c1 : a.length ≤ i
    · rw [rI_out c1]
      split <;> split <;> (try split) <;> grind
    · by_cases c2 : b.length ≤ j
      · rw [rI_out c2]
        split <;> split <;> (try split) <;> grind
      · rw [decide_eq_false (show ¬ i + j = n + 2 ^ L by omega), Bool.or_false]
        by_cases c3 : i + j = n
        · rw [decide_eq_true c3, if_pos rfl, if_pos (by omega), if_pos (by omega)]
          grind
        · rw [decide_eq_false c3, if_neg (by decide)]
          by_cases c4 : j = n - i
          · rw [if_pos c4, if_neg (by omega)]
            grind
          · rw [if_neg c4]
            grind
  rw [im_sm]
  have h1 : ∀ i, i < 2 ^ L → (sm (fun j => ((⟨rI a i, rI b i⟩ : Cq) * ⟨rI a j, rI b j⟩) * peak L (decide (i + j = n) || decide (i + j = n + 2 ^ L))) (2 ^ L)).im = tw L * (rs (fun j => rI a i * rI b j * (if (decide (i + j = n) || decide (i + j = n + 2 ^ L)) = true then 1 else 0)) (2 ^ L) + rs (fun j => rI a j * rI b i * (if (decide (i + j = n) || decide (i + j = n + 2 ^ L)) = true then 1 else 0)) (2 ^ L)) := fun i _ => by
    rw [im_sm, ← rs_add, ← rs_mul]
    refine rs_congr fun j _ => ?_
    unfold peak
    rw [im_mul]
    split
    · simp only [re_mul, im_mul]
      grind
    · simp only [re_mul, im_mul, re_c0, im_c0]
      grind
  rw [rs_congr h1, rs_mul, rs_add]
  have h2 : rs (fun i => rs (fun j => rI a j * rI b i * (if (decide (i + j = n) || decide (i + j = n + 2 ^ L)) = true then 1 else 0)) (2 ^ L)) (2 ^ L) = rs (fun i => rs (fun j => rI a i * rI b j * (if (decide (i + j = n) || decide (i + j = n + 2 ^ L)) = true then 1 else 0)) (2 ^ L)) (2 ^ L) := by
    rw [rs_swap]
    refine rs_congr fun i _ => rs_congr fun j _ => ?_
    rw [Nat.add_comm j i]
  have h3 : rs (fun i => rs (fun j => rI a i * rI b j * (if (decide (i + j = n) || decide (i + j = n + 2 ^ L)) = true then 1 else 0)) (2 ^ L)) (2 ^ L) = ((cnvN a b n : Int) : Rat) := by
    unfold cnvN
    rw [← isum_more (f := cnv a b n) (m := a.length) (fun i hi => by
      unfold cnv
      rw [getD_out hi, Int.zero_mul]
      split <;> rfl) (max a.length (2 ^ L)) (by omega)]
    have h4 : isum (cnv a b n) (max a.length (2 ^ L)) = isum (cnv a b n) (2 ^ L) := isum_more (fun i hi => by
      unfold cnv
      rw [if_neg (by omega)]) _ (by omega)
    rw [h4, isum_rs]
    refine rs_congr fun i hi => ?_
    rw [rs_congr fun j hj => hin i j hi hj, rs_one]
    unfold cnv
    by_cases c : i ≤ n
    · rw [if_pos (by omega), if_pos c, if_pos c, Rat.intCast_mul]
      rfl
    · rw [if_neg c, if_neg c]
      split <;> rfl
  rw [h2, h3]
  grind
end Go.Proofs.Ytfibadnkhbjciaa.Pm
namespace Go.Proofs.Ytfibadnkhbjciaa.Pm
open Go Ieee Fl

/-! ### what is read -/
theorem sgn_signed (s : Bool) (K : Nat) : signed s K 0 = if s then -(K : Int) else (K : Int) := by
  unfold signed
  rw [Nat.shiftLeft_zero]
theorem rd_near {q : Nat} {c : Int} (hq : Num q) (h1 : val q ≤ (c : Rat) + 2 / 5) (h2 : (c : Rat) - 2 / 5 ≤ val q) (hc1 : -1000000000 ≤ c) (hc2 : c ≤ 1000000000) : CutTo .f64 (rte q) .i64 c := by
  obtain ⟨K, hK⟩ : ∃ K, Toward.even.cut (sgn q) (md (mag q) <<< (plc (mag q)).toNat) (-plc (mag q)).toNat = K := ⟨_, rfl⟩
  have hr : rte q = F.nearest (sgn q) K 0 := by
    unfold rte
    rw [read_num hq]
    show F.nearest (sgn q) (Toward.even.cut (sgn q) (md (mag q) <<< (plc (mag q)).toNat) (-plc (mag q)).toNat) 0 = _
    rw [hK]
  have hx : 2 * (K : Rat) ≤ 2 * (((md (mag q) : Nat) : Rat) * p2 (plc (mag q))) + 1 ∧ 2 * (((md (mag q) : Nat) : Rat) * p2 (plc (mag q))) ≤ 2 * (K : Rat) + 1 := by
    rw [cut_sign] at hK
    by_cases c0 : 0 ≤ plc (mag q)
    · obtain ⟨s, hs⟩ : ∃ s : Nat, plc (mag q) = (s : Int) := ⟨(plc (mag q)).toNat, by omega⟩
      rw [hs] at hK ⊢
      rw [show (-((s : Nat) : Int)).toNat = 0 from by omega, Int.toNat_natCast, Nat.shiftLeft_eq] at hK
      have e : K = md (mag q) * 2 ^ s := by
        have h3 := cut_near (md (mag q) * 2 ^ s) 0
        rw [hK] at h3
        rw [Nat.pow_zero] at h3
        omega
      rw [e, p2_nat, Rat.natCast_mul]
      constructor <;> grind
    · obtain ⟨d, hd⟩ : ∃ d : Nat, plc (mag q) = -(d : Int) := ⟨(-plc (mag q)).toNat, by omega⟩
      rw [hd] at hK ⊢
      rw [show (- -((d : Nat) : Int)).toNat = d from by omega, show (-((d : Nat) : Int)).toNat = 0 from by omega, Nat.shiftLeft_zero] at hK
      obtain ⟨h3, h4⟩ := cut_near (md (mag q)) d
      rw [hK] at h3 h4
      have h5 := Rat.natCast_le_natCast.2 h3
      have h6 := Rat.natCast_le_natCast.2 h4
      simp only [Rat.natCast_add, Rat.natCast_mul] at h5 h6
      have hp := p2_pos (-(d : Int))
      have h7 := Rat.mul_le_mul_of_nonneg_right h5 (Rat.le_of_lt hp)
      have h8 := Rat.mul_le_mul_of_nonneg_right h6 (Rat.le_of_lt hp)
      have h9 : ((2 ^ d : Nat) : Rat) * p2 (-(d : Int)) = 1 := by
        rw [← p2_nat, ← p2_add, show (d : Int) + -(d : Int) = 0 from by omega]
        decide +kernel
      have h10 : ((2 : Nat) : Rat) = 2 := rfl
      rw [h10] at h7 h8
      generalize ((2 ^ d : Nat) : Rat) = x at *
      generalize p2 (-(d : Int)) = y at *
      generalize ((md (mag q) : Nat) : Rat) = m at *
      have e1 : (2 * (K : Rat) * x + x) * y = 2 * K + 1 := by
        have e : (2 * (K : Rat) * x + x) * y = (2 * K + 1) * (x * y) := by grind
        rw [e, h9, Rat.mul_one]
      have e2 : (2 * m + x) * y = 2 * (m * y) + 1 := by
        have e : (2 * m + x) * y = 2 * (m * y) + x * y := by grind
        rw [e, h9]
      have e3 : 2 * (K : Rat) * x * y = 2 * K := by
        have e : 2 * (K : Rat) * x * y = 2 * K * (x * y) := by grind
        rw [e, h9, Rat.mul_one]
      rw [e1] at h7
      rw [e2, e3] at h8
      constructor <;> grind
  have hv : val q = if sgn q then -(((md (mag q) : Nat) : Rat) * p2 (plc (mag q))) else ((md (mag q) : Nat) : Rat) * p2 (plc (mag q)) := rfl
  have hcK : (if sgn q then -(K : Int) else (K : Int)) = c := by
    have h3 : (((if sgn q then -(K : Int) else (K : Int)) - c : Int) : Rat) < 1 ∧ -1 < (((if sgn q then -(K : Int) else (K : Int)) - c : Int) : Rat) := by
      rw [Rat.intCast_sub]
      cases hs : sgn q
      · rw [hs] at hv
        simp only [Bool.false_eq_true, if_false] at hv ⊢
        rw [Rat.intCast_natCast]
        constructor <;> grind
      · rw [hs] at hv
        simp only [if_true] at hv ⊢
        rw [Rat.intCast_neg, Rat.intCast_natCast]
        constructor <;> grind
    have h4 : (if sgn q then -(K : Int) else (K : Int)) - c < 1 := Rat.intCast_lt_intCast.1 h3.1
    have h5 : -1 < (if sgn q then -(K : Int) else (K : Int)) - c := Rat.intCast_lt_intCast.1 h3.2
    omega
  have hKb : K < 9007199254740992 := by
    split at hcK <;> omega
  obtain ⟨w1, w2⟩ := whole hKb
  rw [hr, near_sign]
  obtain ⟨n1, n2⟩ := wd_mag (s := sgn q) (show F.nearest false K 0 < 9223372036854775808 by omega)
  unfold CutTo
  refine ⟨?_, by show (-9223372036854775808 : Int) ≤ c; omega, by show c ≤ (9223372036854775807 : Int); omega⟩
  show (F.read (Fl.wd (sgn q) (F.nearest false K 0))).toInt .zero = some c
  rw [read_fin (by rw [n1]; exact w1), n1, n2]
  show some (signed (sgn q) (Toward.zero.cut (sgn q) (md (F.nearest false K 0) <<< (plc (F.nearest false K 0)).toNat) (-plc (F.nearest false K 0)).toNat) 0) = some c
  rw [cut_whole (sgn q) w2, sgn_signed, hcK]
/-! ### a row changed in each place -/
theorem chO_ok {f : FC → Option FC} {P : Nat → FC → Prop} : ∀ (m i : Nat) (o : List FC), i + m = o.length → (∀ k, i ≤ k → k < o.length → ∃ p, f (o.getD k (0, 0)) = some p ∧ P k p) →
    ∃ r, chO f m i o = some r ∧ r.length = o.length ∧ (∀ k, k < i → r.getD k (0, 0) = o.getD k (0, 0)) ∧ ∀ k, i ≤ k → k < o.length → P k (r.getD k (0, 0))
  | 0, i, o, hi, _ => ⟨o, rfl, rfl, fun _ _ => rfl, fun k h1 h2 => by omega⟩
  | m + 1, i, o, hi, h => by
    obtain ⟨p, h1, h2⟩ := h i (Nat.le_refl _) (by omega)
    obtain ⟨r, r1, r2, r3, r4⟩ := chO_ok (f := f) (P := P) m (i + 1) (o.set i p) (by rw [List.length_set]; omega) (fun k e1 e2 => by
      rw [List.length_set] at e2
      rw [getD_set_ne p (show i ≠ k by omega)]
      exact h k (by omega) e2)
    rw [List.length_set] at r2 r4
    refine ⟨r, ?_, r2, fun k hk => ?_, fun k e1 e2 => ?_⟩
    · rw [chO, h1]
      exact r1
    · rw [r3 k (by omega), getD_set_ne p (show i ≠ k by omega)]
    · by_cases c : k = i
      · subst c
        rw [r3 k (by omega), getD_set_self p (by omega)]
        exact h2
      · exact r4 k (by omega) e2
/-! ### the factors -/
theorem fl0_val {a : List Int} (h : ∀ i, i < a.length → -512 ≤ a.getD i 0 ∧ a.getD i 0 ≤ 512) (i : Nat) : Num (fl0 a i) ∧ val (fl0 a i) = rI a i ∧ -512 ≤ rI a i ∧ rI a i ≤ 512 := by
  unfold fl0 rI
  by_cases c : i < a.length
  · rw [if_pos c]
    obtain ⟨h1, h2⟩ := h i c
    obtain ⟨h3, h4⟩ := int_val (n := a.getD i 0) (by omega) (by omega)
    exact ⟨h3, h4, Rat.intCast_le_intCast.2 h1, Rat.intCast_le_intCast.2 h2⟩
  · rw [if_neg c, getD_out (by omega)]
    exact ⟨⟨by decide, by decide⟩, by decide +kernel, by decide, by decide⟩
theorem both_at (a b : List Int) {n i : Nat} (h : i < n) : (bothD a b n n).getD i (0, 0) = (fl0 a i, fl0 b i) := by
  simp [bothD, List.getD_eq_getElem?_getD, h]
theorem both_out (a b : List Int) {n i : Nat} (h : ¬ i < n) : (bothD a b n n).getD i (0, 0) = (0, 0) := by
  rw [List.getD_eq_getElem?_getD, List.getElem?_eq_none (by rw [bothD_len]; omega)]
  rfl
theorem zero_num : Num 0 := ⟨by decide, by decide⟩
theorem cnv_bd {a b : List Int} (ha : ∀ i, i < a.length → -512 ≤ a.getD i 0 ∧ a.getD i 0 ≤ 512) (hb : ∀ i, i < b.length → -512 ≤ b.getD i 0 ∧ b.getD i 0 ≤ 512) (n : Nat) : ∀ m : Nat, -(262144 * (m : Int)) ≤ isum (cnv a b n) m ∧ isum (cnv a b n) m ≤ 262144 * (m : Int)
  | 0 => by rw [isum]; omega
  | m + 1 => by
    have ih := cnv_bd ha hb n m
    have h : ∀ (l : List Int), (∀ i, i < l.length → -512 ≤ l.getD i 0 ∧ l.getD i 0 ≤ 512) → ∀ i, -512 ≤ l.getD i 0 ∧ l.getD i 0 ≤ 512 := fun l hl i => by
      by_cases c : i < l.length
      · exact hl i c
      · rw [getD_out (by omega)]; omega
    have h1 : -262144 ≤ cnv a b n m ∧ cnv a b n m ≤ 262144 := by
      unfold cnv
      split
      · obtain ⟨x1, x2⟩ := h a ha m
        obtain ⟨y1, y2⟩ := h b hb (n - m)
        generalize a.getD m 0 = x at *
        generalize b.getD (n - m) 0 = y at *
        have e1 := Int.mul_nonneg (show 0 ≤ 512 - x by omega) (show 0 ≤ 512 - y by omega)
        have e2 := Int.mul_nonneg (show 0 ≤ 512 + x by omega) (show 0 ≤ 512 + y by omega)
        have e3 := Int.mul_nonneg (show 0 ≤ 512 - x by omega) (show 0 ≤ 512 + y by omega)
        have e4 := Int.mul_nonneg (show 0 ≤ 512 + x by omega) (show 0 ≤ 512 - y by omega)
        simp only [Int.sub_mul, Int.mul_sub, Int.add_mul, Int.mul_add] at e1 e2 e3 e4
        constructor <;> omega
      · omega
    rw [isum]
    omega
end Go.Proofs.Ytfibadnkhbjciaa.Pm
namespace Go.Proofs.Ytfibadnkhbjciaa.Pm
open Go Ieee Fl

theorem gl_le10 {l : Nat} (h : l ≤ 10) : gl l ≤ 3634 := by
  have h1 := tw_le10 h
  have h2 : (l : Rat) ≤ 10 := Rat.natCast_le_natCast.2 h
  unfold gl
  grind
theorem ee_le {M : Rat} {l : Nat} {B : Rat} (h : l ≤ 10) (h0 : 0 ≤ tw l * M) (hB : tw l * M ≤ B) : EE M l ≤ B * (1 / 9007199254740992) * 3634 := by
  unfold EE
  have h1 := Rat.mul_le_mul_of_nonneg_right hB (Rat.le_of_lt uu_pos)
  have h2 := mul_le h1 (gl_le10 h) (Rat.le_trans (Rat.mul_nonneg h0 (Rat.le_of_lt uu_pos)) h1) (gl_nn l)
  rw [uu_eq] at *
  exact h2
theorem ok_num {e : Rat} {p : FC} {z : Cq} (h : Ok e p z) : Num p.1 ∧ Num p.2 := ⟨h.1, h.2.1⟩
theorem low1 : p2 (-1022) ≤ 1 := by decide +kernel
theorem high1 : (10000000000000000 : Rat) ≤ p2 200 := by decide +kernel
theorem high2 : p2 200 ≤ p2 800 := p2_mono (by decide)
theorem high3 : p2 200 ≤ p2 900 := p2_mono (by decide)
/-- One number squared. -/
theorem sq_one {X E : Rat} {p : FC} {z : Cq} (hX1 : 725 ≤ X) (hX2 : X ≤ 742400) (hE : E ≤ 3 / 10000000) (hz : Bd z X) (hp : Ok E p z) : ∃ q, sqC p = some q ∧ Ok (223 / 500) q (z * z) := by
  obtain ⟨h1, h2, h3⟩ := hp
  have hE0 := h3.1
  have b := bd_near h3 hz
  have hXX : X * X ≤ 742400 * 742400 := sq_le_sq (by grind) hX2
  have hXX1 : 725 * 725 ≤ X * X := sq_le_sq (by decide) hX1
  have hXE : X * E ≤ 742400 * (3 / 10000000) := mul_le hX2 hE (by decide) hE0
  have hEE : E * E ≤ 3 / 10000000 * (3 / 10000000) := mul_le hE hE (by decide +kernel) hE0
  have hl := low1
  have hh := high1
  have hh2 := high2
  obtain ⟨q, hq, n1, n2, n3⟩ := cmul_ok (p := p) (q := p) ⟨h1, h2⟩ ⟨h1, h2⟩ b b (R := 1001 / 1000 * (X * X)) (by grind) (by grind) (by grind)
  refine ⟨q, hq, n1, n2, ?_⟩
  have e : cval p * cval p - z * z = (cval p - z) * (cval p + z) := by apply ext_c <;> simp only [re_sub, im_sub, re_mul, im_mul, re_add, im_add] <;> grind
  have g := bd_mul h3 (bd_add b hz)
  rw [← e] at g
  refine bd_mono (bd_via n3 g) ?_
  rw [uu_eq]
  grind
theorem cval_mir {p : FC} (h1 : Num p.1) (h2 : Num p.2) : Num (mirC p).1 ∧ Num (mirC p).2 ∧ cval (mirC p) = cj (cval p) := by
  obtain ⟨h3, h4⟩ := neg_ok h2
  refine ⟨h1, h3, ?_⟩
  apply ext_c
  · rfl
  · exact h4
theorem nf_read : ∀ L, L < 13 → F.read (nfL L) = .number false 4503599627370496 ((L : Int) - 52) := by decide +kernel
theorem p2_tw (L : Nat) : tw L * p2 (-(L : Int)) = 1 := by
  unfold tw
  rw [← p2_nat, ← p2_add, show (L : Int) + -(L : Int) = 0 from by omega]
  decide +kernel
/-- One number shared out. -/
theorem div_one {L : Nat} {p : FC} {z : Cq} {B E : Rat} (hL : L ≤ 10) (hp : Ok E p z) (hz : Bd z (tw L * B)) (hE : E ≤ tw L * B) (hB : 1 ≤ B) (hB2 : B ≤ 600000000000) : ∃ q, divC (nfL L) p = some q ∧ Num q.2 ∧ Nr (val q.2) (-(cval p).im * p2 (-(L : Int))) (2 * B * uu) := by
  obtain ⟨h1, h2, h3⟩ := hp
  obtain ⟨h4, h5⟩ := neg_ok h2
  have b := bd_near h3 hz
  have hi := p2_pos (-(L : Int))
  have hT := p2_tw L
  have e0 : -52 - ((L : Int) - 52) = -(L : Int) := by omega
  have hb : ∀ x : Rat, -(tw L * B + E) ≤ x → x ≤ tw L * B + E → -(2 * B) ≤ x * p2 (-(L : Int)) ∧ x * p2 (-(L : Int)) ≤ 2 * B := fun x x1 x2 => by
    have y1 := Rat.mul_le_mul_of_nonneg_right (show x ≤ 2 * B * tw L by grind) (Rat.le_of_lt hi)
    have y2 := Rat.mul_le_mul_of_nonneg_right (show -x ≤ 2 * B * tw L by grind) (Rat.le_of_lt hi)
    rw [Rat.mul_assoc (2 * B), hT, Rat.mul_one] at y1 y2
    constructor <;> grind
  have hl := low1
  have hh := high1
  have hh3 := high3
  obtain ⟨b1, b2⟩ := bd_re b
  obtain ⟨b3, b4⟩ := bd_im b
  obtain ⟨x1, x2⟩ := hb (val p.1) b1 b2
  obtain ⟨y1, y2⟩ := hb (val (Op.negFloat .f64 p.2)) (by rw [h5]; exact Rat.neg_le_neg b4) (by rw [h5]; show -(cval p).im ≤ _; grind)
  rw [← e0] at x1 x2 y1 y2
  obtain ⟨r1, r2, _, _⟩ := div_ok h1 (nf_read L (by omega)) x1 x2 (by grind) (by grind)
  obtain ⟨s1, s2, s3, s4⟩ := div_ok h4 (nf_read L (by omega)) y1 y2 (by grind) (by grind)
  rw [e0, h5] at s4
  refine ⟨(r1, s1), ?_, s3, s4⟩
  unfold divC
  have t1 : FloatKind.f64.format.div p.1 (nfL L) = some r1 := r2
  have t2 : FloatKind.f64.format.div (Op.negFloat .f64 p.2) (nfL L) = some s1 := s2
  rw [t1, Option.bind_some, t2, Option.bind_some]
theorem mir_at {f : List FC} {n : Nat} (h : n < f.length) : (mirL f).getD n (0, 0) = mirC (f.getD n (0, 0)) := by
  simp [mirL, List.getD_eq_getElem?_getD, h]
theorem mir_out {f : List FC} {n : Nat} (h : ¬ n < f.length) : (mirL f).getD n (0, 0) = (0, 0) := by
  rw [List.getD_eq_getElem?_getD, List.getElem?_eq_none (by rw [mirL_len]; omega)]
  rfl
theorem two_read : F.read 4611686018427387904 = .number false 4503599627370496 (-51) := by decide +kernel
theorem p2_m1 : p2 (-52 - -51) = 1 / 2 := by decide +kernel
/-- THE PRODUCT BY WAVES IS THE PRODUCT. -/
theorem wave_ok {a b : List Int} (ha : wholeE a = 0) (hb : wholeE b = 0) : ∃ f, waveO a b = some f ∧ ∀ n, n < a.length + b.length - 1 → RdOk (f.getD n (0, 0)).2 (cnvN a b n) := by
  obtain ⟨la1, la2, haB⟩ := wholeE_zero ha
  obtain ⟨lb1, lb2, hbB⟩ := wholeE_zero hb
  obtain ⟨hLf, hL⟩ := len_fit (x := a.length + b.length - 1 - 1) (by omega)
  unfold waveO
  rw [show lenN (a.length + b.length - 1 - 1) = lgN a b from rfl] at hLf hL
  generalize lgN a b = L at *
  have hT1 := tw_pos L
  have hT2 := tw_le10 hL
  have hl := low1
  have hh := high1
  -- what is taken apart
  have hz : ∀ i, i < 2 ^ L → zAt (bothD a b (2 ^ L) (2 ^ L)) i = ⟨rI a i, rI b i⟩ := fun i hi => by
    unfold zAt
    rw [both_at a b hi]
    apply ext_c
    · exact (fl0_val haB i).2.1
    · exact (fl0_val hbB i).2.1
  have hnum : ∀ i, Num ((bothD a b (2 ^ L) (2 ^ L)).getD i (0, 0)).1 ∧ Num ((bothD a b (2 ^ L) (2 ^ L)).getD i (0, 0)).2 := fun i => by
    by_cases c : i < 2 ^ L
    · rw [both_at a b c]
      exact ⟨(fl0_val haB i).1, (fl0_val hbB i).1⟩
    · rw [both_out a b c]
      exact ⟨zero_num, zero_num⟩
  have hM : ∀ i, Bd (zAt (bothD a b (2 ^ L) (2 ^ L)) i) 725 := fun i => by
    by_cases c : i < 2 ^ L
    · rw [hz i c]
      obtain ⟨_, _, x1, x2⟩ := fl0_val haB i
      obtain ⟨_, _, y1, y2⟩ := fl0_val hbB i
      refine ⟨by decide, ?_⟩
      have h1 := abs_sq x1 x2
      have h2 := abs_sq y1 y2
      unfold nq
      grind
    · unfold zAt
      rw [both_out a b c, zval]
      exact bd_zero (by decide)
  obtain ⟨f1, h1, h2⟩ := apart_ok (L := L) (M := 725) hL (by decide) (by grind) hnum hM
  have hX1 : 725 ≤ tw L * 725 := by grind
  have hX2 : tw L * 725 ≤ 742400 := by grind
  have hD : ∀ k, Bd (Dft L (bothD a b (2 ^ L) (2 ^ L)) k) (tw L * 725) := fun k => by
    have h : Bd (Dft L (bothD a b (2 ^ L) (2 ^ L)) k) (tw L * (725 * 1)) := sm_bd fun j _ => bd_mul (hM j) (un_bd (un_pw (un_Rt L) _))
    rw [Rat.mul_one] at h
    exact h
  have hE1 : EE 725 L ≤ 3 / 10000000 := by
    have h := ee_le (M := 725) hL (by grind) hX2
    refine Rat.le_trans h (by decide +kernel)
  -- squared
  have hf1 := apartO_len h1
  obtain ⟨f2, s1, s2, _, s3⟩ := chO_ok (f := sqC) (P := fun k q => Ok (223 / 500) q (Dft L (bothD a b (2 ^ L) (2 ^ L)) k * Dft L (bothD a b (2 ^ L) (2 ^ L)) k)) (2 ^ L) 0 f1 (by omega) (fun k _ hk => sq_one hX1 hX2 hE1 (hD k) (h2 k (by omega)))
  rw [hf1] at s2 s3
  have hXX : tw L * 725 * (tw L * 725) ≤ 742400 * 742400 := sq_le_sq (by grind) hX2
  have hXX1 : 725 * 725 ≤ tw L * 725 * (tw L * 725) := sq_le_sq (by decide) hX1
  obtain ⟨M2, hM2⟩ : ∃ M2, M2 = 1002 / 1000 * (tw L * 725 * (tw L * 725)) := ⟨_, rfl⟩
  have hM21 : 1 ≤ M2 := by grind
  have hM22 : M2 ≤ 552300000000 := by grind
  -- mirrored
  have hmz : ∀ k, k < 2 ^ L → Bd (zAt (mirL f2) k - cj (Dft L (bothD a b (2 ^ L) (2 ^ L)) k * Dft L (bothD a b (2 ^ L) (2 ^ L)) k)) (223 / 500) := fun k hk => by
    have h3 := s3 k (Nat.zero_le _) hk
    obtain ⟨_, _, h5⟩ := cval_mir h3.1 h3.2.1
    unfold zAt
    rw [mir_at (by omega), h5]
    have h6 := bd_cj h3.2.2
    have e : ∀ x y : Cq, cj (x - y) = cj x - cj y := fun x y => by apply ext_c <;> simp only [re_sub, im_sub, re_cj, im_cj] <;> grind
    rw [e] at h6
    exact h6
  have hmn : ∀ i, Num ((mirL f2).getD i (0, 0)).1 ∧ Num ((mirL f2).getD i (0, 0)).2 := fun i => by
    by_cases c : i < 2 ^ L
    · have h3 := s3 i (Nat.zero_le _) c
      obtain ⟨g1, g2, _⟩ := cval_mir h3.1 h3.2.1
      rw [mir_at (by omega)]
      exact ⟨g1, g2⟩
    · rw [mir_out (by omega)]
      exact ⟨zero_num, zero_num⟩
  have hmM : ∀ i, Bd (zAt (mirL f2) i) M2 := fun i => by
    by_cases c : i < 2 ^ L
    · have h3 := bd_near (hmz i c) (bd_cj (bd_mul (hD i) (hD i)))
      exact bd_mono h3 (by grind)
    · unfold zAt
      rw [mir_out (by omega), zval]
      exact bd_zero (by grind)
  obtain ⟨r, t1, t2⟩ := apart_ok (L := L) (M := M2) hL hM21 (by grind) hmn hmM
  have hD2 : ∀ n, Bd (Dft L (mirL f2) n) (tw L * M2) := fun n => by
    have h : Bd (Dft L (mirL f2) n) (tw L * (M2 * 1)) := sm_bd fun j _ => bd_mul (hmM j) (un_bd (un_pw (un_Rt L) _))
    rw [Rat.mul_one] at h
    exact h
  have hg := gl_le10 hL
  have hg0 := gl_nn L
  have hG : uu * gl L ≤ 1 / 2000000000000 := by
    have h := mul_le (show uu ≤ 1 / 9007199254740992 by rw [uu_eq]; exact Rat.le_refl) hg (by decide +kernel) hg0
    exact Rat.le_trans h (by decide +kernel)
  have hE2 : EE M2 L ≤ tw L * M2 := by
    unfold EE
    have h := Rat.mul_le_mul_of_nonneg_left hG (show 0 ≤ tw L * M2 from Rat.mul_nonneg (by grind) (by grind))
    have h7 : 0 ≤ tw L * M2 := Rat.mul_nonneg (by grind) (by grind)
    grind
  have hr := apartO_len t1
  obtain ⟨f, u1, u2, _, u3⟩ := chO_ok (f := divC (nfL L)) (P := fun n q => Num q.2 ∧ Nr (val q.2) (-(cval (r.getD n (0, 0))).im * p2 (-(L : Int))) (2 * M2 * uu)) (2 ^ L) 0 r (by omega) (fun n _ hn => div_one hL (t2 n (by omega)) (hD2 n) hE2 hM21 (by grind))
  rw [hr] at u2 u3
  refine ⟨f, ?_, fun n hn => ?_⟩
  · rw [h1, Option.bind_some, s1, Option.bind_some]
    unfold togO
    rw [t1, Option.bind_some]
    exact u1
  · have hnL : n < 2 ^ L := by omega
    obtain ⟨v1, v2⟩ := u3 n (Nat.zero_le _) hnL
    -- without rounding
    have w1 := (t2 n hnL).2.2
    have w2 : Bd (Dft L (mirL f2) n - sm (fun k => cj (Dft L (bothD a b (2 ^ L) (2 ^ L)) k * Dft L (bothD a b (2 ^ L) (2 ^ L)) k) * pw (Rt L) (k * n)) (2 ^ L)) (tw L * (223 / 500 * 1)) := sm_near fun k hk => by
      have h3 := bd_mul (hmz k hk) (un_bd (un_pw (un_Rt L) (k * n)))
      have e : ∀ x y d : Cq, (x - y) * d = x * d - y * d := fun x y d => by apply ext_c <;> simp only [re_sub, im_sub, re_mul, im_mul] <;> grind
      rw [e] at h3
      exact h3
    have w3 : sm (fun k => cj (Dft L (bothD a b (2 ^ L) (2 ^ L)) k * Dft L (bothD a b (2 ^ L) (2 ^ L)) k) * pw (Rt L) (k * n)) (2 ^ L) = cj (sm (fun i => sm (fun j => ((⟨rI a i, rI b i⟩ : Cq) * ⟨rI a j, rI b j⟩) * sm (pw (pw (Rt L) i * pw (Rt L) j * cj (pw (Rt L) n))) (2 ^ L)) (2 ^ L)) (2 ^ L)) := by
      rw [← triple (fun i => (⟨rI a i, rI b i⟩ : Cq)) (Rt L) (2 ^ L) n, ← sm_cj]
      refine sm_congr fun k hk => ?_
      have e : Dft L (bothD a b (2 ^ L) (2 ^ L)) k = sm (fun i => (⟨rI a i, rI b i⟩ : Cq) * pw (Rt L) (i * k)) (2 ^ L) := sm_congr fun i hi => by rw [hz i hi]
      rw [e, cj_mul _ (cj (pw (Rt L) (k * n))), cj_cj]
    have w4 : Bd (sm (fun i => sm (fun j => ((⟨rI a i, rI b i⟩ : Cq) * ⟨rI a j, rI b j⟩) * sm (pw (pw (Rt L) i * pw (Rt L) j * cj (pw (Rt L) n))) (2 ^ L)) (2 ^ L)) (2 ^ L) - sm (fun i => sm (fun j => ((⟨rI a i, rI b i⟩ : Cq) * ⟨rI a j, rI b j⟩) * peak L (decide (i + j = n) || decide (i + j = n + 2 ^ L))) (2 ^ L)) (2 ^ L)) (tw L * (tw L * (725 * 725 * tau))) := sm_near fun i hi => sm_near fun j hj => by
      have h3 := tri hL hi hj hnL
      have zi := hM i
      have zj := hM j
      rw [hz i hi] at zi
      rw [hz j hj] at zj
      have h4 := bd_mul (bd_mul zi zj) h3
      have e : ∀ x y d : Cq, x * (y - d) = x * y - x * d := fun x y d => by apply ext_c <;> simp only [re_sub, im_sub, re_mul, im_mul] <;> grind
      rw [e] at h4
      exact h4
    have w5 := conv_im (a := a) (b := b) hnL (by omega)
    rw [w3] at w2
    generalize sm (fun i => sm (fun j => ((⟨rI a i, rI b i⟩ : Cq) * ⟨rI a j, rI b j⟩) * sm (pw (pw (Rt L) i * pw (Rt L) j * cj (pw (Rt L) n))) (2 ^ L)) (2 ^ L)) (2 ^ L) = S at *
    generalize sm (fun i => sm (fun j => ((⟨rI a i, rI b i⟩ : Cq) * ⟨rI a j, rI b j⟩) * peak L (decide (i + j = n) || decide (i + j = n + 2 ^ L))) (2 ^ L)) (2 ^ L) = P at *
    have w6 := bd_im (bd_via w1 w2)
    have w7 := bd_im w4
    simp only [im_sub, im_cj] at w6 w7
    rw [w5] at w7
    have hi := p2_pos (-(L : Int))
    have hT := p2_tw L
    generalize hx : (cval (r.getD n (0, 0))).im = x at *
    generalize p2 (-(L : Int)) = iT at *
    obtain ⟨c, hc⟩ : ∃ c : Rat, c = ((cnvN a b n : Int) : Rat) := ⟨_, rfl⟩
    rw [← hc] at w7
    have htau : 1024 * (725 * 725 * tau) ≤ 1 / 1000000 := by decide +kernel
    have htau0 : (0 : Rat) ≤ 725 * 725 * tau := by decide +kernel
    have m1 : tw L * (725 * 725 * tau) ≤ 1 / 1000000 := Rat.le_trans (Rat.mul_le_mul_of_nonneg_right hT2 htau0) htau
    have m2 : M2 * (uu * gl L) ≤ 2782 / 10000 := by
      have h := mul_le hM22 hG (by decide) (Rat.mul_nonneg (Rat.le_of_lt uu_pos) hg0)
      exact Rat.le_trans h (by decide +kernel)
    have hsum : EE M2 L + tw L * (223 / 500 * 1) + tw L * (tw L * (725 * 725 * tau)) ≤ tw L * (7243 / 10000) := by
      unfold EE
      have e : tw L * M2 * uu * gl L = tw L * (M2 * (uu * gl L)) := by grind
      rw [e]
      have h := Rat.mul_le_mul_of_nonneg_left (show M2 * (uu * gl L) + 223 / 500 * 1 + tw L * (725 * 725 * tau) ≤ 7243 / 10000 by grind) (show 0 ≤ tw L by grind)
      grind
    have y1 : -x ≤ tw L * (2 * c + 7243 / 10000) := by grind
    have y2 : tw L * (2 * c - 7243 / 10000) ≤ -x := by grind
    have y3 := Rat.mul_le_mul_of_nonneg_right y1 (Rat.le_of_lt hi)
    have y4 := Rat.mul_le_mul_of_nonneg_right y2 (Rat.le_of_lt hi)
    have e3 : ∀ d : Rat, tw L * d * iT = d := fun d => by
      have : tw L * d * iT = d * (tw L * iT) := by grind
      rw [this, hT, Rat.mul_one]
    rw [e3] at y3 y4
    have hu : 2 * M2 * uu ≤ 1 / 1000 := by
      rw [uu_eq]
      grind
    unfold Nr at v2
    have cb := cnv_bd haB hbB n a.length
    have g1 : (-134217728 : Int) ≤ cnvN a b n := by unfold cnvN; omega
    have g2 : cnvN a b n ≤ 134217728 := by unfold cnvN; omega
    have g3 : (-134217728 : Rat) ≤ c := by rw [hc]; exact Rat.intCast_le_intCast.2 g1
    have g4 : c ≤ 134217728 := by rw [hc]; exact Rat.intCast_le_intCast.2 g2
    have hh3 := high3
    obtain ⟨q, q1, q2, q3⟩ := div_ok (R := 1000000000) v1 two_read (by rw [p2_m1]; grind) (by rw [p2_m1]; grind) (by grind) (by grind)
    rw [p2_m1] at q3
    unfold Nr at q3
    have hu2 : (1000000000 : Rat) * uu ≤ 1 / 1000 := by rw [uu_eq]; decide +kernel
    exact ⟨q, q1, Nat.le_of_lt q2.1, rd_near q2 (by rw [← hc]; grind) (by rw [← hc]; grind) (by omega) (by omega)⟩
end Go.Proofs.Ytfibadnkhbjciaa.Pm
namespace Go.Proofs.Ytfibadnkhbjciaa.Pm
open Go

def cnvL (a b : List Int) : List Int := (List.range (a.length + b.length - 1)).map (cnvN a b)
theorem cnvL_len (a b : List Int) : (cnvL a b).length = a.length + b.length - 1 := by simp [cnvL]
theorem cnvL_at {a b : List Int} {n : Nat} (h : n < a.length + b.length - 1) : (cnvL a b).getD n 0 = cnvN a b n := by
  simp [cnvL, List.getD_eq_getElem?_getD, h]
theorem isum_congr {f g : Nat → Int} : ∀ {n : Nat}, (∀ i, i < n → f i = g i) → isum f n = isum g n
  | 0, _ => rfl
  | n + 1, h => by rw [isum, isum, isum_congr (n := n) fun i hi => h i (by omega), h n (Nat.lt_succ_self n)]
theorem isum_head (f : Nat → Int) : ∀ n, isum f (n + 1) = f 0 + isum (fun i => f (i + 1)) n
  | 0 => by simp only [isum]; omega
  | n + 1 => by
    rw [isum, isum_head f n, isum]
    omega
theorem isum_rev (f : Nat → Int) : ∀ n, isum f (n + 1) = isum (fun i => f (n - i)) (n + 1)
  | 0 => rfl
  | n + 1 => by
    rw [isum_head (fun i => f (n + 1 - i)), isum, isum_rev f n, Nat.sub_zero, Int.add_comm]
    exact congrArg _ (isum_congr fun i hi => by rw [show n + 1 - (i + 1) = n - i from by omega])
theorem isum_zero {f : Nat → Int} : ∀ {n : Nat}, (∀ i, i < n → f i = 0) → isum f n = 0
  | 0, _ => rfl
  | n + 1, h => by rw [isum, isum_zero (n := n) fun i hi => h i (by omega), h n (Nat.lt_succ_self n)]; rfl
theorem isum_split (f : Nat → Int) (m : Nat) : ∀ n, isum f (m + n) = isum f m + isum (fun i => f (m + i)) n
  | 0 => by simp only [isum, Nat.add_zero]; omega
  | n + 1 => by
    rw [← Nat.add_assoc, isum, isum_split f m n, isum]
    omega
theorem isum_add (f g : Nat → Int) : ∀ n, isum (fun i => f i + g i) n = isum f n + isum g n
  | 0 => rfl
  | n + 1 => by
    rw [isum, isum_add f g n, isum, isum]
    omega
theorem cnvN_full (a b : List Int) (n : Nat) : cnvN a b n = isum (cnv a b n) (n + 1) := by
  unfold cnvN
  rw [← isum_more (f := cnv a b n) (m := a.length) (fun i hi => by
    unfold cnv
    rw [getD_out hi, Int.zero_mul]
    split <;> rfl) (max a.length (n + 1)) (by omega)]
  exact isum_more (fun i hi => by
    unfold cnv
    rw [if_neg (by omega)]) _ (by omega)
theorem cnvN_comm (a b : List Int) (n : Nat) : cnvN a b n = cnvN b a n := by
  rw [cnvN_full, cnvN_full, isum_rev]
  refine isum_congr fun i hi => ?_
  unfold cnv
  rw [if_pos (by omega), if_pos (by omega), show n - (n - i) = i from by omega, Int.mul_comm]
theorem cnvL_comm (a b : List Int) : cnvL a b = cnvL b a := by
  unfold cnvL
  rw [Nat.add_comm a.length]
  exact List.map_congr_left fun n _ => cnvN_comm a b n
theorem getD_app (m : Nat) (a : List Int) (i : Nat) : (List.replicate m (0 : Int) ++ a).getD i 0 = if i < m then 0 else a.getD (i - m) 0 := by
  rw [List.getD_eq_getElem?_getD]
  by_cases c : i < m
  · rw [List.getElem?_append_left (by rw [List.length_replicate]; exact c), if_pos c, List.getElem?_replicate, if_pos c]
    rfl
  · rw [List.getElem?_append_right (by rw [List.length_replicate]; omega), if_neg c, List.length_replicate, ← List.getD_eq_getElem?_getD]
theorem cnvN_moved (m : Nat) (a b : List Int) (n : Nat) : cnvN (List.replicate m 0 ++ a) b n = if n < m then 0 else cnvN a b (n - m) := by
  unfold cnvN
  rw [List.length_append, List.length_replicate, isum_split, isum_zero (n := m) (fun i hi => by
    unfold cnv
    rw [getD_app, if_pos hi, Int.zero_mul]
    split <;> rfl), Int.zero_add]
  by_cases c : n < m
  · rw [if_pos c]
    exact isum_zero fun i _ => by
      unfold cnv
      rw [if_neg (by omega)]
  · rw [if_neg c]
    refine isum_congr fun i _ => ?_
    unfold cnv
    rw [getD_app, if_neg (show ¬ m + i < m by omega), show m + i - m = i from by omega]
    by_cases d : m + i ≤ n
    · rw [if_pos d, if_pos (by omega), show n - (m + i) = n - m - i from by omega]
    · rw [if_neg d, if_neg (by omega)]
theorem cnvL_moved (m : Nat) (a b : List Int) (ha : 1 ≤ a.length) (hb : 1 ≤ b.length) : cnvL (List.replicate m 0 ++ a) b = List.replicate m 0 ++ cnvL a b := by
  apply List.ext_getElem
  · rw [cnvL_len, List.length_append, List.length_append, List.length_replicate, cnvL_len]
    omega
  · intro k h1 h2
    rw [cnvL_len, List.length_append, List.length_replicate] at h1
    have e1 : ∀ (l : List Int) (h : k < l.length), l[k] = l.getD k 0 := fun l h => by rw [List.getD_eq_getElem?_getD, List.getElem?_eq_getElem h]; rfl
    rw [e1, e1, cnvL_at (by rw [List.length_append, List.length_replicate]; exact h1), cnvN_moved, getD_app]
    by_cases c : k < m
    · rw [if_pos c, if_pos c]
    · rw [if_neg c, if_neg c, cnvL_at (by omega)]
theorem cnvN_sum {a b c s : List Int} (hs : ∀ i, s.getD i 0 = b.getD i 0 + c.getD i 0) (n : Nat) : cnvN a s n = cnvN a b n + cnvN a c n := by
  unfold cnvN
  rw [← isum_add]
  refine isum_congr fun i _ => ?_
  unfold cnv
  split
  · rw [hs, Int.mul_add]
  · rfl
/-! ### the document's product -/
def pst (a b : List Int) (i k : Nat) : List Int := (List.range (a.length + b.length - 1)).map fun t => isum (cnv a b t) i + if i ≤ t ∧ t < i + k then a.getD i 0 * b.getD (t - i) 0 else 0
theorem pst_len (a b : List Int) (i k : Nat) : (pst a b i k).length = a.length + b.length - 1 := by simp [pst]
theorem pst_zero (a b : List Int) : List.replicate (a.length + b.length - 1) (0 : Int) = pst a b 0 0 := by
  apply List.ext_getElem (by simp [pst])
  intro k h1 h2
  simp [pst, isum]
theorem pst_row (a b : List Int) (i : Nat) : pst a b i b.length = pst a b (i + 1) 0 := by
  unfold pst
  refine List.map_congr_left fun t _ => ?_
  rw [isum, if_neg (show ¬ (i + 1 ≤ t ∧ t < i + 1 + 0) by omega), Int.add_zero]
  unfold cnv
  by_cases c : i ≤ t
  · rw [if_pos c]
    by_cases d : t < i + b.length
    · rw [if_pos ⟨c, d⟩]
    · rw [if_neg (by omega), getD_out (a := b) (by omega), Int.mul_zero]
  · rw [if_neg c, if_neg (by omega)]
theorem pst_end (a b : List Int) : pst a b a.length 0 = cnvL a b := by
  unfold pst cnvL
  refine List.map_congr_left fun t _ => ?_
  rw [if_neg (by omega), Int.add_zero]
  rfl
theorem pst_at {a b : List Int} {i k : Nat} (hi : i < a.length) (hk : k < b.length) : (pst a b i k).getD (i + k) 0 = isum (cnv a b (i + k)) i := by
  have h : i + k < a.length + b.length - 1 := by omega
  simp [pst, List.getD_eq_getElem?_getD, h]
theorem pst_set {a b : List Int} {i k : Nat} (hi : i < a.length) (hk : k < b.length) : (pst a b i k).set (i + k) ((pst a b i k).getD (i + k) 0 + a.getD i 0 * b.getD k 0) = pst a b i (k + 1) := by
  apply List.ext_getElem (by rw [List.length_set, pst_len, pst_len])
  intro t h1 h2
  rw [pst_len] at h2
  rw [List.getElem_set]
  by_cases c : i + k = t
  · rw [if_pos c, pst_at hi hk]
    subst c
    simp only [pst, List.getElem_map, List.getElem_range]
    rw [if_pos (by omega), show i + k - i = k from by omega]
  · rw [if_neg c]
    simp only [pst, List.getElem_map, List.getElem_range]
    by_cases d : i ≤ t ∧ t < i + k
    · rw [if_pos d, if_pos (by omega)]
    · rw [if_neg d, if_neg (by omega)]
theorem pst_store {a b : List Int} {i k : Nat} (hi : i < a.length) (hk : k < b.length) : i + k + 1 ≤ (ints (pst a b i k)).length ∧ splice (ints (pst a b i k)) (i + k) [iv ((pst a b i k).getD (i + k) 0 + a.getD i 0 * b.getD k 0)] = ints (pst a b i (k + 1)) := by
  rw [← pst_set hi hk]
  exact ints_splice (by rw [pst_len]; omega)
theorem fac_bd {l : List Int} (hl : ∀ i, i < l.length → -512 ≤ l.getD i 0 ∧ l.getD i 0 ≤ 512) (i : Nat) : -512 ≤ l.getD i 0 ∧ l.getD i 0 ≤ 512 := by
  by_cases c : i < l.length
  · exact hl i c
  · rw [getD_out (by omega)]; omega
theorem prod_bd {x y : Int} (hx : -512 ≤ x ∧ x ≤ 512) (hy : -512 ≤ y ∧ y ≤ 512) : -262144 ≤ x * y ∧ x * y ≤ 262144 := by
  obtain ⟨x1, x2⟩ := hx
  obtain ⟨y1, y2⟩ := hy
  have e1 := Int.mul_nonneg (show 0 ≤ 512 - x by omega) (show 0 ≤ 512 - y by omega)
  have e2 := Int.mul_nonneg (show 0 ≤ 512 + x by omega) (show 0 ≤ 512 + y by omega)
  have e3 := Int.mul_nonneg (show 0 ≤ 512 - x by omega) (show 0 ≤ 512 + y by omega)
  have e4 := Int.mul_nonneg (show 0 ≤ 512 + x by omega) (show 0 ≤ 512 - y by omega)
  simp only [Int.sub_mul, Int.mul_sub, Int.add_mul, Int.mul_add] at e1 e2 e3 e4
  constructor <;> omega
theorem cnvN_bd {a b : List Int} (ha : wholeE a = 0) (hb : wholeE b = 0) (n : Nat) : -134217728 ≤ cnvN a b n ∧ cnvN a b n ≤ 134217728 := by
  obtain ⟨_, la, h1⟩ := wholeE_zero ha
  obtain ⟨_, _, h2⟩ := wholeE_zero hb
  have := cnv_bd h1 h2 n a.length
  unfold cnvN
  omega
theorem prodE_zero {a b : List Int} (h : prodE a b = 0) : wholeE a = 0 ∧ wholeE b = 0 := by
  unfold prodE at h
  split at h
  · rename_i h1; exact absurd h h1
  · rename_i h1; exact ⟨by omega, h⟩
theorem prodE_ok {a b : List Int} (h1 : wholeE a = 0) (h2 : wholeE b = 0) : prodE a b = 0 := by
  unfold prodE
  rw [if_neg (by omega), h2]
theorem prodE_comm {a b : List Int} (h : prodE a b ≠ 0) : prodE b a ≠ 0 := fun e => by
  obtain ⟨h1, h2⟩ := prodE_zero e
  exact h (prodE_ok h2 h1)
end Go.Proofs.Ytfibadnkhbjciaa.Pm
namespace Go.Proofs.Ytfibadnkhbjciaa.Pm
open Go Go.Proofs.Ytfibadnkhbjciaa.Fl

set_option maxRecDepth 100000 in
set_option maxHeartbeats 4000000 in
theorem ref_whole_pc (l : List Int) (hl : l.length ≤ 9223372036854775807) : PC Try.prog 18 [(.ssl (ints l) 0 l.length)] [] (iv (wholeE l)) [] := by
  refine pc_intro Try.func18 rfl (by kernel_rfl) (Nat.le_of_ble_eq_true rfl) (by kernel_rfl) (l0 := [ps 0 (.ssl (ints l) 0 l.length)]) rfl (fun c0 Bor hc0 => ?_)
  refine T_seq ?_
  refine T_r mixed [] [ps 0 (.ssl (ints l) 0 l.length)] (obs_nil) ?_
  refine T_seq <| T_seq ?_
  by_cases h1 : ((l.length : Nat) : Int) < 1
  · refine T_r mixed [(4, .gd true .no), (5, .gd true .no), (6, .gd true .no), (7, .yes true)] [ps 0 (.ssl (ints l) 0 l.length), ps 12 (bv true)] (obs_cons (dty h1) (obs_cons (dty h1) (obs_cons (dty h1) (obs_cons (dty h1) obs_nil)))) ?_
    refine T_then (b := true) rfl rfl ?_
    refine T_seq ?_
    refine T_r mixed [] [ps 2 (iv 5)] (obs_nil) ?_
    rw [wholeE_many (by omega)]
    exact T_ret fun cx_ a_ hI_ => rt hc0 [ps 2 (iv 5)] [] hI_
  refine T_r mixed [(4, .gd false (.no)), (5, .gd false (.no)), (6, .gd false (.no)), (7, .yes false)] [ps 0 (.ssl (ints l) 0 l.length), ps 12 (bv (decide (512 < ((l.length : Nat) : Int))))] (obs_cons (dtn h1) (obs_cons (dtn h1) (obs_cons (dtn h1) (obs_cons (dtn h1) obs_nil)))) ?_
  by_cases h2 : 512 < ((l.length : Nat) : Int)
  · refine T_th (dty h2) ?_
    refine T_seq ?_
    refine T_r mixed [] [ps 2 (iv 5)] (obs_nil) ?_
    rw [wholeE_many (by omega)]
    exact T_ret fun cx_ a_ hI_ => rt hc0 [ps 2 (iv 5)] [] hI_
  refine T_el (dtn h2) ?_
  refine T_skip <| T_seq <| T_seq ?_
  refine T_r mixed [] [ps 13 (.ssl (ints l) 0 l.length), ps 14 (nv l.length), ps 15 (iv 0)] (obs_nil) ?_
  refine T_block ?_
  refine T_loop (α := {x : Nat // x ≤ l.length ∧ (∀ j, j < x → ¬ (l.getD j 0 < -512) ∧ ¬ (512 < l.getD j 0))}) (fun x => [ps 13 (.ssl (ints l) 0 l.length), ps 14 (nv l.length), ps 15 (nv x.1)]) (fun x => l.length - x.1) 0 ⟨0, ⟨Nat.zero_le _, fun j hj => absurd hj (Nat.not_lt_zero j)⟩⟩ (Wk.ren2 [ps 13 (.ssl (ints l) 0 l.length), ps 14 (nv l.length), ps 15 (nv 0)] 0 hc0 [] rfl rfl (by kernel_rfl) (by kernel_rfl)) ?_
  rintro ⟨i, ⟨hi, hg⟩⟩
  refine T_seq ?_
  refine T_r mixed [] [ps 13 (.ssl (ints l) 0 l.length), ps 14 (nv l.length), ps 15 (nv i), ps 16 (bv (decide (((i : Nat) : Int) < ((l.length : Nat) : Int))))] (obs_nil) ?_
  refine T_seq ?_
  by_cases h3 : ((i : Nat) : Int) < ((l.length : Nat) : Int)
  · refine T_th (dty h3) ?_
    refine T_skip <| T_seq <| T_block <| T_seq ?_
    refine T_r mixed [(0, .nat i), (1, .val (iv (l.getD i 0)))] [ps 4 (iv (l.getD i 0)), ps 13 (.ssl (ints l) 0 l.length), ps 14 (nv l.length), ps 15 (nv i)] (obs_cons (by omega : (0 : Int) ≤ ((i : Nat) : Int) ∧ ((i : Nat) : Int) < ((l.length : Nat) : Int)) (obs_cons (by omega : 0 + (((i : Nat) : Int) : Int).toNat * 1 = i) (obs_cons (ints_at (by omega) : i + 1 ≤ ((ints l)).length ∧ (((ints l)).drop i).take 1 = [(iv (l.getD i 0))]) obs_nil))) ?_
    refine T_seq ?_
    by_cases h4 : 512 < (l.getD i 0)
    · refine T_r mixed [(3, .gd true .no), (4, .gd true .no), (5, .yes true)] [ps 13 (.ssl (ints l) 0 l.length), ps 14 (nv l.length), ps 15 (nv i), ps 24 (bv true)] (obs_cons (dty h4) (obs_cons (dty h4) (obs_cons (dty h4) obs_nil))) ?_
      refine T_then (b := true) rfl rfl ?_
      refine T_seq ?_
      refine T_r mixed [] [ps 2 (iv 3)] (obs_nil) ?_
      rw [wholeE_bad (l := l) (i := i) (by omega) (by omega) (by omega)]
      exact T_ret fun cx_ a_ hI_ => loop_ret (rt hc0 [ps 2 (iv 3)] [] hI_)
    refine T_r mixed [(3, .gd false (.no)), (4, .gd false (.no)), (5, .yes false)] [ps 13 (.ssl (ints l) 0 l.length), ps 14 (nv l.length), ps 15 (nv i), ps 24 (bv (decide ((l.getD i 0) < (-512))))] (obs_cons (dtn h4) (obs_cons (dtn h4) (obs_cons (dtn h4) obs_nil))) ?_
    by_cases h5 : (l.getD i 0) < (-512)
    · refine T_th (dty h5) ?_
      refine T_seq ?_
      refine T_r mixed [] [ps 2 (iv 3)] (obs_nil) ?_
      rw [wholeE_bad (l := l) (i := i) (by omega) (by omega) (by omega)]
      exact T_ret fun cx_ a_ hI_ => loop_ret (rt hc0 [ps 2 (iv 3)] [] hI_)
    refine T_el (dtn h5) ?_
    refine T_skip <| T_blk ?_
    refine T_r mixed [] [ps 13 (.ssl (ints l) 0 l.length), ps 14 (nv l.length), ps 15 (iv (((i : Nat) : Int) + 1))] (obs_cons (by simp only [InK]; omega : InK .i64 (((i : Nat) : Int) + 1)) obs_nil) ?_
    exact T_back ⟨i + 1, ⟨by omega, fun j hj => by by_cases e : j = i; (· subst e; exact ⟨by omega, by omega⟩); (· exact hg j (by omega))⟩⟩ (Wk.ren2 [ps 13 (.ssl (ints l) 0 l.length), ps 14 (nv l.length), ps 15 (nv (i + 1))] 0 hc0 [] rfl rfl (by kernel_rfl) (by kernel_rfl)) (show l.length - (i + 1) < l.length - i from by omega)
  refine T_el (dtn h3) ?_
  refine T_break rfl rfl ?_
  refine T_seq ?_
  refine T_r mixed [] [ps 2 (iv 0)] (obs_nil) ?_
  rw [wholeE_ok (l := l) (by omega) (fun j hj => hg j (by omega))]
  exact T_ret fun cx_ a_ hI_ => rt hc0 [ps 2 (iv 0)] [] hI_
theorem prodX (a b : List Int) (ha : wholeE a = 0) (hb : wholeE b = 0) : PC Try.prog 6 [(.ssl (ints a) 0 a.length), (.ssl (ints b) 0 b.length)] [] (.tup [.osl 0 0 (cnvL a b).length, iv 0]) [some (3, ints (cnvL a b))] := by
  obtain ⟨f, h1, h2⟩ := wave_ok ha hb
  exact prod_pc a b (cnvL a b) ha hb (cnvL_len a b) h1 (fun i hi => by
    rw [cnvL_len] at hi
    rw [cnvL_at hi]
    exact h2 i hi)
set_option maxRecDepth 100000 in
set_option maxHeartbeats 4000000 in
theorem ref_prod_pc (a b : List Int) (ha0 : wholeE a = 0) (hb0 : wholeE b = 0) : PC Try.prog 7 [(.ssl (ints a) 0 a.length), (.ssl (ints b) 0 b.length)] [] (.tup [(.osl 0 0 ((cnvL a b).length)), (iv 0)]) [some (3, (ints (cnvL a b)))] := by
  obtain ⟨hal, hal2, haB⟩ := wholeE_zero ha0
  obtain ⟨hbl, hbl2, hbB⟩ := wholeE_zero hb0
  have hlb : ((a.length : Nat) : Int) + ((b.length : Nat) : Int) - 1 = ((a.length + b.length - 1 : Nat) : Int) := by omega
  refine pc_intro Try.func7 rfl (by kernel_rfl) (Nat.le_of_ble_eq_true rfl) (by kernel_rfl) (l0 := [ps 0 (.ssl (ints a) 0 a.length), ps 1 (.ssl (ints b) 0 b.length)]) rfl (fun c0 Bor hc0 => ?_)
  refine T_seq ?_
  refine T_r mixed [] [ps 0 (.ssl (ints a) 0 a.length), ps 1 (.ssl (ints b) 0 b.length)] (obs_nil) ?_
  refine T_seq <| T_seq ?_
  refine T_r mixed [(1, .call [] [(.ssl (ints a) 0 a.length)] [] (iv 0) [])] [ps 0 (.ssl (ints a) 0 a.length), ps 1 (.ssl (ints b) 0 b.length), ps 6 (iv 0)] (obs_cons (by have h0 := ref_whole_pc a (by omega); rw [ha0] at h0; exact h0 : PC Try.prog 18 [(.ssl (ints a) 0 a.length)] [] (iv 0) []) (obs_cons (rfl : Ren0 24 [(.ssl (ints a) 0 a.length)]) obs_nil)) ?_
  refine T_seq ?_
  refine T_r mixed [] [ps 0 (.ssl (ints a) 0 a.length), ps 1 (.ssl (ints b) 0 b.length), ps 6 (iv 0), ps 16 (bv false)] (obs_nil) ?_
  refine T_else (b := false) rfl rfl ?_
  refine T_skip <| T_seq <| T_seq ?_
  refine T_r mixed [(1, .call [] [(.ssl (ints b) 0 b.length)] [] (iv 0) [])] [ps 0 (.ssl (ints a) 0 a.length), ps 1 (.ssl (ints b) 0 b.length), ps 7 (iv 0)] (obs_cons (by have h0 := ref_whole_pc b (by omega); rw [hb0] at h0; exact h0 : PC Try.prog 18 [(.ssl (ints b) 0 b.length)] [] (iv 0) []) (obs_cons (rfl : Ren0 64 [(.ssl (ints b) 0 b.length)]) obs_nil)) ?_
  refine T_seq ?_
  refine T_r mixed [] [ps 0 (.ssl (ints a) 0 a.length), ps 1 (.ssl (ints b) 0 b.length), ps 7 (iv 0), ps 21 (bv false)] (obs_nil) ?_
  refine T_else (b := false) rfl rfl ?_
  refine T_skip <| T_seq ?_
  refine T_r mixed [(6, .cells (ints (pst a b 0 0)))] [ps 0 (.ssl (ints a) 0 a.length), ps 1 (.ssl (ints b) 0 b.length), ps 8 (.osl 144 0 ((((((a.length : Nat) : Int) + ((b.length : Nat) : Int)) - 1) : Int).toNat)), pb 144 3 (ints (pst a b 0 0))] (obs_cons (by simp only [InK]; omega : InK .i64 (((a.length : Nat) : Int) + ((b.length : Nat) : Int))) (obs_cons (by simp only [InK]; omega : InK .i64 ((((a.length : Nat) : Int) + ((b.length : Nat) : Int)) - 1)) (obs_cons (by omega : (0 : Int) ≤ ((((a.length : Nat) : Int) + ((b.length : Nat) : Int)) - 1) ∧ ((((a.length : Nat) : Int) + ((b.length : Nat) : Int)) - 1) ≤ ((((a.length : Nat) : Int) + ((b.length : Nat) : Int)) - 1) ∧ ((((a.length : Nat) : Int) + ((b.length : Nat) : Int)) - 1) ≤ 140737488355328 ∧ ((8 : Nat) : Int) * ((((a.length : Nat) : Int) + ((b.length : Nat) : Int)) - 1) ≤ 140737488355328) (obs_cons (by rw [hlb, Int.toNat_natCast, zeros_ints, pst_zero] : zeros [(iv 0)] (((((a.length : Nat) : Int) + ((b.length : Nat) : Int)) - 1) : Int).toNat = (ints (pst a b 0 0))) obs_nil)))) ?_
  refine T_seq <| T_seq ?_
  refine T_r mixed [] [ps 1 (.ssl (ints b) 0 b.length), ps 8 (.osl 144 0 ((((((a.length : Nat) : Int) + ((b.length : Nat) : Int)) - 1) : Int).toNat)), ps 30 (.ssl (ints a) 0 a.length), ps 31 (nv a.length), ps 32 (iv 0), pb 144 3 (ints (pst a b 0 0))] (obs_nil) ?_
  refine T_block ?_
  refine T_wk (Wk.eq (show _ = [ps 1 (.ssl (ints b) 0 b.length), ps 8 (.osl 144 0 (a.length + b.length - 1)), ps 30 (.ssl (ints a) 0 a.length), ps 31 (nv a.length), ps 32 (iv 0), pb 144 3 (ints (pst a b 0 0))] from by simp only [hlb, ← pst_zero, Int.toNat_natCast])) ?_
  refine T_loop (α := {x : Nat // x ≤ a.length}) (fun x => [ps 1 (.ssl (ints b) 0 b.length), ps 8 (.osl 0 0 (a.length + b.length - 1)), ps 30 (.ssl (ints a) 0 a.length), ps 31 (nv a.length), ps 32 (nv x.1), pb 0 3 (ints (pst a b x.1 0))]) (fun x => a.length - x.1) 1 ⟨0, Nat.zero_le _⟩ (Wk.ren3 [ps 1 (.ssl (ints b) 0 b.length), ps 8 (.osl 0 0 (a.length + b.length - 1)), ps 30 (.ssl (ints a) 0 a.length), ps 31 (nv a.length), ps 32 (nv 0), pb 0 3 (ints (pst a b 0 0))] 0 hc0 [144] [(kb 0, (ints (pst a b 0 0)))] (obs_cons (ints_shd _) (obs_nil)) (by kernel_rfl) rfl rfl (by kernel_rfl) (by kernel_rfl)) ?_
  rintro ⟨i, hi⟩
  refine T_seq ?_
  refine T_r mixed [] [ps 1 (.ssl (ints b) 0 b.length), ps 8 (.osl 0 0 (a.length + b.length - 1)), ps 30 (.ssl (ints a) 0 a.length), ps 31 (nv a.length), ps 32 (nv i), ps 33 (bv (decide (((i : Nat) : Int) < ((a.length : Nat) : Int)))), pb 0 3 (ints (pst a b i 0))] (obs_nil) ?_
  refine T_seq ?_
  by_cases h1 : ((i : Nat) : Int) < ((a.length : Nat) : Int)
  · refine T_th (dty h1) ?_
    refine T_skip <| T_seq <| T_block <| T_seq ?_
    refine T_r mixed [(1, .nat i), (2, .val (iv (a.getD i 0)))] [ps 1 (.ssl (ints b) 0 b.length), ps 8 (.osl 0 0 (a.length + b.length - 1)), ps 9 (nv i), ps 10 (iv (a.getD i 0)), ps 30 (.ssl (ints a) 0 a.length), ps 31 (nv a.length), ps 32 (nv i), pb 0 3 (ints (pst a b i 0))] (obs_cons (by omega : (0 : Int) ≤ ((i : Nat) : Int) ∧ ((i : Nat) : Int) < ((a.length : Nat) : Int)) (obs_cons (by omega : 0 + (((i : Nat) : Int) : Int).toNat * 1 = i) (obs_cons (ints_at (by omega) : i + 1 ≤ ((ints a)).length ∧ (((ints a)).drop i).take 1 = [(iv (a.getD i 0))]) obs_nil))) ?_
    refine T_seq ?_
    refine T_r mixed [] [ps 1 (.ssl (ints b) 0 b.length), ps 8 (.osl 0 0 (a.length + b.length - 1)), ps 9 (nv i), ps 10 (iv (a.getD i 0)), ps 30 (.ssl (ints a) 0 a.length), ps 31 (nv a.length), ps 32 (nv i), ps 37 (.ssl (ints b) 0 b.length), ps 38 (nv b.length), ps 39 (iv 0), pb 0 3 (ints (pst a b i 0))] (obs_nil) ?_
    refine T_block ?_
    refine T_loop (α := {x : Nat // x ≤ b.length}) (fun x => [ps 1 (.ssl (ints b) 0 b.length), ps 8 (.osl 0 0 (a.length + b.length - 1)), ps 9 (nv i), ps 10 (iv (a.getD i 0)), ps 30 (.ssl (ints a) 0 a.length), ps 31 (nv a.length), ps 32 (nv i), ps 37 (.ssl (ints b) 0 b.length), ps 38 (nv b.length), ps 39 (nv x.1), pb 0 3 (ints (pst a b i x.1))]) (fun x => b.length - x.1) 1 ⟨0, Nat.zero_le _⟩ (Wk.ren3 [ps 1 (.ssl (ints b) 0 b.length), ps 8 (.osl 0 0 (a.length + b.length - 1)), ps 9 (nv i), ps 10 (iv (a.getD i 0)), ps 30 (.ssl (ints a) 0 a.length), ps 31 (nv a.length), ps 32 (nv i), ps 37 (.ssl (ints b) 0 b.length), ps 38 (nv b.length), ps 39 (nv 0), pb 0 3 (ints (pst a b i 0))] 0 hc0 [0] [(kb 0, (ints (pst a b i 0)))] (obs_cons (ints_shd _) (obs_nil)) (by kernel_rfl) rfl rfl (by kernel_rfl) (by kernel_rfl)) ?_
    rintro ⟨k, hk⟩
    refine T_seq ?_
    refine T_r mixed [] [ps 1 (.ssl (ints b) 0 b.length), ps 8 (.osl 0 0 (a.length + b.length - 1)), ps 9 (nv i), ps 10 (iv (a.getD i 0)), ps 30 (.ssl (ints a) 0 a.length), ps 31 (nv a.length), ps 32 (nv i), ps 37 (.ssl (ints b) 0 b.length), ps 38 (nv b.length), ps 39 (nv k), ps 40 (bv (decide (((k : Nat) : Int) < ((b.length : Nat) : Int)))), pb 0 3 (ints (pst a b i k))] (obs_nil) ?_
    refine T_seq ?_
    by_cases h2 : ((k : Nat) : Int) < ((b.length : Nat) : Int)
    · refine T_th (dty h2) ?_
      refine T_skip <| T_seq <| T_block <| T_seq ?_
      have hpa := pst_at (a := a) (b := b) (i := i) (k := k) (by omega) (by omega)
      have hcb := cnv_bd haB hbB (i + k) i
      have hpb := prod_bd (fac_bd haB i) (fac_bd hbB k)
      have hpl := pst_len a b i k
      refine T_r mixed [(1, .nat k), (2, .val (iv (b.getD k 0)))] [ps 1 (.ssl (ints b) 0 b.length), ps 8 (.osl 0 0 (a.length + b.length - 1)), ps 9 (nv i), ps 10 (iv (a.getD i 0)), ps 11 (nv k), ps 12 (iv (b.getD k 0)), ps 30 (.ssl (ints a) 0 a.length), ps 31 (nv a.length), ps 32 (nv i), ps 37 (.ssl (ints b) 0 b.length), ps 38 (nv b.length), ps 39 (nv k), pb 0 3 (ints (pst a b i k))] (obs_cons (by omega : (0 : Int) ≤ ((k : Nat) : Int) ∧ ((k : Nat) : Int) < ((b.length : Nat) : Int)) (obs_cons (by omega : 0 + (((k : Nat) : Int) : Int).toNat * 1 = k) (obs_cons (ints_at (by omega) : k + 1 ≤ ((ints b)).length ∧ (((ints b)).drop k).take 1 = [(iv (b.getD k 0))]) obs_nil))) ?_
      refine T_r mixed [(8, .nat (i + k)), (9, .val (iv ((pst a b i k).getD (i + k) 0))), (14, .nat (i + k)), (15, .cells (ints (pst a b i (k + 1))))] [ps 1 (.ssl (ints b) 0 b.length), ps 8 (.osl 0 0 (a.length + b.length - 1)), ps 9 (nv i), ps 10 (iv (a.getD i 0)), ps 30 (.ssl (ints a) 0 a.length), ps 31 (nv a.length), ps 32 (nv i), ps 37 (.ssl (ints b) 0 b.length), ps 38 (nv b.length), ps 39 (nv k), pb 0 3 (ints (pst a b i (k + 1)))] (obs_cons (by simp only [InK]; omega : InK .i64 (((i : Nat) : Int) + ((k : Nat) : Int))) (obs_cons (by simp only [InK]; omega : InK .i64 (((i : Nat) : Int) + ((k : Nat) : Int))) (obs_cons (by omega : (0 : Int) ≤ (((i : Nat) : Int) + ((k : Nat) : Int)) ∧ (((i : Nat) : Int) + ((k : Nat) : Int)) < (((a.length + b.length - 1) : Nat) : Int)) (obs_cons (by omega : 0 + ((((i : Nat) : Int) + ((k : Nat) : Int)) : Int).toNat * 1 = (i + k)) (obs_cons (ints_at (by omega) : (i + k) + 1 ≤ ((ints (pst a b i k))).length ∧ (((ints (pst a b i k))).drop (i + k)).take 1 = [(iv ((pst a b i k).getD (i + k) 0))]) (obs_cons (by simp only [InK]; omega : InK .i64 ((a.getD i 0) * (b.getD k 0))) (obs_cons (by simp only [InK]; omega : InK .i64 (((pst a b i k).getD (i + k) 0) + ((a.getD i 0) * (b.getD k 0)))) (obs_cons (by omega : (0 : Int) ≤ (((i : Nat) : Int) + ((k : Nat) : Int)) ∧ (((i : Nat) : Int) + ((k : Nat) : Int)) < (((a.length + b.length - 1) : Nat) : Int)) (obs_cons (by omega : 0 + ((((i : Nat) : Int) + ((k : Nat) : Int)) : Int).toNat * 1 = (i + k)) (obs_cons (pst_store (by omega) (by omega) : (i + k) + 1 ≤ ((ints (pst a b i k))).length ∧ splice (ints (pst a b i k)) (i + k) [(iv (((pst a b i k).getD (i + k) 0) + ((a.getD i 0) * (b.getD k 0))))] = (ints (pst a b i (k + 1)))) obs_nil)))))))))) ?_
      refine T_blk ?_
      refine T_r mixed [] [ps 1 (.ssl (ints b) 0 b.length), ps 8 (.osl 0 0 (a.length + b.length - 1)), ps 9 (nv i), ps 10 (iv (a.getD i 0)), ps 30 (.ssl (ints a) 0 a.length), ps 31 (nv a.length), ps 32 (nv i), ps 37 (.ssl (ints b) 0 b.length), ps 38 (nv b.length), ps 39 (iv (((k : Nat) : Int) + 1)), pb 0 3 (ints (pst a b i (k + 1)))] (obs_cons (by simp only [InK]; omega : InK .i64 (((k : Nat) : Int) + 1)) obs_nil) ?_
      exact T_back ⟨k + 1, by omega⟩ (Wk.ren3 [ps 1 (.ssl (ints b) 0 b.length), ps 8 (.osl 0 0 (a.length + b.length - 1)), ps 9 (nv i), ps 10 (iv (a.getD i 0)), ps 30 (.ssl (ints a) 0 a.length), ps 31 (nv a.length), ps 32 (nv i), ps 37 (.ssl (ints b) 0 b.length), ps 38 (nv b.length), ps 39 (nv (k + 1)), pb 0 3 (ints (pst a b i (k + 1)))] 0 hc0 [0] [(kb 0, (ints (pst a b i (k + 1))))] (obs_cons (ints_shd _) (obs_nil)) (by kernel_rfl) rfl rfl (by kernel_rfl) (by kernel_rfl)) (show b.length - (k + 1) < b.length - k from by omega)
    refine T_el (dtn h2) ?_
    refine T_break rfl rfl ?_
    refine T_blk ?_
    obtain rfl : k = b.length := by omega
    refine T_r mixed [] [ps 1 (.ssl (ints b) 0 b.length), ps 8 (.osl 0 0 (a.length + b.length - 1)), ps 30 (.ssl (ints a) 0 a.length), ps 31 (nv a.length), ps 32 (iv (((i : Nat) : Int) + 1)), pb 0 3 (ints (pst a b i b.length))] (obs_cons (by simp only [InK]; omega : InK .i64 (((i : Nat) : Int) + 1)) obs_nil) ?_
    exact T_back ⟨i + 1, by omega⟩ (Wk.trans (Wk.eq (show _ = [ps 1 (.ssl (ints b) 0 b.length), ps 8 (.osl 0 0 (a.length + b.length - 1)), ps 30 (.ssl (ints a) 0 a.length), ps 31 (nv a.length), ps 32 (iv (((i : Nat) : Int) + 1)), pb 0 3 (ints (pst a b (i + 1) 0))] from by rw [pst_row a b i])) (Wk.ren3 [ps 1 (.ssl (ints b) 0 b.length), ps 8 (.osl 0 0 (a.length + b.length - 1)), ps 30 (.ssl (ints a) 0 a.length), ps 31 (nv a.length), ps 32 (nv (i + 1)), pb 0 3 (ints (pst a b (i + 1) 0))] 0 hc0 [0] [(kb 0, (ints (pst a b (i + 1) 0)))] (obs_cons (ints_shd _) (obs_nil)) (by kernel_rfl) rfl rfl (by kernel_rfl) (by kernel_rfl))) (show a.length - (i + 1) < a.length - i from by omega)
  refine T_el (dtn h1) ?_
  refine T_break rfl rfl ?_
  refine T_seq ?_
  refine T_r mixed [] [ps 4 (.osl 0 0 (a.length + b.length - 1)), ps 5 (iv 0), pb 0 3 (ints (pst a b i 0))] (obs_nil) ?_
  obtain rfl : i = a.length := by omega
  refine T_wk (Wk.eq (show _ = [ps 4 (.osl 0 0 ((cnvL a b).length)), ps 5 (iv 0), pb 0 3 (ints (cnvL a b))] from by rw [pst_end a b, cnvL_len])) ?_
  exact T_ret fun cx_ a_ hI_ => ret_ok (H' := [some (3, (ints (cnvL a b)))]) (.inr rfl) (Wk.ren3 [ps 4 (.osl 0 0 ((cnvL a b).length)), ps 5 (iv 0), pb 0 3 (ints (cnvL a b))] 0 hc0 [0] [(kb 0, (ints (cnvL a b)))] (obs_cons (ints_shd _) (obs_nil)) (by kernel_rfl) rfl rfl (by kernel_rfl) (by kernel_rfl)) rfl (obs_cons rfl (obs_nil)) (fun cx_ a_ hI_ => ret_res (l' := [ps 4 (.osl 0 0 ((cnvL a b).length)), ps 5 (iv 0), pb 0 3 (ints (cnvL a b))]) (by kernel_rfl) cx_ a_ hI_) hI_
set_option maxRecDepth 100000 in
set_option maxHeartbeats 4000000 in
theorem ref_no_pc (a b : List Int) (hal : a.length ≤ 9223372036854775807) (hbl : b.length ≤ 9223372036854775807) (h : prodE a b ≠ 0) : PC Try.prog 7 [(.ssl (ints a) 0 a.length), (.ssl (ints b) 0 b.length)] [] (.tup [(.ssl [] 0 0), (iv (prodE a b))]) [] := by
  refine pc_intro Try.func7 rfl (by kernel_rfl) (Nat.le_of_ble_eq_true rfl) (by kernel_rfl) (l0 := [ps 0 (.ssl (ints a) 0 a.length), ps 1 (.ssl (ints b) 0 b.length)]) rfl (fun c0 Bor hc0 => ?_)
  refine T_seq ?_
  refine T_r mixed [] [ps 0 (.ssl (ints a) 0 a.length), ps 1 (.ssl (ints b) 0 b.length)] (obs_nil) ?_
  refine T_seq <| T_seq ?_
  refine T_r mixed [(1, .call [] [(.ssl (ints a) 0 a.length)] [] (iv (wholeE a)) [])] [ps 0 (.ssl (ints a) 0 a.length), ps 1 (.ssl (ints b) 0 b.length), ps 6 (iv (wholeE a))] (obs_cons (ref_whole_pc a hal) (obs_cons (rfl : Ren0 24 [(.ssl (ints a) 0 a.length)]) obs_nil)) ?_
  refine T_seq ?_
  refine T_r mixed [] [ps 0 (.ssl (ints a) 0 a.length), ps 1 (.ssl (ints b) 0 b.length), ps 6 (iv (wholeE a)), ps 16 (bv (!(decide ((wholeE a) = 0))))] (obs_nil) ?_
  by_cases h1 : (wholeE a) = 0
  · refine T_el (bt h1) ?_
    refine T_skip <| T_seq <| T_seq ?_
    refine T_r mixed [(1, .call [] [(.ssl (ints b) 0 b.length)] [] (iv (wholeE b)) [])] [ps 0 (.ssl (ints a) 0 a.length), ps 1 (.ssl (ints b) 0 b.length), ps 7 (iv (wholeE b))] (obs_cons (ref_whole_pc b hbl) (obs_cons (rfl : Ren0 64 [(.ssl (ints b) 0 b.length)]) obs_nil)) ?_
    refine T_seq ?_
    refine T_r mixed [] [ps 0 (.ssl (ints a) 0 a.length), ps 1 (.ssl (ints b) 0 b.length), ps 7 (iv (wholeE b)), ps 21 (bv (!(decide ((wholeE b) = 0))))] (obs_nil) ?_
    by_cases h2 : (wholeE b) = 0
    · refine T_el (bt h2) ?_
      refine T_skip <| T_seq ?_
      exfalso; unfold prodE at h; split at h <;> omega
    refine T_th (bf h2) ?_
    refine T_seq ?_
    refine T_r mixed [] [ps 4 (.av (.slice none 0 0)), ps 5 (iv (wholeE b))] (obs_nil) ?_
    rw [show prodE a b = wholeE b from by unfold prodE; rw [if_neg (by omega)]]
    exact T_ret fun cx_ a_ hI_ => rt hc0 [ps 4 (.av (.slice none 0 0)), ps 5 (iv (wholeE b))] [] hI_
  refine T_th (bf h1) ?_
  refine T_seq ?_
  refine T_r mixed [] [ps 4 (.av (.slice none 0 0)), ps 5 (iv (wholeE a))] (obs_nil) ?_
  rw [show prodE a b = wholeE a from by unfold prodE; rw [if_pos (by omega)]]
  exact T_ret fun cx_ a_ hI_ => rt hc0 [ps 4 (.av (.slice none 0 0)), ps 5 (iv (wholeE a))] [] hI_
set_option maxRecDepth 100000 in
set_option maxHeartbeats 4000000 in
theorem same_pc (l : List Int) (hl : l.length ≤ 9223372036854775807) : PC Try.prog 8 [(.ssl (ints l) 0 l.length), (.ssl (ints l) 0 l.length)] [] (bv true) [] := by
  refine pc_intro Try.func8 rfl (by kernel_rfl) (Nat.le_of_ble_eq_true rfl) (by kernel_rfl) (l0 := [ps 0 (.ssl (ints l) 0 l.length), ps 1 (.ssl (ints l) 0 l.length)]) rfl (fun c0 Bor hc0 => ?_)
  refine T_seq ?_
  refine T_r mixed [] [ps 0 (.ssl (ints l) 0 l.length), ps 1 (.ssl (ints l) 0 l.length)] (obs_nil) ?_
  refine T_seq <| T_seq ?_
  refine T_r mixed [] [ps 0 (.ssl (ints l) 0 l.length), ps 1 (.ssl (ints l) 0 l.length), ps 10 (bv (!(decide (((l.length : Nat) : Int) = ((l.length : Nat) : Int)))))] (obs_nil) ?_
  have h1 : ((l.length : Nat) : Int) = ((l.length : Nat) : Int) := rfl
  refine T_el (bt h1) ?_
  refine T_skip <| T_seq <| T_seq ?_
  refine T_r mixed [] [ps 0 (.ssl (ints l) 0 l.length), ps 1 (.ssl (ints l) 0 l.length), ps 12 (nv l.length), ps 13 (iv 0)] (obs_nil) ?_
  refine T_block ?_
  refine T_loop (α := {x : Nat // x ≤ l.length}) (fun x => [ps 0 (.ssl (ints l) 0 l.length), ps 1 (.ssl (ints l) 0 l.length), ps 12 (nv l.length), ps 13 (nv x.1)]) (fun x => l.length - x.1) 0 ⟨0, Nat.zero_le _⟩ (Wk.ren2 [ps 0 (.ssl (ints l) 0 l.length), ps 1 (.ssl (ints l) 0 l.length), ps 12 (nv l.length), ps 13 (nv 0)] 0 hc0 [] rfl rfl (by kernel_rfl) (by kernel_rfl)) ?_
  rintro ⟨i, hi⟩
  refine T_seq ?_
  refine T_r mixed [] [ps 0 (.ssl (ints l) 0 l.length), ps 1 (.ssl (ints l) 0 l.length), ps 12 (nv l.length), ps 13 (nv i), ps 14 (bv (decide (((i : Nat) : Int) < ((l.length : Nat) : Int))))] (obs_nil) ?_
  refine T_seq ?_
  by_cases h2 : ((i : Nat) : Int) < ((l.length : Nat) : Int)
  · refine T_th (dty h2) ?_
    refine T_skip <| T_seq <| T_block <| T_seq ?_
    refine T_r mixed [] [ps 0 (.ssl (ints l) 0 l.length), ps 1 (.ssl (ints l) 0 l.length), ps 5 (nv i), ps 12 (nv l.length), ps 13 (nv i)] (obs_nil) ?_
    refine T_seq ?_
    refine T_rd mixed [(2, .nat i), (3, .val (iv (l.getD i 0))), (6, .nat i), (7, .val (iv (l.getD i 0)))] [[], [], [0, 1], [0, 1, 2], [], [], [4, 5], [4, 5, 6], [0, 1, 2, 3, 4, 5, 6, 7]] [([32], [0]), ([34], [10]), ([36], [32, 34]), ([38], [36]), ([40], [2]), ([42], [10]), ([44], [40, 42]), ([46], [44]), ([48], [38, 46])] [ps 0 (.ssl (ints l) 0 l.length), ps 1 (.ssl (ints l) 0 l.length), ps 12 (nv l.length), ps 13 (nv i), ps 24 (bv (!(decide ((l.getD i 0) = (l.getD i 0)))))] (obs_cons (by omega : (0 : Int) ≤ ((i : Nat) : Int) ∧ ((i : Nat) : Int) < ((l.length : Nat) : Int)) (obs_cons (by omega : 0 + (((i : Nat) : Int) : Int).toNat * 1 = i) (obs_cons (ints_at (by omega) : i + 1 ≤ ((ints l)).length ∧ (((ints l)).drop i).take 1 = [(iv (l.getD i 0))]) (obs_cons (by omega : (0 : Int) ≤ ((i : Nat) : Int) ∧ ((i : Nat) : Int) < ((l.length : Nat) : Int)) (obs_cons (by omega : 0 + (((i : Nat) : Int) : Int).toNat * 1 = i) (obs_cons (ints_at (by omega) : i + 1 ≤ ((ints l)).length ∧ (((ints l)).drop i).take 1 = [(iv (l.getD i 0))]) obs_nil)))))) ?_
    have h3 : (l.getD i 0) = (l.getD i 0) := rfl
    refine T_el (bt h3) ?_
    refine T_skip <| T_blk ?_
    refine T_r mixed [] [ps 0 (.ssl (ints l) 0 l.length), ps 1 (.ssl (ints l) 0 l.length), ps 12 (nv l.length), ps 13 (iv (((i : Nat) : Int) + 1))] (obs_cons (by simp only [InK]; omega : InK .i64 (((i : Nat) : Int) + 1)) obs_nil) ?_
    exact T_back ⟨i + 1, by omega⟩ (Wk.ren2 [ps 0 (.ssl (ints l) 0 l.length), ps 1 (.ssl (ints l) 0 l.length), ps 12 (nv l.length), ps 13 (nv (i + 1))] 0 hc0 [] rfl rfl (by kernel_rfl) (by kernel_rfl)) (show l.length - (i + 1) < l.length - i from by omega)
  refine T_el (dtn h2) ?_
  refine T_break rfl rfl ?_
  refine T_seq ?_
  refine T_r mixed [] [ps 4 (bv true)] (obs_nil) ?_
  exact T_ret fun cx_ a_ hI_ => rt hc0 [ps 4 (bv true)] [] hI_
end Go.Proofs.Ytfibadnkhbjciaa.Pm
namespace Go.Proofs.Ytfibadnkhbjciaa.Pm
open Go Go.Proofs.Ytfibadnkhbjciaa.Fl

set_option maxRecDepth 100000 in
set_option maxHeartbeats 4000000 in
theorem exact_yes (a b : List Int) (ha0 : wholeE a = 0) (hb0 : wholeE b = 0) : PC Try.prog 3 [(.ssl (ints a) 0 a.length), (.ssl (ints b) 0 b.length)] [] (bv true) [] := by
  have hln : (cnvL a b).length ≤ 9223372036854775807 := by rw [cnvL_len]; obtain ⟨_, h2, _⟩ := wholeE_zero ha0; obtain ⟨_, h4, _⟩ := wholeE_zero hb0; omega
  refine pc_intro Try.func3 rfl (by kernel_rfl) (Nat.le_of_ble_eq_true rfl) (by kernel_rfl) (l0 := [ps 0 (.ssl (ints a) 0 a.length), ps 1 (.ssl (ints b) 0 b.length)]) rfl (fun c0 Bor hc0 => ?_)
  refine T_seq ?_
  refine T_r mixed [] [ps 0 (.ssl (ints a) 0 a.length), ps 1 (.ssl (ints b) 0 b.length)] (obs_nil) ?_
  refine T_seq ?_
  refine T_r mixed [(2, .call [] [(.ssl (ints a) 0 a.length), (.ssl (ints b) 0 b.length)] [] (.tup [(.osl 0 0 ((cnvL a b).length)), (iv 0)]) [some (3, (ints (cnvL a b)))])] [ps 0 (.ssl (ints a) 0 a.length), ps 1 (.ssl (ints b) 0 b.length), ps 5 (.osl 24 0 ((cnvL a b).length)), ps 6 (iv 0), pb 24 3 (renL (sigo [] 24) (ints (cnvL a b)))] (obs_cons (prodX a b ha0 hb0) (obs_cons (rfl : Ren0 24 [(.ssl (ints a) 0 a.length), (.ssl (ints b) 0 b.length)]) obs_nil)) ?_
  refine T_wk (Wk.eq (show _ = [ps 0 (.ssl (ints a) 0 a.length), ps 1 (.ssl (ints b) 0 b.length), ps 5 (.osl 24 0 ((cnvL a b).length)), ps 6 (iv 0), pb 24 3 (ints (cnvL a b))] from by simp only [renL_shd (ints_shd _)])) ?_
  refine T_seq ?_
  refine T_r mixed [(2, .call [] [(.ssl (ints a) 0 a.length), (.ssl (ints b) 0 b.length)] [] (.tup [(.osl 0 0 ((cnvL a b).length)), (iv 0)]) [some (3, (ints (cnvL a b)))])] [ps 5 (.osl 24 0 ((cnvL a b).length)), ps 6 (iv 0), ps 7 (.osl 88 0 ((cnvL a b).length)), ps 8 (iv 0), pb 24 3 (ints (cnvL a b)), pb 88 3 (renL (sigo [] 88) (ints (cnvL a b)))] (obs_cons (ref_prod_pc a b ha0 hb0) (obs_cons (rfl : Ren0 88 [(.ssl (ints a) 0 a.length), (.ssl (ints b) 0 b.length)]) obs_nil)) ?_
  refine T_wk (Wk.eq (show _ = [ps 5 (.osl 24 0 ((cnvL a b).length)), ps 6 (iv 0), ps 7 (.osl 88 0 ((cnvL a b).length)), ps 8 (iv 0), pb 24 3 (ints (cnvL a b)), pb 88 3 (ints (cnvL a b))] from by simp only [renL_shd (ints_shd _)])) ?_
  refine T_seq ?_
  refine T_wk (Wk.frz2 (l' := [ps 5 (.ssl (ints (cnvL a b)) 0 ((cnvL a b).length)), ps 6 (iv 0), ps 7 (.osl 88 0 ((cnvL a b).length)), ps 8 (iv 0), (kb 24, none), pb 88 3 (ints (cnvL a b))]) 24 (T := 3) (cs := (ints (cnvL a b))) [(kb 88, (ints (cnvL a b)))] (obs_cons (ints_shd _) (obs_nil)) (by kernel_rfl) (by kernel_rfl) (ints_shd _) (by kernel_rfl)) ?_
  refine T_wk (Wk.less (l' := [ps 5 (.ssl (ints (cnvL a b)) 0 ((cnvL a b).length)), ps 6 (iv 0), ps 7 (.osl 88 0 ((cnvL a b).length)), ps 8 (iv 0), pb 88 3 (ints (cnvL a b))]) 136 (by kernel_rfl) (by kernel_rfl)) ?_
  refine T_wk (Wk.frz (l' := [ps 5 (.ssl (ints (cnvL a b)) 0 ((cnvL a b).length)), ps 6 (iv 0), ps 7 (.ssl (ints (cnvL a b)) 0 ((cnvL a b).length)), ps 8 (iv 0), (kb 88, none)]) 88 (T := 3) (cs := (ints (cnvL a b))) (by kernel_rfl) (ints_shd _) (by kernel_rfl)) ?_
  refine T_wk (Wk.less (l' := [ps 5 (.ssl (ints (cnvL a b)) 0 ((cnvL a b).length)), ps 6 (iv 0), ps 7 (.ssl (ints (cnvL a b)) 0 ((cnvL a b).length)), ps 8 (iv 0)]) 136 (by kernel_rfl) (by kernel_rfl)) ?_
  refine T_r mixed [(2, .call [] [(.ssl (ints (cnvL a b)) 0 ((cnvL a b).length)), (.ssl (ints (cnvL a b)) 0 ((cnvL a b).length))] [] (bv true) []), (4, .gd true (.no)), (5, .gd true (.no)), (6, .gd true (.no))] [ps 4 (bv true)] (obs_cons (same_pc _ hln : PC Try.prog 8 [(.ssl (ints (cnvL a b)) 0 ((cnvL a b).length)), (.ssl (ints (cnvL a b)) 0 ((cnvL a b).length))] [] (bv true) []) (obs_cons (rfl : Ren0 152 [(.ssl (ints (cnvL a b)) 0 ((cnvL a b).length)), (.ssl (ints (cnvL a b)) 0 ((cnvL a b).length))]) (obs_cons (rfl : true = true) (obs_cons (rfl : true = true) (obs_cons (rfl : true = true) obs_nil))))) ?_
  exact T_ret fun cx_ a_ hI_ => rt hc0 [ps 4 (bv true)] [] hI_
set_option maxRecDepth 100000 in
set_option maxHeartbeats 4000000 in
theorem exact_no (a b : List Int) (hal : a.length ≤ 9223372036854775807) (hbl : b.length ≤ 9223372036854775807) (h : prodE a b ≠ 0) : PC Try.prog 3 [(.ssl (ints a) 0 a.length), (.ssl (ints b) 0 b.length)] [] (bv true) [] := by
  refine pc_intro Try.func3 rfl (by kernel_rfl) (Nat.le_of_ble_eq_true rfl) (by kernel_rfl) (l0 := [ps 0 (.ssl (ints a) 0 a.length), ps 1 (.ssl (ints b) 0 b.length)]) rfl (fun c0 Bor hc0 => ?_)
  refine T_seq ?_
  refine T_r mixed [] [ps 0 (.ssl (ints a) 0 a.length), ps 1 (.ssl (ints b) 0 b.length)] (obs_nil) ?_
  refine T_seq ?_
  refine T_r mixed [(2, .call [] [(.ssl (ints a) 0 a.length), (.ssl (ints b) 0 b.length)] [] (.tup [(.ssl [] 0 0), (iv (prodE a b))]) [])] [ps 0 (.ssl (ints a) 0 a.length), ps 1 (.ssl (ints b) 0 b.length), ps 5 (.ssl [] 0 0), ps 6 (iv (prodE a b))] (obs_cons (prod_no_pc a b hal hbl h) (obs_cons (rfl : Ren0 24 [(.ssl (ints a) 0 a.length), (.ssl (ints b) 0 b.length)]) obs_nil)) ?_
  refine T_seq ?_
  refine T_r mixed [(2, .call [] [(.ssl (ints a) 0 a.length), (.ssl (ints b) 0 b.length)] [] (.tup [(.ssl [] 0 0), (iv (prodE a b))]) [])] [ps 5 (.ssl [] 0 0), ps 6 (iv (prodE a b)), ps 7 (.ssl [] 0 0), ps 8 (iv (prodE a b))] (obs_cons (ref_no_pc a b hal hbl h) (obs_cons (rfl : Ren0 88 [(.ssl (ints a) 0 a.length), (.ssl (ints b) 0 b.length)]) obs_nil)) ?_
  refine T_seq ?_
  refine T_r mixed [(2, .call [] [(.ssl [] 0 0), (.ssl [] 0 0)] [] (bv true) []), (4, .gd true (.no)), (5, .gd true (.no)), (6, .gd true (.no))] [ps 4 (bv (decide ((prodE a b) = (prodE a b))))] (obs_cons (same_pc [] (by decide)) (obs_cons (rfl : Ren0 152 [(.ssl [] 0 0), (.ssl [] 0 0)]) (obs_cons (rfl : true = true) (obs_cons (rfl : true = true) (obs_cons (rfl : true = true) obs_nil))))) ?_
  refine T_wk (Wk.eq (show _ = [ps 4 (bv true)] from by rw [show decide (prodE a b = prodE a b) = true from dty rfl])) ?_
  exact T_ret fun cx_ a_ hI_ => rt hc0 [ps 4 (bv true)] [] hI_
theorem law_exact (a b : List Int) (hal : a.length ≤ 9223372036854775807) (hbl : b.length ≤ 9223372036854775807) : PC Try.prog 3 [(.ssl (ints a) 0 a.length), (.ssl (ints b) 0 b.length)] [] (bv true) [] := by
  by_cases h : prodE a b = 0
  · obtain ⟨h1, h2⟩ := prodE_zero h
    exact exact_yes a b h1 h2
  · exact exact_no a b hal hbl h
theorem prod35 : PC Try.prog 6 [.ssl (ints [3]) 0 1, .ssl (ints [5]) 0 1] [] (.tup [.osl 0 0 1, iv 0]) [some (3, [iv 15])] := prodX [3] [5] rfl rfl
set_option maxRecDepth 100000 in
set_option maxHeartbeats 4000000 in
theorem alive_pc  : PC Try.prog 9 [] [] (bv true) [] := by
  refine pc_intro Try.func9 rfl (by kernel_rfl) (Nat.le_of_ble_eq_true rfl) (by kernel_rfl) (l0 := []) rfl (fun c0 Bor hc0 => ?_)
  refine T_seq ?_
  refine T_r mixed [] [] (obs_nil) ?_
  refine T_seq ?_
  refine T_r mixed [(0, .lay [] .no), (1, .lay [] .no), (2, .call [] [(.ssl (ints [3]) 0 1), (.ssl (ints [5]) 0 1)] [] (.tup [(.osl 0 0 1), (iv 0)]) [some (3, [(iv 15)])])] [ps 1 (.osl 24 0 1), ps 2 (iv 0), pb 24 3 [(iv 15)]] (obs_cons (fun p hp => List.all_eq_true.1 (show ([(iv 3)] : List PV).all PV.shd = true from rfl) p hp : shds [(iv 3)]) (obs_cons (fun p hp => List.all_eq_true.1 (show ([(iv 5)] : List PV).all PV.shd = true from rfl) p hp : shds [(iv 5)]) (obs_cons prod35 (obs_cons (rfl : [(.ssl [(iv 3)] 0 1), (.ssl [(iv 5)] 0 1)] = renL (sigi [] 24) [(.ssl (ints [3]) 0 1), (.ssl (ints [5]) 0 1)]) obs_nil)))) ?_
  refine T_seq ?_
  refine T_r mixed [(3, .gd true (.no)), (4, .gd true (.no)), (5, .gd true (.no)), (8, .gd true (.no)), (9, .gd true (.no)), (10, .gd true (.no)), (11, .gd true (.no))] [ps 0 (bv true)] (obs_cons (rfl : true = true) (obs_cons (rfl : true = true) (obs_cons (rfl : true = true) (obs_cons (rfl : true = true) (obs_cons (rfl : true = true) (obs_cons (by decide : (0 : Int) ≤ 0 ∧ 0 < ((1 : Nat) : Int)) (obs_cons (rfl : true = true) (obs_cons (rfl : true = true) obs_nil)))))))) ?_
  exact T_ret fun cx_ a_ hI_ => rt hc0 [ps 0 (bv true)] [] hI_
end Go.Proofs.Ytfibadnkhbjciaa.Pm
namespace Go.Proofs.Ytfibadnkhbjciaa.Pm
open Go Ieee Fl

theorem gset_self {o : List FC} {i : Nat} (x : FC) (h : i < o.length) : (o.set i x).getD i (0, 0) = x := by
  rw [List.getD_eq_getElem?_getD, List.getElem?_set_self h]
  rfl
theorem gset_ne {o : List FC} {i j : Nat} (x : FC) (h : i ≠ j) : (o.set i x).getD j (0, 0) = o.getD j (0, 0) := by
  rw [List.getD_eq_getElem?_getD, List.getElem?_set_ne h, ← List.getD_eq_getElem?_getD]
/-- What is asked of a butterfly. -/
def BStep (Q : Nat → Nat → FC → Prop) : Prop := ∀ (l c k : Nat) (a b : FC), l < 12 → k < 2 ^ l → Q l c a → Q l (c + 2 ^ l) b →
  ∃ t s d, cMul (powR l k).1 (powR l k).2 b.1 b.2 = some t ∧ cAdd a.1 a.2 t.1 t.2 = some s ∧ cSub a.1 a.2 t.1 t.2 = some d ∧ Q (l + 1) c s ∧ Q (l + 1) c d
section
variable {Q : Nat → Nat → FC → Prop}
theorem kRun_q (hq : BStep Q) {l c : Nat} (hl : l < 12) : ∀ (m k : Nat) (o : List FC), k + m = 2 ^ l → c + 2 ^ l + 2 ^ l ≤ o.length →
    (∀ k', k ≤ k' → k' < 2 ^ l → Q l c (o.getD (c + k') (0, 0)) ∧ Q l (c + 2 ^ l) (o.getD (c + 2 ^ l + k') (0, 0))) →
    ∃ r, kRun l c m k o = some r ∧ r.length = o.length ∧ (∀ i, i < c + k ∨ (c + 2 ^ l ≤ i ∧ i < c + 2 ^ l + k) ∨ c + 2 ^ l + 2 ^ l ≤ i → r.getD i (0, 0) = o.getD i (0, 0)) ∧
      ∀ k', k ≤ k' → k' < 2 ^ l → Q (l + 1) c (r.getD (c + k') (0, 0)) ∧ Q (l + 1) c (r.getD (c + (k' + 2 ^ l)) (0, 0))
  | 0, k, o, hk, _, _ => ⟨o, rfl, rfl, fun _ _ => rfl, fun k' h1 h2 => by omega⟩
  | m + 1, k, o, hk, ho, hat => by
    obtain ⟨ha, hb⟩ := hat k (Nat.le_refl _) (by omega)
    obtain ⟨t, s, d, h1, h2, h3, h4, h5⟩ := hq l c k _ _ hl (by omega) ha hb
    have hbf : bfly (powR l k) (c + k) (c + k + 2 ^ l) o = some ((o.set (c + k) s).set (c + k + 2 ^ l) d) := by
      unfold bfly
      rw [show c + k + 2 ^ l = c + 2 ^ l + k from by omega, h1]
      dsimp only
      rw [h2]
      dsimp only
      rw [h3]
    have hp : 0 < 2 ^ l := Nat.pow_pos (by decide)
    have hlen : ((o.set (c + k) s).set (c + k + 2 ^ l) d).length = o.length := by rw [List.length_set, List.length_set]
    have hoff : ∀ i, i ≠ c + k → i ≠ c + k + 2 ^ l → ((o.set (c + k) s).set (c + k + 2 ^ l) d).getD i (0, 0) = o.getD i (0, 0) := fun i e1 e2 => by
      rw [gset_ne _ (Ne.symm e2), gset_ne _ (Ne.symm e1)]
    have ho1 : ((o.set (c + k) s).set (c + k + 2 ^ l) d).getD (c + k) (0, 0) = s := by
      rw [gset_ne _ (by omega), gset_self _ (by omega)]
    have ho2 : ((o.set (c + k) s).set (c + k + 2 ^ l) d).getD (c + k + 2 ^ l) (0, 0) = d := gset_self _ (by rw [List.length_set]; omega)
    obtain ⟨o', e0⟩ : ∃ o', (o.set (c + k) s).set (c + k + 2 ^ l) d = o' := ⟨_, rfl⟩
    rw [e0] at hbf hlen ho1 ho2
    simp only [e0] at hoff
    obtain ⟨r, r1, r2, r3, r4⟩ := kRun_q hq (c := c) hl m (k + 1) o' (by omega) (by omega) (fun k' e1 e2 => by
      obtain ⟨x1, x2⟩ := hat k' (by omega) e2
      rw [hoff (c + k') (by omega) (by omega), hoff (c + 2 ^ l + k') (by omega) (by omega)]
      exact ⟨x1, x2⟩)
    refine ⟨r, ?_, r2.trans hlen, fun i hi => ?_, fun k' e1 e2 => ?_⟩
    · rw [kRun, hbf]
      exact r1
    · rw [r3 i (by omega), hoff i (by omega) (by omega)]
    · by_cases e : k' = k
      · subst e
        constructor
        · rw [r3 (c + k') (by omega), ho1]
          exact h4
        · rw [r3 (c + (k' + 2 ^ l)) (by omega), ← Nat.add_assoc, ho2]
          exact h5
      · exact r4 k' (by omega) e2
theorem aRun_q (hq : BStep Q) {l : Nat} (hl : l < 12) : ∀ (m c : Nat) (o : List FC), c + m * (2 * 2 ^ l) = o.length →
    (∀ q, q < 2 * m → ∀ k, k < 2 ^ l → Q l (c + q * 2 ^ l) (o.getD (c + q * 2 ^ l + k) (0, 0))) →
    ∃ r, aRun l m c o = some r ∧ r.length = o.length ∧ (∀ i, i < c → r.getD i (0, 0) = o.getD i (0, 0)) ∧
      ∀ q, q < m → ∀ k, k < 2 * 2 ^ l → Q (l + 1) (c + q * (2 * 2 ^ l)) (r.getD (c + q * (2 * 2 ^ l) + k) (0, 0))
  | 0, c, o, _, _ => ⟨o, rfl, rfl, fun _ _ => rfl, fun q h => absurd h (Nat.not_lt_zero q)⟩
  | m + 1, c, o, hc, hat => by
    have hp : 0 < 2 ^ l := Nat.pow_pos (by decide)
    rw [Nat.add_mul m 1, Nat.one_mul] at hc
    obtain ⟨o', h1, h2, h3, h4⟩ := kRun_q hq (c := c) hl (2 ^ l) 0 o (Nat.zero_add _) (by omega) (fun k' _ e2 => by
      have x1 := hat 0 (by omega) k' e2
      have x2 := hat 1 (by omega) k' e2
      rw [Nat.zero_mul, Nat.add_zero] at x1
      rw [Nat.one_mul] at x2
      exact ⟨x1, x2⟩)
    obtain ⟨r, r1, r2, r3, r4⟩ := aRun_q hq hl m (c + 2 * 2 ^ l) o' (by omega) (fun q hq k hk => by
      have x := hat (q + 2) (by omega) k hk
      rw [Nat.add_mul, show c + (q * 2 ^ l + 2 * 2 ^ l) = c + 2 * 2 ^ l + q * 2 ^ l from by omega] at x
      rw [h3 (c + 2 * 2 ^ l + q * 2 ^ l + k) (by omega)]
      exact x)
    refine ⟨r, ?_, r2.trans h2, fun i hi => ?_, fun q hq k hk => ?_⟩
    · rw [aRun, h1]
      exact r1
    · rw [r3 i (by omega), h3 i (by omega)]
    · rcases Nat.eq_zero_or_pos q with rfl | hq0
      · rw [show c + 0 * (2 * 2 ^ l) = c from by rw [Nat.zero_mul]; rfl]
        by_cases e : k < 2 ^ l
        · have x := (h4 k (Nat.zero_le _) e).1
          rw [r3 (c + k) (by omega)]
          exact x
        · have x := (h4 (k - 2 ^ l) (Nat.zero_le _) (by omega)).2
          rw [Nat.sub_add_cancel (by omega)] at x
          rw [r3 (c + k) (by omega)]
          exact x
      · obtain ⟨p, rfl⟩ : ∃ p, q = p + 1 := ⟨q - 1, by omega⟩
        have x := r4 p (by omega) k hk
        rw [show c + 2 * 2 ^ l + p * (2 * 2 ^ l) = c + (p + 1) * (2 * 2 ^ l) from by rw [Nat.add_mul p 1, Nat.one_mul]; omega] at x
        exact x
theorem lRun_q (hq : BStep Q) {L : Nat} (hL : L ≤ 12) : ∀ (m l : Nat) (o : List FC), l + m = L → o.length = 2 ^ L →
    (∀ q, q < 2 ^ (L - l) → ∀ k, k < 2 ^ l → Q l (q * 2 ^ l) (o.getD (q * 2 ^ l + k) (0, 0))) → ∃ r, lRun L m l o = some r ∧ ∀ k, k < 2 ^ L → Q L 0 (r.getD k (0, 0))
  | 0, l, o, hl, _, hat => by
    obtain rfl : l = L := by omega
    refine ⟨o, rfl, fun k hk => ?_⟩
    have := hat 0 (by rw [Nat.sub_self]; decide) k hk
    rw [Nat.zero_mul, Nat.zero_add] at this
    exact this
  | m + 1, l, o, hl, ho, hat => by
    have hl1 : l < L := by omega
    have hsp := p2_split hl1
    have h2 : 2 ^ (L - l) = 2 * 2 ^ (L - 1 - l) := by rw [← Nat.pow_succ']; exact congrArg _ (by omega)
    obtain ⟨o', h3, h4, _, h5⟩ := aRun_q hq (l := l) (by omega) (2 ^ (L - 1 - l)) 0 o (by omega) (fun q hq k hk => by
      rw [Nat.zero_add]
      exact hat q (by omega) k hk)
    obtain ⟨r, r1, r2⟩ := lRun_q hq hL m (l + 1) o' (by omega) (h4.trans ho) (fun q hq k hk => by
      rw [show L - (l + 1) = L - 1 - l from by omega] at hq
      rw [Nat.pow_succ'] at hk ⊢
      have x := h5 q hq k hk
      rw [Nat.zero_add] at x
      exact x)
    refine ⟨r, ?_, r2⟩
    rw [lRun, h3]
    exact r1
end
/-- In the first block the number, of each wave; else nought. -/
def FlatQ (x : Nat) (_l c : Nat) (p : FC) : Prop := (if c = 0 then likeX x p.1 else z0 p.1) ∧ z0 p.2
theorem flat_step {x : Nat} (hx : mag x < 9218868437227405312) (hb : x < 18446744073709551616) : BStep (FlatQ x) := fun l c k a b hl hk ha hb' => by
  have hp : 0 < 2 ^ l := Nat.pow_pos (by decide)
  obtain ⟨b1, b2⟩ := hb'
  rw [if_neg (by omega)] at b1
  obtain ⟨w1, w2⟩ := pow_low hl (Nat.le_of_lt hk)
  obtain ⟨e, f, ht, ze, zf⟩ := cMul_z (low_fin w1) (low_fin w2) b1 b2
  obtain ⟨a1, a2⟩ := ha
  obtain ⟨q2, g2, z2⟩ := add_zz a2 zf
  obtain ⟨q4, g4, z4⟩ := sub_zz a2 zf
  have key : ∃ q1 q3, F.add a.1 e = some q1 ∧ F.sub a.1 e = some q3 ∧ (if c = 0 then likeX x q1 else z0 q1) ∧ (if c = 0 then likeX x q3 else z0 q3) := by
    by_cases h : c = 0
    · rw [if_pos h] at a1
      obtain ⟨q1, g1, z1⟩ := like_add hx hb a1 ze
      obtain ⟨q3, g3, z3⟩ := like_sub hx hb a1 ze
      exact ⟨q1, q3, g1, g3, by rw [if_pos h]; exact z1, by rw [if_pos h]; exact z3⟩
    · rw [if_neg h] at a1
      obtain ⟨q1, g1, z1⟩ := add_zz a1 ze
      obtain ⟨q3, g3, z3⟩ := sub_zz a1 ze
      exact ⟨q1, q3, g1, g3, by rw [if_neg h]; exact z1, by rw [if_neg h]; exact z3⟩
  obtain ⟨q1, q3, g1, g3, z1, z3⟩ := key
  refine ⟨(e, f), (q1, q2), (q3, q4), ht, ?_, ?_, ⟨z1, z2⟩, ⟨z3, z4⟩⟩
  · unfold cAdd
    have t1 : FloatKind.f64.format.add a.1 e = some q1 := g1
    have t2 : FloatKind.f64.format.add a.2 f = some q2 := g2
    simp only [t1, t2, Option.bind_some]
  · unfold cSub
    have t1 : FloatKind.f64.format.sub a.1 e = some q3 := g3
    have t2 : FloatKind.f64.format.sub a.2 f = some q4 := g4
    simp only [t1, t2, Option.bind_some]
/-- One point alone. -/
def click (x n : Nat) : List FC := (List.replicate n ((0, 0) : FC)).set 0 (x, 0)
theorem click_len (x n : Nat) : (click x n).length = n := by simp [click]
theorem click_at {x n i : Nat} (hn : 1 ≤ n) : (click x n).getD i (0, 0) = if i = 0 then (x, 0) else (0, 0) := by
  unfold click
  by_cases h : i = 0
  · subst h
    rw [gset_self _ (by rw [List.length_replicate]; exact hn), if_pos rfl]
  · rw [gset_ne _ (Ne.symm h), if_neg h, List.getD_eq_getElem?_getD, List.getElem?_replicate]
    split <;> rfl
theorem brev_zero : ∀ L, brev L 0 = 0
  | 0 => rfl
  | L + 1 => by rw [brev, Nat.zero_mod, brev_zero L, Nat.zero_div]
theorem flat_ok {L x : Nat} (hL : L ≤ 12) (hx : mag x < 9218868437227405312) (hb : x < 18446744073709551616) : ∃ r, apartO L (click x (2 ^ L)) = some r ∧ ∀ k, k < 2 ^ L → F.order (r.getD k (0, 0)).1 x = some .eq ∧ F.order (r.getD k (0, 0)).2 0 = some .eq := by
  have hp : 1 ≤ 2 ^ L := Nat.pow_pos (by decide)
  obtain ⟨r, h1, h2⟩ := lRun_q (flat_step hx hb) hL L 0 (loadL L (click x (2 ^ L))) (Nat.zero_add _) (loadL_len _ _) (fun q hq k hk => by
    rw [Nat.sub_zero] at hq
    obtain rfl : k = 0 := by rw [Nat.pow_zero] at hk; omega
    rw [Nat.pow_zero, Nat.mul_one, Nat.add_zero]
    have e : (loadL L (click x (2 ^ L))).getD q (0, 0) = (click x (2 ^ L)).getD (brev L q) (0, 0) := by
      simp [loadL, List.getD_eq_getElem?_getD, hq]
    rw [e, click_at hp]
    unfold FlatQ
    by_cases c : q = 0
    · subst c
      rw [brev_zero, if_pos rfl, if_pos rfl]
      exact ⟨.inl rfl, .inl rfl⟩
    · have : brev L q ≠ 0 := fun e => c (by
        have h := (rev_at hL hq).2.2
        rw [e, brev_zero] at h
        exact h.symm)
      rw [if_neg this, if_neg c]
      exact ⟨.inl rfl, .inl rfl⟩)
  refine ⟨r, h1, fun k hk => ?_⟩
  obtain ⟨h3, h4⟩ := h2 k hk
  rw [if_pos rfl] at h3
  exact ⟨ord_like hx h3, ord_z h4 (.inl rfl)⟩
/-- A number between these two is finite. -/
theorem fin_of {x : Nat} (h1 : (F.order x 18318360957983683996 == some .gt || F.order x 18318360957983683996 == some .eq) = true) (h2 : (F.order x 9094988921128908188 == some .lt || F.order x 9094988921128908188 == some .eq) = true) : mag x < 9218868437227405312 := by
  refine Nat.not_le.1 fun c => ?_
  rcases Nat.lt_or_eq_of_le c with d | d
  · obtain ⟨s, t, e⟩ := read_nan d
    have : F.order x 18318360957983683996 = none := by
      unfold Format.order
      rw [e]
      cases F.read 18318360957983683996 <;> rfl
    rw [this] at h1
    cases h1
  · have e := read_inf (x := x) d.symm
    have r1 : ∃ s m p, F.read 18318360957983683996 = .number s m p := ⟨_, _, _, by rfl⟩
    have r2 : ∃ s m p, F.read 9094988921128908188 = .number s m p := ⟨_, _, _, by rfl⟩
    obtain ⟨_, _, _, r1⟩ := r1
    obtain ⟨_, _, _, r2⟩ := r2
    unfold Format.order at h1 h2
    rw [e, r1] at h1
    rw [e, r2] at h2
    unfold Datum.order at h1 h2
    cases hs : sgn x
    · rw [hs] at h2
      exact Bool.noConfusion (show false = true from h2)
    · rw [hs] at h1
      exact Bool.noConfusion (show false = true from h1)
theorem f64_of {b : Nat} (h : (Lit.float .f64 b).wf = true) : b < 18446744073709551616 := of_decide_eq_true h
/-- No power of two. -/
def noTwo (n : Int) : Prop := ∀ L, L ≤ 12 → n ≠ ((2 ^ L : Nat) : Int)
theorem p2_inv {j : Nat} (h : 2 ^ j ≤ 4096) : j ≤ 12 := by
  refine Nat.not_lt.1 fun c => ?_
  have := Nat.pow_le_pow_right (n := 2) (by decide) (show 13 ≤ j by omega)
  have e : (2 : Nat) ^ 13 = 8192 := by decide
  omega
theorem p2_dbl (j : Nat) : (2 : Int) * ((2 ^ j : Nat) : Int) = ((2 ^ (j + 1) : Nat) : Int) := by
  rw [Nat.pow_succ]
  omega
theorem noTwo_and {n : Int} (h : noTwo n) (h1 : 1 ≤ n) (h2 : n ≤ 4096) : andI n ≠ 0 := fun e => by
  obtain ⟨m, rfl⟩ : ∃ m : Nat, n = (m : Int) := ⟨n.toNat, by omega⟩
  obtain ⟨L, h3, h4⟩ := (and_at (n := m) (by omega) (by omega)).1 e
  exact h L h3 (by rw [h4])
theorem click_store {x n : Nat} (h : 1 ≤ n) : 0 + 1 ≤ (cxs (List.replicate n ((0, 0) : FC))).length ∧ splice (cxs (List.replicate n ((0, 0) : FC))) 0 [.av (.complex .f64 x 0)] = cxs (click x n) := flat_splice1 cxC (fun _ => rfl) (v := (x, 0)) (by rw [List.length_replicate]; exact h)
end Go.Proofs.Ytfibadnkhbjciaa.Pm
namespace Go.Proofs.Ytfibadnkhbjciaa.Pm
open Go Go.Proofs.Ytfibadnkhbjciaa.Fl

set_option maxRecDepth 100000 in
set_option maxHeartbeats 4000000 in
theorem new_no_pc (n : Int) (h : noTwo n) (hn1 : -9223372036854775808 ≤ n) (hn2 : n ≤ 9223372036854775807) : PC Try.prog 14 [(iv n)] [] (.tup [(.av (.pointer none)), (iv 8)]) [] := by
  refine pc_intro Try.func14 rfl (by kernel_rfl) (Nat.le_of_ble_eq_true rfl) (by kernel_rfl) (l0 := [ps 0 (iv n)]) rfl (fun c0 Bor hc0 => ?_)
  refine T_seq ?_
  refine T_r mixed [] [ps 0 (iv n)] (obs_nil) ?_
  refine T_seq <| T_seq ?_
  by_cases h1 : n < 1
  · refine T_r mixed [(3, .gd true .no), (4, .gd true .no), (5, .yes true), (7, .gd true .no), (8, .gd true .no), (9, .gd true .no), (10, .gd true .no), (11, .gd true .no)] [ps 0 (iv n), ps 16 (bv true)] (obs_cons (dty h1) (obs_cons (dty h1) (obs_cons (dty h1) (obs_cons (rfl : true = true) (obs_cons (rfl : true = true) (obs_cons (rfl : true = true) (obs_cons (rfl : true = true) (obs_cons (rfl : true = true) obs_nil)))))))) ?_
    refine T_then (b := true) rfl rfl ?_
    refine T_seq ?_
    refine T_r mixed [] [ps 2 (.av (.pointer none)), ps 3 (iv 8)] (obs_nil) ?_
    exact T_ret fun cx_ a_ hI_ => rt hc0 [ps 2 (.av (.pointer none)), ps 3 (iv 8)] [] hI_
  by_cases h2 : 4096 < n
  · refine T_r mixed [(3, .gd false (.no)), (4, .gd false (.no)), (5, .yes false), (7, .gd true .no), (8, .gd true .no), (9, .gd true .no), (10, .gd true .no), (11, .gd true .no), (12, .yes true)] [ps 0 (iv n), ps 16 (bv true)] (obs_cons (dtn h1) (obs_cons (dtn h1) (obs_cons (dtn h1) (obs_cons (dty h2) (obs_cons (dty h2) (obs_cons (dty h2) (obs_cons (dty h2) (obs_cons (dty h2) (obs_cons (dty h2) obs_nil))))))))) ?_
    refine T_then (b := true) rfl rfl ?_
    refine T_seq ?_
    refine T_r mixed [] [ps 2 (.av (.pointer none)), ps 3 (iv 8)] (obs_nil) ?_
    exact T_ret fun cx_ a_ hI_ => rt hc0 [ps 2 (.av (.pointer none)), ps 3 (iv 8)] [] hI_
  refine T_r mixed [(3, .gd false (.no)), (4, .gd false (.no)), (5, .yes false), (7, .gd false (.no)), (8, .gd false (.no)), (9, .gd false (.no)), (10, .gd false (.no)), (11, .gd false (.no)), (12, .yes false)] [ps 0 (iv n), ps 16 (bv (!(decide ((IntKind.wrap .i64 (BitVec.ofInt (IntKind.bits .i64) n &&& BitVec.ofInt (IntKind.bits .i64) (n - 1)).toNat) = 0))))] (obs_cons (dtn h1) (obs_cons (dtn h1) (obs_cons (dtn h1) (obs_cons (dtn h2) (obs_cons (dtn h2) (obs_cons (dtn h2) (obs_cons (by simp only [InK]; omega : InK .i64 (n - 1)) (obs_cons (dtn h2) (obs_cons (dtn h2) (obs_cons (dtn h2) obs_nil)))))))))) ?_
  by_cases h3 : (IntKind.wrap .i64 (BitVec.ofInt (IntKind.bits .i64) n &&& BitVec.ofInt (IntKind.bits .i64) (n - 1)).toNat) = 0
  · refine T_el (bt h3) ?_
    refine T_skip <| T_seq ?_
    exact absurd h3 (noTwo_and h (by omega) (by omega))
  refine T_th (bf h3) ?_
  refine T_seq ?_
  refine T_r mixed [] [ps 2 (.av (.pointer none)), ps 3 (iv 8)] (obs_nil) ?_
  exact T_ret fun cx_ a_ hI_ => rt hc0 [ps 2 (.av (.pointer none)), ps 3 (iv 8)] [] hI_
set_option maxRecDepth 100000 in
set_option maxHeartbeats 4000000 in
theorem plain_no_pc (n : Int) (v : List FC) (h : noTwo n) (hn1 : -9223372036854775808 ≤ n) (hn2 : n ≤ 9223372036854775807) : PC Try.prog 10 [(iv n), (.ssl (cxs v) 0 v.length), (bv false), (bv false)] [] (.tup [(.ssl [] 0 0), (iv 8)]) [] := by
  refine pc_intro Try.func10 rfl (by kernel_rfl) (Nat.le_of_ble_eq_true rfl) (by kernel_rfl) (l0 := [ps 0 (iv n), ps 1 (.ssl (cxs v) 0 v.length), ps 2 (bv false), ps 3 (bv false)]) rfl (fun c0 Bor hc0 => ?_)
  refine T_seq ?_
  refine T_r mixed [] [ps 0 (iv n), ps 2 (bv false), ps 3 (bv false), ps 5 (.opt 0 0), pb 0 30 [(.ssl (cxs v) 0 v.length)]] (obs_nil) ?_
  refine T_seq ?_
  refine T_r mixed [(1, .call [] [(iv n)] [] (.tup [(.av (.pointer none)), (iv 8)]) [])] [ps 2 (bv false), ps 3 (bv false), ps 5 (.opt 0 0), ps 10 (.av (.pointer none)), ps 11 (iv 8), pb 0 30 [(.ssl (cxs v) 0 v.length)]] (obs_cons (new_no_pc n h hn1 hn2) (obs_cons (rfl : Ren0 32 [(iv n)]) obs_nil)) ?_
  refine T_seq <| T_seq ?_
  refine T_r mixed [] [ps 2 (bv false), ps 3 (bv false), ps 5 (.opt 0 0), ps 10 (.av (.pointer none)), ps 11 (iv 8), ps 21 (bv true), pb 0 30 [(.ssl (cxs v) 0 v.length)]] (obs_nil) ?_
  refine T_then (b := true) rfl rfl ?_
  refine T_seq ?_
  refine T_r mixed [] [ps 8 (.av (.slice none 0 0)), ps 9 (iv 8)] (obs_nil) ?_
  exact T_ret fun cx_ a_ hI_ => rt hc0 [ps 8 (.av (.slice none 0 0)), ps 9 (iv 8)] [] hI_
set_option maxRecDepth 100000 in
set_option maxHeartbeats 4000000 in
theorem plain_yes_pc (L : Nat) (hL : L ≤ 12) (v : List FC) (hv : v.length = 2 ^ L) {r : List FC} (hr : apartO L v = some r) : PC Try.prog 10 [(nv (2 ^ L)), (.ssl (cxs v) 0 v.length), (bv false), (bv false)] [] (.tup [(.osl 0 0 (2 ^ L)), (iv 0)]) [some (31, (cxs r))] := by
  refine pc_intro Try.func10 rfl (by kernel_rfl) (Nat.le_of_ble_eq_true rfl) (by kernel_rfl) (l0 := [ps 0 (nv (2 ^ L)), ps 1 (.ssl (cxs v) 0 v.length), ps 2 (bv false), ps 3 (bv false)]) rfl (fun c0 Bor hc0 => ?_)
  refine T_seq ?_
  refine T_r mixed [] [ps 0 (nv (2 ^ L)), ps 2 (bv false), ps 3 (bv false), ps 5 (.opt 0 0), pb 0 30 [(.ssl (cxs v) 0 v.length)]] (obs_nil) ?_
  refine T_seq ?_
  refine T_r mixed [(1, .call [] [(nv (2 ^ L))] [] (.tup [(.opt 0 0), (iv 0)]) [some (63, [(nv L), (.av (.int .u32 0)), (.av (.int .i32 0)), (.av (.int .u32 0)), (.av (.slice none 0 0))])])] [ps 2 (bv false), ps 3 (bv false), ps 5 (.opt 0 0), ps 10 (.opt 32 0), ps 11 (iv 0), pb 0 30 [(.ssl (cxs v) 0 v.length)], pb 32 63 [(nv L), (.av (.int .u32 0)), (.av (.int .i32 0)), (.av (.int .u32 0)), (.av (.slice none 0 0))]] (obs_cons (new_pc L hL) (obs_cons (rfl : Ren0 32 [(nv (2 ^ L))]) obs_nil)) ?_
  refine T_seq <| T_seq ?_
  refine T_r mixed [] [ps 2 (bv false), ps 3 (bv false), ps 5 (.opt 0 0), ps 10 (.opt 32 0), ps 11 (iv 0), ps 21 (bv false), pb 0 30 [(.ssl (cxs v) 0 v.length)], pb 32 63 [(nv L), (.av (.int .u32 0)), (.av (.int .i32 0)), (.av (.int .u32 0)), (.av (.slice none 0 0))]] (obs_nil) ?_
  refine T_else (b := false) rfl rfl ?_
  refine T_skip <| T_seq ?_
  refine T_r mixed [] [ps 2 (bv false), ps 3 (bv false), ps 5 (.opt 0 0), ps 10 (.opt 32 0), ps 12 (.opt 112 0), pb 0 30 [(.ssl (cxs v) 0 v.length)], pb 32 63 [(nv L), (.av (.int .u32 0)), (.av (.int .i32 0)), (.av (.int .u32 0)), (.av (.slice none 0 0))], pb 112 43 [(PV.fn (.func 15) [(.opt 32 0)] [])]] (obs_nil) ?_
  refine T_seq <| T_seq ?_
  refine T_r mixed [] [ps 3 (bv false), ps 5 (.opt 0 0), ps 10 (.opt 32 0), ps 12 (.opt 112 0), ps 25 (bv false), pb 0 30 [(.ssl (cxs v) 0 v.length)], pb 32 63 [(nv L), (.av (.int .u32 0)), (.av (.int .i32 0)), (.av (.int .u32 0)), (.av (.slice none 0 0))], pb 112 43 [(PV.fn (.func 15) [(.opt 32 0)] [])]] (obs_nil) ?_
  refine T_else (b := false) rfl rfl ?_
  refine T_skip <| T_seq <| T_seq ?_
  refine T_r mixed [] [ps 5 (.opt 0 0), ps 12 (.opt 112 0), ps 29 (bv true), pb 0 30 [(.ssl (cxs v) 0 v.length)], pb 32 63 [(nv L), (.av (.int .u32 0)), (.av (.int .i32 0)), (.av (.int .u32 0)), (.av (.slice none 0 0))], pb 112 43 [(PV.fn (.func 15) [(.opt 32 0)] [])]] (obs_nil) ?_
  refine T_then (b := true) rfl rfl ?_
  refine T_seq ?_
  refine T_r mixed [(2, .call [32] [(.opt 0 0), (.ssl (cxs v) 0 v.length)] [some (63, [(nv L), (.av (.int .u32 0)), (.av (.int .i32 0)), (.av (.int .u32 0)), (.av (.slice none 0 0))])] (.tup [(.osl 1 0 (2 ^ L)), (iv 0)]) [some (63, [(nv L), (.av (.int .u32 1)), (.av (.int .i32 0)), (.av (.int .u32 0)), (.ssl (rws (waves L)) 0 L)]), some (31, (cxs r))])] [ps 8 (.osl 168 0 (2 ^ L)), ps 9 (iv 0), pb 168 31 (renL (sigo [32] 168) (cxs r))] (obs_cons (apart_pc L hL v hv hr) (obs_cons (rfl : [(.opt 32 0), (.ssl (cxs v) 0 v.length)] = renL (sigi [32] 168) [(.opt 0 0), (.ssl (cxs v) 0 v.length)]) (obs_cons (rfl : [(nv L), (.av (.int .u32 0)), (.av (.int .i32 0)), (.av (.int .u32 0)), (.av (.slice none 0 0))] = renL (sigi [32] 168) [(nv L), (.av (.int .u32 0)), (.av (.int .i32 0)), (.av (.int .u32 0)), (.av (.slice none 0 0))]) obs_nil))) ?_
  refine T_wk (Wk.eq (show _ = [ps 8 (.osl 168 0 (2 ^ L)), ps 9 (iv 0), pb 168 31 (cxs r)] from by simp only [renL_shd (cxs_shd _)])) ?_
  exact T_ret fun cx_ a_ hI_ => ret_ok (H' := [some (31, (cxs r))]) (.inr rfl) (Wk.ren3 [ps 8 (.osl 0 0 (2 ^ L)), ps 9 (iv 0), pb 0 31 (cxs r)] 0 hc0 [168] [(kb 0, (cxs r))] (obs_cons (cxs_shd _) (obs_nil)) (by kernel_rfl) rfl rfl (by kernel_rfl) (by kernel_rfl)) rfl (obs_cons rfl (obs_nil)) (fun cx_ a_ hI_ => ret_res (l' := [ps 8 (.osl 0 0 (2 ^ L)), ps 9 (iv 0), pb 0 31 (cxs r)]) (by kernel_rfl) cx_ a_ hI_) hI_
set_option maxRecDepth 100000 in
set_option maxHeartbeats 4000000 in
theorem two_no_pc (n : Int) (h : noTwo n) : PC Try.prog 11 [(iv n)] [] (bv false) [] := by
  refine pc_intro Try.func11 rfl (by kernel_rfl) (Nat.le_of_ble_eq_true rfl) (by kernel_rfl) (l0 := [ps 0 (iv n)]) rfl (fun c0 Bor hc0 => ?_)
  refine T_seq ?_
  refine T_r mixed [] [ps 0 (iv n)] (obs_nil) ?_
  refine T_seq <| T_seq ?_
  refine T_r mixed [] [ps 0 (iv n), ps 3 (iv 1)] (obs_nil) ?_
  refine T_block ?_
  refine T_loop (α := {x : Nat // x ≤ 13}) (fun x => [ps 0 (iv n), ps 3 (nv (2 ^ x.1))]) (fun x => 13 - x.1) 0 ⟨0, Nat.zero_le _⟩ (Wk.ren2 [ps 0 (iv n), ps 3 (nv (2 ^ 0))] 0 hc0 [] rfl rfl (by kernel_rfl) (by kernel_rfl)) ?_
  rintro ⟨j, hj⟩
  refine T_seq <| T_seq ?_
  have hjp : 0 < 2 ^ j := Nat.pow_pos (by decide)
  refine T_r mixed [] [ps 0 (iv n), ps 3 (nv (2 ^ j)), ps 5 (bv (decide ((((2 ^ j) : Nat) : Int) ≤ 4096)))] (obs_nil) ?_
  by_cases h1 : (((2 ^ j) : Nat) : Int) ≤ 4096
  · refine T_th (dty h1) ?_
    refine T_skip <| T_seq <| T_block <| T_seq ?_
    have hj12 := p2_inv (j := j) (by omega)
    refine T_r mixed [] [ps 0 (iv n), ps 3 (nv (2 ^ j)), ps 10 (bv (decide ((((2 ^ j) : Nat) : Int) = n)))] (obs_nil) ?_
    have h2 : ¬ ((((2 ^ j) : Nat) : Int) = n) := fun e => h j (p2_inv (by omega)) e.symm
    refine T_el (dtn h2) ?_
    refine T_skip <| T_blk ?_
    refine T_r mixed [] [ps 0 (iv n), ps 3 (iv (2 * (((2 ^ j) : Nat) : Int)))] (obs_cons (by simp only [InK]; omega : InK .i64 (2 * (((2 ^ j) : Nat) : Int))) obs_nil) ?_
    exact T_back ⟨j + 1, by have := p2_inv (j := j) (by omega); omega⟩ (Wk.trans (Wk.eq (show _ = [ps 0 (iv n), ps 3 (nv (2 ^ (j + 1)))] from by simp only [p2_dbl])) (Wk.ren2 [ps 0 (iv n), ps 3 (nv (2 ^ (j + 1)))] 0 hc0 [] rfl rfl (by kernel_rfl) (by kernel_rfl))) (show 13 - (j + 1) < 13 - j from by omega)
  refine T_el (dtn h1) ?_
  refine T_break rfl rfl ?_
  refine T_seq ?_
  refine T_r mixed [] [ps 2 (bv false)] (obs_nil) ?_
  exact T_ret fun cx_ a_ hI_ => rt hc0 [ps 2 (bv false)] [] hI_
set_option maxRecDepth 100000 in
set_option maxHeartbeats 4000000 in
theorem flat_yes (L : Nat) (hL : L ≤ 12) (y : Nat) (hx : y < 18446744073709551616) : PC Try.prog 5 [(nv (2 ^ L)), (flv y)] [] (bv true) [] := by
  have h2L := p2_le hL
  have h2p : 0 < 2 ^ L := Nat.pow_pos (by decide)
  refine pc_intro Try.func5 rfl (by kernel_rfl) (Nat.le_of_ble_eq_true rfl) (by kernel_rfl) (l0 := [ps 0 (nv (2 ^ L)), ps 1 (flv y)]) rfl (fun c0 Bor hc0 => ?_)
  refine T_seq ?_
  refine T_r mixed [] [ps 0 (nv (2 ^ L)), ps 1 (flv y)] (obs_nil) ?_
  refine T_seq <| T_seq ?_
  refine T_r mixed [(0, .call [] [] [] (bv true) [])] [ps 0 (nv (2 ^ L)), ps 1 (flv y), ps 11 (bv false)] (obs_cons alive_pc (obs_cons (rfl : Ren0 8 []) obs_nil)) ?_
  refine T_else (b := false) rfl rfl ?_
  refine T_skip <| T_seq <| T_seq ?_
  have h1 : ¬ ((((2 ^ L) : Nat) : Int) < 1) := by omega
  have h2 : ¬ (4096 < (((2 ^ L) : Nat) : Int)) := by omega
  by_cases h3 : (FloatKind.f64.format.order y 18318360957983683996 == some .gt || FloatKind.f64.format.order y 18318360957983683996 == some .eq) = true
  · refine T_r mixed [(3, .gd false (.no)), (4, .gd false (.no)), (5, .yes false), (7, .gd false (.no)), (8, .gd false (.no)), (9, .gd false (.no)), (10, .gd true (.no)), (11, .gd true (.no)), (12, .gd false (.yes true)), (13, .gd false (.no)), (14, .yes false)] [ps 0 (nv (2 ^ L)), ps 1 (flv y), ps 26 (bv (!(FloatKind.f64.format.order y 9094988921128908188 == some .lt || FloatKind.f64.format.order y 9094988921128908188 == some .eq)))] (obs_cons (dtn h1) (obs_cons (dtn h1) (obs_cons (dtn h1) (obs_cons (dtn h2) (obs_cons (dtn h2) (obs_cons (dtn h2) (obs_cons (h3 : (FloatKind.f64.format.order y 18318360957983683996 == some .gt || FloatKind.f64.format.order y 18318360957983683996 == some .eq) = true) (obs_cons (h3 : (FloatKind.f64.format.order y 18318360957983683996 == some .gt || FloatKind.f64.format.order y 18318360957983683996 == some .eq) = true) (obs_cons (dtn h2) (obs_cons (h3 : (FloatKind.f64.format.order y 18318360957983683996 == some .gt || FloatKind.f64.format.order y 18318360957983683996 == some .eq) = true) (obs_cons (dtn h2) (obs_cons (dtn h2) obs_nil)))))))))))) ?_
    by_cases h4 : (FloatKind.f64.format.order y 9094988921128908188 == some .lt || FloatKind.f64.format.order y 9094988921128908188 == some .eq) = true
    · refine T_el (congrArg Bool.not h4) ?_
      refine T_skip <| T_seq ?_
      obtain ⟨r, hr, hfl0⟩ := flat_ok (x := y) hL (fin_of h3 h4) hx
      have hfl : ∀ i, i < 2 ^ L → FloatKind.f64.format.order (r.getD i (0, 0)).1 y = some .eq ∧ FloatKind.f64.format.order (r.getD i (0, 0)).2 0 = some .eq := hfl0
      have hrl := apartO_len hr
      refine T_r mixed [(1, .cells (cxs (List.replicate (2 ^ L) (0, 0))))] [ps 0 (nv (2 ^ L)), ps 1 (flv y), ps 5 (.osl 152 0 (2 ^ L)), pb 152 31 (cxs (List.replicate (2 ^ L) (0, 0)))] (obs_cons (by omega : (0 : Int) ≤ ((((2 ^ L) : Nat) : Int) : Int) ∧ ((((2 ^ L) : Nat) : Int) : Int) ≤ ((((2 ^ L) : Nat) : Int) : Int) ∧ ((((2 ^ L) : Nat) : Int) : Int) ≤ 140737488355328 ∧ ((16 : Nat) : Int) * ((((2 ^ L) : Nat) : Int) : Int) ≤ 140737488355328) (obs_cons (zeros_cxs _ : zeros [(.av (.complex .f64 0 0))] (((((2 ^ L) : Nat) : Int) : Int) : Int).toNat = (cxs (List.replicate (2 ^ L) (0, 0)))) obs_nil)) ?_
      refine T_seq ?_
      refine T_r mixed [(3, .nat 0), (4, .cells (cxs (click y (2 ^ L))))] [ps 0 (nv (2 ^ L)), ps 1 (flv y), ps 5 (.osl 152 0 (2 ^ L)), pb 152 31 (cxs (click y (2 ^ L)))] (obs_cons (by omega : (0 : Int) ≤ 0 ∧ 0 < (((2 ^ L) : Nat) : Int)) (obs_cons (by omega : 0 + (0 : Int).toNat * 1 = 0) (obs_cons (click_store (by omega) : 0 + 1 ≤ ((cxs (List.replicate (2 ^ L) (0, 0)))).length ∧ splice (cxs (List.replicate (2 ^ L) (0, 0))) 0 [(.av (.complex .f64 y 0))] = (cxs (click y (2 ^ L)))) obs_nil))) ?_
      refine T_seq ?_
      refine T_r mixed [(2, .lay [152] (.call [] [(nv (2 ^ L)), (.ssl (cxs (click y (2 ^ L))) 0 ((click y (2 ^ L)).length)), (bv false), (bv false)] [] (.tup [(.osl 0 0 (2 ^ L)), (iv 0)]) [some (31, (cxs r))]))] [ps 0 (nv (2 ^ L)), ps 1 (flv y), ps 6 (.osl 224 0 (2 ^ L)), ps 7 (iv 0), pb 224 31 (renL (sigo [] 224) (cxs r))] (obs_cons (cxs_shd _ : shds (cxs (click y (2 ^ L)))) (obs_cons (plain_yes_pc L hL _ (click_len _ _) hr : PC Try.prog 10 [(nv (2 ^ L)), (.ssl (cxs (click y (2 ^ L))) 0 ((click y (2 ^ L)).length)), (bv false), (bv false)] [] (.tup [(.osl 0 0 (2 ^ L)), (iv 0)]) [some (31, (cxs r))]) (obs_cons (by rw [click_len]; rfl : [(nv (2 ^ L)), (.ssl (cxs (click y (2 ^ L))) 0 (2 ^ L)), (bv false), (bv false)] = renL (sigi [] 224) [(nv (2 ^ L)), (.ssl (cxs (click y (2 ^ L))) 0 ((click y (2 ^ L)).length)), (bv false), (bv false)]) obs_nil))) ?_
      refine T_wk (Wk.eq (show _ = [ps 0 (nv (2 ^ L)), ps 1 (flv y), ps 6 (.osl 224 0 (2 ^ L)), ps 7 (iv 0), pb 224 31 (cxs r)] from by simp only [renL_shd (cxs_shd _)])) ?_
      refine T_seq <| T_seq ?_
      refine T_r mixed [] [ps 0 (nv (2 ^ L)), ps 1 (flv y), ps 6 (.osl 224 0 (2 ^ L)), ps 40 (bv false), pb 224 31 (cxs r)] (obs_nil) ?_
      refine T_else (b := false) rfl rfl ?_
      refine T_skip <| T_seq <| T_seq ?_
      refine T_r mixed [] [ps 0 (nv (2 ^ L)), ps 1 (flv y), ps 6 (.osl 224 0 (2 ^ L)), ps 44 (.osl 224 0 (2 ^ L)), ps 45 (nv (2 ^ L)), ps 46 (iv 0), pb 224 31 (cxs r)] (obs_nil) ?_
      refine T_block ?_
      refine T_loop (α := {x : Nat // x ≤ 2 ^ L}) (fun x => [ps 0 (nv (2 ^ L)), ps 1 (flv y), ps 6 (.osl 0 0 (2 ^ L)), ps 44 (.osl 0 0 (2 ^ L)), ps 45 (nv (2 ^ L)), ps 46 (nv x.1), pb 0 31 (cxs r)]) (fun x => 2 ^ L - x.1) 1 ⟨0, Nat.zero_le _⟩ (Wk.ren3 [ps 0 (nv (2 ^ L)), ps 1 (flv y), ps 6 (.osl 0 0 (2 ^ L)), ps 44 (.osl 0 0 (2 ^ L)), ps 45 (nv (2 ^ L)), ps 46 (nv 0), pb 0 31 (cxs r)] 0 hc0 [224] [(kb 0, (cxs r))] (obs_cons (cxs_shd _) (obs_nil)) (by kernel_rfl) rfl rfl (by kernel_rfl) (by kernel_rfl)) ?_
      rintro ⟨i, hi⟩
      refine T_seq ?_
      refine T_r mixed [] [ps 0 (nv (2 ^ L)), ps 1 (flv y), ps 6 (.osl 0 0 (2 ^ L)), ps 44 (.osl 0 0 (2 ^ L)), ps 45 (nv (2 ^ L)), ps 46 (nv i), ps 47 (bv (decide (((i : Nat) : Int) < (((2 ^ L) : Nat) : Int)))), pb 0 31 (cxs r)] (obs_nil) ?_
      refine T_seq ?_
      by_cases h5 : ((i : Nat) : Int) < (((2 ^ L) : Nat) : Int)
      · refine T_th (dty h5) ?_
        refine T_skip <| T_seq <| T_block <| T_seq ?_
        refine T_r mixed [(0, .nat i), (1, .val (.av (.complex .f64 ((r.getD i (0, 0)).1) ((r.getD i (0, 0)).2))))] [ps 0 (nv (2 ^ L)), ps 1 (flv y), ps 6 (.osl 0 0 (2 ^ L)), ps 9 (.av (.complex .f64 ((r.getD i (0, 0)).1) ((r.getD i (0, 0)).2))), ps 44 (.osl 0 0 (2 ^ L)), ps 45 (nv (2 ^ L)), ps 46 (nv i), pb 0 31 (cxs r)] (obs_cons (by omega : (0 : Int) ≤ ((i : Nat) : Int) ∧ ((i : Nat) : Int) < (((2 ^ L) : Nat) : Int)) (obs_cons (by omega : 0 + (((i : Nat) : Int) : Int).toNat * 1 = i) (obs_cons (flat_at1 cxC (fun _ => rfl) (0, 0) r i (by omega) : i + 1 ≤ ((cxs r)).length ∧ (((cxs r)).drop i).take 1 = [(.av (.complex .f64 ((r.getD i (0, 0)).1) ((r.getD i (0, 0)).2)))]) obs_nil))) ?_
        refine T_seq ?_
        have h6 : ¬ ((FloatKind.f64.format.order ((r.getD i (0, 0)).1) y != some .eq) = true) := by rw [(hfl i (by omega)).1]; decide
        refine T_r mixed [(5, .gd false (.no)), (6, .gd false (.no)), (7, .gd false (.no)), (8, .yes false)] [ps 0 (nv (2 ^ L)), ps 1 (flv y), ps 6 (.osl 0 0 (2 ^ L)), ps 44 (.osl 0 0 (2 ^ L)), ps 45 (nv (2 ^ L)), ps 46 (nv i), ps 58 (bv (FloatKind.f64.format.order ((r.getD i (0, 0)).2) 0 != some .eq)), pb 0 31 (cxs r)] (obs_cons (Bool.eq_false_iff.2 h6 : (FloatKind.f64.format.order ((r.getD i (0, 0)).1) y != some .eq) = false) (obs_cons (Bool.eq_false_iff.2 h6 : (FloatKind.f64.format.order ((r.getD i (0, 0)).1) y != some .eq) = false) (obs_cons (Bool.eq_false_iff.2 h6 : (FloatKind.f64.format.order ((r.getD i (0, 0)).1) y != some .eq) = false) (obs_cons (Bool.eq_false_iff.2 h6 : (FloatKind.f64.format.order ((r.getD i (0, 0)).1) y != some .eq) = false) obs_nil)))) ?_
        have h7 : ¬ ((FloatKind.f64.format.order ((r.getD i (0, 0)).2) 0 != some .eq) = true) := by rw [(hfl i (by omega)).2]; decide
        refine T_else (b := (FloatKind.f64.format.order ((r.getD i (0, 0)).2) 0 != some .eq)) rfl (Bool.eq_false_iff.2 h7) ?_
        refine T_skip <| T_blk ?_
        refine T_r mixed [] [ps 0 (nv (2 ^ L)), ps 1 (flv y), ps 6 (.osl 0 0 (2 ^ L)), ps 44 (.osl 0 0 (2 ^ L)), ps 45 (nv (2 ^ L)), ps 46 (iv (((i : Nat) : Int) + 1)), pb 0 31 (cxs r)] (obs_cons (by simp only [InK]; omega : InK .i64 (((i : Nat) : Int) + 1)) obs_nil) ?_
        exact T_back ⟨i + 1, by omega⟩ (Wk.ren3 [ps 0 (nv (2 ^ L)), ps 1 (flv y), ps 6 (.osl 0 0 (2 ^ L)), ps 44 (.osl 0 0 (2 ^ L)), ps 45 (nv (2 ^ L)), ps 46 (nv (i + 1)), pb 0 31 (cxs r)] 0 hc0 [0] [(kb 0, (cxs r))] (obs_cons (cxs_shd _) (obs_nil)) (by kernel_rfl) rfl rfl (by kernel_rfl) (by kernel_rfl)) (show 2 ^ L - (i + 1) < 2 ^ L - i from by omega)
      refine T_el (dtn h5) ?_
      refine T_break rfl rfl ?_
      refine T_seq ?_
      refine T_r mixed [] [ps 4 (bv (decide ((((2 ^ L) : Nat) : Int) = (((2 ^ L) : Nat) : Int))))] (obs_nil) ?_
      refine T_wk (Wk.eq (show _ = [ps 4 (bv true)] from by rw [dty (rfl : (((2 ^ L) : Nat) : Int) = (((2 ^ L) : Nat) : Int))])) ?_
      exact T_ret fun cx_ a_ hI_ => rt hc0 [ps 4 (bv true)] [] hI_
    refine T_th (congrArg Bool.not (Bool.eq_false_iff.2 h4)) ?_
    refine T_seq ?_
    refine T_r mixed [] [ps 4 (bv true)] (obs_nil) ?_
    exact T_ret fun cx_ a_ hI_ => rt hc0 [ps 4 (bv true)] [] hI_
  refine T_r mixed [(3, .gd false (.no)), (4, .gd false (.no)), (5, .yes false), (7, .gd false (.no)), (8, .gd false (.no)), (9, .gd false (.no)), (10, .gd false .no), (11, .gd false .no), (12, .gd false (.yes false)), (13, .gd false (.no)), (14, .yes false)] [ps 0 (nv (2 ^ L)), ps 1 (flv y), ps 26 (bv true)] (obs_cons (dtn h1) (obs_cons (dtn h1) (obs_cons (dtn h1) (obs_cons (dtn h2) (obs_cons (dtn h2) (obs_cons (dtn h2) (obs_cons (Bool.eq_false_iff.2 h3 : (FloatKind.f64.format.order y 18318360957983683996 == some .gt || FloatKind.f64.format.order y 18318360957983683996 == some .eq) = false) (obs_cons (Bool.eq_false_iff.2 h3 : (FloatKind.f64.format.order y 18318360957983683996 == some .gt || FloatKind.f64.format.order y 18318360957983683996 == some .eq) = false) (obs_cons (dtn h2) (obs_cons (Bool.eq_false_iff.2 h3 : (FloatKind.f64.format.order y 18318360957983683996 == some .gt || FloatKind.f64.format.order y 18318360957983683996 == some .eq) = false) (obs_cons (dtn h2) (obs_cons (dtn h2) obs_nil)))))))))))) ?_
  refine T_then (b := true) rfl rfl ?_
  refine T_seq ?_
  refine T_r mixed [] [ps 4 (bv true)] (obs_nil) ?_
  exact T_ret fun cx_ a_ hI_ => rt hc0 [ps 4 (bv true)] [] hI_
set_option maxRecDepth 100000 in
set_option maxHeartbeats 4000000 in
theorem flat_no (n : Int) (y : Nat) (h : noTwo n) : PC Try.prog 5 [(iv n), (flv y)] [] (bv true) [] := by
  refine pc_intro Try.func5 rfl (by kernel_rfl) (Nat.le_of_ble_eq_true rfl) (by kernel_rfl) (l0 := [ps 0 (iv n), ps 1 (flv y)]) rfl (fun c0 Bor hc0 => ?_)
  refine T_seq ?_
  refine T_r mixed [] [ps 0 (iv n), ps 1 (flv y)] (obs_nil) ?_
  refine T_seq <| T_seq ?_
  refine T_r mixed [(0, .call [] [] [] (bv true) [])] [ps 0 (iv n), ps 1 (flv y), ps 11 (bv false)] (obs_cons alive_pc (obs_cons (rfl : Ren0 8 []) obs_nil)) ?_
  refine T_else (b := false) rfl rfl ?_
  refine T_skip <| T_seq <| T_seq ?_
  by_cases h1 : n < 1
  · refine T_r mixed [(3, .gd true .no), (4, .gd true .no), (5, .yes true), (7, .gd true .no), (8, .gd true .no), (9, .gd true .no), (12, .gd true .no), (13, .gd true .no)] [ps 0 (iv n), ps 1 (flv y), ps 26 (bv true)] (obs_cons (dty h1) (obs_cons (dty h1) (obs_cons (dty h1) (obs_cons (rfl : true = true) (obs_cons (rfl : true = true) (obs_cons (rfl : true = true) (obs_cons (rfl : true = true) (obs_cons (rfl : true = true) obs_nil)))))))) ?_
    refine T_then (b := true) rfl rfl ?_
    refine T_seq ?_
    refine T_r mixed [] [ps 4 (bv true)] (obs_nil) ?_
    exact T_ret fun cx_ a_ hI_ => rt hc0 [ps 4 (bv true)] [] hI_
  by_cases h2 : 4096 < n
  · refine T_r mixed [(3, .gd false (.no)), (4, .gd false (.no)), (5, .yes false), (7, .gd true .no), (8, .gd true .no), (9, .gd true .no), (12, .gd true .no), (13, .gd true .no), (14, .yes true)] [ps 0 (iv n), ps 1 (flv y), ps 26 (bv true)] (obs_cons (dtn h1) (obs_cons (dtn h1) (obs_cons (dtn h1) (obs_cons (dty h2) (obs_cons (dty h2) (obs_cons (dty h2) (obs_cons (dty h2) (obs_cons (dty h2) (obs_cons (dty h2) obs_nil))))))))) ?_
    refine T_then (b := true) rfl rfl ?_
    refine T_seq ?_
    refine T_r mixed [] [ps 4 (bv true)] (obs_nil) ?_
    exact T_ret fun cx_ a_ hI_ => rt hc0 [ps 4 (bv true)] [] hI_
  by_cases h3 : (FloatKind.f64.format.order y 18318360957983683996 == some .gt || FloatKind.f64.format.order y 18318360957983683996 == some .eq) = true
  · refine T_r mixed [(3, .gd false (.no)), (4, .gd false (.no)), (5, .yes false), (7, .gd false (.no)), (8, .gd false (.no)), (9, .gd false (.no)), (10, .gd true (.no)), (11, .gd true (.no)), (12, .gd false (.yes true)), (13, .gd false (.no)), (14, .yes false)] [ps 0 (iv n), ps 1 (flv y), ps 26 (bv (!(FloatKind.f64.format.order y 9094988921128908188 == some .lt || FloatKind.f64.format.order y 9094988921128908188 == some .eq)))] (obs_cons (dtn h1) (obs_cons (dtn h1) (obs_cons (dtn h1) (obs_cons (dtn h2) (obs_cons (dtn h2) (obs_cons (dtn h2) (obs_cons (h3 : (FloatKind.f64.format.order y 18318360957983683996 == some .gt || FloatKind.f64.format.order y 18318360957983683996 == some .eq) = true) (obs_cons (h3 : (FloatKind.f64.format.order y 18318360957983683996 == some .gt || FloatKind.f64.format.order y 18318360957983683996 == some .eq) = true) (obs_cons (dtn h2) (obs_cons (h3 : (FloatKind.f64.format.order y 18318360957983683996 == some .gt || FloatKind.f64.format.order y 18318360957983683996 == some .eq) = true) (obs_cons (dtn h2) (obs_cons (dtn h2) obs_nil)))))))))))) ?_
    by_cases h4 : (FloatKind.f64.format.order y 9094988921128908188 == some .lt || FloatKind.f64.format.order y 9094988921128908188 == some .eq) = true
    · refine T_el (congrArg Bool.not h4) ?_
      refine T_skip <| T_seq ?_
      obtain ⟨m, rfl⟩ : ∃ m : Nat, n = (m : Int) := ⟨n.toNat, by omega⟩
      refine T_r mixed [(1, .cells (cxs (List.replicate m (0, 0))))] [ps 0 (nv m), ps 1 (flv y), ps 5 (.osl 152 0 m), pb 152 31 (cxs (List.replicate m (0, 0)))] (obs_cons (by omega : (0 : Int) ≤ ((m : Nat) : Int) ∧ ((m : Nat) : Int) ≤ ((m : Nat) : Int) ∧ ((m : Nat) : Int) ≤ 140737488355328 ∧ ((16 : Nat) : Int) * ((m : Nat) : Int) ≤ 140737488355328) (obs_cons (zeros_cxs _ : zeros [(.av (.complex .f64 0 0))] (((m : Nat) : Int) : Int).toNat = (cxs (List.replicate m (0, 0)))) obs_nil)) ?_
      refine T_seq ?_
      refine T_r mixed [(3, .nat 0), (4, .cells (cxs (click y m)))] [ps 0 (nv m), ps 1 (flv y), ps 5 (.osl 152 0 m), pb 152 31 (cxs (click y m))] (obs_cons (by omega : (0 : Int) ≤ 0 ∧ 0 < ((m : Nat) : Int)) (obs_cons (by omega : 0 + (0 : Int).toNat * 1 = 0) (obs_cons (click_store (by omega) : 0 + 1 ≤ ((cxs (List.replicate m (0, 0)))).length ∧ splice (cxs (List.replicate m (0, 0))) 0 [(.av (.complex .f64 y 0))] = (cxs (click y m))) obs_nil))) ?_
      refine T_seq ?_
      refine T_r mixed [(2, .lay [152] (.call [] [(nv m), (.ssl (cxs (click y m)) 0 ((click y m).length)), (bv false), (bv false)] [] (.tup [(.ssl [] 0 0), (iv 8)]) []))] [ps 0 (nv m), ps 1 (flv y), ps 6 (.ssl [] 0 0), ps 7 (iv 8)] (obs_cons (cxs_shd _ : shds (cxs (click y m))) (obs_cons (plain_no_pc ((m : Nat) : Int) _ h (by omega) (by omega) : PC Try.prog 10 [(nv m), (.ssl (cxs (click y m)) 0 ((click y m).length)), (bv false), (bv false)] [] (.tup [(.ssl [] 0 0), (iv 8)]) []) (obs_cons (by rw [click_len]; rfl : [(nv m), (.ssl (cxs (click y m)) 0 m), (bv false), (bv false)] = renL (sigi [] 224) [(nv m), (.ssl (cxs (click y m)) 0 ((click y m).length)), (bv false), (bv false)]) obs_nil))) ?_
      refine T_seq <| T_seq ?_
      refine T_r mixed [] [ps 0 (nv m), ps 1 (flv y), ps 6 (.ssl [] 0 0), ps 40 (bv true)] (obs_nil) ?_
      refine T_then (b := true) rfl rfl ?_
      refine T_seq ?_
      refine T_r mixed [(1, .call [] [(nv m)] [] (bv false) [])] [ps 4 (bv true)] (obs_cons (two_no_pc ((m : Nat) : Int) h) (obs_cons (rfl : Ren0 296 [(nv m)]) obs_nil)) ?_
      exact T_ret fun cx_ a_ hI_ => rt hc0 [ps 4 (bv true)] [] hI_
    refine T_th (congrArg Bool.not (Bool.eq_false_iff.2 h4)) ?_
    refine T_seq ?_
    refine T_r mixed [] [ps 4 (bv true)] (obs_nil) ?_
    exact T_ret fun cx_ a_ hI_ => rt hc0 [ps 4 (bv true)] [] hI_
  refine T_r mixed [(3, .gd false (.no)), (4, .gd false (.no)), (5, .yes false), (7, .gd false (.no)), (8, .gd false (.no)), (9, .gd false (.no)), (10, .gd false .no), (11, .gd false .no), (12, .gd false (.yes false)), (13, .gd false (.no)), (14, .yes false)] [ps 0 (iv n), ps 1 (flv y), ps 26 (bv true)] (obs_cons (dtn h1) (obs_cons (dtn h1) (obs_cons (dtn h1) (obs_cons (dtn h2) (obs_cons (dtn h2) (obs_cons (dtn h2) (obs_cons (Bool.eq_false_iff.2 h3 : (FloatKind.f64.format.order y 18318360957983683996 == some .gt || FloatKind.f64.format.order y 18318360957983683996 == some .eq) = false) (obs_cons (Bool.eq_false_iff.2 h3 : (FloatKind.f64.format.order y 18318360957983683996 == some .gt || FloatKind.f64.format.order y 18318360957983683996 == some .eq) = false) (obs_cons (dtn h2) (obs_cons (Bool.eq_false_iff.2 h3 : (FloatKind.f64.format.order y 18318360957983683996 == some .gt || FloatKind.f64.format.order y 18318360957983683996 == some .eq) = false) (obs_cons (dtn h2) (obs_cons (dtn h2) obs_nil)))))))))))) ?_
  refine T_then (b := true) rfl rfl ?_
  refine T_seq ?_
  refine T_r mixed [] [ps 4 (bv true)] (obs_nil) ?_
  exact T_ret fun cx_ a_ hI_ => rt hc0 [ps 4 (bv true)] [] hI_
theorem law_flat (n : Int) (y : Nat) (hx : y < 18446744073709551616) : PC Try.prog 5 [iv n, flv y] [] (bv true) [] := by
  by_cases h : ∃ L, L ≤ 12 ∧ n = ((2 ^ L : Nat) : Int)
  · obtain ⟨L, h1, rfl⟩ := h
    exact flat_yes L h1 y hx
  · exact flat_no n y (fun L h1 h2 => h ⟨L, h1, h2⟩)
end Go.Proofs.Ytfibadnkhbjciaa.Pm
namespace Go.Proofs.Ytfibadnkhbjciaa
open Go.ChangeShapes Go.WideShapes Go.ChangeAt Go.RowKit

theorem Try.own : ownKnob Try.prog.godebug = none := by kernel_rfl
theorem Try.laidOut : laidOutB Try.prog = true := by kernel_rfl

section
variable {H : Type} {enc : TypeId × Value → H} {P : Program}
/-- All arguments at once. -/
theorem trodAll_stays (hl : laidOutB P = true) {W W' : World} {sp : Nat → Bool} (hb : Below W.heap.size W W') :
    ∀ {ts : List TypeId} {vs : List Value} {ds : List (DataW H)} {ps : List MemPlace}, (ts.all fun t => P.readableRec t && decide (t < P.types.size)) = true →
      DataW.TrodAll enc P W 0 (fun _ => true) true ts vs ds ps → (∀ x ∈ ps, x.block < W.heap.size) → (∀ x ∈ ps, sp x.block = true) → DataW.TrodAll enc P W' 0 sp true ts vs ds ps
  | [], _, _, _, _, h, _, _ => by obtain ⟨rfl, rfl, rfl⟩ := trodAll_nil h; exact trodAll_mk0
  | t :: ts, _, _, _, hr, h, hlt, hsp => by
    obtain ⟨v, vs, d, ds, p, q, rfl, rfl, rfl, h0, h1⟩ := trodAll_cons h
    simp only [List.all_cons, Bool.and_eq_true, decide_eq_true_eq] at hr
    exact trodAll_cons_mk (WideElems.Trod_stays hl hr.1.1 hr.1.2 h0 (fun x hx => hb.same (hlt x (by simp [hx]))) (fun x hx => hsp x (by simp [hx])))
      (trodAll_stays hl hb hr.2 h1 (fun x hx => hlt x (by simp [hx])) (fun x hx => hsp x (by simp [hx])))

/-- A law's post: true, and each argument reads as it did. -/
theorem law_post {f : Func} {s : ChangeSpec} {apart fresh handsOn again : Bool} {W W' : World} {args : Array Value} {ds : List (DataW H)} {before : List MemPlace} {tb : TypeId}
    (hW : DataW.Whole enc P f.params.toList s.vars apart W args.toList ds [] before) (hl : laidOutB P = true)
    (hv : s.vars = []) (hr : (f.params.toList.all fun t => P.readableRec t && decide (t < P.types.size)) = true) (hrt : f.resultTypes = #[tb]) (htb : P.underlying tb = some .bool)
    (hs : s.fn H (ds ++ []) = { results := [.lit (.bool true)], args := ds }) (hb : Below W.heap.size W W') :
    s.post enc P f apart fresh handsOn again W args (.bool true) W' := by
  have hlt : ∀ p ∈ before, p.block < W.heap.size := fun p hp => hW.lt p hp
  have hold : ∀ p ∈ before, (fun b => decide (b < W.heap.size)) p.block = true := fun p hp => by simpa using hlt p hp
  have hW0 := hW
  obtain ⟨p, q, hA, hV, hpq, hz, hn⟩ := hW
  have hq : q = [] := by rw [hv] at hV; exact (trodVars_none hV).2
  have hpq' : before = p := by rw [hpq, hq, List.append_nil]
  subst hpq'
  have hargs : ∀ sp : Nat → Bool, (∀ x ∈ before, sp x.block = true) → DataW.TrodAll enc P W' 0 sp true f.params.toList args.toList (s.fn H (ds ++ [])).args before := fun sp hsp => by
    rw [hs]; exact trodAll_stays hl hb hr hA hlt hsp
  have hvars : ∀ sp : Nat → Bool, DataW.TrodVars enc P W' sp s.vars (s.fn H (ds ++ [])).vars [] := fun sp => by rw [hs, hv]; rfl
  have hres : ∀ (b : Nat) (sp : Nat → Bool) (hd : Bool), DataW.TrodAll enc P W' b sp hd f.resultTypes.toList (Value.resultList f.resultTypes.size (.bool true)) (s.fn H (ds ++ [])).results [] := fun b sp hd => by
    rw [hrt, hs]; exact trodAll_mk1 (shut_bool htb true)
  have hok : ∀ (j : Nat) (t : TypeId) (r : Value), f.resultTypes[j]? = some t → (Value.resultList f.resultTypes.size (.bool true))[j]? = some r → Value.okWide P W' .any 0 t r := by
    exact ok_one (t := tb) hrt rfl (okWide_bool_mk htb true)
  refine ⟨ds, [], before, [], before, [], hW0, hres _ _ _, hargs _ hold, hvars _, World.keptBut_mono (fun p hp => ⟨hp, ?_⟩) (hb.frame (· ∈ before)), fun _ => ?_⟩
  · exact Or.inr (Or.inl hp)
  · refine ⟨hok, _, _, ([] ++ before) ++ [], ⟨[] ++ before, [], trodAll_append (hargs _ (fun _ _ => rfl)) (hres _ _ _), hvars _, rfl, ?_, ?_⟩, ?_⟩
    · intro b off hp
      have hin : MemPlace.cell b off ∈ before := by simpa using hp
      rw [hb.frozen (hlt _ hin)]
      exact hz b off hin
    · intro ha
      have := hn ha
      simpa using this
    · intro p hp _
      simpa using hp
end
end Go.Proofs.Ytfibadnkhbjciaa
namespace Go.Proofs.Ytfibadnkhbjciaa.Pm
open Go Go.Deep Go.ChangeShapes Go.WideShapes Go.ChangeAt Go.RowKit

theorem cells_from {w : World} {a : Addr} {n : Nat} {f : Nat → Value} (h : ∀ c, c < n → w.cell? (a.add c) = some (f c)) (hn : 0 < n) : ∃ b o, a = ⟨b, o, none⟩ ∧ b < w.heap.size ∧ ∀ c, c < n → w.cell? ⟨b, o + c, none⟩ = some (f c) := by
  obtain ⟨b, o, s⟩ := a
  have h0 := h 0 hn
  have hs : s = none := by
    simp only [Addr.add, if_true, World.cell?] at h0
    cases s with
    | none => rfl
    | some s =>
      exfalso
      split at h0
      · simp at h0
      · cases h0
  subst hs
  refine ⟨b, o, rfl, ?_, fun c hc => ?_⟩
  · simp only [Addr.add, if_true, World.cell?] at h0
    rcases Nat.lt_or_ge b w.heap.size with hb | hb
    · exact hb
    · rw [Array.getElem?_eq_none hb] at h0; cases h0
  · rw [← h c hc]
    unfold Addr.add
    by_cases e : c = 0
    · subst e; rfl
    · rw [if_neg e]
theorem ints_map (l : List Int) : ints l = l.map iv := by
  unfold ints
  induction l with
  | nil => rfl
  | cons a l ih => rw [List.flatMap_cons, ih]; rfl
theorem ints_ones (l : List Int) : ones (ints l) := fun p hp => by
  rw [ints_map] at hp
  obtain ⟨x, _, rfl⟩ := List.mem_map.1 hp
  rfl
theorem srep_ints {w : World} {A : Option Addr} {L C : Nat} {Z : List Int} (hl : L ≤ C) (hz : Z.length = C) (hn : A = none → C = 0) (hc : ∀ a, A = some a → ∀ c, c < C → w.cell? (a.add c) = some (.int .i64 (Z.getD c 0))) :
    SRep w (fun b => b < w.heap.size) (.ssl (ints (Z.take L)) 0 (Z.take L).length) (.slice A L C) := by
  have hL : (Z.take L).length = L := by rw [List.length_take]; omega
  rw [hL]
  rcases Nat.eq_zero_or_pos L with h | h
  · subst h; exact .emp
  · cases A with
    | none => have := hn rfl; omega
    | some a =>
      obtain ⟨b, o, rfl, hb, hcell⟩ := cells_from (hc a rfl) (by omega)
      refine SRep.ssl (a := o) (off := 0) (vf := fun j => .int .i64 (Z.getD j 0)) hb (fun j hj => ?_) (fun j hj => ?_) (ints_ones _) hl
      · rw [ints_len, hL] at hj; exact hcell j (by omega)
      · rw [ints_len, hL] at hj
        have : (ints (Z.take L)).getD j P0 = iv (Z.getD j 0) := by
          rw [ints_map]
          have h1 : j < Z.length := by omega
          simp [List.getD_eq_getElem?_getD, hj, h1]
        rw [this]
        exact .av _
theorem rows_map (T : List (List Int)) : rows T = T.map fun l => .ssl (ints l) 0 l.length := by
  induction T with
  | nil => rfl
  | cons a l ih => unfold rows at ih ⊢; rw [List.flatMap_cons, ih]; rfl
theorem srep_rows {w : World} {a : Addr} {len cap : Nat} {A : Nat → Option Addr} {L C : Nat → Nat} {Z : Nat → List Int} (hl : len ≤ cap)
    (h : ∀ r, r < cap → w.cell? (a.add r) = some (.slice (A r) (L r) (C r)) ∧ L r ≤ C r ∧ (Z r).length = C r ∧ (A r = none → C r = 0) ∧ ∀ a', A r = some a' → ∀ c, c < C r → w.cell? (a'.add c) = some (.int .i64 ((Z r).getD c 0))) :
    SRep w (fun b => b < w.heap.size) (.ssl (rows ((List.range len).map fun r => (Z r).take (L r))) 0 len) (.slice (some a) len cap) := by
  rcases Nat.eq_zero_or_pos len with h0 | h0
  · subst h0; exact .emp
  · obtain ⟨b, o, rfl, hb, hcell⟩ := cells_from (fun c hc => (h c hc).1) (by omega)
    have hlen : (rows ((List.range len).map fun r => (Z r).take (L r))).length = len := by rw [rows_map]; simp
    refine SRep.ssl (a := o) (off := 0) (vf := fun j => .slice (A j) (L j) (C j)) hb (fun j hj => ?_) (fun j hj => ?_) (fun p hp => ?_) hl
    · rw [hlen] at hj; exact hcell j (by omega)
    · rw [hlen] at hj
      have : (rows ((List.range len).map fun r => (Z r).take (L r))).getD j P0 = .ssl (ints ((Z j).take (L j))) 0 ((Z j).take (L j)).length := by
        rw [rows_map]
        simp [List.getD_eq_getElem?_getD, hj]
      rw [this]
      obtain ⟨_, h2, h3, h4, h5⟩ := h j (by omega)
      exact srep_ints h2 h3 h4 h5
    · rw [rows_map] at hp
      obtain ⟨x, _, rfl⟩ := List.mem_map.1 hp
      rfl
/-- A list of numbers that came in. -/
theorem arg_ints {H : Type} {enc : TypeId × Value → H} {P : Program} {w : World} {base : Nat} {t e : TypeId} {v : Value} {d : DataW H} {pl : List MemPlace} {r : Reach} {b0 : Nat} {held : Bool}
    (ht : P.underlying t = some (.slice e)) (he : P.underlying e = some (.int .i64)) (hc : P.cellsOf e = 1) (hv : Value.okWide P w r b0 t v) (h : DataW.Trod enc P w base (fun _ => true) held t v d pl) :
    ∃ l : List Int, SRep w (fun b => b < w.heap.size) (.ssl (ints l) 0 l.length) v ∧ (∀ n ∈ l, (Lit.int .i64 n).wf = true) ∧ (l = [] ∨ ∃ es sp, d = .slice es sp ∧ es.length = l.length) := by
  obtain ⟨a0, len0, cap0, rfl⟩ := okWide_slice ht hv
  obtain ⟨fuel, hf⟩ := h
  rcases open_ints ht he hc hf with ⟨hcs, _⟩ | ⟨a, len, cap, zs, hcs, hb, hl, hm, hz, hx, hcell, hwz⟩
  · simp only [Value.cells, List.cons.injEq, Value.slice.injEq, and_true] at hcs
    obtain ⟨rfl, rfl, rfl⟩ := hcs
    exact ⟨[], .emp, (by simp), .inl rfl⟩
  · simp only [Value.cells, List.cons.injEq, Value.slice.injEq, and_true] at hcs
    obtain ⟨rfl, rfl, rfl⟩ := hcs
    simp only [if_true] at hz
    simp only [Prod.mk.injEq] at hx
    refine ⟨zs.take len0, srep_ints hl hz (fun h => by cases h) (fun a' ha c hc => ?_), fun n hn => hwz n (List.mem_of_mem_take hn), .inr ⟨_, _, hx.1, by simp [lits]⟩⟩
    cases ha
    exact hcell c (by omega)
theorem weights_all_mem {H : Type} {P : Program} {e : TypeId} : ∀ {l : List (DataW H)} {d : DataW H}, d ∈ l → ∀ n ∈ d.weights P e, n ∈ DataW.weightsAll P e l
  | d' :: r, d, hd, n, hn => by
    simp only [DataW.weightsAll, List.mem_append]
    rcases List.mem_cons.1 hd with rfl | h
    · exact Or.inl hn
    · exact Or.inr (weights_all_mem h n hn)
/-- The reach, of a row inside a slice of slices. -/
theorem row_sized {H : Type} {P : Program} {ts : List TypeId} {ds : List (DataW H)} (h : (DataW.weightsEach P ts ds).all (· ≤ reachBytes) = true) {j : Nat} {t e q : TypeId} {elems spare e' sp' : List (DataW H)}
    (ht : ts[j]? = some t) (hd : ds[j]? = some (.slice elems spare)) (hu : P.underlying t = some (.slice e)) (hu2 : P.underlying e = some (.slice q)) (hx : DataW.slice e' sp' ∈ elems) : (e'.length + sp'.length) * P.bytesOf q ≤ reachBytes := by
  refine of_decide_eq_true (List.all_eq_true.1 h _ (DataW.weights_mem_each ht hd _ ?_))
  simp only [DataW.weights, hu, List.mem_cons, List.mem_append]
  exact Or.inr (Or.inl (weights_all_mem hx _ (by simp [DataW.weights, hu2])))
/-- The sizes of a list of numbers. -/
theorem ints_sized {H : Type} {P : Program} {ts : List TypeId} {ds : List (DataW H)} (h : (DataW.weightsEach P ts ds).all (· ≤ reachBytes) = true) {j : Nat} {t e : TypeId} {d : DataW H} {l : List Int} {k : Nat}
    (ht : ts[j]? = some t) (hd : ds[j]? = some d) (hu : P.underlying t = some (.slice e)) (hk : P.bytesOf e = k) (hx : l = [] ∨ ∃ es sp, d = .slice es sp ∧ es.length = l.length) : l.length * k ≤ 140737488351232 := by
  rcases hx with rfl | ⟨es, sp, rfl, he⟩
  · simp
  · have := sized_slice h ht hd hu
    rw [hk] at this
    rw [← he]
    exact Nat.le_trans (Nat.mul_le_mul_right k (Nat.le_add_right _ _)) this
/-- A list of lists of numbers that came in. -/
theorem arg_rows {H : Type} {enc : TypeId × Value → H} {P : Program} {w : World} {base : Nat} {t e q : TypeId} {v : Value} {d : DataW H} {pl : List MemPlace} {r : Reach} {b0 : Nat} {held : Bool}
    (ht : P.underlying t = some (.slice e)) (he : P.underlying e = some (.slice q)) (hq : P.underlying q = some (.int .i64)) (ce : P.cellsOf e = 1) (cq : P.cellsOf q = 1) (bq : P.bytesOf q = 8) (hv : Value.okWide P w r b0 t v) (h : DataW.Trod enc P w base (fun _ => true) held t v d pl)
    {ts : List TypeId} {ds : List (DataW H)} (hs : (DataW.weightsEach P ts ds).all (· ≤ reachBytes) = true) {j : Nat} (hj : ts[j]? = some t) (hd : ds[j]? = some d) :
    ∃ T : List (List Int), SRep w (fun b => b < w.heap.size) (.ssl (rows T) 0 T.length) v ∧ T.length ≤ 9223372036854775807 ∧ (∀ i, (T.getD i []).length * 8 ≤ 140737488351232) ∧ ∀ i, ∀ n ∈ T.getD i [], (Lit.int .i64 n).wf = true := by
  obtain ⟨a0, len0, cap0, rfl⟩ := okWide_slice ht hv
  obtain ⟨fuel, hf⟩ := h
  rcases open_int_rows ht he hq ce cq hf with ⟨hcs, _⟩ | ⟨a, len, cap, A, L, C, Z, hcs, _, hl, hm, hx, hrows⟩
  · simp only [Value.cells, List.cons.injEq, Value.slice.injEq, and_true] at hcs
    obtain ⟨rfl, rfl, rfl⟩ := hcs
    exact ⟨[], .emp, by simp, by simp, by simp⟩
  · simp only [Value.cells, List.cons.injEq, Value.slice.injEq, and_true] at hcs
    obtain ⟨rfl, rfl, rfl⟩ := hcs
    simp only [Prod.mk.injEq] at hx
    have hT : ((List.range len0).map fun r => (Z r).take (L r)).length = len0 := by simp
    have hg : ∀ i, i < len0 → ((List.range len0).map fun r => (Z r).take (L r)).getD i [] = (Z i).take (L i) := fun i hi => by simp [List.getD_eq_getElem?_getD, hi]
    have hg0 : ∀ i, ¬ i < len0 → ((List.range len0).map fun r => (Z r).take (L r)).getD i [] = [] := fun i hi => by rw [List.getD_eq_getElem?_getD, List.getElem?_eq_none (by simpa using hi)]; rfl
    refine ⟨(List.range len0).map fun r => (Z r).take (L r), ?_, ?_, fun i => ?_, fun i n hn => ?_⟩
    · rw [hT]
      exact srep_rows hl fun r hr => by
        obtain ⟨h1, h2, h3, h4, h5, h6, h7⟩ := hrows r hr
        exact ⟨h1, h2, h4, h6, fun a' ha => (h7 a' ha).2⟩
    · rw [hT]; unfold maxLen at hm; omega
    · by_cases hi : i < len0
      · rw [hg i hi]
        obtain ⟨h1, h2, h3, h4, h5, h6, h7⟩ := hrows i (by omega)
        cases hA : A i with
        | none => have := h6 hA; rw [List.length_take]; omega
        | some a' =>
          have hin := row_sized hs hj (by rw [hd, hx.1]) ht he (e' := lits .i64 ((Z i).take (L i))) (sp' := lits .i64 ((Z i).drop (L i))) (List.mem_map.2 ⟨i, List.mem_range.2 hi, by simp [intRow, hA]⟩)
          rw [bq] at hin
          simp only [lits, List.length_map, reachBytes] at hin
          omega
      · rw [hg0 i hi]; simp
    · by_cases hi : i < len0
      · rw [hg i hi] at hn
        exact (hrows i (by omega)).2.2.2.2.1 n (List.mem_of_mem_take hn)
      · rw [hg0 i hi] at hn; cases hn
end Go.Proofs.Ytfibadnkhbjciaa.Pm
namespace Go.Proofs.Ytfibadnkhbjciaa.Pm
open Go Go.Deep Go.ChangeShapes Go.WideShapes Go.ChangeAt Go.RowKit

/-- The parts of a struct, one behind the other. -/
def ShF (r : TypeId → List PV → Prop) : List Field → List PV → Prop
  | [], ps => ps = []
  | f :: fs, ps => ∃ a b, ps = a ++ b ∧ r f.type a ∧ ShF r fs b
/-- The tree's form, by the type. -/
def Sh (P : Program) : Nat → TypeId → List PV → Prop
  | 0, _, _ => False
  | n + 1, t, ps => match P.underlying t with
    | some .bool => ∃ b, ps = [.av (.bool b)]
    | some (.int k) => ∃ m, ps = [.av (.int k m)] ∧ (Lit.int k m).wf = true
    | some (.float k) => ∃ b, ps = [.av (.float k b)] ∧ (Lit.float k b).wf = true
    | some .string => ∃ s : ByteArray, ps = [.av (.string s)] ∧ s.size ≤ maxLen ∧ s.data.toList.length ≤ reachBytes
    | some (.slice e) => ∃ ess : List (List PV), ps = [.ssl ess.flatten 0 ess.length] ∧ ess.length ≤ maxLen ∧ ess.length * P.bytesOf e ≤ reachBytes ∧ ∀ es ∈ ess, Sh P n e es
    | some (.struct fs) => ShF (Sh P n) fs.toList ps
    | _ => False
mutual
/-- How much a reading holds. -/
def bulkW {H : Type} : DataW H → Nat
  | .lit (.string bytes) => bytes.length + 1
  | .lit _ => 1
  | .nil => 1
  | .ptr d => bulkW d + 1
  | .slice elems spare => bulkAll elems + bulkAll spare + 1
  | .agg parts => bulkAll parts + 1
  | .iface _ d => bulkW d + 1
  | .map entries => bulkEntries entries + 1
  | .held _ => 1
def bulkAll {H : Type} : List (DataW H) → Nat
  | [] => 0
  | d :: r => bulkW d + bulkAll r
def bulkEntries {H : Type} : List (Lit × DataW H) → Nat
  | [] => 0
  | x :: r => bulkEntry x + bulkEntries r
def bulkEntry {H : Type} : Lit × DataW H → Nat
  | (.string bytes, d) => bytes.length + bulkW d + 1
  | (_, d) => bulkW d + 1
end
mutual
/-- How much a tree holds. -/
def pvw : PV → Nat
  | .av (.string s) => s.size + 1
  | .ssl cs _ _ => pvws cs + 1
  | .agg cs => pvws cs + 1
  | _ => 1
def pvws : List PV → Nat
  | [] => 0
  | p :: l => pvw p + pvws l
end
theorem pvws_app : ∀ a b : List PV, pvws (a ++ b) = pvws a + pvws b
  | [], b => by simp [pvws]
  | p :: a, b => by rw [List.cons_append, pvws, pvws, pvws_app a b]; omega
theorem pvws_flatten : ∀ l : List (List PV), pvws l.flatten = (l.map pvws).sum
  | [] => rfl
  | a :: l => by rw [List.flatten_cons, pvws_app, pvws_flatten l, List.map_cons, List.sum_cons]
theorem sum_le {H : Type} : ∀ (n : Nat) (f : Nat → Nat) (ds : List (DataW H)), ds.length = n → (∀ i (h : i < ds.length), f i ≤ bulkW ds[i]) → ((List.range n).map f).sum ≤ bulkAll ds
  | 0, f, ds, hl, h => by simp
  | n + 1, f, [], hl, h => by simp at hl
  | n + 1, f, d :: ds, hl, h => by
    rw [List.range_succ_eq_map, List.map_cons, List.sum_cons, List.map_map, bulkAll]
    have h0 := h 0 (by simp)
    have h1 := sum_le n (f ∘ Nat.succ) ds (by simpa using hl) fun i hi => by have := h (i + 1) (by simpa using hi); simpa using this
    simp only [List.getElem_cons_zero] at h0
    omega
def contig (P : Program) : List Field → Nat → Option Nat
  | [], o => some o
  | f :: fs, o => if f.offset = o then contig P fs (o + P.cellsOf f.type) else none
/-- These types can be opened, with all that is in them. -/
def openB (P : Program) (Ts : List TypeId) : Bool := Ts.all fun t => match P.underlying t with
  | some .bool | some (.int _) | some (.float _) | some .string => Nat.beq (P.cellsOf t) 1
  | some (.slice e) => Nat.beq (P.cellsOf t) 1 && Nat.ble 1 (P.cellsOf e) && Ts.contains e
  | some (.struct fs) => contig P fs.toList 0 == some (P.cellsOf t) && fs.toList.all fun f => Ts.contains f.type
  | _ => false
theorem List.getD_app {α : Type} {l m : List α} {i : Nat} {d : α} (h : i < l.length) : (l ++ m).getD i d = l.getD i d := by
  rw [List.getD_eq_getElem?_getD, List.getD_eq_getElem?_getD, List.getElem?_append_left h]
theorem List.getD_app_r {α : Type} {l m : List α} {i : Nat} {d : α} (h : l.length ≤ i) : (l ++ m).getD i d = m.getD (i - l.length) d := by
  rw [List.getD_eq_getElem?_getD, List.getD_eq_getElem?_getD, List.getElem?_append_right h]
theorem flatten_get {k : Nat} : ∀ {ess : List (List PV)}, (∀ es ∈ ess, es.length = k) → ess.flatten.length = ess.length * k ∧ ∀ i j, j < k → i < ess.length → ess.flatten.getD (i * k + j) P0 = (ess.getD i []).getD j P0
  | [], _ => ⟨by simp, fun i j _ h => absurd h (Nat.not_lt_zero _)⟩
  | es :: ess, h => by
    have h0 := h es (by simp)
    obtain ⟨h1, h2⟩ := flatten_get (ess := ess) fun x hx => h x (by simp [hx])
    refine ⟨by rw [List.flatten_cons, List.length_append, h0, h1, List.length_cons, Nat.succ_mul]; omega, fun i j hj hi => ?_⟩
    rw [List.flatten_cons]
    cases i with
    | zero => rw [Nat.zero_mul, Nat.zero_add, List.getD_app (by omega)]; rfl
    | succ i =>
      rw [List.getD_app_r (by rw [h0, Nat.succ_mul]; omega), h0, show (i + 1) * k + j - k = i * k + j from by rw [Nat.succ_mul]; omega, h2 i j hj (by simpa using hi)]
      rfl
section
variable {H : Type} {enc : TypeId × Value → H} {P : Program} {w : World} {base : Nat} {held : Bool}
abbrev Opened (w : World) (ps : List PV) (cs : List Value) : Prop := ones ps ∧ ps.length = cs.length ∧ ∀ i, i < ps.length → SRep w (fun b => b < w.heap.size) (ps.getD i P0) (cs.getD i undef)
theorem opened_one {p : PV} {v : Value} (h : p.one = true) (hr : SRep w (fun b => b < w.heap.size) p v) : Opened w [p] [v] :=
  ⟨fun q hq => by simp only [List.mem_singleton] at hq; rw [hq]; exact h, rfl, fun i hi => by
    have : i = 0 := by simp at hi; omega
    subst this; exact hr⟩
theorem open_fs {Ts : List TypeId} {n : Nat} (ih : ∀ (t : TypeId) (cs : List Value) (x : DataW H × List MemPlace), t ∈ Ts → DataW.trod enc P w base (fun _ => true) held n t cs = some x → (x.1.weights P t).all (· ≤ reachBytes) = true →
    ∃ ps, Sh P n t ps ∧ Opened w ps cs ∧ cs.length = P.cellsOf t ∧ pvws ps ≤ bulkW x.1) (cs : List Value) :
    ∀ (fs : List Field) (xs : List (DataW H × List MemPlace)) (o e : Nat), contig P fs o = some e → e ≤ cs.length → (∀ f ∈ fs, f.type ∈ Ts) → xs.length = fs.length →
      (∀ (i : Nat) (f : Field), fs[i]? = some f → DataW.trod enc P w base (fun _ => true) held n f.type ((cs.drop f.offset).take (P.cellsOf f.type)) = xs[i]?) →
      (DataW.weightsEach P (fs.map (·.type)) (xs.map (·.1))).all (· ≤ reachBytes) = true → ∃ ps, ShF (Sh P n) fs ps ∧ Opened w ps ((cs.drop o).take (e - o)) ∧ o ≤ e ∧ pvws ps ≤ bulkAll (xs.map (·.1))
  | [], xs, o, e, hc, he, _, _, _, _ => by
    simp only [contig, Option.some.injEq] at hc
    subst hc
    exact ⟨[], rfl, ⟨fun p hp => (by cases hp), by simp, fun i hi => by simp at hi⟩, Nat.le_refl _, Nat.zero_le _⟩
  | f :: fs, [], o, e, hc, he, hT, hx, hf, hw => by simp at hx
  | f :: fs, x :: xs, o, e, hc, he, hT, hx, hf, hw => by
    simp only [contig] at hc
    split at hc
    case isFalse => cases hc
    rename_i ho
    simp only [List.map_cons, DataW.weightsEach, List.all_append, Bool.and_eq_true] at hw
    obtain ⟨b, hb1, hb2, hb3, hb4⟩ := open_fs ih cs fs xs _ e hc he (fun g hg => hT g (by simp [hg])) (by simpa using hx) (fun i g hg => by have := hf (i + 1) g (by simpa using hg); simpa using this) hw.2
    obtain ⟨a, ha1, ha2, ha3, ha4⟩ := ih f.type _ x (hT f (by simp)) (by have := hf 0 f (by simp); simpa using this) hw.1
    rw [ho] at ha2 ha3
    have hla : (List.take (P.cellsOf f.type) (List.drop o cs)).length = P.cellsOf f.type := ha3
    have e1 : (cs.drop o).take (e - o) = (cs.drop o).take (P.cellsOf f.type) ++ (cs.drop (o + P.cellsOf f.type)).take (e - (o + P.cellsOf f.type)) := by
      rw [← List.drop_drop, show e - o = P.cellsOf f.type + (e - (o + P.cellsOf f.type)) from by omega, List.take_add]
    refine ⟨a ++ b, ⟨a, b, rfl, ha1, hb1⟩, ?_, by omega, by rw [pvws_app, List.map_cons, bulkAll]; omega⟩
    rw [e1]
    refine ⟨fun p hp => ?_, by rw [List.length_append, List.length_append, ha2.2.1, hb2.2.1], fun i hi => ?_⟩
    · rcases List.mem_append.1 hp with h | h
      · exact ha2.1 p h
      · exact hb2.1 p h
    · have hl := ha2.2.1
      rw [List.length_append] at hi
      by_cases h : i < a.length
      · rw [List.getD_app h, List.getD_app (by omega)]
        exact ha2.2.2 i h
      · rw [List.getD_app_r (by omega), List.getD_app_r (by omega), ← hl]
        exact hb2.2.2 _ (by omega)
theorem open_any {Ts : List TypeId} (hT : openB P Ts = true) : ∀ (n : Nat) (t : TypeId) (cs : List Value) (x : DataW H × List MemPlace), t ∈ Ts → DataW.trod enc P w base (fun _ => true) held n t cs = some x → (x.1.weights P t).all (· ≤ reachBytes) = true →
    ∃ ps, Sh P n t ps ∧ Opened w ps cs ∧ cs.length = P.cellsOf t ∧ pvws ps ≤ bulkW x.1
  | 0, _, _, _, _, h, _ => by simp [DataW.trod] at h
  | n + 1, t, cs, x, ht, h, hw => by
    have hB := List.all_eq_true.1 hT t ht
    split at hB
    · rename_i hu
      obtain ⟨b, rfl, rfl⟩ := DataW.trod_bool hu h
      exact ⟨[.av (.bool b)], by simp only [Sh, hu]; exact ⟨b, rfl⟩, opened_one rfl (.av _), (Nat.eq_of_beq_eq_true hB).symm, by simp [pvws, pvw, bulkW]⟩
    · rename_i k hu
      obtain ⟨b, rfl, rfl, hwf⟩ := DataW.trod_int hu h
      exact ⟨[.av (.int k b)], by simp only [Sh, hu]; exact ⟨b, rfl, hwf⟩, opened_one rfl (.av _), (Nat.eq_of_beq_eq_true hB).symm, by simp [pvws, pvw, bulkW]⟩
    · rename_i k hu
      have : ∃ b, cs = [.float k b] ∧ (Lit.float k b).wf = true ∧ x = (.lit (.float k b), []) := by
        unfold DataW.trod at h
        rw [hu] at h
        split at h <;> simp_all
      obtain ⟨b, rfl, hwf, rfl⟩ := this
      exact ⟨[.av (.float k b)], by simp only [Sh, hu]; exact ⟨b, rfl, hwf⟩, opened_one rfl (.av _), (Nat.eq_of_beq_eq_true hB).symm, by simp [pvws, pvw, bulkW]⟩
    · rename_i hu
      obtain ⟨s, rfl, rfl, hs⟩ := DataW.trod_string hu h
      have hw9 : ([s.data.toList.length].all (· ≤ reachBytes)) = true := hw
      have hw8 : s.data.toList.length ≤ reachBytes := of_decide_eq_true (List.all_eq_true.1 hw9 s.data.toList.length (List.mem_singleton.2 rfl))
      exact ⟨[.av (.string s)], by simp only [Sh, hu]; exact ⟨s, rfl, hs, hw8⟩, opened_one rfl (.av _), (Nat.eq_of_beq_eq_true hB).symm, by simp [pvws, pvw, bulkW]⟩
    · rename_i e hu
      simp only [Bool.and_eq_true] at hB
      obtain ⟨⟨hB1, hB2⟩, hB3⟩ := hB
      have hB1 := Nat.eq_of_beq_eq_true hB1
      have hk := Nat.le_of_ble_eq_true hB2
      have he : e ∈ Ts := by simpa using hB3
      rcases DataW.trod_slice hu h with ⟨rfl, rfl⟩ | ⟨a, len, cap, elems, rest, m, hm, rfl, rfl, hb, hl, hcap, hel, hE, _, _⟩
      · refine ⟨[.ssl [] 0 0], ?_, opened_one rfl .emp, hB1.symm, by simp [pvws, pvw, bulkW]⟩
        simp only [Sh, hu]
        exact ⟨[], rfl, Nat.zero_le _, by simp, by simp⟩
      · obtain rfl : m = n := by omega
        simp only [DataW.weights, hu, List.length_map, List.all_cons, List.all_append, Bool.and_eq_true, decide_eq_true_eq] at hw
        have hwl : ∀ i (hi : i < elems.length), ((elems[i].1).weights P e).all (· ≤ reachBytes) = true := by
          intro i hi
          refine List.all_eq_true.2 fun z hz => ?_
          exact List.all_eq_true.1 hw.2.1 z (weights_all_mem (List.mem_map.2 ⟨elems[i], List.getElem_mem hi, rfl⟩) z hz)
        have each : ∀ i, i < len → ∃ q : List PV × List Value, Sh P m e q.1 ∧ Opened w q.1 q.2 ∧ q.2.length = P.cellsOf e ∧ (∀ j, j < P.cellsOf e → w.cell? (a.add (i * P.cellsOf e + j)) = some (q.2.getD j undef)) ∧ ∀ h : i < elems.length, pvws q.1 ≤ bulkW (elems[i]).1 := by
          intro i hi
          have h1 := hE i hi
          rw [List.getElem?_eq_getElem (by omega), Option.bind_eq_some_iff] at h1
          obtain ⟨cs', h2, h3⟩ := h1
          obtain ⟨ps, h4, h5, h6, h7⟩ := open_any hT m e cs' _ he h3 (hwl i (by omega))
          refine ⟨(ps, cs'), h4, h5, h6, fun j hj => ?_, fun _ => h7⟩
          rw [← Addr.add_add, (World.cells?_some h2).2.2 j hj]
          have : j < cs'.length := by omega
          simp [List.getD_eq_getElem?_getD, this]
        let Q : Nat → List PV × List Value := fun i => if hi : i < len then (each i hi).choose else ([], [])
        have hQ : ∀ i, i < len → Sh P m e (Q i).1 ∧ Opened w (Q i).1 (Q i).2 ∧ (Q i).2.length = P.cellsOf e ∧ (∀ j, j < P.cellsOf e → w.cell? (a.add (i * P.cellsOf e + j)) = some ((Q i).2.getD j undef)) ∧ ∀ h : i < elems.length, pvws (Q i).1 ≤ bulkW (elems[i]).1 := by
          intro i hi
          have e1 : Q i = (each i hi).choose := dif_pos hi
          rw [e1]
          exact (each i hi).choose_spec
        have hlen : ((List.range len).map fun i => (Q i).1).length = len := by simp
        refine ⟨[.ssl ((List.range len).map fun i => (Q i).1).flatten 0 ((List.range len).map fun i => (Q i).1).length], ?_, opened_one rfl ?_, hB1.symm, ?_⟩
        · simp only [Sh, hu]
          refine ⟨_, rfl, by rw [hlen]; omega, by rw [hlen]; exact Nat.le_trans (Nat.mul_le_mul_right _ (by omega)) hw.1, fun es hes => ?_⟩
          obtain ⟨i, hi, rfl⟩ := List.mem_map.1 hes
          exact (hQ i (List.mem_range.1 hi)).1
        · rw [hlen]
          rcases Nat.eq_zero_or_pos len with h0 | h0
          · subst h0; exact .emp
          · have hes : ∀ es ∈ (List.range len).map fun i => (Q i).1, es.length = P.cellsOf e := fun es hes => by
              obtain ⟨i, hi, rfl⟩ := List.mem_map.1 hes
              obtain ⟨_, h2, h3, _⟩ := hQ i (List.mem_range.1 hi)
              exact h2.2.1.trans h3
            obtain ⟨hf1, hf2⟩ := flatten_get hes
            rw [hlen] at hf1 hf2
            have hg : ∀ i, i < len → ((List.range len).map fun i => (Q i).1).getD i [] = (Q i).1 := fun i hi => by simp [List.getD_eq_getElem?_getD, hi]
            obtain ⟨b, o, rfl, hbs, hcell⟩ := cells_from (w := w) (a := a) (n := len * P.cellsOf e) (f := fun c => (Q (c / P.cellsOf e)).2.getD (c % P.cellsOf e) undef) (fun c hc => by
              have hd : c / P.cellsOf e < len := Nat.div_lt_of_lt_mul (by rw [Nat.mul_comm]; exact hc)
              have := (hQ _ hd).2.2.2.1 (c % P.cellsOf e) (Nat.mod_lt _ hk)
              rw [Nat.mul_comm, Nat.div_add_mod] at this
              exact this) (Nat.mul_pos h0 hk)
            refine SRep.ssl (a := o) (off := 0) (vf := fun c => (Q (c / P.cellsOf e)).2.getD (c % P.cellsOf e) undef) hbs (fun j hj => hcell j (by omega)) (fun j hj => ?_) (fun p hp => ?_) hl
            · rw [hf1] at hj
              have hd : j / P.cellsOf e < len := Nat.div_lt_of_lt_mul (by rw [Nat.mul_comm]; exact hj)
              have hm := Nat.mod_lt j hk
              have e1 := hf2 (j / P.cellsOf e) (j % P.cellsOf e) hm hd
              rw [Nat.mul_comm, Nat.div_add_mod, hg _ hd] at e1
              rw [e1]
              obtain ⟨_, h2, h3, _⟩ := hQ _ hd
              exact h2.2.2 _ (by rw [h2.2.1, h3]; exact hm)
            · obtain ⟨es, hes', hp'⟩ := List.mem_flatten.1 hp
              obtain ⟨i, hi, rfl⟩ := List.mem_map.1 hes'
              exact (hQ i (List.mem_range.1 hi)).2.1.1 p hp'
        · simp only [pvws, pvw, bulkW, pvws_flatten, List.map_map]
          have := sum_le len (pvws ∘ fun i => (Q i).1) (elems.map (·.1)) (by simpa using hel) fun i hi => by
            have hi' : i < elems.length := by simpa using hi
            have := (hQ i (by omega)).2.2.2.2 hi'
            simpa using this
          omega
    · rename_i fs hu
      simp only [Bool.and_eq_true, beq_iff_eq, List.all_eq_true] at hB
      obtain ⟨xs, m, hm, rfl, hl, hxl, hf⟩ := DataW.trod_struct hu h
      obtain rfl : m = n := by omega
      simp only [DataW.weights, hu] at hw
      obtain ⟨ps, h1, h2, _, h4⟩ := open_fs (open_any hT m) cs fs.toList xs 0 _ hB.1 (by omega) (fun f hf => by simpa using hB.2 f hf) (by simpa using hxl) (fun i f hif => hf i f (by simpa using hif)) hw
      rw [List.drop_zero, Nat.sub_zero, ← hl, List.take_length] at h2
      exact ⟨ps, by simp only [Sh, hu]; exact h1, h2, hl, by simp only [bulkW]; omega⟩
    · cases hB
end
theorem weights_at {H : Type} {P : Program} {ts : List TypeId} {ds : List (DataW H)} (h : (DataW.weightsEach P ts ds).all (· ≤ reachBytes) = true) {j : Nat} {t : TypeId} {d : DataW H} (ht : ts[j]? = some t) (hd : ds[j]? = some d) : (d.weights P t).all (· ≤ reachBytes) = true :=
  List.all_eq_true.2 fun n hn => List.all_eq_true.1 h n (DataW.weights_mem_each ht hd n hn)
/-- An argument, whatever its type. -/
theorem arg_any {H : Type} {enc : TypeId × Value → H} {P : Program} {w : World} {base : Nat} {t : TypeId} {v : Value} {d : DataW H} {pl : List MemPlace} {r : Reach} {b0 : Nat} {held : Bool} {Ts : List TypeId}
    (hT : openB P Ts = true) (ht : t ∈ Ts) (hv : Value.okWide P w r b0 t v) (h : DataW.Trod enc P w base (fun _ => true) held t v d pl)
    {ts : List TypeId} {ds : List (DataW H)} (hs : (DataW.weightsEach P ts ds).all (· ≤ reachBytes) = true) {j : Nat} (hj : ts[j]? = some t) (hd : ds[j]? = some d) :
    ∃ n ps, Sh P n t ps ∧ pvws ps ≤ bulkW d ∧ match isAggD (P.underlying t) with
      | some true => SRep w (fun b => b < w.heap.size) (.agg ps) v
      | _ => ∃ p, ps = [p] ∧ SRep w (fun b => b < w.heap.size) p v := by
  obtain ⟨n, hf⟩ := h
  obtain ⟨ps, h1, ⟨h2, h3, h4⟩, h5, h6⟩ := open_any hT n t _ _ ht hf (weights_at hs hj hd)
  refine ⟨n, ps, h1, h6, ?_⟩
  have hB := List.all_eq_true.1 hT t ht
  have one : v.cells = #[v] → ∃ p, ps = [p] ∧ SRep w (fun b => b < w.heap.size) p v := fun hc => by
    rw [hc] at h3 h4
    simp only [List.length_cons, List.length_nil] at h3
    obtain ⟨p, rfl⟩ := List.length_eq_one_iff.1 h3
    exact ⟨p, rfl, h4 0 (by simp)⟩
  split at hB
  · rename_i hu
    obtain ⟨b, rfl⟩ := okWide_bool hu hv
    simp only [hu, isAggD]
    exact one rfl
  · rename_i k hu
    obtain ⟨b, rfl⟩ := okWide_int hu hv
    simp only [hu, isAggD]
    exact one rfl
  · rename_i k hu
    have : ∃ b, v = .float k b := by
      simp only [Value.okWide, hu, Cell.okWide] at hv
      cases v <;> simp_all [Cell.ok]
    obtain ⟨b, rfl⟩ := this
    simp only [hu, isAggD]
    exact one rfl
  · rename_i hu
    obtain ⟨b, rfl⟩ := okWide_string hu hv
    simp only [hu, isAggD]
    exact one rfl
  · rename_i e hu
    obtain ⟨a, l, c, rfl⟩ := okWide_slice hu hv
    simp only [hu, isAggD]
    exact one rfl
  · rename_i fs hu
    obtain ⟨cs, rfl, hsz⟩ := okWide_struct hu hv
    simp only [hu, isAggD]
    simp only [Value.cells] at h3 h4
    refine .agg (by simpa using h3.symm) fun i hi => ?_
    have := h4 i hi
    rwa [show cs.toList.getD i undef = cs.getD i undef from by rw [List.getD_eq_getElem?_getD, Array.getElem?_toList, Array.getD_eq_getD_getElem?]] at this
  · cases hB
end Go.Proofs.Ytfibadnkhbjciaa.Pm
namespace Go.Proofs.Ytfibadnkhbjciaa.Pm
open Go Go.Deep Go.ChangeShapes Go.WideShapes Go.ChangeAt Go.RowKit

mutual
theorem bulk_eq {H : Type} : ∀ d : DataW H, Rows.uptoBulk d = bulkW d
  | .lit (.string b) => by simp [Rows.uptoBulk, bulkW]
  | .lit (.bool _) => by simp [Rows.uptoBulk, bulkW]
  | .lit (.int _ _) => by simp [Rows.uptoBulk, bulkW]
  | .lit (.float _ _) => by simp [Rows.uptoBulk, bulkW]
  | .lit .nil => by simp [Rows.uptoBulk, bulkW]
  | .nil => by simp [Rows.uptoBulk, bulkW]
  | .ptr d => by simp [Rows.uptoBulk, bulkW, bulk_eq d]
  | .slice e s => by simp [Rows.uptoBulk, bulkW, bulk_all e, bulk_all s]
  | .agg ps => by simp [Rows.uptoBulk, bulkW, bulk_all ps]
  | .iface _ d => by simp [Rows.uptoBulk, bulkW, bulk_eq d]
  | .map es => by simp [Rows.uptoBulk, bulkW, bulk_entries es]
  | .held _ => by simp [Rows.uptoBulk, bulkW]
theorem bulk_all {H : Type} : ∀ l : List (DataW H), Rows.uptoBulkAll l = bulkAll l
  | [] => by simp [Rows.uptoBulkAll, bulkAll]
  | d :: l => by simp [Rows.uptoBulkAll, bulkAll, bulk_eq d, bulk_all l]
theorem bulk_entries {H : Type} : ∀ l : List (Lit × DataW H), Rows.uptoBulkEntries l = bulkEntries l
  | [] => by simp [Rows.uptoBulkEntries, bulkEntries]
  | x :: l => by simp [Rows.uptoBulkEntries, bulkEntries, bulk_entry x, bulk_entries l]
theorem bulk_entry {H : Type} : ∀ x : Lit × DataW H, Rows.uptoBulkEntry x = bulkEntry x
  | (.string b, d) => by simp [Rows.uptoBulkEntry, bulkEntry, bulk_eq d]
  | (.bool _, d) => by simp [Rows.uptoBulkEntry, bulkEntry, bulk_eq d]
  | (.int _ _, d) => by simp [Rows.uptoBulkEntry, bulkEntry, bulk_eq d]
  | (.float _ _, d) => by simp [Rows.uptoBulkEntry, bulkEntry, bulk_eq d]
  | (.nil, d) => by simp [Rows.uptoBulkEntry, bulkEntry, bulk_eq d]
end
theorem small_bulk {H : Type} {l : List (DataW H)} (hk : Rows.uptoSmall H l = true) : bulkAll l ≤ 1048576 := by
  have h : Rows.uptoBulkAll l ≤ 1048576 := of_decide_eq_true hk
  rwa [bulk_all] at h
theorem bulk_mem {H : Type} {d : DataW H} : ∀ {l : List (DataW H)}, d ∈ l → bulkW d ≤ bulkAll l
  | x :: l, h => by
    rw [bulkAll]
    rcases List.mem_cons.1 h with rfl | h
    · omega
    · have := bulk_mem h; omega
theorem list_of {α : Type} {g : α → List PV} {q : α → Prop} : ∀ {ess : List (List PV)}, (∀ es ∈ ess, ∃ x, es = g x ∧ q x) → ∃ l : List α, ess = l.map g ∧ ∀ x ∈ l, q x
  | [], _ => ⟨[], rfl, by simp⟩
  | es :: ess, h => by
    obtain ⟨x, rfl, hx⟩ := h es (by simp)
    obtain ⟨l, rfl, hl⟩ := list_of (ess := ess) fun e he => h e (by simp [he])
    exact ⟨x :: l, rfl, fun y hy => by
      rcases List.mem_cons.1 hy with rfl | hy
      · exact hx
      · exact hl y hy⟩
theorem flat_of {α : Type} (g : α → List PV) (l : List α) : (l.map g).flatten = l.flatMap g := List.flatMap_def.symm
theorem getD_of {α : Type} {q : α → Prop} {l : List α} (h : ∀ x ∈ l, q x) (d : α) (hd : q d) (i : Nat) : q (l.getD i d) := by
  rcases Nat.lt_or_ge i l.length with h1 | h1
  · rw [List.getD_eq_getElem?_getD, List.getElem?_eq_getElem h1]
    exact h _ (List.getElem_mem h1)
  · rw [List.getD_eq_getElem?_getD, List.getElem?_eq_none h1]
    exact hd
/-- A number of a kind. -/
theorem sh_num {P : Program} {t : TypeId} {k : IntKind} (ht : P.underlying t = some (.int k)) {n : Nat} {ps : List PV} (h : Sh P n t ps) : ∃ m, ps = [.av (.int k m)] ∧ (Lit.int k m).wf = true := by
  cases n with
  | zero => exact h.elim
  | succ n => simpa only [Sh, ht] using h
theorem sh_bool {P : Program} {t : TypeId} (ht : P.underlying t = some .bool) {n : Nat} {ps : List PV} (h : Sh P n t ps) : ∃ b, ps = [bv b] := by
  cases n with
  | zero => exact h.elim
  | succ n => simpa only [Sh, ht] using h
theorem sh_str' {P : Program} {t : TypeId} (ht : P.underlying t = some .string) {n : Nat} {ps : List PV} (h : Sh P n t ps) : ∃ s : ByteArray, ps = [.av (.string s)] ∧ s.size ≤ maxLen ∧ s.data.toList.length ≤ reachBytes := by
  cases n with
  | zero => exact h.elim
  | succ n => simpa only [Sh, ht] using h
theorem sh_str {P : Program} {t : TypeId} (ht : P.underlying t = some .string) {n : Nat} {ps : List PV} (h : Sh P n t ps) : ∃ s : ByteArray, ps = [.av (.string s)] ∧ s.size ≤ maxLen := by
  obtain ⟨s, h1, h2, _⟩ := sh_str' ht h
  exact ⟨s, h1, h2⟩
theorem sh_float {P : Program} {t : TypeId} {k : FloatKind} (ht : P.underlying t = some (.float k)) {n : Nat} {ps : List PV} (h : Sh P n t ps) : ∃ b, ps = [.av (.float k b)] ∧ (Lit.float k b).wf = true := by
  cases n with
  | zero => exact h.elim
  | succ n => simpa only [Sh, ht] using h
/-- A slice of elements that are told. -/
theorem sh_list {P : Program} {t e : TypeId} (ht : P.underlying t = some (.slice e)) {α : Type} {g : α → List PV} {q : α → Prop} {n : Nat} {ps : List PV} (h : Sh P n t ps) (hg : ∀ m es, m < n → Sh P m e es → ∃ x, es = g x ∧ q x) :
    ∃ l : List α, ps = [.ssl (l.flatMap g) 0 l.length] ∧ (∀ x ∈ l, q x) ∧ l.length ≤ maxLen ∧ l.length * P.bytesOf e ≤ reachBytes := by
  cases n with
  | zero => exact h.elim
  | succ n =>
    simp only [Sh, ht] at h
    obtain ⟨ess, rfl, h1, h2, h3⟩ := h
    obtain ⟨l, rfl, hl⟩ := list_of fun es hes => hg n es (Nat.lt_succ_self _) (h3 es hes)
    rw [List.length_map] at h1 h2
    refine ⟨l, by rw [flat_of, List.length_map], hl, h1, h2⟩
theorem sh_ints {P : Program} {t e : TypeId} (ht : P.underlying t = some (.slice e)) (he : P.underlying e = some (.int .i64)) {n : Nat} {ps : List PV} (h : Sh P n t ps) :
    ∃ l : List Int, ps = [.ssl (ints l) 0 l.length] ∧ (∀ m ∈ l, (Lit.int .i64 m).wf = true) ∧ l.length ≤ maxLen ∧ l.length * P.bytesOf e ≤ reachBytes := by
  obtain ⟨l, h1, h2, h3, h4⟩ := sh_list (g := fun m => [iv m]) (q := fun m => (Lit.int .i64 m).wf = true) ht h fun m es _ hs => by
    obtain ⟨x, h1, h2⟩ := sh_num he hs
    exact ⟨x, h1, h2⟩
  exact ⟨l, h1, h2, h3, h4⟩
theorem sh_rows {P : Program} {t e k : TypeId} (ht : P.underlying t = some (.slice e)) (he : P.underlying e = some (.slice k)) (hk : P.underlying k = some (.int .i64)) {n : Nat} {ps : List PV} (h : Sh P n t ps) :
    ∃ T : List (List Int), ps = [.ssl (rows T) 0 T.length] ∧ (∀ l ∈ T, (∀ m ∈ l, (Lit.int .i64 m).wf = true) ∧ l.length * P.bytesOf k ≤ reachBytes) ∧ T.length ≤ maxLen := by
  obtain ⟨l, h1, h2, h3, _⟩ := sh_list (g := fun l : List Int => [.ssl (ints l) 0 l.length]) (q := fun l => (∀ m ∈ l, (Lit.int .i64 m).wf = true) ∧ l.length * P.bytesOf k ≤ reachBytes) ht h fun m es _ hs => by
    obtain ⟨x, h1, h2, _, h3⟩ := sh_ints he hk hs
    exact ⟨x, h1, h2, h3⟩
  exact ⟨l, h1, h2, h3⟩
theorem pvws_ints (l : List Int) : pvws (ints l) = l.length := by
  induction l with
  | nil => rfl
  | cons a l ih =>
    rw [ints_map] at ih ⊢
    rw [List.map_cons, pvws, ih, List.length_cons, pvw]
    · omega
    all_goals intros; simp_all
theorem pvws_rows : ∀ T : List (List Int), pvws (rows T) = (T.map List.length).sum + T.length
  | [] => rfl
  | l :: T => by
    have ih := pvws_rows T
    rw [rows_map] at ih ⊢
    rw [List.map_cons, pvws, ih, pvw, pvws_ints, List.map_cons, List.sum_cons, List.length_cons]
    omega
end Go.Proofs.Ytfibadnkhbjciaa.Pm
namespace Go.Proofs.Ytfibadnkhbjciaa.Pm
open Go Go.Conc

theorem run_of_calls {P : Program} {f : FuncId} {args : Array Value} {w : World} {R : Value → World → Prop} (hi : P.inits.idxOf? f = none)
    (h : Calls P f args w fun | .returned v, w' => R v w' | _, _ => False) :
    ∃ M last o w' t', runNT P (M + 1) (solo (G (Frame.enter P f args .normal) []) w) #[] = (.ended o w', t') ∧ runN P M (solo (G (Frame.enter P f args .normal) []) w) = .next last ∧
      step P last = .ended o w' ∧ Conc.Good P R last o w' t' := by
  obtain ⟨n, v, w', fr, hn, hend, hR⟩ := h.done_lone hi
  have hn' : runN P n (solo (G (Frame.enter P f args .normal) []) w) = .next (lone fr [] w') := hn
  have hend' : runN P (n + 1) (solo (G (Frame.enter P f args .normal) []) w) = .ended (.done v) w' := hend
  have ha := alone_of_lone (w' := w') hn'
  refine ⟨n, lone fr [] w', .done v, w', (runNT P (n + 1) (solo (G (Frame.enter P f args .normal) []) w) #[]).2, ?_, hn', step_of_runs hn hend, v, rfl, hR, fun said => ?_, ha.2.1, onlyLeaving_of_quiet ha.1, ha.2.2⟩
  · exact Prod.ext (by rw [runNT_fst]; exact hend') rfl
  · exact (no_race_of_lone (said := said) P n _ _ hn (by simp [lone]) rfl).2
end Go.Proofs.Ytfibadnkhbjciaa.Pm
