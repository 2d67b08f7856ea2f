/-
  TUNE: swings: plain. | TUNE: half tones, and scaled: walks. (Printed by wip/pm.) | REGIONS THAT DRAW THEIR ORDER: a class C of worlds (Derived/Deep/Quiet.lean's own notion: an operation is quiet in C), behind which a tail stands that the order forces (Derived/StillTail.lean's notion of a tail). No program in sight. | THE WALKS of pitches: of the package. | THE WALKS of pitches, on: Between, Key, within, Sum, floor, Move, Mirror of the package. | MOVES: plain. | The plain arithmetic of the white keys, step by step. No program in sight. | THE WALKS of pitches: of the reference: Abs, Right, Up, White, Steps, Halves, At, Within, Key. | THE WALKS of pitches: of the reference: At, Between, Sum, Move, Mirror. | THE WALKS of the divisors: package frac's gcd and small, the reference's Divisor and Abs. | THE WALKS of fractions: Right, Make, Floor of the package and of the reference. | THE WALKS of fractions, Make: of the package and of the reference. | THE WALKS of fractions: both, Plus, Minus, Times, Over: of the package. (Printed by gen/reck.py.) | THE WALKS of fractions: Plus, Minus, Times, Over: of the reference. (Printed by gen/reck.py.) | THE WALK of tune.Ratio. | TUNE: pitches and ratios: the kit's kind of contracts, as contracts by values. | TUNE: Hertz: walks. (Printed by wip/pm.) | TUNE: ratios, and tempered: walks. (Printed by wip/pm.)
-/
import Derived.Test.YtdboencinnlebaaJLawTRises2
import Derived.StillTail
import Derived.Deep.Quiet
import Derived.Below
import Derived.Deep.RegionHeld3
import Derived.Deep.RegionWith
import Derived.LoopTactic
namespace Go.Proofs.Ytdboencinnlebaa.Pm
open Go Go.Proofs.Ytdboencinnlebaa.Fl

theorem mixed : Try.prog.follows .mixedOrders = true := by kernel_rfl
theorem is_bits : IsBits Try.prog 23 := ⟨Try.f23, Try.func23, by kernel_rfl, by kernel_rfl, by kernel_rfl, by kernel_rfl⟩
theorem is_from : IsFrom Try.prog 49 := ⟨Try.f49, Try.func49, by kernel_rfl, by kernel_rfl, by kernel_rfl, by kernel_rfl⟩
/-- The half tones. -/
def swL : List Nat := [4607182418800017408, 4607450216769616227, 4607733938835150528, 4608034531892639510, 4608352999143469708, 4608690403442486367, 4609047870845172686, 4609426594365755314, 4609827837958778431, 4610252940737434544, 4610703321442730284, 4611180483178402631]
theorem sw_mul {i : Nat} (h : i < 11) : F.mul (swL.getD i 0) 4607450216769616227 = some (swL.getD (i + 1) 0) := by
  have : ∀ i : Fin 11, F.mul (swL.getD i.1 0) 4607450216769616227 = some (swL.getD (i.1 + 1) 0) := by decide +kernel
  exact this ⟨i, h⟩
theorem sw_bd {i : Nat} (h : i < 12) : Nrm (swL.getD i 0) ∧ plc (swL.getD i 0) = -52 := by
  have : ∀ i : Fin 12, 4607182418800017408 ≤ swL.getD i.1 0 ∧ swL.getD i.1 0 < 4611686018427387904 := by decide +kernel
  have := this ⟨i, h⟩
  unfold Nrm plc
  dsimp only at this
  omega
def tab (i : Nat) : List Nat := swL.take i ++ List.replicate (12 - i) 0
theorem tab_len {i : Nat} (h : i ≤ 12) : (tab i).length = 12 := by
  have : ∀ i : Fin 13, (tab i.1).length = 12 := by decide +kernel
  exact this ⟨i, by omega⟩
theorem tab_get {i : Nat} (h1 : 1 ≤ i) (h2 : i < 12) : (tab i).getD (i - 1) 0 = swL.getD (i - 1) 0 := by
  have : ∀ i : Fin 12, 1 ≤ i.1 → (tab i.1).getD (i.1 - 1) 0 = swL.getD (i.1 - 1) 0 := by decide +kernel
  exact this ⟨i, h2⟩ h1
theorem tab_set {i : Nat} (h2 : i < 12) : (tab i).set i (swL.getD i 0) = tab (i + 1) := by
  have : ∀ i : Fin 12, (tab i.1).set i.1 (swL.getD i.1 0) = tab (i.1 + 1) := by decide +kernel
  exact this ⟨i, h2⟩
def flC (n : Nat) : List PV := [flv n]
def fls (l : List Nat) : List PV := l.flatMap flC
theorem fls_shd (l : List Nat) : shds (fls l) := flat_shd flC (fun _ => rfl) l
/-- The order of a float and itself, nought, the smallest and the greatest normal one. -/
theorem nan_no {r : Nat} (h : Nrm r) : (FloatKind.f64.format.order r r != some .eq) = false := by
  rw [show FloatKind.f64.format = F from rfl, order_nrm h h, cmp_eq rfl]; rfl
theorem zero_no {r : Nat} (h : Nrm r) : (FloatKind.f64.format.order r 0 == some .eq) = false := by
  rw [show FloatKind.f64.format = F from rfl, order_zero h]; rfl
theorem inf_no {r : Nat} (h : Nrm r) : (FloatKind.f64.format.order r 9218868437227405311 == some .gt) = false := by
  rw [show FloatKind.f64.format = F from rfl, order_nrm h (by unfold Nrm; omega)]
  unfold Nrm at h
  rcases Nat.lt_or_ge r 9218868437227405311 with g | g
  · rw [cmp_lt g]; rfl
  · rw [cmp_eq (show r = 9218868437227405311 by omega)]; rfl
theorem small_no {r : Nat} (h : Nrm r) : (FloatKind.f64.format.order r 4503599627370496 == some .lt) = false := by
  rw [show FloatKind.f64.format = F from rfl, order_nrm h (by unfold Nrm; omega)]
  unfold Nrm at h
  rcases Nat.lt_or_ge 4503599627370496 r with g | g
  · rw [cmp_gt g]; rfl
  · rw [cmp_eq (show r = 4503599627370496 by omega)]; rfl
theorem fair_text (x : Nat) : ((FloatKind.f64.format.order x 4607182418800017408 == some .gt || FloatKind.f64.format.order x 4607182418800017408 == some .eq) && (FloatKind.f64.format.order x 4681608360884174848 == some .lt || FloatKind.f64.format.order x 4681608360884174848 == some .eq)) = fairB x := rfl
/-- How often a pitch swings. -/
def herS (l a o : Int) (x : Nat) : Nat × Int :=
  if (Pi.key l a o).2 = 0 then (if fairB x = true then (ldR (mulR x (swL.getD (((Pi.key l a o).1 - 69) % 12).toNat 0)) (((Pi.key l a o).1 - 69) / 12), 0) else (0, 3)) else (0, (Pi.key l a o).2)
def temS (l a o : Int) (x : Nat) : Nat × Int :=
  if fairB x = true then (if (Pi.between 5 0 4 l a o).2.2 = 0 then
    (if (Tu.ratio (Pi.between 5 0 4 l a o).1 (Pi.between 5 0 4 l a o).2.1).2.2 = 0 then
      (fdiv (mulR x (FloatKind.f64.nearest (Tu.ratio (Pi.between 5 0 4 l a o).1 (Pi.between 5 0 4 l a o).2.1).1)) (FloatKind.f64.nearest (Tu.ratio (Pi.between 5 0 4 l a o).1 (Pi.between 5 0 4 l a o).2.1).2.1), 0)
     else (0, (Tu.ratio (Pi.between 5 0 4 l a o).1 (Pi.between 5 0 4 l a o).2.1).2.2)) else (0, (Pi.between 5 0 4 l a o).2.2)) else (0, 3)
theorem key_bd {l a o : Int} (h : (Pi.key l a o).2 = 0) : -204 ≤ (Pi.key l a o).1 - 69 ∧ (Pi.key l a o).1 - 69 ≤ 101 := by
  unfold Pi.key at *
  split at h
  · rename_i hr
    rw [if_pos hr]
    have := Pi.bounds hr
    dsimp only
    omega
  · exact absurd h (by decide)
/-- A fair float times a half tone. -/
theorem prod_bd {x : Nat} (hx : Nrm x ∧ 4607182418800017408 ≤ x ∧ x ≤ 4681608360884174848) {i : Nat} (hi : i < 12) : 1023 ≤ mulR x (swL.getD i 0) / 4503599627370496 ∧ mulR x (swL.getD i 0) / 4503599627370496 ≤ 1045 ∧ Nrm (mulR x (swL.getD i 0)) := by
  obtain ⟨hn, hp⟩ := sw_bd hi
  have p1 : -52 ≤ plc x ∧ plc x ≤ -35 := by unfold plc; omega
  have := mulR_bd (a := x) (s := swL.getD i 0) (by rw [hp]; omega) (by rw [hp]; omega)
  rw [hp] at this
  unfold Nrm
  generalize mulR x (swL.getD i 0) = q at *
  generalize plc x = z at *
  clear hn hp
  omega
theorem q3_eq {r : Int × Int × Int} (h : r.2.2 = 0) : r = (r.1, r.2.1, 0) := by
  obtain ⟨a, b, c⟩ := r
  simp only at h
  subst h; rfl
theorem ratio_parts0 {s h : Int} (k : (Tu.ratio s h).2.2 = 0) : (1 ≤ (Tu.ratio s h).1 ∧ (Tu.ratio s h).1 ≤ 1073741824) ∧ (1 ≤ (Tu.ratio s h).2.1 ∧ (Tu.ratio s h).2.1 ≤ 1073741824) := by
  have e := q3_eq k
  obtain ⟨_, k2⟩ := Tu.ratio_ok e
  obtain ⟨k3, k4⟩ := Tu.ratio_parts e
  have r := Fr.rightB_iff.1 (Fr.make_ok k2).2.1
  have p1 := Tu.num_pos (7 * h - 12 * s) (19 * s - 11 * h)
  omega
/-- A fair float times a whole number, through another one. -/
theorem tem_ok {x : Nat} (hx : Nrm x ∧ 4607182418800017408 ≤ x ∧ x ≤ 4681608360884174848) {u d : Int} (hu : 1 ≤ u ∧ u ≤ 1073741824) (hd : 1 ≤ d ∧ d ≤ 1073741824) :
    F.mul x (FloatKind.f64.nearest u) = some (mulR x (FloatKind.f64.nearest u)) ∧ F.div (mulR x (FloatKind.f64.nearest u)) (FloatKind.f64.nearest d) = some (fdiv (mulR x (FloatKind.f64.nearest u)) (FloatKind.f64.nearest d)) := by
  obtain ⟨n, rfl⟩ : ∃ n : Nat, u = n := ⟨u.toNat, by omega⟩
  obtain ⟨m, rfl⟩ : ∃ n : Nat, d = n := ⟨d.toNat, by omega⟩
  obtain ⟨n1, n2, n3⟩ := near_int (n := n) (by omega) (by omega)
  obtain ⟨m1, _, _⟩ := near_int (n := m) (by omega) (by omega)
  have p1 : -52 ≤ plc x ∧ plc x ≤ -35 := by unfold plc; omega
  have hb := mulR_bd (a := x) (s := FloatKind.f64.nearest (n : Int)) (by omega) (by omega)
  refine ⟨mul_nrm hx.1 n1, div_nrm ?_ m1⟩
  unfold Nrm
  generalize mulR x (FloatKind.f64.nearest (n : Int)) = q at *
  generalize plc (FloatKind.f64.nearest (n : Int)) = y at *
  generalize plc x = z at *
  clear n1 m1
  omega
end Go.Proofs.Ytdboencinnlebaa.Pm
namespace Go.Proofs.Ytdboencinnlebaa.Pm
open Go Go.Proofs.Ytdboencinnlebaa.Fl

set_option maxRecDepth 100000 in
set_option maxHeartbeats 4000000 in
theorem swing_pc (k : Nat) (hk : k < 12) : PC Try.prog 22 [(nv k)] [] (flv (swL.getD k 0)) [] := by
  refine pc_intro Try.func22 rfl (by kernel_rfl) (Nat.le_of_ble_eq_true rfl) (by kernel_rfl) (l0 := [ps 0 (nv k)]) rfl (fun c0 Bor hc0 => ?_)
  refine T_seq ?_
  refine T_region [] [ks 0] (fun _ => mixed) (l' := [ps 0 (nv k)]) (obs := []) (by kernel_rfl) (obs_nil) ?_
  refine T_seq ?_
  refine T_region [] [ks 0, ks 3, kb 8] (fun _ => mixed) (l' := [ps 0 (nv k), ps 3 (.opt 8 0), pb 8 59 [(flv 0), (flv 0), (flv 0), (flv 0), (flv 0), (flv 0), (flv 0), (flv 0), (flv 0), (flv 0), (flv 0), (flv 0)]]) (obs := []) (by kernel_rfl) (obs_nil) ?_
  refine T_seq ?_
  refine T_region [] [ks 0, ks 3, kb 8] (fun _ => mixed) (l' := [ps 0 (nv k), ps 3 (.opt 8 0), pb 8 59 [(flv 4607182418800017408), (flv 0), (flv 0), (flv 0), (flv 0), (flv 0), (flv 0), (flv 0), (flv 0), (flv 0), (flv 0), (flv 0)]]) (obs := [(0 : Int) ≤ 0 ∧ 0 < ((12 : Nat) : Int)]) (by kernel_rfl) (obs_cons (by decide) (obs_nil)) ?_
  refine T_seq ?_
  refine T_seq ?_
  refine T_region [] [ks 0, ks 3, ks 4, kb 8] (fun _ => mixed) (l' := [ps 0 (nv k), ps 3 (.opt 8 0), ps 4 (iv 1), pb 8 59 [(flv 4607182418800017408), (flv 0), (flv 0), (flv 0), (flv 0), (flv 0), (flv 0), (flv 0), (flv 0), (flv 0), (flv 0), (flv 0)]]) (obs := []) (by kernel_rfl) (obs_nil) ?_
  refine T_block ?_
  refine T_wk (Wk.eq (show _ = [ps 0 (nv k), ps 3 (.opt 8 0), ps 4 (nv 1), pb 8 59 (fls (tab 1))] from by rfl)) ?_
  refine T_loop (α := {x : Nat // 1 ≤ x ∧ x ≤ 12}) (fun x => [ps 0 (nv k), ps 3 (.opt 0 0), ps 4 (nv x.1), pb 0 59 (fls (tab x.1))]) (fun x => 12 - x.1) 1 ⟨1, ⟨Nat.le_refl _, by decide⟩⟩ (Wk.ren3 [ps 0 (nv k), ps 3 (.opt 0 0), ps 4 (nv 1), pb 0 59 (fls (tab 1))] 0 hc0 [8] [(kb 0, (fls (tab 1)))] (obs_cons (fls_shd _) (obs_nil)) (by kernel_rfl) rfl rfl (by kernel_rfl) (by kernel_rfl)) ?_
  rintro ⟨i, ⟨hi1, hi2⟩⟩
  refine T_seq ?_
  refine T_seq ?_
  refine T_region [] [ks 0, ks 3, ks 4, ks 7, kb 0] (fun _ => mixed) (l' := [ps 0 (nv k), ps 3 (.opt 0 0), ps 4 (nv i), ps 7 (bv (decide (((i : Nat) : Int) < 12))), pb 0 59 (fls (tab i))]) (obs := []) (by kernel_rfl) (obs_nil) ?_
  by_cases h1 : ((i : Nat) : Int) < 12
  · refine T_then (b := (decide (((i : Nat) : Int) < 12))) rfl (decide_eq_true h1) ?_
    refine T_skip ?_
    refine T_seq ?_
    refine T_block ?_
    refine T_region [(3, .nat (i - 1)), (4, .val (flv ((tab i).getD (i - 1) 0))), (5, .nat (swL.getD i 0)), (6, .nat i), (7, .cells (fls (tab (i + 1))))] [ks 0, ks 3, ks 4, kb 0] (fun _ => mixed) (l' := [ps 0 (nv k), ps 3 (.opt 0 0), ps 4 (nv i), pb 0 59 (fls (tab (i + 1)))]) (obs := [InK .i64 (((i : Nat) : Int) - 1), (0 : Int) ≤ (((i : Nat) : Int) - 1) ∧ (((i : Nat) : Int) - 1) < ((12 : Nat) : Int), 0 + ((((i : Nat) : Int) - 1) : Int).toNat * 1 = (i - 1), (i - 1) + 1 ≤ ((fls (tab i))).length ∧ (((fls (tab i))).drop (i - 1)).take 1 = [(flv ((tab i).getD (i - 1) 0))], FloatKind.f64.format.mul ((tab i).getD (i - 1) 0) 4607450216769616227 = some (swL.getD i 0), (0 : Int) ≤ ((i : Nat) : Int) ∧ ((i : Nat) : Int) < ((12 : Nat) : Int), 0 + (((i : Nat) : Int) : Int).toNat * 1 = i, i + 1 ≤ ((fls (tab i))).length ∧ splice (fls (tab i)) i [(flv (swL.getD i 0))] = (fls (tab (i + 1)))]) (by kernel_rfl) (obs_cons (by simp only [InK]; omega) (obs_cons (by omega) (obs_cons (by omega) (obs_cons (flat_at1 flC (fun _ => rfl) 0 (tab i) (i - 1) (by rw [tab_len (by omega)]; omega)) (obs_cons (by rw [tab_get hi1 (by omega)]; exact (show i - 1 + 1 = i from by omega) ▸ sw_mul (i := i - 1) (by omega)) (obs_cons (by omega) (obs_cons (by omega) (obs_cons (by have hs := flat_splice1 flC (fun _ => rfl) (l := tab i) (k := i) (v := swL.getD i 0) (by rw [tab_len (by omega)]; omega); rw [tab_set (by omega)] at hs; exact hs) (obs_nil))))))))) ?_
    refine T_blk ?_
    refine T_region [] [ks 0, ks 3, ks 4, kb 0] (fun _ => mixed) (l' := [ps 0 (nv k), ps 3 (.opt 0 0), ps 4 (iv (((i : Nat) : Int) + 1)), pb 0 59 (fls (tab (i + 1)))]) (obs := [InK .i64 (((i : Nat) : Int) + 1)]) (by kernel_rfl) (obs_cons (by simp only [InK]; omega) (obs_nil)) ?_
    exact T_back ⟨i + 1, ⟨by omega, by omega⟩⟩ (Wk.ren3 [ps 0 (nv k), ps 3 (.opt 0 0), ps 4 (nv (i + 1)), pb 0 59 (fls (tab (i + 1)))] 0 hc0 [0] [(kb 0, (fls (tab (i + 1))))] (obs_cons (fls_shd _) (obs_nil)) (by kernel_rfl) rfl rfl (by kernel_rfl) (by kernel_rfl)) (show 12 - (i + 1) < 12 - i from by omega)
  · refine T_else (b := (decide (((i : Nat) : Int) < 12))) rfl (decide_eq_false h1) ?_
    refine T_break rfl rfl ?_
    refine T_seq ?_
    refine T_region [(1, .nat k), (2, .val (flv ((tab i).getD k 0)))] [ks 2] (fun _ => mixed) (l' := [ps 2 (flv ((tab i).getD k 0))]) (obs := [(0 : Int) ≤ ((k : Nat) : Int) ∧ ((k : Nat) : Int) < ((12 : Nat) : Int), 0 + (((k : Nat) : Int) : Int).toNat * 1 = k, k + 1 ≤ ((fls (tab i))).length ∧ (((fls (tab i))).drop k).take 1 = [(flv ((tab i).getD k 0))]]) (by kernel_rfl) (obs_cons (by omega) (obs_cons (by omega) (obs_cons (flat_at1 flC (fun _ => rfl) 0 (tab i) k (by rw [tab_len (by omega)]; omega)) (obs_nil)))) ?_
    refine T_wk (Wk.eq (show _ = [ps 2 (flv (swL.getD k 0))] from by rw [show i = 12 from by omega]; rfl)) ?_
    exact T_ret fun cx_ a_ hI_ => ret_ok (H' := []) (.inr rfl) (Wk.ren2 [ps 2 (flv (swL.getD k 0))] 0 hc0 [] rfl rfl (by kernel_rfl) (by kernel_rfl)) rfl (obs_nil) (fun cx_ a_ hI_ => ret_res (l' := [ps 2 (flv (swL.getD k 0))]) (by kernel_rfl) cx_ a_ hI_) hI_
set_option maxRecDepth 100000 in
set_option maxHeartbeats 4000000 in
theorem twelfth_pc (k : Nat) (hk : k < 12) : PC Try.prog 30 [(nv k)] [] (flv (swL.getD k 0)) [] := by
  refine pc_intro Try.func30 rfl (by kernel_rfl) (Nat.le_of_ble_eq_true rfl) (by kernel_rfl) (l0 := [ps 0 (nv k)]) rfl (fun c0 Bor hc0 => ?_)
  refine T_seq ?_
  refine T_region [] [ks 0] (fun _ => mixed) (l' := [ps 0 (nv k)]) (obs := []) (by kernel_rfl) (obs_nil) ?_
  refine T_seq ?_
  refine T_region [] [ks 0, ks 3] (fun _ => mixed) (l' := [ps 0 (nv k), ps 3 (flv 4607182418800017408)]) (obs := []) (by kernel_rfl) (obs_nil) ?_
  refine T_seq ?_
  refine T_seq ?_
  refine T_region [] [ks 0, ks 3, ks 4] (fun _ => mixed) (l' := [ps 0 (nv k), ps 3 (flv 4607182418800017408), ps 4 (iv 0)]) (obs := []) (by kernel_rfl) (obs_nil) ?_
  refine T_block ?_
  refine T_wk (Wk.eq (show _ = [ps 0 (nv k), ps 3 (flv (swL.getD 0 0)), ps 4 (nv 0)] from by rfl)) ?_
  refine T_loop (α := {x : Nat // x ≤ k}) (fun x => [ps 0 (nv k), ps 3 (flv (swL.getD x.1 0)), ps 4 (nv x.1)]) (fun x => k - x.1) 0 ⟨0, Nat.zero_le _⟩ (Wk.ren2 [ps 0 (nv k), ps 3 (flv (swL.getD 0 0)), ps 4 (nv 0)] 0 hc0 [] rfl rfl (by kernel_rfl) (by kernel_rfl)) ?_
  rintro ⟨i, hi⟩
  refine T_seq ?_
  refine T_seq ?_
  refine T_region [] [ks 0, ks 3, ks 4, ks 7] (fun _ => mixed) (l' := [ps 0 (nv k), ps 3 (flv (swL.getD i 0)), ps 4 (nv i), ps 7 (bv (decide (((i : Nat) : Int) < ((k : Nat) : Int))))]) (obs := []) (by kernel_rfl) (obs_nil) ?_
  by_cases h1 : ((i : Nat) : Int) < ((k : Nat) : Int)
  · refine T_then (b := (decide (((i : Nat) : Int) < ((k : Nat) : Int)))) rfl (decide_eq_true h1) ?_
    refine T_skip ?_
    refine T_seq ?_
    refine T_block ?_
    refine T_region [(1, .nat (swL.getD (i + 1) 0))] [ks 0, ks 3, ks 4] (fun _ => mixed) (l' := [ps 0 (nv k), ps 3 (flv (swL.getD (i + 1) 0)), ps 4 (nv i)]) (obs := [FloatKind.f64.format.mul (swL.getD i 0) 4607450216769616227 = some (swL.getD (i + 1) 0)]) (by kernel_rfl) (obs_cons (sw_mul (by omega)) (obs_nil)) ?_
    refine T_blk ?_
    refine T_region [] [ks 0, ks 3, ks 4] (fun _ => mixed) (l' := [ps 0 (nv k), ps 3 (flv (swL.getD (i + 1) 0)), ps 4 (iv (((i : Nat) : Int) + 1))]) (obs := [InK .i64 (((i : Nat) : Int) + 1)]) (by kernel_rfl) (obs_cons (by simp only [InK]; omega) (obs_nil)) ?_
    exact T_back ⟨i + 1, by omega⟩ (Wk.ren2 [ps 0 (nv k), ps 3 (flv (swL.getD (i + 1) 0)), ps 4 (nv (i + 1))] 0 hc0 [] rfl rfl (by kernel_rfl) (by kernel_rfl)) (show k - (i + 1) < k - i from by omega)
  · refine T_else (b := (decide (((i : Nat) : Int) < ((k : Nat) : Int)))) rfl (decide_eq_false h1) ?_
    refine T_break rfl rfl ?_
    refine T_seq ?_
    refine T_region [] [ks 2] (fun _ => mixed) (l' := [ps 2 (flv (swL.getD i 0))]) (obs := []) (by kernel_rfl) (obs_nil) ?_
    refine T_wk (Wk.eq (show _ = [ps 2 (flv (swL.getD k 0))] from by rw [show i = k from by omega])) ?_
    exact T_ret fun cx_ a_ hI_ => ret_ok (H' := []) (.inr rfl) (Wk.ren2 [ps 2 (flv (swL.getD k 0))] 0 hc0 [] rfl rfl (by kernel_rfl) (by kernel_rfl)) rfl (obs_nil) (fun cx_ a_ hI_ => ret_res (l' := [ps 2 (flv (swL.getD k 0))]) (by kernel_rfl) cx_ a_ hI_) hI_
set_option maxRecDepth 100000 in
set_option maxHeartbeats 4000000 in
theorem abs_pc (r : Nat) (h : Nrm r) : PC Try.prog 51 [(flv r)] [] (flv r) [] := by
  refine pc_intro Try.func51 rfl (by kernel_rfl) (Nat.le_of_ble_eq_true rfl) (by kernel_rfl) (l0 := [ps 0 (flv r)]) rfl (fun c0 Bor hc0 => ?_)
  refine T_seq ?_
  refine T_region [] [ks 0] (fun _ => mixed) (l' := [ps 0 (flv r)]) (obs := []) (by kernel_rfl) (obs_nil) ?_
  refine T_seq ?_
  refine T_region [(1, .ext true), (3, .ext true)] [ks 2] (fun _ => mixed) (l' := [ps 2 (flv ((IntKind.wrap .u64 (BitVec.ofInt (IntKind.bits .u64) ((r : Nat) : Int) &&& ~~~ BitVec.ofInt (IntKind.bits .u64) 9223372036854775808).toNat).toNat))]) (obs := [IsBits Try.prog 23, IsFrom Try.prog 49]) (by kernel_rfl) (obs_cons is_bits (obs_cons is_from (obs_nil))) ?_
  refine T_wk (Wk.eq (show _ = [ps 2 (flv r)] from by rw [mask_abs (by unfold Nrm at h; omega)]; rfl)) ?_
  exact T_ret fun cx_ a_ hI_ => ret_ok (H' := []) (.inr rfl) (Wk.ren2 [ps 2 (flv r)] 0 hc0 [] rfl rfl (by kernel_rfl) (by kernel_rfl)) rfl (obs_nil) (fun cx_ a_ hI_ => ret_res (l' := [ps 2 (flv r)]) (by kernel_rfl) cx_ a_ hI_) hI_
set_option maxRecDepth 100000 in
set_option maxHeartbeats 4000000 in
theorem isinf_pc (r : Nat) (h : Nrm r) : PC Try.prog 44 [(flv r), (iv 0)] [] (bv false) [] := by
  refine pc_intro Try.func44 rfl (by kernel_rfl) (Nat.le_of_ble_eq_true rfl) (by kernel_rfl) (l0 := [ps 0 (flv r), ps 1 (iv 0)]) rfl (fun c0 Bor hc0 => ?_)
  refine T_seq ?_
  refine T_region [] [ks 0, ks 1] (fun _ => mixed) (l' := [ps 0 (flv r), ps 1 (iv 0)]) (obs := []) (by kernel_rfl) (obs_nil) ?_
  refine T_seq ?_
  refine T_seq ?_
  refine T_region [] [ks 0, ks 1, ks 6] (fun _ => mixed) (l' := [ps 0 (flv r), ps 1 (iv 0), ps 6 (bv true)]) (obs := []) (by kernel_rfl) (obs_nil) ?_
  refine T_then (b := true) rfl rfl ?_
  refine T_region [(1, .call [] [(flv r)] [] (flv r) [])] [ks 0] (fun _ => mixed) (l' := [ps 0 (flv r)]) (obs := [PC Try.prog 51 [(flv r)] [] (flv r) [], [(flv r)] = renL (sigi [] 32) [(flv r)]]) (by kernel_rfl) (obs_cons (abs_pc r h) (obs_cons rfl (obs_nil))) ?_
  refine T_seq ?_
  refine T_region [] [ks 4] (fun _ => mixed) (l' := [ps 4 (bv (FloatKind.f64.format.order r 9218868437227405311 == some .gt))]) (obs := []) (by kernel_rfl) (obs_nil) ?_
  refine T_wk (Wk.eq (show _ = [ps 4 (bv false)] from by rw [inf_no h])) ?_
  exact T_ret fun cx_ a_ hI_ => ret_ok (H' := []) (.inr rfl) (Wk.ren2 [ps 4 (bv false)] 0 hc0 [] rfl rfl (by kernel_rfl) (by kernel_rfl)) rfl (obs_nil) (fun cx_ a_ hI_ => ret_res (l' := [ps 4 (bv false)]) (by kernel_rfl) cx_ a_ hI_) hI_
set_option maxRecDepth 100000 in
set_option maxHeartbeats 4000000 in
theorem isnan_pc (r : Nat) (h : Nrm r) : PC Try.prog 45 [(flv r)] [] (bv false) [] := by
  refine pc_intro Try.func45 rfl (by kernel_rfl) (Nat.le_of_ble_eq_true rfl) (by kernel_rfl) (l0 := [ps 0 (flv r)]) rfl (fun c0 Bor hc0 => ?_)
  refine T_seq ?_
  refine T_region [] [ks 0] (fun _ => mixed) (l' := [ps 0 (flv r)]) (obs := []) (by kernel_rfl) (obs_nil) ?_
  refine T_seq ?_
  refine T_region [] [ks 2] (fun _ => mixed) (l' := [ps 2 (bv (FloatKind.f64.format.order r r != some .eq))]) (obs := []) (by kernel_rfl) (obs_nil) ?_
  refine T_wk (Wk.eq (show _ = [ps 2 (bv false)] from by rw [nan_no h])) ?_
  exact T_ret fun cx_ a_ hI_ => ret_ok (H' := []) (.inr rfl) (Wk.ren2 [ps 2 (bv false)] 0 hc0 [] rfl rfl (by kernel_rfl) (by kernel_rfl)) rfl (obs_nil) (fun cx_ a_ hI_ => ret_res (l' := [ps 2 (bv false)]) (by kernel_rfl) cx_ a_ hI_) hI_
set_option maxRecDepth 100000 in
set_option maxHeartbeats 4000000 in
theorem normalize_pc (r : Nat) (h : Nrm r) : PC Try.prog 46 [(flv r)] [] (.tup [(flv r), (iv 0)]) [] := by
  refine pc_intro Try.func46 rfl (by kernel_rfl) (Nat.le_of_ble_eq_true rfl) (by kernel_rfl) (l0 := [ps 0 (flv r)]) rfl (fun c0 Bor hc0 => ?_)
  refine T_seq ?_
  refine T_region [] [ks 0] (fun _ => mixed) (l' := [ps 0 (flv r)]) (obs := []) (by kernel_rfl) (obs_nil) ?_
  refine T_seq ?_
  refine T_seq ?_
  refine T_region [(1, .call [] [(flv r)] [] (flv r) [])] [ks 0, ks 6] (fun _ => mixed) (l' := [ps 0 (flv r), ps 6 (bv (FloatKind.f64.format.order r 4503599627370496 == some .lt))]) (obs := [PC Try.prog 51 [(flv r)] [] (flv r) [], [(flv r)] = renL (sigi [] 24) [(flv r)]]) (by kernel_rfl) (obs_cons (abs_pc r h) (obs_cons rfl (obs_nil))) ?_
  have h1 : ¬ ((FloatKind.f64.format.order r 4503599627370496 == some .lt) = true) := (Bool.eq_false_iff.1 (small_no h))
  refine T_else (b := (FloatKind.f64.format.order r 4503599627370496 == some .lt)) rfl (Bool.eq_false_iff.2 h1) ?_
  refine T_skip ?_
  refine T_seq ?_
  refine T_region [] [ks 2, ks 3] (fun _ => mixed) (l' := [ps 2 (flv r), ps 3 (iv 0)]) (obs := []) (by kernel_rfl) (obs_nil) ?_
  exact T_ret fun cx_ a_ hI_ => ret_ok (H' := []) (.inr rfl) (Wk.ren2 [ps 2 (flv r), ps 3 (iv 0)] 0 hc0 [] rfl rfl (by kernel_rfl) (by kernel_rfl)) rfl (obs_nil) (fun cx_ a_ hI_ => ret_res (l' := [ps 2 (flv r), ps 3 (iv 0)]) (by kernel_rfl) cx_ a_ hI_) hI_
set_option maxRecDepth 100000 in
set_option maxHeartbeats 4000000 in
theorem ldexp_pc (r : Nat) (e : Int) (h : Nrm r) (hl1 : 1 ≤ ((r / 4503599627370496 : Nat) : Int) + e) (hl2 : ((r / 4503599627370496 : Nat) : Int) + e ≤ 2046) : PC Try.prog 37 [(flv r), (iv e)] [] (flv (ldR r e)) [] := by
  have hr : r / 4503599627370496 < 2048 := by unfold Nrm at h; omega
  obtain ⟨E, hE0⟩ : ∃ E, E = ((r / 4503599627370496 : Nat) : Int) + e := ⟨_, rfl⟩
  have hE : r % 4503599627370496 + E.toNat * 4503599627370496 = ldR r e := by rw [hE0]; rfl
  refine pc_intro Try.func37 rfl (by kernel_rfl) (Nat.le_of_ble_eq_true rfl) (by kernel_rfl) (l0 := [ps 0 (flv r), ps 1 (iv e)]) rfl (fun c0 Bor hc0 => ?_)
  refine T_seq ?_
  refine T_region [] [ks 0, ks 1] (fun _ => mixed) (l' := [ps 0 (flv r), ps 1 (iv e)]) (obs := []) (by kernel_rfl) (obs_nil) ?_
  refine T_seq ?_
  refine T_block ?_
  refine T_seq ?_
  refine T_region [] [ks 0, ks 1, ks 8] (fun _ => mixed) (l' := [ps 0 (flv r), ps 1 (iv e), ps 8 (bv (FloatKind.f64.format.order r 0 == some .eq))]) (obs := []) (by kernel_rfl) (obs_nil) ?_
  have h1 : ¬ ((FloatKind.f64.format.order r 0 == some .eq) = true) := (Bool.eq_false_iff.1 (zero_no h))
  refine T_else (b := (FloatKind.f64.format.order r 0 == some .eq)) rfl (Bool.eq_false_iff.2 h1) ?_
  refine T_seq ?_
  refine T_region [(1, .call [] [(flv r), (iv 0)] [] (bv false) []), (3, .gd false (.no)), (4, .gd false (.call [] [(flv r)] [] (bv false) []))] [ks 0, ks 1, ks 12] (fun _ => mixed) (l' := [ps 0 (flv r), ps 1 (iv e), ps 12 (bv false)]) (obs := [PC Try.prog 44 [(flv r), (iv 0)] [] (bv false) [], [(flv r), (iv 0)] = renL (sigi [] 40) [(flv r), (iv 0)], false = false, false = false, PC Try.prog 45 [(flv r)] [] (bv false) [], [(flv r)] = renL (sigi [] 64) [(flv r)]]) (by kernel_rfl) (obs_cons (isinf_pc r h) (obs_cons rfl (obs_cons rfl (obs_cons rfl (obs_cons (isnan_pc r h) (obs_cons rfl (obs_nil))))))) ?_
  refine T_else (b := false) rfl rfl ?_
  refine T_skip ?_
  refine T_blk ?_
  refine T_seq ?_
  refine T_region [(1, .call [] [(flv r)] [] (.tup [(flv r), (iv 0)]) [])] [ks 0, ks 1, ks 5] (fun _ => mixed) (l' := [ps 0 (flv r), ps 1 (iv e), ps 5 (iv 0)]) (obs := [PC Try.prog 46 [(flv r)] [] (.tup [(flv r), (iv 0)]) [], [(flv r)] = renL (sigi [] 96) [(flv r)]]) (by kernel_rfl) (obs_cons (normalize_pc r h) (obs_cons rfl (obs_nil))) ?_
  refine T_seq ?_
  refine T_region [] [ks 0, ks 1] (fun _ => mixed) (l' := [ps 0 (flv r), ps 1 (iv (e + 0))]) (obs := [InK .i64 (e + 0)]) (by kernel_rfl) (obs_cons (by simp only [InK]; omega) (obs_nil)) ?_
  refine T_seq ?_
  refine T_region [(1, .ext true)] [ks 0, ks 1, ks 6] (fun _ => mixed) (l' := [ps 0 (flv r), ps 1 (iv (e + 0)), ps 6 (.av (.int .u64 ((r : Nat) : Int)))]) (obs := [IsBits Try.prog 23]) (by kernel_rfl) (obs_cons is_bits (obs_nil)) ?_
  refine T_seq ?_
  refine T_region [] [ks 0, ks 1, ks 6] (fun _ => mixed) (l' := [ps 0 (flv r), ps 1 (iv ((e + 0) + ((IntKind.wrap .i64 (BitVec.ofInt (IntKind.bits .i64) ((((r : Nat) : Int)).fdiv (2 ^ (52 : Int).toNat)) &&& BitVec.ofInt (IntKind.bits .i64) 2047).toNat) - 1023))), ps 6 (.av (.int .u64 ((r : Nat) : Int)))]) (obs := [(0 : Int) ≤ 52 ∧ 52 ≤ ((IntKind.bits .u64 : Nat) : Int), InK .i64 ((((r : Nat) : Int)).fdiv (2 ^ (52 : Int).toNat)), InK .i64 ((IntKind.wrap .i64 (BitVec.ofInt (IntKind.bits .i64) ((((r : Nat) : Int)).fdiv (2 ^ (52 : Int).toNat)) &&& BitVec.ofInt (IntKind.bits .i64) 2047).toNat) - 1023), InK .i64 ((e + 0) + ((IntKind.wrap .i64 (BitVec.ofInt (IntKind.bits .i64) ((((r : Nat) : Int)).fdiv (2 ^ (52 : Int).toNat)) &&& BitVec.ofInt (IntKind.bits .i64) 2047).toNat) - 1023))]) (by kernel_rfl) (obs_cons (by simp only [IntKind.bits]; omega) (obs_cons (by simp only [shr_52, InK]; omega) (obs_cons (by simp only [shr_52, mask_2047 _ hr, InK]; omega) (obs_cons (by simp only [shr_52, mask_2047 _ hr, InK]; omega) (obs_nil))))) ?_
  refine T_seq ?_
  refine T_seq ?_
  refine T_wk (Wk.eq (show _ = [ps 0 (flv r), ps 1 (iv (E - 1023)), ps 6 (.av (.int .u64 ((r : Nat) : Int)))] from by simp only [shr_52, mask_2047 _ hr]; rw [show e + 0 + (((r / 4503599627370496 : Nat) : Int) - 1023) = E - 1023 from by omega])) ?_
  refine T_region [] [ks 0, ks 1, ks 6, ks 38] (fun _ => mixed) (l' := [ps 0 (flv r), ps 1 (iv (E - 1023)), ps 6 (.av (.int .u64 ((r : Nat) : Int))), ps 38 (bv (decide ((E - 1023) < (-1075))))]) (obs := []) (by kernel_rfl) (obs_nil) ?_
  have h2 : ¬ ((E - 1023) < (-1075)) := (by omega)
  refine T_else (b := (decide ((E - 1023) < (-1075)))) rfl (decide_eq_false h2) ?_
  refine T_skip ?_
  refine T_seq ?_
  refine T_seq ?_
  refine T_region [] [ks 0, ks 1, ks 6, ks 42] (fun _ => mixed) (l' := [ps 0 (flv r), ps 1 (iv (E - 1023)), ps 6 (.av (.int .u64 ((r : Nat) : Int))), ps 42 (bv (decide (1023 < (E - 1023))))]) (obs := []) (by kernel_rfl) (obs_nil) ?_
  have h3 : ¬ (1023 < (E - 1023)) := (by omega)
  refine T_else (b := (decide (1023 < (E - 1023)))) rfl (decide_eq_false h3) ?_
  refine T_skip ?_
  refine T_seq ?_
  refine T_region [] [ks 1, ks 6, ks 7] (fun _ => mixed) (l' := [ps 1 (iv (E - 1023)), ps 6 (.av (.int .u64 ((r : Nat) : Int))), ps 7 (flv 4607182418800017408)]) (obs := []) (by kernel_rfl) (obs_nil) ?_
  refine T_seq ?_
  refine T_seq ?_
  refine T_region [] [ks 1, ks 6, ks 7, ks 48] (fun _ => mixed) (l' := [ps 1 (iv (E - 1023)), ps 6 (.av (.int .u64 ((r : Nat) : Int))), ps 7 (flv 4607182418800017408), ps 48 (bv (decide ((E - 1023) < (-1022))))]) (obs := []) (by kernel_rfl) (obs_nil) ?_
  have h4 : ¬ ((E - 1023) < (-1022)) := (by omega)
  refine T_else (b := (decide ((E - 1023) < (-1022)))) rfl (decide_eq_false h4) ?_
  refine T_skip ?_
  refine T_seq ?_
  refine T_region [] [ks 1, ks 6, ks 7] (fun _ => mixed) (l' := [ps 1 (iv (E - 1023)), ps 6 (.av (.int .u64 (IntKind.wrap .u64 (BitVec.ofInt (IntKind.bits .u64) ((r : Nat) : Int) &&& ~~~ BitVec.ofInt (IntKind.bits .u64) 9218868437227405312).toNat))), ps 7 (flv 4607182418800017408)]) (obs := []) (by kernel_rfl) (obs_nil) ?_
  refine T_seq ?_
  refine T_wk (Wk.eq (show _ = [ps 1 (iv (E - 1023)), ps 6 (.av (.int .u64 ((r % 4503599627370496 : Nat) : Int))), ps 7 (flv 4607182418800017408)] from by rw [mask_frac (by unfold Nrm at h; omega)])) ?_
  refine T_region [] [ks 6, ks 7] (fun _ => mixed) (l' := [ps 6 (.av (.int .u64 (IntKind.wrap .u64 (BitVec.ofInt (IntKind.bits .u64) ((r % 4503599627370496 : Nat) : Int) ||| BitVec.ofInt (IntKind.bits .u64) (((E - 1023) + 1023) * 2 ^ (52 : Int).toNat)).toNat))), ps 7 (flv 4607182418800017408)]) (obs := [InK .i64 ((E - 1023) + 1023), InK .u64 ((E - 1023) + 1023), (0 : Int) ≤ 52 ∧ 52 ≤ ((IntKind.bits .u64 : Nat) : Int), InK .u64 (((E - 1023) + 1023) * 2 ^ (52 : Int).toNat)]) (by kernel_rfl) (obs_cons (by simp only [InK]; omega) (obs_cons (by simp only [InK]; omega) (obs_cons (by simp only [IntKind.bits]; omega) (obs_cons (by rw [show (2 ^ (52 : Int).toNat : Int) = 4503599627370496 from by decide]; simp only [InK]; omega) (obs_nil))))) ?_
  refine T_seq ?_
  refine T_wk (Wk.eq (show _ = [ps 6 (.av (.int .u64 ((ldR r e : Nat) : Int))), ps 7 (flv 4607182418800017408)] from by rw [show (E - 1023 + 1023) * 2 ^ (52 : Int).toNat = ((E.toNat * 4503599627370496 : Nat) : Int) from by rw [show (2 ^ (52 : Int).toNat : Int) = 4503599627370496 from by decide]; omega, join_bits (Nat.mod_lt _ (by decide)) (by omega), hE])) ?_
  refine T_region [(2, .ext true), (3, .nat (ldR r e))] [ks 4] (fun _ => mixed) (l' := [ps 4 (flv (ldR r e))]) (obs := [IsFrom Try.prog 49, FloatKind.f64.format.mul 4607182418800017408 (ldR r e) = some (ldR r e)]) (by kernel_rfl) (obs_cons is_from (obs_cons (mul_one_l (ldR_nrm (by omega) (by omega))) (obs_nil))) ?_
  exact T_ret fun cx_ a_ hI_ => ret_ok (H' := []) (.inr rfl) (Wk.ren2 [ps 4 (flv (ldR r e))] 0 hc0 [] rfl rfl (by kernel_rfl) (by kernel_rfl)) rfl (obs_nil) (fun cx_ a_ hI_ => ret_res (l' := [ps 4 (flv (ldR r e))]) (by kernel_rfl) cx_ a_ hI_) hI_
set_option maxRecDepth 100000 in
set_option maxHeartbeats 4000000 in
theorem bigldexp_pc (r : Nat) (e : Int) (h : Nrm r) (hl1 : 1 ≤ ((r / 4503599627370496 : Nat) : Int) + e) (hl2 : ((r / 4503599627370496 : Nat) : Int) + e ≤ 2046) : PC Try.prog 21 [(flv r), (iv e)] [] (flv (ldR r e)) [] := by
  refine pc_intro Try.func21 rfl (by kernel_rfl) (Nat.le_of_ble_eq_true rfl) (by kernel_rfl) (l0 := [ps 0 (flv r), ps 1 (iv e)]) rfl (fun c0 Bor hc0 => ?_)
  refine T_seq ?_
  refine T_region [] [ks 0, ks 1] (fun _ => mixed) (l' := [ps 0 (flv r), ps 1 (iv e)]) (obs := []) (by kernel_rfl) (obs_nil) ?_
  refine T_seq ?_
  refine T_elsec ?_
  refine T_skip ?_
  refine T_seq ?_
  refine T_region [(2, .call [] [(flv r), (iv e)] [] (flv (ldR r e)) [])] [ks 4] (fun _ => mixed) (l' := [ps 4 (flv (ldR r e))]) (obs := [PC Try.prog 37 [(flv r), (iv e)] [] (flv (ldR r e)) [], [(flv r), (iv e)] = renL (sigi [] 24) [(flv r), (iv e)]]) (by kernel_rfl) (obs_cons (ldexp_pc r e h hl1 hl2) (obs_cons rfl (obs_nil))) ?_
  exact T_ret fun cx_ a_ hI_ => ret_ok (H' := []) (.inr rfl) (Wk.ren2 [ps 4 (flv (ldR r e))] 0 hc0 [] rfl rfl (by kernel_rfl) (by kernel_rfl)) rfl (obs_nil) (fun cx_ a_ hI_ => ret_res (l' := [ps 4 (flv (ldR r e))]) (by kernel_rfl) cx_ a_ hI_) hI_
end Go.Proofs.Ytdboencinnlebaa.Pm
namespace Go.Proofs.Ytdboencinnlebaa
open Go

section
variable {P : Program} {ops : Array Oper} {md : Region.Mode} {C : World → Prop}

/-- Whatever order is picked for the first n operations; then L. -/
def wpAnyC (P : Program) (md : Region.Mode) (ops : Array Oper) (C : World → Prop) (n : Nat) (L : Array Bool → Act → Prop) : Nat → Array Bool → Act → Prop
  | 0, listed, a => L listed a
  | f + 1, listed, a => Region.ready md ops listed ≠ [] ∧ ∀ i ∈ Region.ready md ops listed, i < n ∧ qOp P ops C i (wpAnyC P md ops C n L f (listed.setIfInBounds i true)) a

theorem wpAny_of_headC {n g : Nat} {L : Array Bool → Act → Prop} {Q' : Exit → Act → World → Prop} (hL : ∀ listed a w, C w → L listed a → wpAny P md ops Q' g listed a w) :
    ∀ (f : Nat) (listed : Array Bool) (a : Act) (w : World), C w → wpAnyC P md ops C n L f listed a → wpAny P md ops Q' (f + g) listed a w
  | 0, _, _, _, hw, h => by rw [Nat.zero_add]; exact hL _ _ _ hw h
  | f + 1, _, _, _, hw, h => by
    rw [show f + 1 + g = (f + g) + 1 by omega]
    exact ⟨fun h0 => absurd h0 h.1, fun i hi => wpOp_of_qOp hw (fun a' w' hw' h' => wpAny_of_headC hL f _ a' w' hw' h') (h.2 i hi).2⟩

theorem wpAnyC_first {n i : Nat} {oi : Oper} {v : Value} {L : Array Bool → Act → Prop} (hi : ops[i]? = some oi) (hsel : ∀ (j : Nat) (o : Oper) cs b, ops[j]? = some o → o.op ≠ .select cs b)
    (hs : Region.sinkB md ops n = true) (hc : Region.chainB md ops n = true) (hn : n < ops.size) (hin : i < n)
    (hdone : ∀ listed a, L listed a → ∀ j ∈ Region.ready md ops listed, n ≤ j) :
    ∀ (f : Nat) (listed : Array Bool) (a : Act), HeadInv md ops n listed →
      (∀ j oj, ops[j]? = some oj → j ≠ i → listed.getD j true = false → (∀ e ∈ oj.after, Region.binds md e = true → e.on ≠ i) → oi.apart ops oj = true) →
      i ∈ Region.ready md ops listed → YieldsIn P ops C oi v a →
      wpAnyC P md ops C n L f (listed.setIfInBounds i true) (a.put oi.dst v) → wpAnyC P md ops C n L (f + 1) listed a := by
  intro f
  induction f with
  | zero =>
    intro listed a inv _ hr hy H
    have hun := (mem_ready.1 hr).1
    refine ⟨fun h => (by rw [h] at hr; cases hr), fun j hj => ?_⟩
    have hjn : j < n := by
      rcases Nat.lt_or_ge j n with h | h
      · exact h
      · exact absurd hj (tail_waits hs hc hn inv _ i rfl hin hun j h)
    refine ⟨hjn, ?_⟩
    by_cases hji : j = i
    · subst hji; exact hy.qOp hi H
    · have := hdone _ _ H j (ready_mono hj hji)
      omega
  | succ f ih =>
    intro listed a inv hfree hr hy H
    have hun := (mem_ready.1 hr).1
    refine ⟨fun h => (by rw [h] at hr; cases hr), fun j hj => ?_⟩
    have hjn : j < n := by
      rcases Nat.lt_or_ge j n with h | h
      · exact h
      · exact absurd hj (tail_waits hs hc hn inv _ i rfl hin hun j h)
    refine ⟨hjn, ?_⟩
    by_cases hji : j = i
    · subst hji; exact hy.qOp hi H
    · have h1 := (H.2 j (ready_mono hj hji)).2
      obtain ⟨hjun, oj, hoj, hall⟩ := mem_ready.1 hj
      have hnot : ∀ e ∈ oj.after, Region.binds md e = true → e.on ≠ i := fun e he hb heq => by
        have h1 := hall e he hb
        rw [heq, getD_both hun] at h1
        cases h1
      have h2 := qOp_put hoj (hfree j oj hoj hji hjun hnot) (fun cs b => hsel i oi cs b hi) (fun cs b => hsel j oj cs b hoj) hy h1
      have hfree' : ∀ k ok, ops[k]? = some ok → k ≠ i → (listed.setIfInBounds j true).getD k true = false →
          (∀ e ∈ ok.after, Region.binds md e = true → e.on ≠ i) → oi.apart ops ok = true := fun k ok hk hki hun hno => by
        refine hfree k ok hk hki ?_ hno
        by_cases hjk : j = k
        · subst hjk; exact hjun
        · rw [getD_set_ne true hjk] at hun; exact hun
      refine qOp_mono (fun a' h3 => ih (listed.setIfInBounds j true) a' (inv.set hj hjn) hfree' (ready_mono hr (Ne.symm hji)) h3.1 ?_) h2
      rw [Array.setIfInBounds_comm _ _ hji]
      exact h3.2

theorem wpAnyC_lex {n g : Nat} {Lq : Act → Prop} (hsel : Region.noSelect ops = true) (hs : Region.sinkB md ops n = true) (hc : Region.chainB md ops n = true) (hn : n < ops.size) :
    ∀ (l : List Oper) (k : Nat) (listed : Array Bool) (a : Act), (∀ j, j < l.length → l[j]? = ops[k + j]?) → k + l.length = n → HeadInv md ops n listed →
    Region.lexHead md ops g l.length k listed = true → wpQuiet P ops C Lq l a →
    wpAnyC P md ops C n (fun listed' a' => Region.seqB md ops g n listed' = true ∧ Lq a') l.length listed a
  | [], k, _, _, _, hk, _, hB, h => by
    have : k = n := by simpa using hk
    subst this
    exact ⟨by simpa [Region.lexHead] using hB, h⟩
  | o :: l, k, listed, a, hl, hk, inv, hB, h => by
    have h0 : ops[k]? = some o := by simpa using (hl 0 (by simp)).symm
    simp only [List.length_cons, Region.lexHead, Bool.and_eq_true] at hB
    obtain ⟨⟨hr, hf⟩, hB'⟩ := hB
    have hkn : k < n := by simp only [List.length_cons] at hk; omega
    have hr' : k ∈ Region.ready md ops listed := by simpa using hr
    have hst : qOp P ops C k (wpQuiet P ops C Lq l) a := by unfold qOp; simp only [h0]; exact h
    obtain ⟨v, hy, hK⟩ := yieldsIn_of_qOp h0 hst
    exact wpAnyC_first h0 (Region.noSelect_spec hsel) hs hc hn hkn (fun listed' a' hL => seqB_ready hL.1) l.length listed a inv (Region.free_spec h0 hf) hr' hy
      (wpAnyC_lex hsel hs hc hn l (k + 1) _ _ (fun j hj => by have := hl (j + 1) (by simp; omega); simpa [Nat.add_assoc, Nat.add_comm 1 j] using this) (by simp only [List.length_cons] at hk; omega) (inv.set hr' hkn) hB' hK)

/-- THE FIRST n OPERATIONS QUIET IN C, THE REST FORCED: one walk. -/
theorem wp_region_class_tail {id : Nat} {Q : Exit → Act → World → Prop} {a : Act} {w : World} {l : List Oper} (C : World → Prop) (n : Nat) (hm : P.follows .mixedOrders = true) (hB : Region.lexTailB .any l.toArray n = true)
    (hC : C { w with drawn := w.drawn + 1 })
    (h : wpQuiet P l.toArray C (fun a' => ∀ w', C w' → wpList P l.toArray Q (l.drop n) a' w') (l.take n) a) : (Code.region id l.toArray true).wp P Q a w := by
  simp only [Region.lexTailB, Bool.and_eq_true, decide_eq_true_eq] at hB
  obtain ⟨⟨⟨⟨hsel, hn⟩, hs⟩, hc⟩, hlex⟩ := hB
  have hn' : n < l.length := by simpa using hn
  have htl : (l.take n).length = n := by simp; omega
  have hdl : (l.drop n).length = l.toArray.size - n := by simp
  have inv0 : HeadInv .any l.toArray n (Array.replicate l.toArray.size false) :=
    ⟨by simp, fun j oj _ hl => (by rw [getD_replicate_false] at hl; cases hl), fun t _ ht => getD_in (by simpa using ht) (getD_replicate_false _ _)⟩
  have H := wpAnyC_lex (md := .any) (g := l.toArray.size - n) hsel hs hc hn (l.take n) 0 _ a (fun j hj => by
    have hj' : j < n := by rw [htl] at hj; exact hj
    simp [hj']) (by simpa using htl) inv0 (by rw [htl]; exact hlex) h
  refine wp_region_any hm ?_
  have := wpAny_of_headC (Q' := Q) (g := l.toArray.size - n) (fun listed a' w' hw' hL => by
    have := wpAny_of_seq (md := .any) (Q' := Q) (l.drop n) n listed a' w' (fun j => by simp [List.getElem?_drop]) (by rw [hdl]; exact hL.1) (hL.2 w' hw')
    rwa [hdl] at this) _ _ _ _ hC H
  rw [htl, show n + (l.toArray.size - n) = l.toArray.size by omega] at this
  exact this

end

/-- A world with more in it: what was there is as it was. -/
structure Ext (w : World) where
  u : World
  h : RowKit.Below w.heap.size w u
instance Ext.some_ (w : World) : Nonempty (Ext w) := ⟨⟨w, RowKit.Below.refl _ _⟩⟩
theorem Ext.cells (w : World) : ∀ (d : Ext w) (b o : Nat), b < w.heap.size → d.u.cell? ⟨b, o, none⟩ = w.cell? ⟨b, o, none⟩ := fun d b o h => d.h.cell (p := ⟨b, o, none⟩) h

section
variable {P : Program}
theorem wp_region_ext_tail {id : Nat} {Q : Exit → Act → World → Prop} {a : Act} {w : World} {l : List Oper} (n : Nat) (hm : P.follows .mixedOrders = true) (hB : Region.lexTailB .any l.toArray n = true)
    (h : wpQuiet P l.toArray (fun w' => ∃ d : Ext w, w' = d.u) (fun a' => ∀ w', (∃ d : Ext w, w' = d.u) → wpList P l.toArray Q (l.drop n) a' w') (l.take n) a) :
    (Code.region id l.toArray true).wp P Q a w :=
  wp_region_class_tail (fun w' => ∃ d : Ext w, w' = d.u) n hm hB ⟨⟨{ w with drawn := w.drawn + 1 }, rfl, rfl, rfl, Nat.le_refl _, fun _ _ => rfl⟩, rfl⟩ h
theorem wp_region_ext {id : Nat} {Q : Exit → Act → World → Prop} {a : Act} {w : World} {l : List Oper} (hm : P.follows .mixedOrders = true) (hB : Region.lexB .any l.toArray = true)
    (h : wpQuiet P l.toArray (fun w' => ∃ d : Ext w, w' = d.u) (fun a' => ∀ w', (∃ d : Ext w, w' = d.u) → Q .normal a' w') l a) :
    (Code.region id l.toArray true).wp P Q a w :=
  wp_region_quiet (C := fun w' => ∃ d : Ext w, w' = d.u) hm hB ⟨⟨{ w with drawn := w.drawn + 1 }, rfl, rfl, rfl, Nat.le_refl _, fun _ _ => rfl⟩, rfl⟩ (by simpa using h)
/-- A call in such a region, by the callee's contract. -/
theorem ext_call {f : FuncId} {args : Array Value} {w : World} {d : Ext w} {v : Value} (h : Calls P f args d.u fun e w' => e = .returned v ∧ RowKit.Below d.u.heap.size d.u w') :
    Calls P f args d.u fun e w'' => e = .returned v ∧ ∃ d' : Ext w, w'' = d'.u :=
  h.mono fun _ w' ⟨he, hb⟩ => ⟨he, ⟨w', d.h.trans (hb.mono d.h.size)⟩, rfl⟩
theorem ext_same {f : FuncId} {args : Array Value} {w : World} {d : Ext w} {v : Value} (h : Calls P f args d.u fun e w' => e = .returned v ∧ d.u = w') :
    Calls P f args d.u fun e w'' => e = .returned v ∧ ∃ d' : Ext w, w'' = d'.u :=
  h.mono fun _ _ ⟨he, hb⟩ => ⟨he, d, hb.symm⟩
theorem ext_drewN {f : FuncId} {args : Array Value} {w : World} {d : Ext w} {v : Value} (h : Calls P f args d.u fun e w' => e = .returned v ∧ ∃ n, w' = d.u.drewN n) :
    Calls P f args d.u fun e w'' => e = .returned v ∧ ∃ d' : Ext w, w'' = d'.u :=
  h.mono fun _ w' ⟨he, n, hb⟩ => ⟨he, ⟨w', by subst hb; exact ⟨d.h.os, d.h.tape, d.h.output, d.h.size, d.h.block⟩⟩, rfl⟩
end
end Go.Proofs.Ytdboencinnlebaa
namespace Go.Proofs.Ytdboencinnlebaa.Pi
open Go.RowKit

def I64 (n : Int) : Prop := -9223372036854775808 ≤ n ∧ n ≤ 9223372036854775807
theorem one_ {n m : Nat} (h : n + 1 ≤ m) : n < m := h
theorem nat7_0 : nat7 0 = 0 := rfl

set_option maxHeartbeats 1000000 in
theorem natural_any (l : Int) (w : World) :
    Calls Try.prog 38 #[.int .i64 l] w fun e w' => e = .returned (.int .i64 (nat7 l)) ∧ w = w' := by
  have h : l = 0 ∨ l = 1 ∨ l = 2 ∨ l = 3 ∨ l = 4 ∨ l = 5 ∨ (¬ l = 0 ∧ ¬ l = 1 ∧ ¬ l = 2 ∧ ¬ l = 3 ∧ ¬ l = 4 ∧ ¬ l = 5) := by omega
  rcases h with rfl | rfl | rfl | rfl | rfl | rfl | ⟨h0, h1, h2, h3, h4, h5⟩
  all_goals
    go_enter Try.func38, Try.ntmps38
    go_wp2
    go_ret
    exact ⟨ret_int (by unfold nat7; omega), rfl⟩

set_option maxHeartbeats 1000000 in
theorem right_any (l a o : Int) (w : World) :
    Calls Try.prog 12 #[.agg #[.int .i64 l, .int .i64 a, .int .i64 o]] w fun e w' => e = .returned (.bool (rightB l a o)) ∧ Below w.heap.size w w' := by
  by_cases h1 : 0 ≤ l
  · by_cases h2 : l < 7
    · by_cases h3 : -3 ≤ a
      · by_cases h4 : a ≤ 3
        · by_cases h5 : -12 ≤ o
          · go_enter Try.func12, Try.ntmps12
            go_wp2
            go_ret
            refine ⟨ret_bool ?_, (by repeat (first | exact Below.refl _ _ | assumption | refine below_drewN ?_ _ | refine Below.drew ?_ | refine below_new ?_ _ | refine Below.setCell ?_ (by first | omega | (simp <;> omega)) _ | refine below_then (by assumption) ?_))⟩
            rw [Bool.eq_iff_iff, rightB_iff]; simp; omega
          · go_enter Try.func12, Try.ntmps12
            go_wp2
            go_ret
            refine ⟨ret_bool ?_, (by repeat (first | exact Below.refl _ _ | assumption | refine below_drewN ?_ _ | refine Below.drew ?_ | refine below_new ?_ _ | refine Below.setCell ?_ (by first | omega | (simp <;> omega)) _ | refine below_then (by assumption) ?_))⟩
            rw [eq_comm, ← Bool.not_eq_true, rightB_iff]; omega
        · go_enter Try.func12, Try.ntmps12
          go_wp2
          go_ret
          refine ⟨ret_bool ?_, (by repeat (first | exact Below.refl _ _ | assumption | refine below_drewN ?_ _ | refine Below.drew ?_ | refine below_new ?_ _ | refine Below.setCell ?_ (by first | omega | (simp <;> omega)) _ | refine below_then (by assumption) ?_))⟩
          rw [eq_comm, ← Bool.not_eq_true, rightB_iff]; omega
      · go_enter Try.func12, Try.ntmps12
        go_wp2
        go_ret
        refine ⟨ret_bool ?_, (by repeat (first | exact Below.refl _ _ | assumption | refine below_drewN ?_ _ | refine Below.drew ?_ | refine below_new ?_ _ | refine Below.setCell ?_ (by first | omega | (simp <;> omega)) _ | refine below_then (by assumption) ?_))⟩
        rw [eq_comm, ← Bool.not_eq_true, rightB_iff]; omega
    · go_enter Try.func12, Try.ntmps12
      go_wp2
      go_ret
      refine ⟨ret_bool ?_, (by repeat (first | exact Below.refl _ _ | assumption | refine below_drewN ?_ _ | refine Below.drew ?_ | refine below_new ?_ _ | refine Below.setCell ?_ (by first | omega | (simp <;> omega)) _ | refine below_then (by assumption) ?_))⟩
      rw [eq_comm, ← Bool.not_eq_true, rightB_iff]; omega
  · go_enter Try.func12, Try.ntmps12
    go_wp2
    go_ret
    refine ⟨ret_bool ?_, (by repeat (first | exact Below.refl _ _ | assumption | refine below_drewN ?_ _ | refine Below.drew ?_ | refine below_new ?_ _ | refine Below.setCell ?_ (by first | omega | (simp <;> omega)) _ | refine below_then (by assumption) ?_))⟩
    rw [eq_comm, ← Bool.not_eq_true, rightB_iff]; omega

set_option maxHeartbeats 1000000 in
theorem steps_any (l a o : Int) (w : World) (h : rightB l a o = true) :
    Calls Try.prog 42 #[.agg #[.int .i64 l, .int .i64 a, .int .i64 o]] w fun e w' => e = .returned (.int .i64 (steps l o)) ∧ Below w.heap.size w w' := by
  have hr := rightB_iff.1 h
  go_enter Try.func42, Try.ntmps42
  go_wp2
  go_ret
  exact ⟨ret_int rfl, (by repeat (first | exact Below.refl _ _ | assumption | refine below_drewN ?_ _ | refine Below.drew ?_ | refine below_new ?_ _ | refine Below.setCell ?_ (by first | omega | (simp <;> omega)) _ | refine below_then (by assumption) ?_))⟩

theorem nat7_lo (l : Int) : 0 ≤ nat7 l := (nat7_range l).1
theorem nat7_hi (l : Int) : nat7 l ≤ 11 := (nat7_range l).2

set_option maxHeartbeats 1000000 in
theorem halves_any (l a o : Int) (w : World) (ha : -1000000 ≤ a ∧ a ≤ 1000000) (ho : -1000000 ≤ o ∧ o ≤ 1000000) :
    Calls Try.prog 24 #[.agg #[.int .i64 l, .int .i64 a, .int .i64 o]] w fun e w' => e = .returned (.int .i64 (halves l a o)) ∧ Below w.heap.size w w' := by
  have h1 := nat7_lo l
  have h2 := nat7_hi l
  go_enter Try.func24, Try.ntmps24
  go_wp2
  go_quiet ((go_at_call 38; exact quiet_left (natural_any l _)))
  go_wp2
  go_ret
  exact ⟨ret_int rfl, (by repeat (first | exact Below.refl _ _ | assumption | refine below_drewN ?_ _ | refine Below.drew ?_ | refine below_new ?_ _ | refine Below.setCell ?_ (by first | omega | (simp <;> omega)) _ | refine below_then (by assumption) ?_))⟩


end Go.Proofs.Ytdboencinnlebaa.Pi
namespace Go.Proofs.Ytdboencinnlebaa.Pi
open Go.RowKit

/-- Two integers and what is wrong; three. -/
def R3 (r : Int × Int × Int) : Value := .tuple #[.agg #[.int .i64 r.1, .int .i64 r.2.1], .int .i64 r.2.2]
def R4 (r : Int × Int × Int × Int) : Value := .tuple #[.agg #[.int .i64 r.1, .int .i64 r.2.1, .int .i64 r.2.2.1], .int .i64 r.2.2.2]
def R2 (r : Int × Int) : Value := .tuple #[.int .i64 r.1, .int .i64 r.2]
theorem ret_R2 {r : Int × Int} {a b : Int} (h : r = (a, b)) : Ending.returned (.tuple #[.int .i64 a, .int .i64 b]) = .returned (R2 r) := by rw [h]; rfl
theorem three {n m : Nat} (h : n + 1 + 1 + 1 ≤ m) : n < m ∧ n + 1 < m ∧ n + 1 + 1 < m := by omega
theorem two_ {n m : Nat} (h : n + 1 + 1 ≤ m) : n < m ∧ n + 1 < m := by omega

set_option maxHeartbeats 1000000 in
theorem between_yes (l a o l' a' o' : Int) (w : World) (h1 : rightB l a o = true) (h2 : rightB l' a' o' = true) :
    Calls Try.prog 31 #[.agg #[.int .i64 l, .int .i64 a, .int .i64 o], .agg #[.int .i64 l', .int .i64 a', .int .i64 o']] w fun e w' =>
      e = .returned (R3 (between l a o l' a' o')) ∧ Below w.heap.size w w' := by
  have HR := Lib.hid (between_of h1 h2)
  have hr1 := rightB_iff.1 h1
  have hr2 := rightB_iff.1 h2
  have q1 := bounds h1
  have q2 := bounds h2
  go_enter Try.func31, Try.ntmps31
  go_wp2_with (first
    | (go_at_call 12; with_reducible refine (right_any l a o _).mono ?_; rintro e w1 ⟨rfl, hb1⟩; have hz := hb1.size; simp at hz; obtain ⟨z1, z2, z3⟩ := three hz; obtain ⟨hc, hf⟩ := bcell hb1)
    | (go_at_call 12; with_reducible refine (right_any l' a' o' _).mono ?_; rintro e w2 ⟨rfl, hb2⟩; have hz2 := hb2.size; have y1 : w.heap.size < w2.heap.size := (by omega); have y2 : w.heap.size + 1 < w2.heap.size := (by omega); have y3 : w.heap.size + 1 + 1 < w2.heap.size := (by omega); obtain ⟨hc2, hf2⟩ := bcell hb2))
  have hE := Ext.cells w2
  refine wp_region_ext_tail 11 (by kernel_rfl) (by kernel_rfl) ?_
  simp only [List.take_succ_cons, List.take_zero, List.drop_succ_cons, List.drop_zero]
  repeat go_big_quiet_step ((first | (go_at_call 42; with_reducible refine ext_call (steps_any l a o _ h1)) | (go_at_call 42; with_reducible refine ext_call (steps_any l' a' o' _ h2)) | (go_at_call 24; with_reducible refine ext_call (halves_any l a o _ (by omega) (by omega))) | (go_at_call 24; with_reducible refine ext_call (halves_any l' a' o' _ (by omega) (by omega)))))
  refine wpQuiet_nil ?_
  rintro wd ⟨⟨_, hbd⟩, rfl⟩
  obtain ⟨hcd, hfd⟩ := bcell hbd
  have zd := hbd.size
  have y4 : w.heap.size + 1 + 1 < wd.heap.size := by omega
  go_wp2
  exact bodyPost_ret (v := R3 (steps l' o' - steps l o, halves l' a' o' - halves l a o, 0)) (by simp [results, Try.results31, go_sem, R3, hcd, hc2, hc, y3, z3]) rfl ⟨by rw [HR.out], (by repeat (first | exact Below.refl _ _ | assumption | refine below_drewN ?_ _ | refine Below.drew ?_ | refine below_new ?_ _ | refine Below.setCell ?_ (by first | omega | (simp <;> omega)) _ | refine below_then (by assumption) ?_))⟩

set_option maxHeartbeats 1000000 in
theorem between_no (l a o l' a' o' : Int) (w : World) (h : (rightB l a o && rightB l' a' o') = false) :
    Calls Try.prog 31 #[.agg #[.int .i64 l, .int .i64 a, .int .i64 o], .agg #[.int .i64 l', .int .i64 a', .int .i64 o']] w fun e w' =>
      e = .returned (R3 (between l a o l' a' o')) ∧ Below w.heap.size w w' := by
  have HR := Lib.hid (show between l a o l' a' o' = (0, 0, 2) by simp [between, h])
  by_cases h1 : rightB l a o = true
  · have h2 : rightB l' a' o' = false := by simpa [h1] using h
    clear h
    go_enter Try.func31, Try.ntmps31
    go_wp2_with (first
      | (go_at_call 12; with_reducible refine (right_any l a o _).mono ?_; rintro e w1 ⟨rfl, hb1⟩; have hz := hb1.size; simp at hz; obtain ⟨z1, z2, z3⟩ := three hz; obtain ⟨hc, hf⟩ := bcell hb1)
      | (go_at_call 12; with_reducible refine (right_any l' a' o' _).mono ?_; rintro e w2 ⟨rfl, hb2⟩; have hz2 := hb2.size; have y3 : w.heap.size + 1 + 1 < w2.heap.size := (by omega); obtain ⟨hc2, hf2⟩ := bcell hb2))
    exact bodyPost_ret (v := R3 (0, 0, 2)) (by simp [results, Try.results31, go_sem, R3, hc2, hc, z3]) rfl ⟨by rw [HR.out], (by repeat (first | exact Below.refl _ _ | assumption | refine below_drewN ?_ _ | refine Below.drew ?_ | refine below_new ?_ _ | refine Below.setCell ?_ (by first | omega | (simp <;> omega)) _ | refine below_then (by assumption) ?_))⟩
  · simp only [Bool.not_eq_true] at h1
    clear h
    go_enter Try.func31, Try.ntmps31
    go_wp2_with (go_at_call 12; with_reducible refine (right_any l a o _).mono ?_; rintro e w1 ⟨rfl, hb1⟩; have hz := hb1.size; simp at hz; obtain ⟨z1, z2, z3⟩ := three hz; obtain ⟨hc, hf⟩ := bcell hb1)
    exact bodyPost_ret (v := R3 (0, 0, 2)) (by simp [results, Try.results31, go_sem, R3, hc]) rfl ⟨by rw [HR.out], (by repeat (first | exact Below.refl _ _ | assumption | refine below_drewN ?_ _ | refine Below.drew ?_ | refine below_new ?_ _ | refine Below.setCell ?_ (by first | omega | (simp <;> omega)) _ | refine below_then (by assumption) ?_))⟩

theorem between_any (l a o l' a' o' : Int) (w : World) :
    Calls Try.prog 31 #[.agg #[.int .i64 l, .int .i64 a, .int .i64 o], .agg #[.int .i64 l', .int .i64 a', .int .i64 o']] w fun e w' =>
      e = .returned (R3 (between l a o l' a' o')) ∧ Below w.heap.size w w' := by
  by_cases h : (rightB l a o && rightB l' a' o') = true
  · rw [Bool.and_eq_true] at h; exact between_yes l a o l' a' o' w h.1 h.2
  · exact between_no l a o l' a' o' w (by simpa only [Bool.not_eq_true] using h)

set_option maxHeartbeats 1000000 in
theorem key_any (l a o : Int) (w : World) :
    Calls Try.prog 13 #[.agg #[.int .i64 l, .int .i64 a, .int .i64 o]] w fun e w' => e = .returned (R2 (key l a o)) ∧ Below w.heap.size w w' := by
  by_cases h1 : rightB l a o = true
  · have HR := Lib.hid (show key l a o = (halves l a o + 12, 0) by simp [key, h1])
    have hr1 := rightB_iff.1 h1
    have hbd := (bounds h1).2
    go_enter Try.func13, Try.ntmps13
    go_wp2_with (first
      | (go_at_call 12; with_reducible refine (right_any l a o _).mono ?_; rintro e w1 ⟨rfl, hb1⟩; have hz := hb1.size; simp at hz; have z1 := one_ hz; obtain ⟨hc, hf⟩ := bcell hb1)
      | (go_at_call 24; with_reducible refine (halves_any l a o _ (by omega) (by omega)).mono ?_; rintro e w2 ⟨rfl, hb2⟩))
    go_ret2
    exact ⟨ret_R2 HR.out, (by repeat (first | exact Below.refl _ _ | assumption | refine below_drewN ?_ _ | refine Below.drew ?_ | refine below_new ?_ _ | refine Below.setCell ?_ (by first | omega | (simp <;> omega)) _ | refine below_then (by assumption) ?_))⟩
  · simp only [Bool.not_eq_true] at h1
    have HR := Lib.hid (show key l a o = (0, 2) by simp [key, h1])
    go_enter Try.func13, Try.ntmps13
    go_wp2_with (go_at_call 12; with_reducible refine (right_any l a o _).mono ?_; rintro e w1 ⟨rfl, hb1⟩; have hz := hb1.size; simp at hz; have z1 := one_ hz; obtain ⟨hc, hf⟩ := bcell hb1)
    go_ret2
    exact ⟨ret_R2 HR.out, (by repeat (first | exact Below.refl _ _ | assumption | refine below_drewN ?_ _ | refine Below.drew ?_ | refine below_new ?_ _ | refine Below.setCell ?_ (by first | omega | (simp <;> omega)) _ | refine below_then (by assumption) ?_))⟩

theorem wrap_least : wrap64 9223372036854775808 = -9223372036854775808 := by unfold wrap64; decide

set_option maxHeartbeats 4000000 in
theorem within_any (s h : Int) (w : World) (hs : I64 s) (hh : I64 h) :
    Calls Try.prog 19 #[.agg #[.int .i64 s, .int .i64 h]] w fun e w' => e = .returned (.bool (withinB s h)) ∧ Below w.heap.size w w' := by
  unfold I64 at hs hh
  have hw := wrap_least
  have cs : s = -9223372036854775808 ∨ (-9223372036854775808 < s ∧ s < -200) ∨ (-200 ≤ s ∧ s ≤ 200) ∨ 200 < s := by omega
  have ch : h = -9223372036854775808 ∨ (-9223372036854775808 < h ∧ h < -4096) ∨ (-4096 ≤ h ∧ h ≤ 4096) ∨ 4096 < h := by omega
  rcases cs with rfl | ⟨c1, c2⟩ | ⟨c1, c2⟩ | c1 <;> rcases ch with rfl | ⟨d1, d2⟩ | ⟨d1, d2⟩ | d1
  all_goals
    go_enter Try.func19, Try.ntmps19
    go_wp2
    all_goals
      go_ret
      refine ⟨ret_bool ?_, (by repeat (first | exact Below.refl _ _ | assumption | refine below_drewN ?_ _ | refine Below.drew ?_ | refine below_new ?_ _ | refine Below.setCell ?_ (by first | omega | (simp <;> omega)) _ | refine below_then (by assumption) ?_))⟩
      rw [Bool.eq_iff_iff, withinB_iff]
      simp
      try omega


theorem sum_ok {s h s' h' : Int} (h1 : withinB s h = true) (h2 : withinB s' h' = true) (h3 : withinB (s + s') (h + h') = true) : sum s h s' h' = (s + s', h + h', 0) := by simp [sum, h1, h2, h3]
theorem sum_no3 {s h s' h' : Int} (h3 : withinB (s + s') (h + h') = false) : sum s h s' h' = (0, 0, 3) := by simp [sum, h3]
theorem sum_no2 {s h s' h' : Int} (h2 : withinB s' h' = false) : sum s h s' h' = (0, 0, 3) := by simp [sum, h2]
theorem sum_no1 {s h s' h' : Int} (h1 : withinB s h = false) : sum s h s' h' = (0, 0, 3) := by simp [sum, h1]

set_option maxHeartbeats 2000000 in
theorem sum_any (s h s' h' : Int) (w : World) (i1 : I64 s) (i2 : I64 h) (i3 : I64 s') (i4 : I64 h') :
    Calls Try.prog 8 #[.agg #[.int .i64 s, .int .i64 h], .agg #[.int .i64 s', .int .i64 h']] w fun e w' =>
      e = .returned (R3 (sum s h s' h')) ∧ Below w.heap.size w w' := by
  by_cases h1 : withinB s h = true
  · by_cases h2 : withinB s' h' = true
    · have b1 := withinB_iff.1 h1
      have b2 := withinB_iff.1 h2
      have i5 : I64 (s + s') := by unfold I64; omega
      have i6 : I64 (h + h') := by unfold I64; omega
      by_cases h3 : withinB (s + s') (h + h') = true
      · have HR := Lib.hid (sum_ok h1 h2 h3)
        go_enter Try.func8, Try.ntmps8
        go_wp2_with (first
          | (go_at_call 19; with_reducible refine (within_any s h _ i1 i2).mono ?_; rintro e w1 ⟨rfl, hb1⟩; have hz1 := hb1.size; (try simp at hz1); have zx1 : w.heap.size < w1.heap.size := (by first | omega | (simp; omega)); have cx0_1 : w1.cell? ⟨w.heap.size, 0, none⟩ = some (.int .i64 (s)) := (hb1.cell (by first | assumption | (simp <;> omega))).trans (by go_simp); have cx1_1 : w1.cell? ⟨w.heap.size, 1, none⟩ = some (.int .i64 (h)) := (hb1.cell (by first | assumption | (simp <;> omega))).trans (by go_simp); have zy1 : w.heap.size + 1 < w1.heap.size := (by first | omega | (simp; omega)); have cy0_1 : w1.cell? ⟨w.heap.size + 1, 0, none⟩ = some (.int .i64 (s')) := (hb1.cell (by first | assumption | (simp <;> omega))).trans (by go_simp); have cy1_1 : w1.cell? ⟨w.heap.size + 1, 1, none⟩ = some (.int .i64 (h')) := (hb1.cell (by first | assumption | (simp <;> omega))).trans (by go_simp); have zr1 : w.heap.size + 1 + 1 < w1.heap.size := (by first | omega | (simp; omega)); have cr0_1 : w1.cell? ⟨w.heap.size + 1 + 1, 0, none⟩ = some (.int .i64 (0)) := (hb1.cell (by first | assumption | (simp <;> omega))).trans (by go_simp); have fr0_1 : w1.frozen? ⟨w.heap.size + 1 + 1, 0, none⟩ = false := (hb1.frozen (by first | assumption | (simp <;> omega))).trans (by go_simp); have cr1_1 : w1.cell? ⟨w.heap.size + 1 + 1, 1, none⟩ = some (.int .i64 (0)) := (hb1.cell (by first | assumption | (simp <;> omega))).trans (by go_simp); have fr1_1 : w1.frozen? ⟨w.heap.size + 1 + 1, 1, none⟩ = false := (hb1.frozen (by first | assumption | (simp <;> omega))).trans (by go_simp))
          | (go_at_call 19; with_reducible refine (within_any s' h' _ i3 i4).mono ?_; rintro e w2 ⟨rfl, hb2⟩; have hz2 := hb2.size; (try simp at hz2); have zx2 : w.heap.size < w2.heap.size := (by first | omega | (simp; omega)); have cx0_2 : w2.cell? ⟨w.heap.size, 0, none⟩ = some (.int .i64 (s)) := (hb2.cell (by first | assumption | (simp <;> omega))).trans (by go_simp); have cx1_2 : w2.cell? ⟨w.heap.size, 1, none⟩ = some (.int .i64 (h)) := (hb2.cell (by first | assumption | (simp <;> omega))).trans (by go_simp); have zy2 : w.heap.size + 1 < w2.heap.size := (by first | omega | (simp; omega)); have cy0_2 : w2.cell? ⟨w.heap.size + 1, 0, none⟩ = some (.int .i64 (s')) := (hb2.cell (by first | assumption | (simp <;> omega))).trans (by go_simp); have cy1_2 : w2.cell? ⟨w.heap.size + 1, 1, none⟩ = some (.int .i64 (h')) := (hb2.cell (by first | assumption | (simp <;> omega))).trans (by go_simp); have zr2 : w.heap.size + 1 + 1 < w2.heap.size := (by first | omega | (simp; omega)); have cr0_2 : w2.cell? ⟨w.heap.size + 1 + 1, 0, none⟩ = some (.int .i64 (0)) := (hb2.cell (by first | assumption | (simp <;> omega))).trans (by go_simp); have fr0_2 : w2.frozen? ⟨w.heap.size + 1 + 1, 0, none⟩ = false := (hb2.frozen (by first | assumption | (simp <;> omega))).trans (by go_simp); have cr1_2 : w2.cell? ⟨w.heap.size + 1 + 1, 1, none⟩ = some (.int .i64 (0)) := (hb2.cell (by first | assumption | (simp <;> omega))).trans (by go_simp); have fr1_2 : w2.frozen? ⟨w.heap.size + 1 + 1, 1, none⟩ = false := (hb2.frozen (by first | assumption | (simp <;> omega))).trans (by go_simp))
          | (go_at_call 19; with_reducible refine (within_any (s + s') (h + h') _ i5 i6).mono ?_; rintro e w3 ⟨rfl, hb3⟩; have hz3 := hb3.size; (try simp at hz3); have zx3 : w.heap.size < w3.heap.size := (by first | omega | (simp; omega)); have cx0_3 : w3.cell? ⟨w.heap.size, 0, none⟩ = some (.int .i64 (s)) := (hb3.cell (by first | assumption | (simp <;> omega))).trans (by go_simp); have cx1_3 : w3.cell? ⟨w.heap.size, 1, none⟩ = some (.int .i64 (h)) := (hb3.cell (by first | assumption | (simp <;> omega))).trans (by go_simp); have zy3 : w.heap.size + 1 < w3.heap.size := (by first | omega | (simp; omega)); have cy0_3 : w3.cell? ⟨w.heap.size + 1, 0, none⟩ = some (.int .i64 (s')) := (hb3.cell (by first | assumption | (simp <;> omega))).trans (by go_simp); have cy1_3 : w3.cell? ⟨w.heap.size + 1, 1, none⟩ = some (.int .i64 (h')) := (hb3.cell (by first | assumption | (simp <;> omega))).trans (by go_simp); have zr3 : w.heap.size + 1 + 1 < w3.heap.size := (by first | omega | (simp; omega)); have cr0_3 : w3.cell? ⟨w.heap.size + 1 + 1, 0, none⟩ = some (.int .i64 (0)) := (hb3.cell (by first | assumption | (simp <;> omega))).trans (by go_simp); have fr0_3 : w3.frozen? ⟨w.heap.size + 1 + 1, 0, none⟩ = false := (hb3.frozen (by first | assumption | (simp <;> omega))).trans (by go_simp); have cr1_3 : w3.cell? ⟨w.heap.size + 1 + 1, 1, none⟩ = some (.int .i64 (0)) := (hb3.cell (by first | assumption | (simp <;> omega))).trans (by go_simp); have fr1_3 : w3.frozen? ⟨w.heap.size + 1 + 1, 1, none⟩ = false := (hb3.frozen (by first | assumption | (simp <;> omega))).trans (by go_simp); have zk3 : w2.heap.size < w3.heap.size := (by first | omega | (simp; omega)); have ck0_3 : w3.cell? ⟨w2.heap.size, 0, none⟩ = some (.int .i64 (s + s')) := (hb3.cell (by first | assumption | (simp <;> omega))).trans (by go_simp); have ck1_3 : w3.cell? ⟨w2.heap.size, 1, none⟩ = some (.int .i64 (h + h')) := (hb3.cell (by first | assumption | (simp <;> omega))).trans (by go_simp)))
        exact bodyPost_ret (v := R3 (s + s', h + h', 0)) (by simp [results, Try.results8, go_sem, R3, cr0_3, cr1_3]) rfl ⟨by rw [HR.out], (by repeat (first | exact Below.refl _ _ | assumption | refine below_drewN ?_ _ | refine Below.drew ?_ | refine below_new ?_ _ | refine Below.setCell ?_ (by first | omega | (simp <;> omega)) _ | refine below_then (by assumption) ?_))⟩
      · simp only [Bool.not_eq_true] at h3
        have HR := Lib.hid (sum_no3 h3)
        go_enter Try.func8, Try.ntmps8
        go_wp2_with (first
          | (go_at_call 19; with_reducible refine (within_any s h _ i1 i2).mono ?_; rintro e w1 ⟨rfl, hb1⟩; have hz1 := hb1.size; (try simp at hz1); have zx1 : w.heap.size < w1.heap.size := (by first | omega | (simp; omega)); have cx0_1 : w1.cell? ⟨w.heap.size, 0, none⟩ = some (.int .i64 (s)) := (hb1.cell (by first | assumption | (simp <;> omega))).trans (by go_simp); have cx1_1 : w1.cell? ⟨w.heap.size, 1, none⟩ = some (.int .i64 (h)) := (hb1.cell (by first | assumption | (simp <;> omega))).trans (by go_simp); have zy1 : w.heap.size + 1 < w1.heap.size := (by first | omega | (simp; omega)); have cy0_1 : w1.cell? ⟨w.heap.size + 1, 0, none⟩ = some (.int .i64 (s')) := (hb1.cell (by first | assumption | (simp <;> omega))).trans (by go_simp); have cy1_1 : w1.cell? ⟨w.heap.size + 1, 1, none⟩ = some (.int .i64 (h')) := (hb1.cell (by first | assumption | (simp <;> omega))).trans (by go_simp); have zr1 : w.heap.size + 1 + 1 < w1.heap.size := (by first | omega | (simp; omega)); have cr0_1 : w1.cell? ⟨w.heap.size + 1 + 1, 0, none⟩ = some (.int .i64 (0)) := (hb1.cell (by first | assumption | (simp <;> omega))).trans (by go_simp); have fr0_1 : w1.frozen? ⟨w.heap.size + 1 + 1, 0, none⟩ = false := (hb1.frozen (by first | assumption | (simp <;> omega))).trans (by go_simp); have cr1_1 : w1.cell? ⟨w.heap.size + 1 + 1, 1, none⟩ = some (.int .i64 (0)) := (hb1.cell (by first | assumption | (simp <;> omega))).trans (by go_simp); have fr1_1 : w1.frozen? ⟨w.heap.size + 1 + 1, 1, none⟩ = false := (hb1.frozen (by first | assumption | (simp <;> omega))).trans (by go_simp))
          | (go_at_call 19; with_reducible refine (within_any s' h' _ i3 i4).mono ?_; rintro e w2 ⟨rfl, hb2⟩; have hz2 := hb2.size; (try simp at hz2); have zx2 : w.heap.size < w2.heap.size := (by first | omega | (simp; omega)); have cx0_2 : w2.cell? ⟨w.heap.size, 0, none⟩ = some (.int .i64 (s)) := (hb2.cell (by first | assumption | (simp <;> omega))).trans (by go_simp); have cx1_2 : w2.cell? ⟨w.heap.size, 1, none⟩ = some (.int .i64 (h)) := (hb2.cell (by first | assumption | (simp <;> omega))).trans (by go_simp); have zy2 : w.heap.size + 1 < w2.heap.size := (by first | omega | (simp; omega)); have cy0_2 : w2.cell? ⟨w.heap.size + 1, 0, none⟩ = some (.int .i64 (s')) := (hb2.cell (by first | assumption | (simp <;> omega))).trans (by go_simp); have cy1_2 : w2.cell? ⟨w.heap.size + 1, 1, none⟩ = some (.int .i64 (h')) := (hb2.cell (by first | assumption | (simp <;> omega))).trans (by go_simp); have zr2 : w.heap.size + 1 + 1 < w2.heap.size := (by first | omega | (simp; omega)); have cr0_2 : w2.cell? ⟨w.heap.size + 1 + 1, 0, none⟩ = some (.int .i64 (0)) := (hb2.cell (by first | assumption | (simp <;> omega))).trans (by go_simp); have fr0_2 : w2.frozen? ⟨w.heap.size + 1 + 1, 0, none⟩ = false := (hb2.frozen (by first | assumption | (simp <;> omega))).trans (by go_simp); have cr1_2 : w2.cell? ⟨w.heap.size + 1 + 1, 1, none⟩ = some (.int .i64 (0)) := (hb2.cell (by first | assumption | (simp <;> omega))).trans (by go_simp); have fr1_2 : w2.frozen? ⟨w.heap.size + 1 + 1, 1, none⟩ = false := (hb2.frozen (by first | assumption | (simp <;> omega))).trans (by go_simp))
          | (go_at_call 19; with_reducible refine (within_any (s + s') (h + h') _ i5 i6).mono ?_; rintro e w3 ⟨rfl, hb3⟩; have hz3 := hb3.size; (try simp at hz3); have zx3 : w.heap.size < w3.heap.size := (by first | omega | (simp; omega)); have cx0_3 : w3.cell? ⟨w.heap.size, 0, none⟩ = some (.int .i64 (s)) := (hb3.cell (by first | assumption | (simp <;> omega))).trans (by go_simp); have cx1_3 : w3.cell? ⟨w.heap.size, 1, none⟩ = some (.int .i64 (h)) := (hb3.cell (by first | assumption | (simp <;> omega))).trans (by go_simp); have zy3 : w.heap.size + 1 < w3.heap.size := (by first | omega | (simp; omega)); have cy0_3 : w3.cell? ⟨w.heap.size + 1, 0, none⟩ = some (.int .i64 (s')) := (hb3.cell (by first | assumption | (simp <;> omega))).trans (by go_simp); have cy1_3 : w3.cell? ⟨w.heap.size + 1, 1, none⟩ = some (.int .i64 (h')) := (hb3.cell (by first | assumption | (simp <;> omega))).trans (by go_simp); have zr3 : w.heap.size + 1 + 1 < w3.heap.size := (by first | omega | (simp; omega)); have cr0_3 : w3.cell? ⟨w.heap.size + 1 + 1, 0, none⟩ = some (.int .i64 (0)) := (hb3.cell (by first | assumption | (simp <;> omega))).trans (by go_simp); have fr0_3 : w3.frozen? ⟨w.heap.size + 1 + 1, 0, none⟩ = false := (hb3.frozen (by first | assumption | (simp <;> omega))).trans (by go_simp); have cr1_3 : w3.cell? ⟨w.heap.size + 1 + 1, 1, none⟩ = some (.int .i64 (0)) := (hb3.cell (by first | assumption | (simp <;> omega))).trans (by go_simp); have fr1_3 : w3.frozen? ⟨w.heap.size + 1 + 1, 1, none⟩ = false := (hb3.frozen (by first | assumption | (simp <;> omega))).trans (by go_simp); have zk3 : w2.heap.size < w3.heap.size := (by first | omega | (simp; omega)); have ck0_3 : w3.cell? ⟨w2.heap.size, 0, none⟩ = some (.int .i64 (s + s')) := (hb3.cell (by first | assumption | (simp <;> omega))).trans (by go_simp); have ck1_3 : w3.cell? ⟨w2.heap.size, 1, none⟩ = some (.int .i64 (h + h')) := (hb3.cell (by first | assumption | (simp <;> omega))).trans (by go_simp)))
        exact bodyPost_ret (v := R3 (0, 0, 3)) (by simp [results, Try.results8, go_sem, R3, cr0_3, cr1_3]) rfl ⟨by rw [HR.out], (by repeat (first | exact Below.refl _ _ | assumption | refine below_drewN ?_ _ | refine Below.drew ?_ | refine below_new ?_ _ | refine Below.setCell ?_ (by first | omega | (simp <;> omega)) _ | refine below_then (by assumption) ?_))⟩
    · simp only [Bool.not_eq_true] at h2
      have HR := Lib.hid (sum_no2 (s := s) (h := h) h2)
      go_enter Try.func8, Try.ntmps8
      go_wp2_with (first
        | (go_at_call 19; with_reducible refine (within_any s h _ i1 i2).mono ?_; rintro e w1 ⟨rfl, hb1⟩; have hz1 := hb1.size; (try simp at hz1); have zx1 : w.heap.size < w1.heap.size := (by first | omega | (simp; omega)); have cx0_1 : w1.cell? ⟨w.heap.size, 0, none⟩ = some (.int .i64 (s)) := (hb1.cell (by first | assumption | (simp <;> omega))).trans (by go_simp); have cx1_1 : w1.cell? ⟨w.heap.size, 1, none⟩ = some (.int .i64 (h)) := (hb1.cell (by first | assumption | (simp <;> omega))).trans (by go_simp); have zy1 : w.heap.size + 1 < w1.heap.size := (by first | omega | (simp; omega)); have cy0_1 : w1.cell? ⟨w.heap.size + 1, 0, none⟩ = some (.int .i64 (s')) := (hb1.cell (by first | assumption | (simp <;> omega))).trans (by go_simp); have cy1_1 : w1.cell? ⟨w.heap.size + 1, 1, none⟩ = some (.int .i64 (h')) := (hb1.cell (by first | assumption | (simp <;> omega))).trans (by go_simp); have zr1 : w.heap.size + 1 + 1 < w1.heap.size := (by first | omega | (simp; omega)); have cr0_1 : w1.cell? ⟨w.heap.size + 1 + 1, 0, none⟩ = some (.int .i64 (0)) := (hb1.cell (by first | assumption | (simp <;> omega))).trans (by go_simp); have fr0_1 : w1.frozen? ⟨w.heap.size + 1 + 1, 0, none⟩ = false := (hb1.frozen (by first | assumption | (simp <;> omega))).trans (by go_simp); have cr1_1 : w1.cell? ⟨w.heap.size + 1 + 1, 1, none⟩ = some (.int .i64 (0)) := (hb1.cell (by first | assumption | (simp <;> omega))).trans (by go_simp); have fr1_1 : w1.frozen? ⟨w.heap.size + 1 + 1, 1, none⟩ = false := (hb1.frozen (by first | assumption | (simp <;> omega))).trans (by go_simp))
        | (go_at_call 19; with_reducible refine (within_any s' h' _ i3 i4).mono ?_; rintro e w2 ⟨rfl, hb2⟩; have hz2 := hb2.size; (try simp at hz2); have zx2 : w.heap.size < w2.heap.size := (by first | omega | (simp; omega)); have cx0_2 : w2.cell? ⟨w.heap.size, 0, none⟩ = some (.int .i64 (s)) := (hb2.cell (by first | assumption | (simp <;> omega))).trans (by go_simp); have cx1_2 : w2.cell? ⟨w.heap.size, 1, none⟩ = some (.int .i64 (h)) := (hb2.cell (by first | assumption | (simp <;> omega))).trans (by go_simp); have zy2 : w.heap.size + 1 < w2.heap.size := (by first | omega | (simp; omega)); have cy0_2 : w2.cell? ⟨w.heap.size + 1, 0, none⟩ = some (.int .i64 (s')) := (hb2.cell (by first | assumption | (simp <;> omega))).trans (by go_simp); have cy1_2 : w2.cell? ⟨w.heap.size + 1, 1, none⟩ = some (.int .i64 (h')) := (hb2.cell (by first | assumption | (simp <;> omega))).trans (by go_simp); have zr2 : w.heap.size + 1 + 1 < w2.heap.size := (by first | omega | (simp; omega)); have cr0_2 : w2.cell? ⟨w.heap.size + 1 + 1, 0, none⟩ = some (.int .i64 (0)) := (hb2.cell (by first | assumption | (simp <;> omega))).trans (by go_simp); have fr0_2 : w2.frozen? ⟨w.heap.size + 1 + 1, 0, none⟩ = false := (hb2.frozen (by first | assumption | (simp <;> omega))).trans (by go_simp); have cr1_2 : w2.cell? ⟨w.heap.size + 1 + 1, 1, none⟩ = some (.int .i64 (0)) := (hb2.cell (by first | assumption | (simp <;> omega))).trans (by go_simp); have fr1_2 : w2.frozen? ⟨w.heap.size + 1 + 1, 1, none⟩ = false := (hb2.frozen (by first | assumption | (simp <;> omega))).trans (by go_simp)))
      exact bodyPost_ret (v := R3 (0, 0, 3)) (by simp [results, Try.results8, go_sem, R3, cr0_2, cr1_2]) rfl ⟨by rw [HR.out], (by repeat (first | exact Below.refl _ _ | assumption | refine below_drewN ?_ _ | refine Below.drew ?_ | refine below_new ?_ _ | refine Below.setCell ?_ (by first | omega | (simp <;> omega)) _ | refine below_then (by assumption) ?_))⟩
  · simp only [Bool.not_eq_true] at h1
    have HR := Lib.hid (sum_no1 (s' := s') (h' := h') h1)
    go_enter Try.func8, Try.ntmps8
    go_wp2_with (first
      | (go_at_call 19; with_reducible refine (within_any s h _ i1 i2).mono ?_; rintro e w1 ⟨rfl, hb1⟩; have hz1 := hb1.size; (try simp at hz1); have zx1 : w.heap.size < w1.heap.size := (by first | omega | (simp; omega)); have cx0_1 : w1.cell? ⟨w.heap.size, 0, none⟩ = some (.int .i64 (s)) := (hb1.cell (by first | assumption | (simp <;> omega))).trans (by go_simp); have cx1_1 : w1.cell? ⟨w.heap.size, 1, none⟩ = some (.int .i64 (h)) := (hb1.cell (by first | assumption | (simp <;> omega))).trans (by go_simp); have zy1 : w.heap.size + 1 < w1.heap.size := (by first | omega | (simp; omega)); have cy0_1 : w1.cell? ⟨w.heap.size + 1, 0, none⟩ = some (.int .i64 (s')) := (hb1.cell (by first | assumption | (simp <;> omega))).trans (by go_simp); have cy1_1 : w1.cell? ⟨w.heap.size + 1, 1, none⟩ = some (.int .i64 (h')) := (hb1.cell (by first | assumption | (simp <;> omega))).trans (by go_simp); have zr1 : w.heap.size + 1 + 1 < w1.heap.size := (by first | omega | (simp; omega)); have cr0_1 : w1.cell? ⟨w.heap.size + 1 + 1, 0, none⟩ = some (.int .i64 (0)) := (hb1.cell (by first | assumption | (simp <;> omega))).trans (by go_simp); have fr0_1 : w1.frozen? ⟨w.heap.size + 1 + 1, 0, none⟩ = false := (hb1.frozen (by first | assumption | (simp <;> omega))).trans (by go_simp); have cr1_1 : w1.cell? ⟨w.heap.size + 1 + 1, 1, none⟩ = some (.int .i64 (0)) := (hb1.cell (by first | assumption | (simp <;> omega))).trans (by go_simp); have fr1_1 : w1.frozen? ⟨w.heap.size + 1 + 1, 1, none⟩ = false := (hb1.frozen (by first | assumption | (simp <;> omega))).trans (by go_simp)))
    exact bodyPost_ret (v := R3 (0, 0, 3)) (by simp [results, Try.results8, go_sem, R3, cr0_1, cr1_1]) rfl ⟨by rw [HR.out], (by repeat (first | exact Below.refl _ _ | assumption | refine below_drewN ?_ _ | refine Below.drew ?_ | refine below_new ?_ _ | refine Below.setCell ?_ (by first | omega | (simp <;> omega)) _ | refine below_then (by assumption) ?_))⟩

theorem tq (n k : Int) (hk : 0 < k) : k * n.tdiv k + n.tmod k = n ∧ -k < n.tmod k ∧ n.tmod k < k := by
  have h1 := Int.natAbs_tmod n k
  have h2 := Nat.mod_lt n.natAbs (show 0 < k.natAbs by omega)
  exact ⟨Int.mul_tdiv_add_tmod n k, by omega, by omega⟩

end Go.Proofs.Ytdboencinnlebaa.Pi
namespace Go.Proofs.Ytdboencinnlebaa.Pi
open Go.RowKit

theorem move_no1 {l a o s h : Int} (k : rightB l a o = false) : move l a o s h = (0, 0, 0, 2) := by simp [move, k]
theorem move_no2 {l a o s h : Int} (k : rightB l a o = true) (k2 : withinB s h = false) : move l a o s h = (0, 0, 0, 3) := by simp [move, k, k2]

theorem at_yes {S H : Int} (k : rightB (S % 7) (H - halves (S % 7) 0 (S / 7)) (S / 7) = true) : at_ S H = (S % 7, H - halves (S % 7) 0 (S / 7), S / 7, 0) := by
  have e : H - halves (S % 7) 0 (S / 7) = H - (12 * (S / 7) + nat7 (S % 7)) := by unfold halves; omega
  rw [e] at k ⊢
  unfold at_
  rw [if_pos k]
theorem at_no {S H : Int} (k : rightB (S % 7) (H - halves (S % 7) 0 (S / 7)) (S / 7) = false) : at_ S H = (0, 0, 0, 3) := by
  have e : H - halves (S % 7) 0 (S / 7) = H - (12 * (S / 7) + nat7 (S % 7)) := by unfold halves; omega
  rw [e] at k
  unfold at_
  rw [if_neg (by rw [k]; exact Bool.false_ne_true)]
theorem halves_bd (S : Int) (h : -1000 ≤ S ∧ S ≤ 1000) : -2000 ≤ halves (S % 7) 0 (S / 7) ∧ halves (S % 7) 0 (S / 7) ≤ 2000 := by
  have := nat7_range (S % 7)
  unfold halves
  omega
end Go.Proofs.Ytdboencinnlebaa.Pi
namespace Go.Proofs.Ytdboencinnlebaa.Pi

/-- Half tones from C0 to so many steps above it. -/
def white (t : Int) : Int := 12 * (t / 7) + nat7 (t % 7)
/-- Half tones from a letter to the next one. -/
def up (l : Int) : Int := if l = 2 ∨ l = 6 then 1 else 2
theorem up_range (l : Int) : 1 ≤ up l ∧ up l ≤ 2 := by unfold up; split <;> omega
theorem white_succ (t : Int) : white (t + 1) = white t + up (t % 7) := by
  have h : t % 7 = 0 ∨ t % 7 = 1 ∨ t % 7 = 2 ∨ t % 7 = 3 ∨ t % 7 = 4 ∨ t % 7 = 5 ∨ t % 7 = 6 := by omega
  unfold white
  rcases h with h | h | h | h | h | h | h
  · rw [show (t + 1) % 7 = 1 by omega, show (t + 1) / 7 = t / 7 by omega, h]; (have e0 : nat7 0 = 0 := rfl); (have e1 : nat7 1 = 2 := rfl); (have e2 : nat7 2 = 4 := rfl); (have e3 : nat7 3 = 5 := rfl); (have e4 : nat7 4 = 7 := rfl); (have e5 : nat7 5 = 9 := rfl); (have e6 : nat7 6 = 11 := rfl); (have u : up 0 = 2 ∧ up 1 = 2 ∧ up 2 = 1 ∧ up 3 = 2 ∧ up 4 = 2 ∧ up 5 = 2 ∧ up 6 = 1 := by decide); omega
  · rw [show (t + 1) % 7 = 2 by omega, show (t + 1) / 7 = t / 7 by omega, h]; (have e0 : nat7 0 = 0 := rfl); (have e1 : nat7 1 = 2 := rfl); (have e2 : nat7 2 = 4 := rfl); (have e3 : nat7 3 = 5 := rfl); (have e4 : nat7 4 = 7 := rfl); (have e5 : nat7 5 = 9 := rfl); (have e6 : nat7 6 = 11 := rfl); (have u : up 0 = 2 ∧ up 1 = 2 ∧ up 2 = 1 ∧ up 3 = 2 ∧ up 4 = 2 ∧ up 5 = 2 ∧ up 6 = 1 := by decide); omega
  · rw [show (t + 1) % 7 = 3 by omega, show (t + 1) / 7 = t / 7 by omega, h]; (have e0 : nat7 0 = 0 := rfl); (have e1 : nat7 1 = 2 := rfl); (have e2 : nat7 2 = 4 := rfl); (have e3 : nat7 3 = 5 := rfl); (have e4 : nat7 4 = 7 := rfl); (have e5 : nat7 5 = 9 := rfl); (have e6 : nat7 6 = 11 := rfl); (have u : up 0 = 2 ∧ up 1 = 2 ∧ up 2 = 1 ∧ up 3 = 2 ∧ up 4 = 2 ∧ up 5 = 2 ∧ up 6 = 1 := by decide); omega
  · rw [show (t + 1) % 7 = 4 by omega, show (t + 1) / 7 = t / 7 by omega, h]; (have e0 : nat7 0 = 0 := rfl); (have e1 : nat7 1 = 2 := rfl); (have e2 : nat7 2 = 4 := rfl); (have e3 : nat7 3 = 5 := rfl); (have e4 : nat7 4 = 7 := rfl); (have e5 : nat7 5 = 9 := rfl); (have e6 : nat7 6 = 11 := rfl); (have u : up 0 = 2 ∧ up 1 = 2 ∧ up 2 = 1 ∧ up 3 = 2 ∧ up 4 = 2 ∧ up 5 = 2 ∧ up 6 = 1 := by decide); omega
  · rw [show (t + 1) % 7 = 5 by omega, show (t + 1) / 7 = t / 7 by omega, h]; (have e0 : nat7 0 = 0 := rfl); (have e1 : nat7 1 = 2 := rfl); (have e2 : nat7 2 = 4 := rfl); (have e3 : nat7 3 = 5 := rfl); (have e4 : nat7 4 = 7 := rfl); (have e5 : nat7 5 = 9 := rfl); (have e6 : nat7 6 = 11 := rfl); (have u : up 0 = 2 ∧ up 1 = 2 ∧ up 2 = 1 ∧ up 3 = 2 ∧ up 4 = 2 ∧ up 5 = 2 ∧ up 6 = 1 := by decide); omega
  · rw [show (t + 1) % 7 = 6 by omega, show (t + 1) / 7 = t / 7 by omega, h]; (have e0 : nat7 0 = 0 := rfl); (have e1 : nat7 1 = 2 := rfl); (have e2 : nat7 2 = 4 := rfl); (have e3 : nat7 3 = 5 := rfl); (have e4 : nat7 4 = 7 := rfl); (have e5 : nat7 5 = 9 := rfl); (have e6 : nat7 6 = 11 := rfl); (have u : up 0 = 2 ∧ up 1 = 2 ∧ up 2 = 1 ∧ up 3 = 2 ∧ up 4 = 2 ∧ up 5 = 2 ∧ up 6 = 1 := by decide); omega
  · rw [show (t + 1) % 7 = 0 by omega, show (t + 1) / 7 = t / 7 + 1 by omega, h]; (have e0 : nat7 0 = 0 := rfl); (have e1 : nat7 1 = 2 := rfl); (have e2 : nat7 2 = 4 := rfl); (have e3 : nat7 3 = 5 := rfl); (have e4 : nat7 4 = 7 := rfl); (have e5 : nat7 5 = 9 := rfl); (have e6 : nat7 6 = 11 := rfl); (have u : up 0 = 2 ∧ up 1 = 2 ∧ up 2 = 1 ∧ up 3 = 2 ∧ up 4 = 2 ∧ up 5 = 2 ∧ up 6 = 1 := by decide); omega
theorem white_pred (t : Int) : white (t - 1) = white t - up ((t - 1) % 7) := by
  have h := white_succ (t - 1)
  rw [show t - 1 + 1 = t by omega] at h
  omega
theorem white_bd (t : Int) (h : -1000 ≤ t ∧ t ≤ 1000) : -2000 ≤ white t ∧ white t ≤ 2000 := by
  have := nat7_range (t % 7)
  unfold white
  omega
theorem white_steps {l o : Int} (h1 : 0 ≤ l) (h2 : l ≤ 6) : white (steps l o) = 12 * o + nat7 l := by
  unfold white steps
  rw [show (7 * o + l) / 7 = o by omega, show (7 * o + l) % 7 = l by omega]
theorem white_halves {l a o : Int} (h : rightB l a o = true) : white (steps l o) + a = halves l a o := by
  have := rightB_iff.1 h
  rw [white_steps this.1 this.2.1]; unfold halves; omega
/-- What the reference's At tells. -/
theorem at_white (s h : Int) : at_ s h = if rightB (s % 7) (h - white s) (s / 7) then (s % 7, h - white s, s / 7, 0) else (0, 0, 0, 3) := rfl
end Go.Proofs.Ytdboencinnlebaa.Pi
namespace Go.Proofs.Ytdboencinnlebaa.Pi
open Go.RowKit

theorem abs_any (n : Int) (w : World) (h1 : -9223372036854775808 < n) (h2 : n ≤ 9223372036854775807) :
    Calls Try.prog 26 #[.int .i64 n] w fun e w' => e = .returned (.int .i64 (n.natAbs : Int)) ∧ w = w' := by
  go_enter Try.func26, Try.ntmps26
  go_wp2
  all_goals
    go_ret
    exact ⟨ret_int (by omega), rfl⟩
theorem abs_least (w : World) :
    Calls Try.prog 26 #[.int .i64 (-9223372036854775808)] w fun e w' => e = .returned (.int .i64 (-9223372036854775808)) ∧ w = w' := by
  have hw := wrap_least
  go_enter Try.func26, Try.ntmps26
  go_wp2
  go_ret
  exact ⟨ret_int hw, rfl⟩

set_option maxHeartbeats 4000000 in
theorem ref_right_any (l a o : Int) (w : World) (ha : I64 a) :
    Calls Try.prog 40 #[.agg #[.int .i64 l, .int .i64 a, .int .i64 o]] w fun e w' => e = .returned (.bool (rightB l a o)) ∧ Below w.heap.size w w' := by
  unfold I64 at ha
  have cl : l < 0 ∨ 6 < l ∨ (0 ≤ l ∧ l ≤ 6) := by omega
  have ca : a = -9223372036854775808 ∨ (-9223372036854775808 < a ∧ 3 < (a.natAbs : Int)) ∨ (-3 ≤ a ∧ (a.natAbs : Int) ≤ 3) := by omega
  have co : o < -12 ∨ 12 < o ∨ (-12 ≤ o ∧ o ≤ 12) := by omega
  rcases cl with c1 | c1 | ⟨c1, c2⟩
  · go_enter Try.func40, Try.ntmps40
    go_wp2
    go_ret
    refine ⟨ret_bool ?_, (by repeat (first | exact Below.refl _ _ | assumption | refine below_drewN ?_ _ | refine Below.drew ?_ | refine below_new ?_ _ | refine Below.setCell ?_ (by first | omega | (simp <;> omega)) _ | refine below_then (by assumption) ?_))⟩
    rw [eq_comm, ← Bool.not_eq_true, rightB_iff]; omega
  · go_enter Try.func40, Try.ntmps40
    go_wp2
    go_ret
    refine ⟨ret_bool ?_, (by repeat (first | exact Below.refl _ _ | assumption | refine below_drewN ?_ _ | refine Below.drew ?_ | refine below_new ?_ _ | refine Below.setCell ?_ (by first | omega | (simp <;> omega)) _ | refine below_then (by assumption) ?_))⟩
    rw [eq_comm, ← Bool.not_eq_true, rightB_iff]; omega
  · rcases ca with rfl | ⟨d1, d2⟩ | ⟨d1, d2⟩
    · rcases co with k1 | k1 | ⟨k1, k2⟩
      all_goals
        go_enter Try.func40, Try.ntmps40
        go_wp2_with (go_at_call 26; refine (abs_least _).mono ?_; rintro e w1 ⟨rfl, rfl⟩)
        go_ret
        refine ⟨ret_bool ?_, (by repeat (first | exact Below.refl _ _ | assumption | refine below_drewN ?_ _ | refine Below.drew ?_ | refine below_new ?_ _ | refine Below.setCell ?_ (by first | omega | (simp <;> omega)) _ | refine below_then (by assumption) ?_))⟩
        rw [eq_comm, ← Bool.not_eq_true, rightB_iff]; omega
    · go_enter Try.func40, Try.ntmps40
      go_wp2_with (go_at_call 26; refine (abs_any a _ (by omega) (by omega)).mono ?_; rintro e w1 ⟨rfl, rfl⟩)
      go_ret
      refine ⟨ret_bool ?_, (by repeat (first | exact Below.refl _ _ | assumption | refine below_drewN ?_ _ | refine Below.drew ?_ | refine below_new ?_ _ | refine Below.setCell ?_ (by first | omega | (simp <;> omega)) _ | refine below_then (by assumption) ?_))⟩
      rw [eq_comm, ← Bool.not_eq_true, rightB_iff]; omega
    · rcases co with k1 | k1 | ⟨k1, k2⟩
      all_goals
        go_enter Try.func40, Try.ntmps40
        go_wp2_with (go_at_call 26; refine (abs_any a _ (by omega) (by omega)).mono ?_; rintro e w1 ⟨rfl, rfl⟩)
        go_ret
        refine ⟨ret_bool ?_, (by repeat (first | exact Below.refl _ _ | assumption | refine below_drewN ?_ _ | refine Below.drew ?_ | refine below_new ?_ _ | refine Below.setCell ?_ (by first | omega | (simp <;> omega)) _ | refine below_then (by assumption) ?_))⟩
        rw [Bool.eq_iff_iff, rightB_iff]
        simp
        try omega

theorem up_any (l : Int) (w : World) :
    Calls Try.prog 52 #[.int .i64 l] w fun e w' => e = .returned (.int .i64 (up l)) ∧ w = w' := by
  by_cases h2 : l = 2
  · subst h2
    go_enter Try.func52, Try.ntmps52
    go_wp2
    go_ret
    exact ⟨rfl, rfl⟩
  · by_cases h6 : l = 6
    · subst h6
      go_enter Try.func52, Try.ntmps52
      go_wp2
      go_ret
      exact ⟨rfl, rfl⟩
    · have HU := Lib.hid (show up l = 2 by unfold up; rw [if_neg (by omega)])
      replace h2 : (l == 2) = false := by simpa using h2
      replace h6 : (l == 6) = false := by simpa using h6
      go_enter Try.func52, Try.ntmps52
      go_wp2
      go_ret
      exact ⟨ret_int HU.out.symm, rfl⟩

set_option maxHeartbeats 2000000 in
theorem white_pos (n : Int) (w : World) (h0 : 0 ≤ n) (h1 : n ≤ 1000) :
    Calls Try.prog 50 #[.int .i64 n] w fun e w' => e = .returned (.int .i64 (white n)) ∧ w = w' := by
  go_enter Try.func50, Try.ntmps50
  go_wp2
  go_loop [0, 3, 4] (fun x m l => ∃ t : Int, 0 ≤ t ∧ t ≤ n ∧ x = .int .i64 (n - t) ∧ m = .int .i64 (white t) ∧ l = .int .i64 (t % 7)) (fun x _ _ => (intOf x).toNat)
  case atStart => exact ⟨0, by omega, h0, by go_num, by go_num, by go_num⟩
  case round =>
    obtain ⟨t, ht0, ht1, rfl, rfl, rfl⟩ := hrel
    have hb := white_bd t (by omega)
    have hu := up_range (t % 7)
    have hl : 0 ≤ t % 7 ∧ t % 7 ≤ 6 := by omega
    have HS := Lib.hid (white_succ t)
    have HL := Lib.hid (show (t % 7 + 1) % 7 = (t + 1) % 7 by omega)
    by_cases hc : t < n
    · have hc' : 0 < n - t := by omega
      go_wp2_with (go_at_call 52; refine (up_any (t % 7) _).mono ?_; rintro e w1 ⟨rfl, rfl⟩)
      go_round
      case rel => exact ⟨t + 1, by omega, by omega, by go_num, by rw [HS.out], by rw [HL.out]⟩
      case measure => (simp [intOf] <;> omega)
    · obtain rfl : t = n := by omega
      have hz : t - t = 0 := by omega
      go_wp2
      refine wp_loop_rounds 1 ?_
      rw [rounds_succ]
      go_wp2
      go_ret
      exact ⟨rfl, rfl⟩

set_option maxHeartbeats 2000000 in
theorem white_neg (n : Int) (w : World) (h0 : n < 0) (h1 : -1000 ≤ n) :
    Calls Try.prog 50 #[.int .i64 n] w fun e w' => e = .returned (.int .i64 (white n)) ∧ w = w' := by
  go_enter Try.func50, Try.ntmps50
  go_wp2
  refine wp_loop_rounds 1 ?_
  rw [rounds_succ]
  go_wp2
  go_loop [0, 3, 4] (fun x m l => ∃ t : Int, t ≤ 0 ∧ n ≤ t ∧ x = .int .i64 (n - t) ∧ m = .int .i64 (white t) ∧ l = .int .i64 (t % 7)) (fun x _ _ => (-(intOf x)).toNat)
  case atStart => exact ⟨0, by omega, by omega, by go_num, by go_num, by go_num⟩
  case round =>
    obtain ⟨t, ht0, ht1, rfl, rfl, rfl⟩ := hrel
    have hb := white_bd t (by omega)
    have hu := up_range ((t - 1) % 7)
    have hl : 0 ≤ t % 7 ∧ t % 7 ≤ 6 := by omega
    have HS := Lib.hid (white_pred t)
    have hL : (t % 7 + 6) % 7 = (t - 1) % 7 := by omega
    by_cases hc : n < t
    · have hc' : n - t < 0 := by omega
      go_wp2_with (go_at_call 52; refine (up_any ((t - 1) % 7) _).mono ?_; rintro e w1 ⟨rfl, rfl⟩)
      go_round
      case rel => exact ⟨t - 1, by omega, by omega, by go_num, by rw [HS.out], rfl⟩
      case measure => (simp [intOf] <;> omega)
    · obtain rfl : t = n := by omega
      have hz : t - t = 0 := by omega
      go_wp2
      go_ret
      exact ⟨rfl, rfl⟩

theorem white_any (n : Int) (w : World) (h0 : -1000 ≤ n) (h1 : n ≤ 1000) :
    Calls Try.prog 50 #[.int .i64 n] w fun e w' => e = .returned (.int .i64 (white n)) ∧ w = w' := by
  by_cases h : 0 ≤ n
  · exact white_pos n w h h1
  · exact white_neg n w (by omega) h0

set_option maxHeartbeats 1000000 in
theorem ref_steps_any (l a o : Int) (w : World) (h : rightB l a o = true) :
    Calls Try.prog 43 #[.agg #[.int .i64 l, .int .i64 a, .int .i64 o]] w fun e w' => e = .returned (.int .i64 (steps l o)) ∧ Below w.heap.size w w' := by
  have hr := rightB_iff.1 h
  go_enter Try.func43, Try.ntmps43
  go_wp2
  go_ret
  exact ⟨ret_int rfl, (by repeat (first | exact Below.refl _ _ | assumption | refine below_drewN ?_ _ | refine Below.drew ?_ | refine below_new ?_ _ | refine Below.setCell ?_ (by first | omega | (simp <;> omega)) _ | refine below_then (by assumption) ?_))⟩

set_option maxHeartbeats 1000000 in
theorem ref_halves_any (l a o : Int) (w : World) (h : rightB l a o = true) :
    Calls Try.prog 41 #[.agg #[.int .i64 l, .int .i64 a, .int .i64 o]] w fun e w' => e = .returned (.int .i64 (halves l a o)) ∧ Below w.heap.size w w' := by
  have hr := rightB_iff.1 h
  have hb := (bounds h).1
  have hwb := white_bd (steps l o) (by omega)
  have HW := Lib.hid (white_halves h)
  go_enter Try.func41, Try.ntmps41
  go_wp2
  have hE := Ext.cells (w.alloc (Obj.cells #[Value.int .i64 l, Value.int .i64 a, Value.int .i64 o] 35))
  refine wp_region_ext (by kernel_rfl) (by kernel_rfl) ?_
  repeat go_big_quiet_step ((first | (go_at_call 43; with_reducible refine ext_call (ref_steps_any l a o _ h)) | (go_at_call 50; with_reducible refine ext_same (white_any (steps l o) _ (by omega) (by omega)))))
  refine wpQuiet_nil ?_
  rintro wd ⟨⟨_, hbd⟩, rfl⟩
  go_wp2
  go_ret
  exact ⟨ret_int HW.out, (by repeat (first | exact Below.refl _ _ | assumption | refine below_drewN ?_ _ | refine Below.drew ?_ | refine below_new ?_ _ | refine Below.setCell ?_ (by first | omega | (simp <;> omega)) _ | refine below_then (by assumption) ?_))⟩

theorem ref_within_any (s h : Int) (w : World) :
    Calls Try.prog 25 #[.agg #[.int .i64 s, .int .i64 h]] w fun e w' => e = .returned (.bool (withinB s h)) ∧ Below w.heap.size w w' := by
  have cs : s < -200 ∨ 200 < s ∨ (-200 ≤ s ∧ s ≤ 200) := by omega
  have ch : h < -4096 ∨ 4096 < h ∨ (-4096 ≤ h ∧ h ≤ 4096) := by omega
  rcases cs with c1 | c1 | ⟨c1, c2⟩ <;> rcases ch with d1 | d1 | ⟨d1, d2⟩
  all_goals
    go_enter Try.func25, Try.ntmps25
    go_wp2
    go_ret
    refine ⟨ret_bool ?_, (by repeat (first | exact Below.refl _ _ | assumption | refine below_drewN ?_ _ | refine Below.drew ?_ | refine below_new ?_ _ | refine Below.setCell ?_ (by first | omega | (simp <;> omega)) _ | refine below_then (by assumption) ?_))⟩
    rw [Bool.eq_iff_iff, withinB_iff]
    simp
    try omega

set_option maxHeartbeats 1000000 in
theorem ref_key_any (l a o : Int) (w : World) (ha : I64 a) :
    Calls Try.prog 28 #[.agg #[.int .i64 l, .int .i64 a, .int .i64 o]] w fun e w' => e = .returned (R2 (key l a o)) ∧ Below w.heap.size w w' := by
  by_cases h1 : rightB l a o = true
  · have HR := Lib.hid (show key l a o = (halves l a o + 12, 0) by simp [key, h1])
    have hr1 := rightB_iff.1 h1
    have hbd := (bounds h1).2
    go_enter Try.func28, Try.ntmps28
    go_wp2_with (first
      | (go_at_call 40; with_reducible refine (ref_right_any l a o _ ha).mono ?_; rintro e w1 ⟨rfl, hb1⟩; have hz := hb1.size; simp at hz; have z1 := one_ hz; obtain ⟨hc, hf⟩ := bcell hb1)
      | (go_at_call 41; with_reducible refine (ref_halves_any l a o _ h1).mono ?_; rintro e w2 ⟨rfl, hb2⟩))
    go_ret2
    exact ⟨ret_R2 HR.out, (by repeat (first | exact Below.refl _ _ | assumption | refine below_drewN ?_ _ | refine Below.drew ?_ | refine below_new ?_ _ | refine Below.setCell ?_ (by first | omega | (simp <;> omega)) _ | refine below_then (by assumption) ?_))⟩
  · simp only [Bool.not_eq_true] at h1
    have HR := Lib.hid (show key l a o = (0, 2) by simp [key, h1])
    go_enter Try.func28, Try.ntmps28
    go_wp2_with (go_at_call 40; with_reducible refine (ref_right_any l a o _ ha).mono ?_; rintro e w1 ⟨rfl, hb1⟩; have hz := hb1.size; simp at hz; have z1 := one_ hz; obtain ⟨hc, hf⟩ := bcell hb1)
    go_ret2
    exact ⟨ret_R2 HR.out, (by repeat (first | exact Below.refl _ _ | assumption | refine below_drewN ?_ _ | refine Below.drew ?_ | refine below_new ?_ _ | refine Below.setCell ?_ (by first | omega | (simp <;> omega)) _ | refine below_then (by assumption) ?_))⟩

end Go.Proofs.Ytdboencinnlebaa.Pi
namespace Go.Proofs.Ytdboencinnlebaa.Pi
open Go.RowKit

/-- What At tells, as a value. -/
def RA (s h : Int) : Value := .tuple #[.agg #[.int .i64 (s % 7), .int .i64 (h - white s), .int .i64 (s / 7)], .bool (rightB (s % 7) (h - white s) (s / 7))]

set_option maxHeartbeats 1000000 in
theorem ref_between_yes (l a o l' a' o' : Int) (w : World) (ha : I64 a) (ha' : I64 a') (h1 : rightB l a o = true) (h2 : rightB l' a' o' = true) :
    Calls Try.prog 32 #[.agg #[.int .i64 l, .int .i64 a, .int .i64 o], .agg #[.int .i64 l', .int .i64 a', .int .i64 o']] w fun e w' =>
      e = .returned (R3 (between l a o l' a' o')) ∧ Below w.heap.size w w' := by
  have HR := Lib.hid (between_of h1 h2)
  have hr1 := rightB_iff.1 h1
  have hr2 := rightB_iff.1 h2
  have q1 := bounds h1
  have q2 := bounds h2
  go_enter Try.func32, Try.ntmps32
  go_wp2_with (first
    | (go_at_call 40; with_reducible refine (ref_right_any l a o _ ha).mono ?_; rintro e w1 ⟨rfl, hb1⟩; have hz := hb1.size; simp at hz; obtain ⟨z1, z2, z3⟩ := three hz; obtain ⟨hc, hf⟩ := bcell hb1)
    | (go_at_call 40; with_reducible refine (ref_right_any l' a' o' _ ha').mono ?_; rintro e w2 ⟨rfl, hb2⟩; have hz2 := hb2.size; have y1 : w.heap.size < w2.heap.size := (by omega); have y2 : w.heap.size + 1 < w2.heap.size := (by omega); have y3 : w.heap.size + 1 + 1 < w2.heap.size := (by omega); obtain ⟨hc2, hf2⟩ := bcell hb2))
  have hE := Ext.cells w2
  refine wp_region_ext_tail 11 (by kernel_rfl) (by kernel_rfl) ?_
  simp only [List.take_succ_cons, List.take_zero, List.drop_succ_cons, List.drop_zero]
  repeat go_big_quiet_step ((first | (go_at_call 43; with_reducible refine ext_call (ref_steps_any l a o _ h1)) | (go_at_call 43; with_reducible refine ext_call (ref_steps_any l' a' o' _ h2)) | (go_at_call 41; with_reducible refine ext_call (ref_halves_any l a o _ h1)) | (go_at_call 41; with_reducible refine ext_call (ref_halves_any l' a' o' _ h2))))
  refine wpQuiet_nil ?_
  rintro wd ⟨⟨_, hbd⟩, rfl⟩
  obtain ⟨hcd, hfd⟩ := bcell hbd
  have zd := hbd.size
  have y4 : w.heap.size + 1 + 1 < wd.heap.size := by omega
  go_wp2
  exact bodyPost_ret (v := R3 (steps l' o' - steps l o, halves l' a' o' - halves l a o, 0)) (by simp [results, Try.results32, go_sem, R3, hcd, hc2, hc, y3, z3]) rfl ⟨by rw [HR.out], (by repeat (first | exact Below.refl _ _ | assumption | refine below_drewN ?_ _ | refine Below.drew ?_ | refine below_new ?_ _ | refine Below.setCell ?_ (by first | omega | (simp <;> omega)) _ | refine below_then (by assumption) ?_))⟩

set_option maxHeartbeats 1000000 in
theorem ref_between_no (l a o l' a' o' : Int) (w : World) (ha : I64 a) (ha' : I64 a') (h : (rightB l a o && rightB l' a' o') = false) :
    Calls Try.prog 32 #[.agg #[.int .i64 l, .int .i64 a, .int .i64 o], .agg #[.int .i64 l', .int .i64 a', .int .i64 o']] w fun e w' =>
      e = .returned (R3 (between l a o l' a' o')) ∧ Below w.heap.size w w' := by
  have HR := Lib.hid (show between l a o l' a' o' = (0, 0, 2) by simp [between, h])
  by_cases h1 : rightB l a o = true
  · have h2 : rightB l' a' o' = false := by simpa [h1] using h
    clear h
    go_enter Try.func32, Try.ntmps32
    go_wp2_with (first
      | (go_at_call 40; with_reducible refine (ref_right_any l a o _ ha).mono ?_; rintro e w1 ⟨rfl, hb1⟩; have hz := hb1.size; simp at hz; obtain ⟨z1, z2, z3⟩ := three hz; obtain ⟨hc, hf⟩ := bcell hb1)
      | (go_at_call 40; with_reducible refine (ref_right_any l' a' o' _ ha').mono ?_; rintro e w2 ⟨rfl, hb2⟩; have hz2 := hb2.size; have y3 : w.heap.size + 1 + 1 < w2.heap.size := (by omega); obtain ⟨hc2, hf2⟩ := bcell hb2))
    exact bodyPost_ret (v := R3 (0, 0, 2)) (by simp [results, Try.results32, go_sem, R3, hc2, hc, z3]) rfl ⟨by rw [HR.out], (by repeat (first | exact Below.refl _ _ | assumption | refine below_drewN ?_ _ | refine Below.drew ?_ | refine below_new ?_ _ | refine Below.setCell ?_ (by first | omega | (simp <;> omega)) _ | refine below_then (by assumption) ?_))⟩
  · simp only [Bool.not_eq_true] at h1
    clear h
    go_enter Try.func32, Try.ntmps32
    go_wp2_with (go_at_call 40; with_reducible refine (ref_right_any l a o _ ha).mono ?_; rintro e w1 ⟨rfl, hb1⟩; have hz := hb1.size; simp at hz; obtain ⟨z1, z2, z3⟩ := three hz; obtain ⟨hc, hf⟩ := bcell hb1)
    exact bodyPost_ret (v := R3 (0, 0, 2)) (by simp [results, Try.results32, go_sem, R3, hc]) rfl ⟨by rw [HR.out], (by repeat (first | exact Below.refl _ _ | assumption | refine below_drewN ?_ _ | refine Below.drew ?_ | refine below_new ?_ _ | refine Below.setCell ?_ (by first | omega | (simp <;> omega)) _ | refine below_then (by assumption) ?_))⟩

theorem ref_between_any (l a o l' a' o' : Int) (w : World) (ha : I64 a) (ha' : I64 a') :
    Calls Try.prog 32 #[.agg #[.int .i64 l, .int .i64 a, .int .i64 o], .agg #[.int .i64 l', .int .i64 a', .int .i64 o']] w fun e w' =>
      e = .returned (R3 (between l a o l' a' o')) ∧ Below w.heap.size w w' := by
  by_cases h : (rightB l a o && rightB l' a' o') = true
  · rw [Bool.and_eq_true] at h; exact ref_between_yes l a o l' a' o' w ha ha' h.1 h.2
  · exact ref_between_no l a o l' a' o' w ha ha' (by simpa only [Bool.not_eq_true] using h)

end Go.Proofs.Ytdboencinnlebaa.Pi
namespace Go.Proofs.Ytdboencinnlebaa.Gcd
open Go.RowKit

set_option maxHeartbeats 400000 in
theorem gcd_any (a b : Int) (w : World) (hb : 0 < b) (hb' : b ≤ 9223372036854775807) (ha : -9223372036854775808 ≤ a) (ha' : a ≤ 9223372036854775807) :
    Calls Try.prog 33 #[.int .i64 a, .int .i64 b] w fun e w' => e = .returned (.int .i64 (g a b)) ∧ ∃ n, w' = w.drewN n := by
  go_enter Try.func33, Try.ntmps33
  go_wp2
  go_loopw [0, 1] (fun x y wr => ∃ p q : Int, x = .int .i64 p ∧ y = .int .i64 q ∧ euclid (g a b) p q ∧ ∃ n, wr = w.drewN n) (fun _ y _ => (intOf y).natAbs)
  case atStart => exact ⟨a, b, rfl, rfl, ⟨by omega, hb', ha, ha', rfl, by omega⟩, 0, rfl⟩
  case round =>
    obtain ⟨p, q, rfl, rfl, hE, n, rfl⟩ := hrel
    obtain ⟨e1, e2, e3, e4, e5, e6⟩ := id hE
    have HE := Lib.hid hE
    clear hE e5 e6
    by_cases hq : q = 0
    · have hend := euclid_end HE.out hq
      have h1 := hend.2
      have HM := Lib.hid hend.1
      clear hend
      go_wp2
      all_goals
        go_ret
        exact ⟨ret_int (by rw [← HM.out]; omega), n, rfl⟩
    · have HS := Lib.hid (euclid_step HE.out hq)
      have ht := tmod_abs p q hq
      go_wp2
      go_quiet (fail)
      go_wp2
      go_roundw
      case rel => exact ⟨q, p.tmod q, rfl, rfl, HS.out, n + nq, by simp⟩
      case measure => exact ht

theorem small_any (n : Int) (w : World) :
    Calls Try.prog 34 #[.int .i64 n] w fun e w' => e = .returned (.bool (decide (-1073741824 ≤ n ∧ n ≤ 1073741824))) ∧ w = w' := by
  by_cases h : -1073741824 ≤ n
  · go_enter Try.func34, Try.ntmps34
    go_wp2
    go_ret
    exact ⟨ret_bool (by simp [h]), rfl⟩
  · go_enter Try.func34, Try.ntmps34
    go_wp2
    go_ret
    exact ⟨ret_bool (by simp; omega), rfl⟩

theorem abs_any (n : Int) (w : World) (h1 : -9223372036854775808 < n) (h2 : n ≤ 9223372036854775807) :
    Calls Try.prog 26 #[.int .i64 n] w fun e w' => e = .returned (.int .i64 (n.natAbs : Int)) ∧ w = w' := by
  go_enter Try.func26, Try.ntmps26
  go_wp2
  all_goals
    go_ret
    exact ⟨ret_int (by omega), rfl⟩


set_option maxHeartbeats 1000000 in
theorem divisor_any (a b : Int) (w : World) (ha : 0 ≤ a) (ha' : a ≤ 9223372036854775807) (hb : 0 < b) (hb' : b ≤ 9223372036854775807) :
    Calls Try.prog 39 #[.int .i64 a, .int .i64 b] w fun e w' => e = .returned (.int .i64 (g a b)) ∧ w = w' := by
  by_cases h0 : a = 0
  · have HG := Lib.hid (show g a b = b by rw [g_comm, g_zero h0]; omega)
    go_enter Try.func39, Try.ntmps39
    go_wp2
    go_ret
    exact ⟨ret_int (HG.out.symm), rfl⟩
  · go_enter Try.func39, Try.ntmps39
    go_wp2
    go_loop [0, 1, 5] (fun x y t => ∃ (p q : Int) (k : Nat), x = .int .i64 p ∧ y = .int .i64 q ∧ t = .int .i64 k ∧ p ≤ a ∧ q ≤ b ∧ twin p q k (g a b)) (fun x _ _ => (intOf x).toNat)
    case atStart => exact ⟨a, b, 0, rfl, rfl, rfl, by omega, by omega, by omega, by omega, by simp⟩
    case round =>
      obtain ⟨p, q, k, rfl, rfl, rfl, hp, hq, hT⟩ := hrel
      have hp0 := hT.1
      have hq0 := hT.2.1
      have hk := twin_k hT
      have hG := g_le (a := a) hb
      have HT := Lib.hid hT
      clear hT
      by_cases h2 : p % 2 = 0 ∧ q % 2 = 0
      · obtain ⟨h3, h4⟩ := h2
        have HS := Lib.hid (twin_half HT.out h3 h4)
        go_wp2
        go_round
        case rel => exact ⟨p / 2, q / 2, k + 1, rfl, rfl, by go_num, by omega, by omega, HS.out⟩
        case measure => (simp [intOf] <;> omega)
      · have HS := Lib.hid (show single (g p q) p q from ⟨hp0, hq0, rfl, h2⟩)
        have hb3 : p % 2 = 0 → q % 2 ≠ 0 := by omega
        clear h2
        by_cases h3 : p % 2 = 0
        all_goals
          go_wp2
          go_loop [0, 1] (fun x y => ∃ (r s : Int), x = .int .i64 r ∧ y = .int .i64 s ∧ r ≤ 9223372036854775807 ∧ s ≤ 9223372036854775807 ∧ single (g p q) r s) (fun x y => (intOf x + intOf y).toNat)
          case atStart => exact ⟨p, q, rfl, rfl, by omega, by omega, HS.out⟩
          case round =>
            clear h3 hb3
            obtain ⟨r, s, rfl, rfl, hr, hs, hI⟩ := hrel
            have hr0 := hI.1
            have hs0 := hI.2.1
            have HI := Lib.hid hI
            clear hI
            by_cases he : r = s
            · subst he
              have HD := Lib.hid (doubled_of HT.out (single_end HI.out))
              go_wp2
              go_loop [0, 5] (fun x t => ∃ (u : Int) (m : Nat), x = .int .i64 u ∧ t = .int .i64 m ∧ m ≤ k ∧ doubled (g a b) u m) (fun _ t => (intOf t).toNat)
              case atStart => exact ⟨r, k, rfl, rfl, Nat.le_refl _, HD.out⟩
              case round =>
                obtain ⟨u, m, rfl, rfl, hm, hdd⟩ := hrel
                have hu := doubled_le hdd
                have hu0 := hdd.1
                have HDD := Lib.hid hdd
                clear hdd
                rcases m with _ | m
                · go_wp2
                  go_ret
                  exact ⟨ret_int (doubled_end HDD.out), rfl⟩
                · have hu2 := hu.2 (by omega)
                  go_wp2
                  go_round
                  case rel => exact ⟨2 * u, m, rfl, by go_num, by omega, doubled_step HDD.out⟩
                  case measure => (simp [intOf] <;> omega)
            · by_cases k1 : r % 2 = 0
              · go_wp2
                go_round
                case rel => exact ⟨r / 2, s, rfl, rfl, by omega, by omega, single_left HI.out k1⟩
                case measure => (simp [intOf] <;> omega)
              · by_cases k2 : s % 2 = 0
                · go_wp2
                  go_round
                  case rel => exact ⟨r, s / 2, rfl, rfl, by omega, by omega, single_right HI.out k1 k2⟩
                  case measure => (simp [intOf] <;> omega)
                · by_cases k3 : s < r
                  · go_wp2
                    go_round
                    case rel => exact ⟨r - s, s, rfl, rfl, by omega, by omega, single_less HI.out k1 k2 k3⟩
                    case measure => (simp [intOf] <;> omega)
                  · go_wp2
                    go_round
                    case rel => exact ⟨r, s - r, rfl, rfl, by omega, by omega, single_more HI.out k1 k2 (by omega)⟩
                    case measure => (simp [intOf] <;> omega)

end Go.Proofs.Ytdboencinnlebaa.Gcd
namespace Go.Proofs.Ytdboencinnlebaa.Fr
open Go.RowKit Gcd

theorem small_any' (n : Int) (w : World) :
    Calls Try.prog 34 #[.int .i64 n] w fun e w' => e = .returned (.bool (smallB n)) ∧ w = w' := small_any n w

/-- An int of the machine. -/
def I64 (n : Int) : Prop := -9223372036854775808 ≤ n ∧ n ≤ 9223372036854775807

set_option maxHeartbeats 1000000 in
theorem right_any (u d : Int) (w : World) (hu : I64 u) (hd : I64 d) :
    Calls Try.prog 35 #[.agg #[.int .i64 u, .int .i64 d]] w fun e w' => e = .returned (.bool (rightB u d)) ∧ Below w.heap.size w w' := by
  unfold I64 at hu hd
  by_cases h1 : 0 < d
  · by_cases h2 : smallB u = true
    · by_cases h3 : smallB d = true
      · go_enter Try.func35, Try.ntmps35
        go_wp2_with (first
          | (go_at_call 34; refine (small_any' _ _).mono ?_; rintro e w' ⟨rfl, rfl⟩)
          | (go_at_call 33; refine (gcd_any _ _ _ h1 hd.2 hu.1 hu.2).mono ?_; rintro e w' ⟨rfl, n, rfl⟩))
        go_ret
        refine ⟨ret_bool ?_, below_drewN ((Below.refl _ _).alloc (Nat.le_refl _) _) _⟩
        rw [Bool.eq_iff_iff, rightB_iff]
        simp only [smallB_iff] at h2 h3
        simp
        omega
      · go_enter Try.func35, Try.ntmps35
        go_wp2_with (go_at_call 34; refine (small_any' _ _).mono ?_; rintro e w' ⟨rfl, rfl⟩)
        go_ret
        refine ⟨ret_bool ?_, (Below.refl _ _).alloc (Nat.le_refl _) _⟩
        rw [eq_comm, ← Bool.not_eq_true, rightB_iff]
        rw [smallB_iff] at h3
        omega
    · go_enter Try.func35, Try.ntmps35
      go_wp2_with (go_at_call 34; refine (small_any' _ _).mono ?_; rintro e w' ⟨rfl, rfl⟩)
      go_ret
      refine ⟨ret_bool ?_, (Below.refl _ _).alloc (Nat.le_refl _) _⟩
      rw [eq_comm, ← Bool.not_eq_true, rightB_iff]
      rw [smallB_iff] at h2
      omega
  · go_enter Try.func35, Try.ntmps35
    go_wp2
    go_ret
    refine ⟨ret_bool ?_, (Below.refl _ _).alloc (Nat.le_refl _) _⟩
    rw [eq_comm, ← Bool.not_eq_true, rightB_iff]
    omega

theorem abs_g (u d : Int) : g (u.natAbs : Int) d = g u d := by
  unfold g; simp [Int.gcd]

end Go.Proofs.Ytdboencinnlebaa.Fr
namespace Go.Proofs.Ytdboencinnlebaa.Fr
open Go.RowKit Gcd

theorem quo_in (x k : Int) (hk : 1 ≤ k) (hx : I64 x) : I64 (x / k) := by
  unfold I64 at *
  constructor
  · rw [Int.le_ediv_iff_mul_le (by omega)]
    rcases Int.lt_or_le x 0 with h | h <;> omega
  · rcases Int.lt_or_le x 0 with h | h
    · have := Int.ediv_neg_of_neg_of_pos h (show 0 < k by omega); omega
    · have := Int.ediv_le_self (a := x) k h; omega
theorem quo_wrap (x k : Int) (hk : 1 ≤ k) (hd : k ∣ x) (hx : I64 x) : IntKind.i64.wrap (x.tdiv k) = x / k := by
  rw [Int.tdiv_eq_ediv_of_dvd hd]; exact IntWalk.i64_in _ (quo_in x k hk hx)
theorem make_body (u d : Int) (h : ¬ d < 1) : make u d = if smallB (u / g u d) && smallB (d / g u d) then (u / g u d, d / g u d, 0) else (0, 0, 4) := by
  unfold make; rw [if_neg h]

/-- What Make answers, as a value. -/
def makeV (u d : Int) : Value := .tuple #[.agg #[.int .i64 (make u d).1, .int .i64 (make u d).2.1], .int .i64 (make u d).2.2]

set_option maxHeartbeats 1000000 in
theorem make_any (u d : Int) (w : World) (hu : I64 u) (hd : I64 d) :
    Calls Try.prog 18 #[.int .i64 u, .int .i64 d] w fun e w' => e = .returned (makeV u d) ∧ Below w.heap.size w w' := by
  by_cases h1 : d < 1
  · go_enter Try.func18, Try.ntmps18
    go_wp2
    refine bodyPost_ret (v := .tuple #[.agg #[.int .i64 0, .int .i64 0], .int .i64 3]) (by simp [results, Try.results18, go_sem]) rfl ⟨by simp [makeV, make, h1], (by repeat (first | exact Below.refl _ _ | assumption | refine below_drewN ?_ _ | refine Below.drew ?_ | refine below_new ?_ _ | refine Below.setCell ?_ (by first | omega | (simp <;> omega)) _ | refine below_then (by assumption) ?_))⟩
  · have hg := g_pos (a := u) (b := d) (by omega)
    have hw1 := quo_wrap u (g u d) hg (g_dvd_left u d) hu
    have hw2 := quo_wrap d (g u d) hg (g_dvd_right u d) hd
    have hg0 : g u d ≠ 0 := by omega
    unfold I64 at hu hd
    have HM := Lib.hid (make_body u d h1)
    by_cases h2 : smallB (u / g u d) = true
    · by_cases h3 : smallB (d / g u d) = true
      · go_enter Try.func18, Try.ntmps18
        go_wp2_with (go_at_call 33; refine (gcd_any _ _ _ (by omega) hd.2 hu.1 hu.2).mono ?_; rintro e w' ⟨rfl, n, rfl⟩)
        go_region
        all_goals
          go_wp2_with (go_at_call 34; refine (small_any' _ _).mono ?_; rintro e w' ⟨rfl, rfl⟩)
          exact bodyPost_ret (v := .tuple #[.agg #[.int .i64 (u / g u d), .int .i64 (d / g u d)], .int .i64 0]) (by simp [results, Try.results18, go_sem]) rfl ⟨by rw [makeV, HM.out, h2, h3]; rfl, (by repeat (first | exact Below.refl _ _ | assumption | refine below_drewN ?_ _ | refine Below.drew ?_ | refine below_new ?_ _ | refine Below.setCell ?_ (by first | omega | (simp <;> omega)) _ | refine below_then (by assumption) ?_))⟩
      · simp only [Bool.not_eq_true] at h3
        go_enter Try.func18, Try.ntmps18
        go_wp2_with (go_at_call 33; refine (gcd_any _ _ _ (by omega) hd.2 hu.1 hu.2).mono ?_; rintro e w' ⟨rfl, n, rfl⟩)
        go_region
        all_goals
          go_wp2_with (go_at_call 34; refine (small_any' _ _).mono ?_; rintro e w' ⟨rfl, rfl⟩)
          exact bodyPost_ret (v := .tuple #[.agg #[.int .i64 0, .int .i64 0], .int .i64 4]) (by simp [results, Try.results18, go_sem]) rfl ⟨by rw [makeV, HM.out, h2, h3]; rfl, (by repeat (first | exact Below.refl _ _ | assumption | refine below_drewN ?_ _ | refine Below.drew ?_ | refine below_new ?_ _ | refine Below.setCell ?_ (by first | omega | (simp <;> omega)) _ | refine below_then (by assumption) ?_))⟩
    · simp only [Bool.not_eq_true] at h2
      go_enter Try.func18, Try.ntmps18
      go_wp2_with (go_at_call 33; refine (gcd_any _ _ _ (by omega) hd.2 hu.1 hu.2).mono ?_; rintro e w' ⟨rfl, n, rfl⟩)
      go_region
      all_goals
        go_wp2_with (go_at_call 34; refine (small_any' _ _).mono ?_; rintro e w' ⟨rfl, rfl⟩)
        exact bodyPost_ret (v := .tuple #[.agg #[.int .i64 0, .int .i64 0], .int .i64 4]) (by simp [results, Try.results18, go_sem]) rfl ⟨by rw [makeV, HM.out, h2]; rfl, (by repeat (first | exact Below.refl _ _ | assumption | refine below_drewN ?_ _ | refine Below.drew ?_ | refine below_new ?_ _ | refine Below.setCell ?_ (by first | omega | (simp <;> omega)) _ | refine below_then (by assumption) ?_))⟩

/-! The least number: its odd part is 1. -/
theorem g_pow_odd (j : Nat) {q : Int} (hq : q % 2 ≠ 0) : g (2 ^ j) q = 1 := by
  induction j with
  | zero => simp [g]
  | succ j ih =>
    have h := g_even_odd (a := 2 ^ (j + 1)) (b := q) (by rw [Int.pow_succ]; omega) hq
    rw [← h, Int.pow_succ, Int.mul_ediv_cancel _ (by omega)]; exact ih
/-- The loop's: both halved k times. -/
def least (d p q : Int) : Prop := ∃ k : Nat, k ≤ 63 ∧ p = -(2 ^ (63 - k)) ∧ q * 2 ^ k = d ∧ 0 < q
theorem least_bd {d p q : Int} (h : least d p q) (hd : d ≤ 9223372036854775807) : -9223372036854775808 ≤ p ∧ p < 0 ∧ 0 < q ∧ q ≤ d := by
  obtain ⟨k, hk, rfl, rfl, hq⟩ := h
  have h1 : (2 : Int) ^ (63 - k) ≤ 2 ^ 63 := by
    have : 2 ^ (63 - k) ≤ 2 ^ 63 := Nat.pow_le_pow_right (by omega) (by omega)
    have e := Int.ofNat_le.2 this
    simpa using e
  have h2 := g_one_le_pow (63 - k)
  have h3 : q * 1 ≤ q * 2 ^ k := Int.mul_le_mul_of_nonneg_left (g_one_le_pow k) (by omega)
  omega
theorem least_step {d p q : Int} (h : least d p q) (hd : d ≤ 9223372036854775807) (hq2 : q % 2 = 0) : least d (p / 2) (q / 2) ∧ p.tdiv 2 = p / 2 := by
  obtain ⟨k, hk, rfl, rfl, hq⟩ := h
  have hk2 : k < 63 := by
    rcases Nat.lt_or_ge k 63 with h | h
    · exact h
    · have : k = 63 := by omega
      subst this
      omega
  have e : (2 : Int) ^ (63 - k) = 2 ^ (63 - (k + 1)) * 2 := by rw [← Int.pow_succ]; congr 1; omega
  refine ⟨⟨k + 1, by omega, ?_, ?_, by omega⟩, ?_⟩
  · rw [e]; omega
  · rw [Int.pow_succ, Int.mul_comm (2 ^ k) 2, ← Int.mul_assoc, Int.ediv_mul_cancel (by omega)]
  · rw [e]; generalize (2 : Int) ^ (63 - (k + 1)) = t; rw [Int.tdiv_eq_ediv_of_dvd ⟨-t, by omega⟩]
theorem least_end {d p q : Int} (h : least d p q) (hq2 : q % 2 ≠ 0) : -9223372036854775808 / g (-9223372036854775808) d = p ∧ d / g (-9223372036854775808) d = q := by
  obtain ⟨k, hk, rfl, rfl, hq⟩ := h
  have e : (-9223372036854775808 : Int) = 2 ^ k * -(2 ^ (63 - k)) := by
    rw [Int.mul_neg, ← Int.pow_add, show k + (63 - k) = 63 by omega]; rfl
  have hp := g_one_le_pow k
  have hg : g (-9223372036854775808) (q * 2 ^ k) = 2 ^ k := by
    rw [e, Int.mul_comm q]
    unfold g
    rw [Int.gcd_mul_left]
    have h1 := g_pow_odd (63 - k) hq2
    rw [← g_neg_left] at h1
    unfold g at h1
    rw [show (-(2 : Int) ^ (63 - k)).gcd q = 1 by omega]
    have : ((2 : Int) ^ k).natAbs = 2 ^ k := by rw [Int.natAbs_pow]; rfl
    rw [this]; simp
  rw [hg]
  constructor
  · rw [e, Int.mul_ediv_cancel_left _ (by omega)]
  · rw [Int.mul_ediv_cancel _ (by omega)]

set_option maxHeartbeats 1000000 in
theorem ref_make_least (d : Int) (w : World) (hd : I64 d) :
    Calls Try.prog 27 #[.int .i64 (-9223372036854775808), .int .i64 d] w fun e w' => e = .returned (makeV (-9223372036854775808) d) ∧ Below w.heap.size w w' := by
  unfold I64 at hd
  by_cases h1 : d < 1
  · go_enter Try.func27, Try.ntmps27
    go_wp2
    refine bodyPost_ret (v := .tuple #[.agg #[.int .i64 0, .int .i64 0], .int .i64 3]) (by simp [results, Try.results27, go_sem]) rfl ⟨by simp [makeV, make, h1], (by repeat (first | exact Below.refl _ _ | assumption | refine below_drewN ?_ _ | refine Below.drew ?_ | refine below_new ?_ _ | refine Below.setCell ?_ (by first | omega | (simp <;> omega)) _ | refine below_then (by assumption) ?_))⟩
  · have HM := Lib.hid (make_body (-9223372036854775808) d h1)
    have hw : wrap64 9223372036854775808 = -9223372036854775808 := by unfold wrap64; decide
    go_enter Try.func27, Try.ntmps27
    go_wp2
    go_loop [0, 1] (fun x y => ∃ p q : Int, x = .int .i64 p ∧ y = .int .i64 q ∧ least d p q) (fun _ y => (intOf y).toNat)
    case atStart => exact ⟨_, _, rfl, rfl, 0, by omega, rfl, by simp, by omega⟩
    case round =>
      obtain ⟨p, q, rfl, rfl, hL⟩ := hrel
      obtain ⟨b1, b2, b3, b4⟩ := least_bd hL hd.2
      have HL := Lib.hid hL
      clear hL
      by_cases hq : q % 2 = 0
      · have hs := least_step HL.out hd.2 hq
        have HS := Lib.hid hs.1
        have ht := hs.2
        clear hs
        go_wp2
        go_round
        case rel => exact ⟨p / 2, q / 2, rfl, rfl, HS.out⟩
        case measure => (simp [intOf] <;> omega)
      · have he := least_end HL.out hq
        have HE := Lib.hid he
        clear he
        by_cases c : -1073741824 ≤ p ∧ q ≤ 1073741824
        · obtain ⟨c1, c2⟩ := c
          go_wp2
          exact bodyPost_ret (v := .tuple #[.agg #[.int .i64 p, .int .i64 q], .int .i64 0]) (by simp [results, Try.results27, go_sem]) rfl
            ⟨by rw [makeV, HM.out, HE.out.1, HE.out.2, if_pos (by simp [smallB_iff]; omega)], (by repeat (first | exact Below.refl _ _ | assumption | refine below_drewN ?_ _ | refine Below.drew ?_ | refine below_new ?_ _ | refine Below.setCell ?_ (by first | omega | (simp <;> omega)) _ | refine below_then (by assumption) ?_))⟩
        · have HN := Lib.hid c
          have c' : -1073741824 ≤ p → 1073741824 < q := by omega
          clear c
          go_wp2
          all_goals
            exact bodyPost_ret (v := .tuple #[.agg #[.int .i64 0, .int .i64 0], .int .i64 4]) (by simp [results, Try.results27, go_sem]) rfl
              ⟨by rw [makeV, HM.out, HE.out.1, HE.out.2, if_neg (by have := HN.out; simp [smallB_iff]; omega)], (by repeat (first | exact Below.refl _ _ | assumption | refine below_drewN ?_ _ | refine Below.drew ?_ | refine below_new ?_ _ | refine Below.setCell ?_ (by first | omega | (simp <;> omega)) _ | refine below_then (by assumption) ?_))⟩

set_option maxHeartbeats 1000000 in
theorem ref_make_zero (d : Int) (w : World) (hd : I64 d) (h1 : ¬ d < 1) :
    Calls Try.prog 27 #[.int .i64 0, .int .i64 d] w fun e w' => e = .returned (makeV 0 d) ∧ Below w.heap.size w w' := by
  have e0 : g 0 d = d := by rw [g_comm, g_zero rfl]; omega
  have e1 : d / d = 1 := Int.ediv_self (by omega)
  have HM := Lib.hid (show make 0 d = (0, 1, 0) by rw [make_body 0 d h1, e0, e1, Int.zero_ediv]; rfl)
  have hw1 : IntKind.i64.wrap (Int.tdiv 0 d) = 0 := by rw [Int.zero_tdiv]; rfl
  have hw2 : IntKind.i64.wrap (d.tdiv d) = 1 := by rw [Int.tdiv_self (by omega)]; rfl
  have hd0 : d ≠ 0 := by omega
  unfold I64 at hd
  go_enter Try.func27, Try.ntmps27
  go_wp2_with (first
    | (go_at_call 26; refine (abs_any _ _ (by omega) (by omega)).mono ?_; rintro e w' ⟨rfl, rfl⟩)
    | (go_at_call 39; refine (divisor_any _ _ _ (by omega) (by omega) (by omega) (by omega)).mono ?_; rintro e w' ⟨rfl, rfl⟩))
  go_region
  all_goals
    go_wp2
    exact bodyPost_ret (v := .tuple #[.agg #[.int .i64 0, .int .i64 1], .int .i64 0]) (by simp [results, Try.results27, go_sem]) rfl ⟨by rw [makeV, HM.out], (by repeat (first | exact Below.refl _ _ | assumption | refine below_drewN ?_ _ | refine Below.drew ?_ | refine below_new ?_ _ | refine Below.setCell ?_ (by first | omega | (simp <;> omega)) _ | refine below_then (by assumption) ?_))⟩

set_option maxHeartbeats 1000000 in
theorem ref_make_any (u d : Int) (w : World) (hu : I64 u) (hd : I64 d) (hl : -9223372036854775808 < u) :
    Calls Try.prog 27 #[.int .i64 u, .int .i64 d] w fun e w' => e = .returned (makeV u d) ∧ Below w.heap.size w w' := by
  by_cases h1 : d < 1
  · go_enter Try.func27, Try.ntmps27
    go_wp2
    refine bodyPost_ret (v := .tuple #[.agg #[.int .i64 0, .int .i64 0], .int .i64 3]) (by simp [results, Try.results27, go_sem]) rfl ⟨by simp [makeV, make, h1], (by repeat (first | exact Below.refl _ _ | assumption | refine below_drewN ?_ _ | refine Below.drew ?_ | refine below_new ?_ _ | refine Below.setCell ?_ (by first | omega | (simp <;> omega)) _ | refine below_then (by assumption) ?_))⟩
  · have hg := g_pos (a := u) (b := d) (by omega)
    have hw1 := quo_wrap u (g u d) hg (g_dvd_left u d) hu
    have hw2 := quo_wrap d (g u d) hg (g_dvd_right u d) hd
    have hq1 := quo_in u (g u d) hg hu
    have hg0 : g u d ≠ 0 := by omega
    have hag := abs_g u d
    have hlow : -9223372036854775808 < u / g u d := by
      rcases Int.lt_or_le u 0 with h | h
      · have := Int.lt_ediv_iff_mul_lt (a := -9223372036854775808) (b := u) (c := g u d) (by omega) (g_dvd_left u d)
        rw [this]; omega
      · have := Int.ediv_nonneg h (show 0 ≤ g u d by omega); omega
    unfold I64 at hu hd hq1
    have HM := Lib.hid (make_body u d h1)
    by_cases hu0 : u = 0
    · subst hu0
      exact ref_make_zero d w hd h1
    · have he : (u == -u) = false := by simp; omega
      by_cases c : smallB (u / g u d) = true
      · have HC := Lib.hid c
        rw [smallB_iff] at c
        by_cases c2 : smallB (d / g u d) = true
        · have HC2 := Lib.hid c2
          rw [smallB_iff] at c2
          go_enter Try.func27, Try.ntmps27
          go_wp2_with (first
          | (go_at_call 26; refine (abs_any _ _ (by omega) (by omega)).mono ?_; rintro e w' ⟨rfl, rfl⟩)
          | (go_at_call 39; refine (divisor_any _ _ _ (by omega) (by omega) (by omega) (by omega)).mono ?_; rintro e w' ⟨rfl, rfl⟩))
          go_region
          all_goals
            go_wp2
            exact bodyPost_ret (v := .tuple #[.agg #[.int .i64 (u / g u d), .int .i64 (d / g u d)], .int .i64 0]) (by simp [results, Try.results27, go_sem]) rfl ⟨by rw [makeV, HM.out, HC.out, HC2.out]; rfl, (by repeat (first | exact Below.refl _ _ | assumption | refine below_drewN ?_ _ | refine Below.drew ?_ | refine below_new ?_ _ | refine Below.setCell ?_ (by first | omega | (simp <;> omega)) _ | refine below_then (by assumption) ?_))⟩
        · simp only [Bool.not_eq_true] at c2
          have HC2 := Lib.hid c2
          have c3 : 1073741824 < d / g u d := by
            have := Int.ediv_pos_of_pos_of_dvd (a := d) (b := g u d) (by omega) (by omega) (g_dvd_right u d)
            rw [← Bool.not_eq_true, smallB_iff] at c2; omega
          clear c2
          go_enter Try.func27, Try.ntmps27
          go_wp2_with (first
          | (go_at_call 26; refine (abs_any _ _ (by omega) (by omega)).mono ?_; rintro e w' ⟨rfl, rfl⟩)
          | (go_at_call 39; refine (divisor_any _ _ _ (by omega) (by omega) (by omega) (by omega)).mono ?_; rintro e w' ⟨rfl, rfl⟩))
          exact bodyPost_ret (v := .tuple #[.agg #[.int .i64 0, .int .i64 0], .int .i64 4]) (by simp [results, Try.results27, go_sem]) rfl ⟨by rw [makeV, HM.out, HC.out, HC2.out]; rfl, (by repeat (first | exact Below.refl _ _ | assumption | refine below_drewN ?_ _ | refine Below.drew ?_ | refine below_new ?_ _ | refine Below.setCell ?_ (by first | omega | (simp <;> omega)) _ | refine below_then (by assumption) ?_))⟩
      · simp only [Bool.not_eq_true] at c
        have HC := Lib.hid c
        have c3 : 1073741824 < ((u / g u d).natAbs : Int) := by
          rw [← Bool.not_eq_true, smallB_iff] at c; omega
        clear c
        go_enter Try.func27, Try.ntmps27
        go_wp2_with (first
          | (go_at_call 26; refine (abs_any _ _ (by omega) (by omega)).mono ?_; rintro e w' ⟨rfl, rfl⟩)
          | (go_at_call 39; refine (divisor_any _ _ _ (by omega) (by omega) (by omega) (by omega)).mono ?_; rintro e w' ⟨rfl, rfl⟩))
        all_goals
          exact bodyPost_ret (v := .tuple #[.agg #[.int .i64 0, .int .i64 0], .int .i64 4]) (by simp [results, Try.results27, go_sem]) rfl ⟨by rw [makeV, HM.out, HC.out]; rfl, (by repeat (first | exact Below.refl _ _ | assumption | refine below_drewN ?_ _ | refine Below.drew ?_ | refine below_new ?_ _ | refine Below.setCell ?_ (by first | omega | (simp <;> omega)) _ | refine below_then (by assumption) ?_))⟩

end Go.Proofs.Ytdboencinnlebaa.Fr
namespace Go.Proofs.Ytdboencinnlebaa.Fr
open Go.RowKit Gcd

theorem I64_of {n : Int} (h : -4611686018427387904 ≤ n ∧ n ≤ 4611686018427387904) : I64 n := by unfold I64; omega
theorem right_bd {u d : Int} (h : rightB u d = true) : (-1073741824 ≤ u ∧ u ≤ 1073741824) ∧ (1 ≤ d ∧ d ≤ 1073741824) := by
  have := rightB_iff.1 h; omega
theorem prod_bd {x y : Int} (hx : -1073741824 ≤ x ∧ x ≤ 1073741824) (hy : -1073741824 ≤ y ∧ y ≤ 1073741824) : -1152921504606846976 ≤ x * y ∧ x * y ≤ 1152921504606846976 := by
  have h : (x * y).natAbs ≤ 1073741824 * 1073741824 := by
    rw [Int.natAbs_mul]; exact Nat.mul_le_mul (by omega) (by omega)
  omega
theorem three {n m : Nat} (h : n + 1 + 1 + 1 ≤ m) : n < m ∧ n + 1 < m ∧ n + 1 + 1 < m := by omega
theorem two_ {n m : Nat} (h : n + 1 + 1 ≤ m) : n < m ∧ n + 1 < m := by omega

/-- What Plus .. answer, as a value. -/
def R3 (r : Int × Int × Int) : Value := .tuple #[.agg #[.int .i64 r.1, .int .i64 r.2.1], .int .i64 r.2.2]
theorem makeV_eq (u d : Int) : makeV u d = R3 (make u d) := rfl

set_option maxHeartbeats 1000000 in
theorem both_any (a b c d : Int) (w : World) (ha : I64 a) (hb : I64 b) (hc : I64 c) (hd : I64 d) :
    Calls Try.prog 20 #[.agg #[.int .i64 a, .int .i64 b], .agg #[.int .i64 c, .int .i64 d]] w fun e w' =>
      e = .returned (.bool (rightB a b && rightB c d)) ∧ Below w.heap.size w w' := by
  by_cases h1 : rightB a b = true
  all_goals
    try simp only [Bool.not_eq_true] at h1
    go_enter Try.func20, Try.ntmps20
    go_wp2_with (first
      | (go_at_call 35; with_reducible refine (right_any a b _ ha hb).mono ?_; rintro e w1 ⟨rfl, hb1⟩; obtain ⟨hcc, hff⟩ := bcell hb1)
      | (go_at_call 35; with_reducible refine (right_any c d _ hc hd).mono ?_; rintro e w2 ⟨rfl, hb2⟩))
    go_ret
    exact ⟨ret_bool (by simp [h1]), (by repeat (first | exact Below.refl _ _ | assumption | refine below_drewN ?_ _ | refine Below.drew ?_ | refine below_new ?_ _ | refine Below.setCell ?_ (by first | omega | (simp <;> omega)) _ | refine below_then (by assumption) ?_))⟩

set_option maxHeartbeats 1000000 in
theorem times_yes (a b c d : Int) (w : World) (ha : I64 a) (hb : I64 b) (hc : I64 c) (hd : I64 d) (h1 : (rightB a b && rightB c d) = true) :
    Calls Try.prog 9 #[.agg #[.int .i64 a, .int .i64 b], .agg #[.int .i64 c, .int .i64 d]] w fun e w' =>
      e = .returned (R3 (times a b c d)) ∧ Below w.heap.size w w' := by
    have HR := Lib.hid (show times a b c d = make (a * c) (b * d) by simp [times, h1])
    have h1' := h1
    rw [Bool.and_eq_true] at h1'
    have k1 := right_bd h1'.1
    have k2 := right_bd h1'.2
    have p1 := prod_bd k1.1 (y := c) (by omega)
    have p3 := prod_bd (x := b) (y := d) (by omega) (by omega)
    clear h1'
    go_enter Try.func9, Try.ntmps9
    go_wp2_with (first
      | (go_at_call 20; refine (both_any a b c d _ ha hb hc hd).mono ?_; rintro e w1 ⟨rfl, hb1⟩; obtain ⟨hcc, hff⟩ := bcell hb1; have hz := hb1.size; simp at hz; obtain ⟨z1, z2, z3⟩ := three hz)
      | (go_at_call 18; refine (make_any (a * c) (b * d) _ (I64_of (by omega)) (I64_of (by omega))).mono ?_; rintro e w2 ⟨rfl, hb2⟩; rw [makeV_eq, R3]; obtain ⟨hcc2, hff2⟩ := bcell hb2))
    exact bodyPost_ret (v := R3 (make (a * c) (b * d))) (by simp [results, Try.results9, go_sem, R3, hcc2, hcc, z3]) rfl ⟨by rw [HR.out], (by repeat (first | exact Below.refl _ _ | assumption | refine below_drewN ?_ _ | refine Below.drew ?_ | refine below_new ?_ _ | refine Below.setCell ?_ (by first | omega | (simp <;> omega)) _ | refine below_then (by assumption) ?_))⟩

set_option maxHeartbeats 1000000 in
theorem times_no (a b c d : Int) (w : World) (ha : I64 a) (hb : I64 b) (hc : I64 c) (hd : I64 d) (h1 : (rightB a b && rightB c d) = false) :
    Calls Try.prog 9 #[.agg #[.int .i64 a, .int .i64 b], .agg #[.int .i64 c, .int .i64 d]] w fun e w' =>
      e = .returned (R3 (times a b c d)) ∧ Below w.heap.size w w' := by
    have HR := Lib.hid (show times a b c d = (0, 0, 2) by simp [times, h1])
    go_enter Try.func9, Try.ntmps9
    go_wp2_with (go_at_call 20; refine (both_any a b c d _ ha hb hc hd).mono ?_; rintro e w1 ⟨rfl, hb1⟩; obtain ⟨hcc, hff⟩ := bcell hb1; have hz := hb1.size; simp at hz; obtain ⟨z1, z2, z3⟩ := three hz)
    exact bodyPost_ret (v := R3 (0, 0, 2)) (by simp [results, Try.results9, go_sem, R3, hcc]) rfl ⟨by rw [HR.out], (by repeat (first | exact Below.refl _ _ | assumption | refine below_drewN ?_ _ | refine Below.drew ?_ | refine below_new ?_ _ | refine Below.setCell ?_ (by first | omega | (simp <;> omega)) _ | refine below_then (by assumption) ?_))⟩

theorem times_any (a b c d : Int) (w : World) (ha : I64 a) (hb : I64 b) (hc : I64 c) (hd : I64 d) :
    Calls Try.prog 9 #[.agg #[.int .i64 a, .int .i64 b], .agg #[.int .i64 c, .int .i64 d]] w fun e w' =>
      e = .returned (R3 (times a b c d)) ∧ Below w.heap.size w w' := by
  by_cases h1 : (rightB a b && rightB c d) = true
  · exact times_yes a b c d w ha hb hc hd h1
  · exact times_no a b c d w ha hb hc hd (by simpa only [Bool.not_eq_true] using h1)

end Go.Proofs.Ytdboencinnlebaa.Fr
namespace Go.Proofs.Ytdboencinnlebaa.Fr
open Go.RowKit Gcd

theorem ref_make_all (u d : Int) (w : World) (hu : I64 u) (hd : I64 d) :
    Calls Try.prog 27 #[.int .i64 u, .int .i64 d] w fun e w' => e = .returned (makeV u d) ∧ Below w.heap.size w w' := by
  by_cases h : -9223372036854775808 < u
  · exact ref_make_any u d w hu hd h
  · have : u = -9223372036854775808 := by unfold I64 at hu; omega
    subst this
    exact ref_make_least d w hd

end Go.Proofs.Ytdboencinnlebaa.Fr
namespace Go.Proofs.Ytdboencinnlebaa.Tu
open Go.RowKit
open _root_.Go.Proofs.Ytdboencinnlebaa.Pi (I64)

theorem sum_zero (s h : Int) : Pi.sum s h 0 0 = if Pi.withinB s h then (s, h, 0) else (0, 0, 3) := by
  unfold Pi.sum
  by_cases h1 : Pi.withinB s h = true
  · rw [Int.add_zero, Int.add_zero, h1, show Pi.withinB 0 0 = true by decide]; rfl
  · simp [h1]
theorem sum_zero_is (s h : Int) (w : World) (i1 : I64 s) (i2 : I64 h) {r : Int × Int × Int} (k : (if Pi.withinB s h then (s, h, 0) else (0, 0, 3)) = r) :
    Calls Try.prog 8 #[.agg #[.int .i64 s, .int .i64 h], .agg #[.int .i64 0, .int .i64 0]] w fun e w' =>
      e = .returned (Pi.R3 r) ∧ Below w.heap.size w w' := by
  rw [← k, ← sum_zero]
  exact Pi.sum_any s h 0 0 w i1 i2 (by unfold I64; omega) (by unfold I64; omega)

theorem make_is (u d : Int) (w : World) (hu : 1 ≤ u ∧ u ≤ 3221225472) (hd : 1 ≤ d ∧ d ≤ 3221225472) {p q e : Int} (k : Fr.make u d = (p, q, e)) :
    Calls Try.prog 18 #[.int .i64 u, .int .i64 d] w fun e' w' =>
      e' = .returned (.tuple #[.agg #[.int .i64 p, .int .i64 q], .int .i64 e]) ∧ Below w.heap.size w w' := by
  refine (Fr.make_any u d w (by unfold Fr.I64; omega) (by unfold Fr.I64; omega)).mono fun e' w' h => ?_
  unfold Fr.makeV at h
  rw [k] at h
  exact h

set_option maxHeartbeats 1000000 in
theorem ratio_no (s h : Int) (w : World) (i1 : I64 s) (i2 : I64 h) (k : Pi.withinB s h = false) :
    Calls Try.prog 7 #[.agg #[.int .i64 s, .int .i64 h]] w fun e w' => e = .returned (Pi.R3 (ratio s h)) ∧ Below w.heap.size w w' := by
  have HR := Lib.hid (show ratio s h = (0, 0, 3) by unfold ratio; rw [if_neg (by rw [k]; decide)])
  have HS := Lib.hid (show (if Pi.withinB s h then (s, h, 0) else (0, 0, 3)) = ((0, 0, 3) : Int × Int × Int) by rw [if_neg (by rw [k]; decide)])
  clear k
  go_enter Try.func7, Try.ntmps7
  go_wp2_with (first
    | (go_at_call 8; with_reducible refine (sum_zero_is s h _ i1 i2 HS.out).mono ?_; rintro e w1 ⟨rfl, hb1⟩; rw [Pi.R3]; have hz1 := hb1.size; (try simp at hz1); have zx1 : w.heap.size < w1.heap.size := (by first | omega | (simp; omega)); have cx0_1 : w1.cell? ⟨w.heap.size, 0, none⟩ = some (.int .i64 (s)) := (hb1.cell (by first | assumption | (simp <;> omega))).trans (by go_simp); have cx1_1 : w1.cell? ⟨w.heap.size, 1, none⟩ = some (.int .i64 (h)) := (hb1.cell (by first | assumption | (simp <;> omega))).trans (by go_simp); have zr1 : w.heap.size + 1 < w1.heap.size := (by first | omega | (simp; omega)); have cr0_1 : w1.cell? ⟨w.heap.size + 1, 0, none⟩ = some (.int .i64 (0)) := (hb1.cell (by first | assumption | (simp <;> omega))).trans (by go_simp); have fr0_1 : w1.frozen? ⟨w.heap.size + 1, 0, none⟩ = false := (hb1.frozen (by first | assumption | (simp <;> omega))).trans (by go_simp); have cr1_1 : w1.cell? ⟨w.heap.size + 1, 1, none⟩ = some (.int .i64 (0)) := (hb1.cell (by first | assumption | (simp <;> omega))).trans (by go_simp); have fr1_1 : w1.frozen? ⟨w.heap.size + 1, 1, none⟩ = false := (hb1.frozen (by first | assumption | (simp <;> omega))).trans (by go_simp)))
  exact bodyPost_ret (v := Pi.R3 (0, 0, 3)) (by simp [results, Try.results7, go_sem, Pi.R3, cr0_1, cr1_1, zr1]) rfl ⟨by rw [HR.out], (by repeat (first | exact Below.refl _ _ | assumption | refine below_drewN ?_ _ | refine Below.drew ?_ | refine below_new ?_ _ | refine Below.setCell ?_ (by first | omega | (simp <;> omega)) _ | refine below_then (by assumption) ?_))⟩


/-- A loop over what is above 0. -/
def Run (b u0 F f1 u : Int) : Prop := Part b u0 F.toNat u f1.toNat ∧ (-f1).toNat = (-F).toNat ∧ (F ≤ 100000 → f1 ≤ 100000) ∧ (-100000 ≤ F → -100000 ≤ f1)
theorem Run.start {b u0 F : Int} (h : 1 ≤ u0 ∧ u0 ≤ 3221225472) : Run b u0 F F u0 := ⟨Part.start h, rfl, id, id⟩
theorem Run.step {b u0 F f u : Int} (hb : b = 2 ∨ b = 3) (h : Run b u0 F f u) (hf : 0 < f) (hu : u ≤ 1073741824) : Run b u0 F (f - 1) (u * b) := by
  obtain ⟨h1, h2, h3, h4⟩ := h
  rw [show f.toNat = (f - 1).toNat + 1 by omega] at h1
  exact ⟨h1.step hb hu, by omega, by omega, by omega⟩
/-- .. below 0. -/
def Ruf (b u0 F f1 u : Int) : Prop := Part b u0 (-F).toNat u (-f1).toNat ∧ (F ≤ 100000 → f1 ≤ 100000) ∧ (-100000 ≤ F → -100000 ≤ f1)
theorem Ruf.start {b u0 F f : Int} (h : 1 ≤ u0 ∧ u0 ≤ 3221225472) (hf : (-f).toNat = (-F).toNat) (h1 : F ≤ 100000 → f ≤ 100000) (h2 : -100000 ≤ F → -100000 ≤ f) : Ruf b u0 F f u0 := ⟨by rw [hf]; exact Part.start h, h1, h2⟩
theorem Ruf.step {b u0 F f u : Int} (hb : b = 2 ∨ b = 3) (h : Ruf b u0 F f u) (hf : f < 0) (hu : u ≤ 1073741824) : Ruf b u0 F (f + 1) (u * b) := by
  obtain ⟨h1, h3, h4⟩ := h
  rw [show (-f).toNat = (-(f + 1)).toNat + 1 by omega] at h1
  exact ⟨h1.step hb hu, by omega, by omega⟩
theorem ratio_end {F T f1 f2 t1 t2 u1 d1 u d : Int} (h1 : Run 3 1 F f1 u1) (h2 : Ruf 3 1 F f2 d1) (h3 : Run 2 u1 T t1 u) (h4 : Ruf 2 d1 T t2 d)
    (e1 : ¬ (0 < f1 ∧ u1 ≤ 1073741824)) (e2 : ¬ (f2 < 0 ∧ d1 ≤ 1073741824)) (e3 : ¬ (0 < t1 ∧ u ≤ 1073741824)) (e4 : ¬ (t2 < 0 ∧ d ≤ 1073741824)) :
    Fr.make u d = Fr.make (num F T) (num (-F) (-T)) :=
  make_same (part_end h1.1 h3.1 e1 e3) (part_end h2.1 h4.1 (by omega) (by omega)) (part_form h1.1 h3.1) (part_form h2.1 h4.1)

set_option maxHeartbeats 4000000 in
theorem ratio_yes (s h : Int) (w : World) (i1 : I64 s) (i2 : I64 h) (k : Pi.withinB s h = true) :
    Calls Try.prog 7 #[.agg #[.int .i64 s, .int .i64 h]] w fun e w' => e = .returned (Pi.R3 (ratio s h)) ∧ Below w.heap.size w w' := by
  have HR := Lib.hid (show ratio s h = Fr.make (num (7 * h - 12 * s) (19 * s - 11 * h)) (num (-(7 * h - 12 * s)) (-(19 * s - 11 * h))) by unfold ratio; rw [if_pos k])
  have HS := Lib.hid (show (if Pi.withinB s h then (s, h, 0) else (0, 0, 3)) = ((s, h, 0) : Int × Int × Int) by rw [if_pos k])
  have b1 := Pi.withinB_iff.1 k
  clear k
  go_enter Try.func7, Try.ntmps7
  go_wp2_with (first
    | (go_at_call 8; with_reducible refine (sum_zero_is s h _ i1 i2 HS.out).mono ?_; rintro e w1 ⟨rfl, hb1⟩; rw [Pi.R3]; have hz1 := hb1.size; (try simp at hz1); have zx1 : w.heap.size < w1.heap.size := (by first | omega | (simp; omega)); have cx0_1 : w1.cell? ⟨w.heap.size, 0, none⟩ = some (.int .i64 (s)) := (hb1.cell (by first | assumption | (simp <;> omega))).trans (by go_simp); have cx1_1 : w1.cell? ⟨w.heap.size, 1, none⟩ = some (.int .i64 (h)) := (hb1.cell (by first | assumption | (simp <;> omega))).trans (by go_simp); have zr1 : w.heap.size + 1 < w1.heap.size := (by first | omega | (simp; omega)); have cr0_1 : w1.cell? ⟨w.heap.size + 1, 0, none⟩ = some (.int .i64 (0)) := (hb1.cell (by first | assumption | (simp <;> omega))).trans (by go_simp); have fr0_1 : w1.frozen? ⟨w.heap.size + 1, 0, none⟩ = false := (hb1.frozen (by first | assumption | (simp <;> omega))).trans (by go_simp); have cr1_1 : w1.cell? ⟨w.heap.size + 1, 1, none⟩ = some (.int .i64 (0)) := (hb1.cell (by first | assumption | (simp <;> omega))).trans (by go_simp); have fr1_1 : w1.frozen? ⟨w.heap.size + 1, 1, none⟩ = false := (hb1.frozen (by first | assumption | (simp <;> omega))).trans (by go_simp)))
  obtain ⟨F, hF⟩ : ∃ F, F = 7 * h - 12 * s := ⟨_, rfl⟩
  obtain ⟨T, hT⟩ : ∃ T, T = 7 * s - 4 * h - (7 * h - 12 * s) := ⟨_, rfl⟩
  rw [← hT, ← hF]
  have bF : -100000 ≤ F ∧ F ≤ 100000 := by omega
  have bT : -100000 ≤ T ∧ T ≤ 100000 := by omega
  have HT := Lib.hid (show T = 19 * s - 11 * h by omega)
  have HF := Lib.hid hF
  clear hF hT
  go_loop [6, 8] (fun vf vu => ∃ f u : Int, vf = .int .i64 f ∧ vu = .int .i64 u ∧ Run 3 1 F f u ∧ 1 ≤ u ∧ u ≤ 3221225472 ∧ -100000 ≤ f ∧ f ≤ 100000) (fun vf _ => (intOf vf).toNat)
  case atStart => exact ⟨F, 1, rfl, rfl, Run.start (by omega), by omega, by omega, bF.1, bF.2⟩
  case round =>
    obtain ⟨f1, u1, rfl, rfl, h1, bu1, bu1', bf1, bf1'⟩ := hrel
    by_cases c1 : 0 < f1 ∧ u1 ≤ 1073741824
    · obtain ⟨c1a, c1b⟩ := c1
      go_wp2
      go_round
      case rel => exact ⟨f1 - 1, u1 * 3, rfl, rfl, h1.step (.inr rfl) c1a c1b, by omega, by omega, by omega, by omega⟩
      case measure => simp [intOf]; omega
    · have HC1 := Lib.hid c1
      by_cases c1a : 0 < f1
      all_goals
        (try have c1b : ¬ u1 ≤ 1073741824 := fun h => c1 ⟨c1a, h⟩)
        clear c1
        go_wp2
        go_loop [6, 9] (fun vf vu => ∃ f u : Int, vf = .int .i64 f ∧ vu = .int .i64 u ∧ Ruf 3 1 F f u ∧ 1 ≤ u ∧ u ≤ 3221225472 ∧ -100000 ≤ f ∧ f ≤ 100000) (fun vf _ => (-intOf vf).toNat)
        case atStart => exact ⟨f1, 1, rfl, rfl, Ruf.start (by omega) h1.2.1 h1.2.2.1 h1.2.2.2, by omega, by omega, bf1, bf1'⟩
        case round =>
          obtain ⟨f2, d1, rfl, rfl, h2, bd1, bd1', bf2, bf2'⟩ := hrel
          clear c1a
          (try clear c1b)
          by_cases c2 : f2 < 0 ∧ d1 ≤ 1073741824
          · obtain ⟨c2a, c2b⟩ := c2
            go_wp2
            go_round
            case rel => exact ⟨f2 + 1, d1 * 3, rfl, rfl, h2.step (.inr rfl) c2a c2b, by omega, by omega, by omega, by omega⟩
            case measure => simp [intOf]; omega
          · have HC2 := Lib.hid c2
            by_cases c2a : f2 < 0
            all_goals
              (try have c2b : ¬ d1 ≤ 1073741824 := fun h => c2 ⟨c2a, h⟩)
              clear c2
              go_wp2
              go_loop [7, 8] (fun vf vu => ∃ f u : Int, vf = .int .i64 f ∧ vu = .int .i64 u ∧ Run 2 u1 T f u ∧ 1 ≤ u ∧ u ≤ 3221225472 ∧ -100000 ≤ f ∧ f ≤ 100000) (fun vf _ => (intOf vf).toNat)
              case atStart => exact ⟨T, u1, rfl, rfl, Run.start ⟨bu1, bu1'⟩, bu1, bu1', bT.1, bT.2⟩
              case round =>
                obtain ⟨t1, u, rfl, rfl, h3, bu, bu', bt1, bt1'⟩ := hrel
                clear c2a
                (try clear c2b)
                by_cases c3 : 0 < t1 ∧ u ≤ 1073741824
                · obtain ⟨c3a, c3b⟩ := c3
                  go_wp2
                  go_round
                  case rel => exact ⟨t1 - 1, u * 2, rfl, rfl, h3.step (.inl rfl) c3a c3b, by omega, by omega, by omega, by omega⟩
                  case measure => simp [intOf]; omega
                · have HC3 := Lib.hid c3
                  by_cases c3a : 0 < t1
                  all_goals
                    (try have c3b : ¬ u ≤ 1073741824 := fun h => c3 ⟨c3a, h⟩)
                    clear c3
                    go_wp2
                    go_loop [7, 9] (fun vf vu => ∃ f u : Int, vf = .int .i64 f ∧ vu = .int .i64 u ∧ Ruf 2 d1 T f u ∧ 1 ≤ u ∧ u ≤ 3221225472 ∧ -100000 ≤ f ∧ f ≤ 100000) (fun vf _ => (-intOf vf).toNat)
                    case atStart => exact ⟨t1, d1, rfl, rfl, Ruf.start ⟨bd1, bd1'⟩ h3.2.1 h3.2.2.1 h3.2.2.2, bd1, bd1', bt1, bt1'⟩
                    case round =>
                      obtain ⟨t2, d, rfl, rfl, h4, bd, bd', bt2, bt2'⟩ := hrel
                      clear c3a
                      (try clear c3b)
                      by_cases c4 : t2 < 0 ∧ d ≤ 1073741824
                      · obtain ⟨c4a, c4b⟩ := c4
                        go_wp2
                        go_round
                        case rel => exact ⟨t2 + 1, d * 2, rfl, rfl, h4.step (.inl rfl) c4a c4b, by omega, by omega, by omega, by omega⟩
                        case measure => simp [intOf]; omega
                      · obtain ⟨p, q, e9, HM⟩ : ∃ p q e, Hid (Fr.make u d = (p, q, e)) := ⟨_, _, _, rfl⟩
                        have HE := Lib.hid (show ratio s h = (p, q, e9) by
                          have hm := ratio_end h1 h2 h3 h4 HC1.out HC2.out HC3.out c4
                          rw [HR.out, ← HM.out, hm, HF.out, HT.out])
                        clear HC1 HC2 HC3 h1 h2 h3 h4 HR HF HT
                        by_cases c4a : t2 < 0
                        all_goals
                          (try have c4b : ¬ d ≤ 1073741824 := fun h => c4 ⟨c4a, h⟩)
                          clear c4
                          go_wp2_with (first
                            | (go_at_call 18; with_reducible refine (make_is u d _ ⟨bu, bu'⟩ ⟨bd, bd'⟩ HM.out).mono ?_; rintro e w2 ⟨rfl, hb2⟩; have hz2 := hb2.size; (try simp at hz2); have zx2 : w.heap.size < w2.heap.size := (by first | omega | (simp; omega)); have cx0_2 : w2.cell? ⟨w.heap.size, 0, none⟩ = some (.int .i64 (s)) := (hb2.cell (by first | assumption | (simp <;> omega))).trans (by go_simp); have cx1_2 : w2.cell? ⟨w.heap.size, 1, none⟩ = some (.int .i64 (h)) := (hb2.cell (by first | assumption | (simp <;> omega))).trans (by go_simp); have zr2 : w.heap.size + 1 < w2.heap.size := (by first | omega | (simp; omega)); have cr0_2 : w2.cell? ⟨w.heap.size + 1, 0, none⟩ = some (.int .i64 (0)) := (hb2.cell (by first | assumption | (simp <;> omega))).trans (by go_simp); have fr0_2 : w2.frozen? ⟨w.heap.size + 1, 0, none⟩ = false := (hb2.frozen (by first | assumption | (simp <;> omega))).trans (by go_simp); have cr1_2 : w2.cell? ⟨w.heap.size + 1, 1, none⟩ = some (.int .i64 (0)) := (hb2.cell (by first | assumption | (simp <;> omega))).trans (by go_simp); have fr1_2 : w2.frozen? ⟨w.heap.size + 1, 1, none⟩ = false := (hb2.frozen (by first | assumption | (simp <;> omega))).trans (by go_simp)))
                          exact bodyPost_ret (v := Pi.R3 (p, q, e9)) (by simp [results, Try.results7, go_sem, Pi.R3, cr0_2, cr1_2]) rfl ⟨by rw [HE.out], (by repeat (first | exact Below.refl _ _ | assumption | refine below_drewN ?_ _ | refine Below.drew ?_ | refine below_new ?_ _ | refine Below.setCell ?_ (by first | omega | (simp <;> omega)) _ | refine below_then (by assumption) ?_))⟩

theorem ratio_any (s h : Int) (w : World) (i1 : I64 s) (i2 : I64 h) :
    Calls Try.prog 7 #[.agg #[.int .i64 s, .int .i64 h]] w fun e w' => e = .returned (Pi.R3 (ratio s h)) ∧ Below w.heap.size w w' := by
  by_cases k : Pi.withinB s h = true
  · exact ratio_yes s h w i1 i2 k
  · exact ratio_no s h w i1 i2 (by simpa using k)
theorem ratio_is (s h : Int) (w : World) (i1 : I64 s) (i2 : I64 h) {r : Int × Int × Int} (k : ratio s h = r) :
    Calls Try.prog 7 #[.agg #[.int .i64 s, .int .i64 h]] w fun e w' => e = .returned (Pi.R3 r) ∧ Below w.heap.size w w' := k ▸ ratio_any s h w i1 i2

set_option maxHeartbeats 1000000 in
theorem alive_any (w : World) : Calls Try.prog 6 #[] w fun e w' => e = .returned (.bool true) ∧ Below w.heap.size w w' := by
  have i4 : I64 4 := by unfold I64; omega
  have i7 : I64 7 := by unfold I64; omega
  have H := Lib.hid ratio_one
  go_enter Try.func6, Try.ntmps6
  go_wp2_with (first
    | (go_at_call 7; with_reducible refine (ratio_is 4 7 _ i4 i7 H.out).mono ?_; rintro e w1 ⟨rfl, hb1⟩; rw [Pi.R3]; have hz1 := hb1.size; (try simp at hz1); ))
  go_ret
  exact ⟨rfl, (by repeat (first | exact Below.refl _ _ | assumption | refine below_drewN ?_ _ | refine Below.drew ?_ | refine below_new ?_ _ | refine Below.setCell ?_ (by first | omega | (simp <;> omega)) _ | refine below_then (by assumption) ?_))⟩

end Go.Proofs.Ytdboencinnlebaa.Tu
namespace Go.Proofs.Ytdboencinnlebaa.Pm
open Go Go.Proofs.Ytdboencinnlebaa.Pi

abbrev pitP (l a o : Int) : PV := .agg [iv l, iv a, iv o]
abbrev invP (s h : Int) : PV := .agg [iv s, iv h]
abbrev M3P (r : Int × Int × Int) : PV := .tup [.agg [iv r.1, iv r.2.1], iv r.2.2]
abbrev M2P (r : Int × Int) : PV := .tup [iv r.1, iv r.2]
theorem pright_pc (l a o : Int) : PC Try.prog 12 [pitP l a o] [] (bv (rightB l a o)) [] :=
  pc_flat (fn_ok Try.func12 (by kernel_rfl) (by kernel_rfl)) rfl rfl fun w => right_any l a o w
theorem key_pc (l a o : Int) : PC Try.prog 13 [pitP l a o] [] (M2P (Pi.key l a o)) [] :=
  pc_flat (fn_ok Try.func13 (by kernel_rfl) (by kernel_rfl)) rfl rfl fun w => key_any l a o w
theorem ref_key_pc (l a o : Int) (ha : Pi.I64 a) : PC Try.prog 28 [pitP l a o] [] (M2P (Pi.key l a o)) [] :=
  pc_flat (fn_ok Try.func28 (by kernel_rfl) (by kernel_rfl)) rfl rfl fun w => ref_key_any l a o w ha
theorem between_pc (l a o x y z : Int) : PC Try.prog 31 [pitP l a o, pitP x y z] [] (M3P (Pi.between l a o x y z)) [] :=
  pc_flat (fn_ok Try.func31 (by kernel_rfl) (by kernel_rfl)) rfl rfl fun w => between_any l a o x y z w
theorem ref_between_pc (l a o x y z : Int) (ha : Pi.I64 a) (hy : Pi.I64 y) : PC Try.prog 32 [pitP l a o, pitP x y z] [] (M3P (Pi.between l a o x y z)) [] :=
  pc_flat (fn_ok Try.func32 (by kernel_rfl) (by kernel_rfl)) rfl rfl fun w => ref_between_any l a o x y z w ha hy
theorem ref_pwithin_pc (s h : Int) : PC Try.prog 25 [invP s h] [] (bv (withinB s h)) [] :=
  pc_flat (fn_ok Try.func25 (by kernel_rfl) (by kernel_rfl)) rfl rfl fun w => ref_within_any s h w
theorem rabs_pc (n : Int) (h1 : -9223372036854775808 < n) (h2 : n ≤ 9223372036854775807) : PC Try.prog 26 [iv n] [] (iv (n.natAbs : Int)) [] :=
  pc_flat (fn_ok Try.func26 (by kernel_rfl) (by kernel_rfl)) rfl rfl fun w => (abs_any n w h1 h2).mono fun _ _ ⟨e1, e2⟩ => ⟨e1, e2 ▸ RowKit.Below.refl _ _⟩
theorem ratio_pc (s h : Int) (i1 : Pi.I64 s) (i2 : Pi.I64 h) : PC Try.prog 7 [invP s h] [] (M3P (Tu.ratio s h)) [] :=
  pc_flat (fn_ok Try.func7 (by kernel_rfl) (by kernel_rfl)) rfl rfl fun w => Tu.ratio_any s h w i1 i2
theorem ref_make_pc (u d : Int) (hu : Fr.I64 u) (hd : Fr.I64 d) : PC Try.prog 27 [iv u, iv d] [] (M3P (Fr.make u d)) [] :=
  pc_flat (fn_ok Try.func27 (by kernel_rfl) (by kernel_rfl)) rfl rfl fun w => Fr.ref_make_all u d w hu hd
theorem talive_pc : PC Try.prog 6 [] [] (bv true) [] :=
  pc_flat (fn_ok Try.func6 (by kernel_rfl) (by kernel_rfl)) rfl rfl fun w => Tu.alive_any w
theorem between_i64 (l a o x y z : Int) : Pi.I64 (Pi.between l a o x y z).1 ∧ Pi.I64 (Pi.between l a o x y z).2.1 := by
  unfold Pi.between Pi.I64
  split
  · rename_i h
    rw [Bool.and_eq_true] at h
    have b1 := bounds h.1
    have b2 := bounds h.2
    dsimp only
    omega
  · decide
theorem ipow_le (b : Nat) (hb : 0 < b) {m n : Nat} (h : m ≤ n) : ((b : Nat) : Int) ^ m ≤ ((b : Nat) : Int) ^ n := by
  rw [← Int.natCast_pow, ← Int.natCast_pow]; exact Int.ofNat_le.2 (Nat.pow_le_pow_right hb h)
/-- What is too great by many. -/
theorem ratio_far {s h : Int} (hw : withinB s h = true) (k : 18 < (7 * h - 12 * s).natAbs ∨ 30 < (19 * s - 11 * h).natAbs) : Tu.ratio s h = (0, 0, 4) := by
  unfold Tu.ratio
  rw [if_pos hw]
  generalize 7 * h - 12 * s = f at *
  generalize 19 * s - 11 * h = t at *
  have hc : Gcd.g (Tu.num f t) (Tu.num (-f) (-t)) = 1 := by
    unfold Tu.num
    have := Tu.cop (a := f.toNat) (b := t.toNat) (c := (-f).toNat) (d := (-t).toNat) (by omega) (by omega)
    exact this
  have p1 := Tu.num_pos f t
  have p2 := Tu.num_pos (-f) (-t)
  rw [Tu.make_cop p2 hc, if_neg]
  intro e
  rw [Bool.and_eq_true, Fr.smallB_iff, Fr.smallB_iff] at e
  have big3 : ∀ n : Nat, 18 < n → (1073741824 : Int) < 3 ^ n := fun n hn => by
    have h3 : (3 : Int) ^ 19 ≤ 3 ^ n := ipow_le 3 (by decide) hn
    have h4 : (1073741824 : Int) < 3 ^ 19 := by decide
    omega
  have big2 : ∀ n : Nat, 30 < n → (1073741824 : Int) < 2 ^ n := fun n hn => by
    have h3 : (2 : Int) ^ 31 ≤ 2 ^ n := ipow_le 2 (by decide) hn
    have h4 : (1073741824 : Int) < 2 ^ 31 := by decide
    omega
  have one3 : ∀ n : Nat, (1 : Int) ≤ 3 ^ n := fun n => by have : (0 : Int) < 3 ^ n := Int.pow_pos (by decide); omega
  have one2 : ∀ n : Nat, (1 : Int) ≤ 2 ^ n := fun n => by have : (0 : Int) < 2 ^ n := Int.pow_pos (by decide); omega
  have up3 : ∀ a b : Nat, (3 : Int) ^ a ≤ 3 ^ a * 2 ^ b := fun a b => by
    have := Int.mul_le_mul_of_nonneg_left (one2 b) (show (0 : Int) ≤ 3 ^ a by have := one3 a; omega)
    rwa [Int.mul_one] at this
  have up2 : ∀ a b : Nat, (2 : Int) ^ b ≤ 3 ^ a * 2 ^ b := fun a b => by
    have := Int.mul_le_mul_of_nonneg_right (one3 a) (show (0 : Int) ≤ 2 ^ b by have := one2 b; omega)
    rwa [Int.one_mul] at this
  unfold Tu.num at e
  rcases k with k | k
  · rcases Int.lt_or_le 0 f with g | g
    · have := big3 f.toNat (by omega); have := up3 f.toNat t.toNat; omega
    · have := big3 (-f).toNat (by omega); have := up3 (-f).toNat (-t).toNat; omega
  · rcases Int.lt_or_le 0 t with g | g
    · have := big2 t.toNat (by omega); have := up2 f.toNat t.toNat; omega
    · have := big2 (-t).toNat (by omega); have := up2 (-f).toNat (-t).toNat; omega
/-- The product so far. -/
def prg (b : Int) (f : Int) (k : Nat) : Int := b ^ (min k f.toNat)
theorem pow_cap3 {n : Nat} (h : n ≤ 18) : (1 : Int) ≤ 3 ^ n ∧ (3 : Int) ^ n ≤ 387420489 := by
  have : (3 : Int) ^ n ≤ 3 ^ 18 := ipow_le 3 (by decide) h
  have h0 : (0 : Int) < 3 ^ n := Int.pow_pos (by decide)
  have h1 : (3 : Int) ^ 18 = 387420489 := by decide
  omega
theorem pow_cap2 {n : Nat} (h : n ≤ 30) : (1 : Int) ≤ 2 ^ n ∧ (2 : Int) ^ n ≤ 1073741824 := by
  have : (2 : Int) ^ n ≤ 2 ^ 30 := ipow_le 2 (by decide) h
  have h0 : (0 : Int) < 2 ^ n := Int.pow_pos (by decide)
  have h1 : (2 : Int) ^ 30 = 1073741824 := by decide
  omega
theorem num_cap {a b : Nat} (h : a ≤ 18) (k : b ≤ 30) : (1 : Int) ≤ 3 ^ a * 2 ^ b ∧ (3 : Int) ^ a * 2 ^ b ≤ 415989582513831936 := by
  have h1 := pow_cap3 h
  have h2 := pow_cap2 k
  constructor
  · have := Int.mul_le_mul h1.1 h2.1 (by decide) (by omega)
    rwa [Int.mul_one] at this
  · have := Int.mul_le_mul h1.2 h2.2 (by omega) (by decide)
    rwa [show (387420489 : Int) * 1073741824 = 415989582513831936 from by decide] at this

end Go.Proofs.Ytdboencinnlebaa.Pm
namespace Go.Proofs.Ytdboencinnlebaa.Pm
open Go Go.Proofs.Ytdboencinnlebaa.Fl

theorem pw_yes (b : Int) {k n : Nat} (h : k < n) : b * b ^ (min k n) = b ^ (min (k + 1) n) := by
  rw [Nat.min_eq_left (Nat.le_of_lt h), Nat.min_eq_left h, Int.pow_succ, Int.mul_comm]
theorem pw_no (b : Int) {k n : Nat} (h : n ≤ k) : b ^ (min k n) = b ^ (min (k + 1) n) := by
  rw [Nat.min_eq_right h, Nat.min_eq_right (by omega)]
theorem her_no {l a o : Int} {x : Nat} (h : ¬ (Pi.key l a o).2 = 0) : herS l a o x = (0, (Pi.key l a o).2) := if_neg h
theorem her_unfair {l a o : Int} {x : Nat} (h : (Pi.key l a o).2 = 0) (k : ¬ fairB x = true) : herS l a o x = (0, 3) := by unfold herS; rw [if_pos h, if_neg k]
theorem her_yes {l a o : Int} {x : Nat} (h : (Pi.key l a o).2 = 0) (k : fairB x = true) : herS l a o x = (ldR (mulR x (swL.getD (((Pi.key l a o).1 - 69) % 12).toNat 0)) (((Pi.key l a o).1 - 69) / 12), 0) := by unfold herS; rw [if_pos h, if_pos k]
theorem tem_unfair {l a o : Int} {x : Nat} (k : ¬ fairB x = true) : temS l a o x = (0, 3) := if_neg k
set_option maxRecDepth 100000 in
set_option maxHeartbeats 4000000 in
theorem fair_pc (u : Nat) : PC Try.prog 29 [(flv u)] [] (bv (fairB u)) [] := by
  refine pc_intro Try.func29 rfl (by kernel_rfl) (Nat.le_of_ble_eq_true rfl) (by kernel_rfl) (l0 := [ps 0 (flv u)]) rfl (fun c0 Bor hc0 => ?_)
  refine T_seq ?_
  refine T_region [] [ks 0] (fun _ => mixed) (l' := [ps 0 (flv u)]) (obs := []) (by kernel_rfl) (obs_nil) ?_
  refine T_seq ?_
  by_cases h1 : (FloatKind.f64.format.order u 4607182418800017408 == some .gt || FloatKind.f64.format.order u 4607182418800017408 == some .eq) = true
  · refine T_region [(3, .gd true (.no)), (4, .gd true (.no)), (5, .yes true)] [ks 2] (fun _ => mixed) (l' := [ps 2 (bv (FloatKind.f64.format.order u 4681608360884174848 == some .lt || FloatKind.f64.format.order u 4681608360884174848 == some .eq))]) (obs := [(FloatKind.f64.format.order u 4607182418800017408 == some .gt || FloatKind.f64.format.order u 4607182418800017408 == some .eq) = true, (FloatKind.f64.format.order u 4607182418800017408 == some .gt || FloatKind.f64.format.order u 4607182418800017408 == some .eq) = true, (FloatKind.f64.format.order u 4607182418800017408 == some .gt || FloatKind.f64.format.order u 4607182418800017408 == some .eq) = true]) (by kernel_rfl) (obs_cons h1 (obs_cons h1 (obs_cons h1 (obs_nil)))) ?_
    refine T_wk (Wk.eq (show _ = [ps 2 (bv (fairB u))] from by rw [show fairB u = (FloatKind.f64.format.order u 4681608360884174848 == some .lt || FloatKind.f64.format.order u 4681608360884174848 == some .eq) from by rw [← fair_text, h1, Bool.true_and]])) ?_
    exact T_ret fun cx_ a_ hI_ => ret_ok (H' := []) (.inr rfl) (Wk.ren2 [ps 2 (bv (fairB u))] 0 hc0 [] rfl rfl (by kernel_rfl) (by kernel_rfl)) rfl (obs_nil) (fun cx_ a_ hI_ => ret_res (l' := [ps 2 (bv (fairB u))]) (by kernel_rfl) cx_ a_ hI_) hI_
  · refine T_region [(3, .gd false .no), (4, .gd false .no), (5, .yes false)] [ks 2] (fun _ => mixed) (l' := [ps 2 (bv false)]) (obs := [(FloatKind.f64.format.order u 4607182418800017408 == some .gt || FloatKind.f64.format.order u 4607182418800017408 == some .eq) = false, (FloatKind.f64.format.order u 4607182418800017408 == some .gt || FloatKind.f64.format.order u 4607182418800017408 == some .eq) = false, (FloatKind.f64.format.order u 4607182418800017408 == some .gt || FloatKind.f64.format.order u 4607182418800017408 == some .eq) = false]) (by kernel_rfl) (obs_cons (Bool.eq_false_iff.2 h1) (obs_cons (Bool.eq_false_iff.2 h1) (obs_cons (Bool.eq_false_iff.2 h1) (obs_nil)))) ?_
    refine T_wk (Wk.eq (show _ = [ps 2 (bv (fairB u))] from by rw [show fairB u = false from by rw [← fair_text, Bool.eq_false_iff.2 h1]; rfl])) ?_
    exact T_ret fun cx_ a_ hI_ => ret_ok (H' := []) (.inr rfl) (Wk.ren2 [ps 2 (bv (fairB u))] 0 hc0 [] rfl rfl (by kernel_rfl) (by kernel_rfl)) rfl (obs_nil) (fun cx_ a_ hI_ => ret_res (l' := [ps 2 (bv (fairB u))]) (by kernel_rfl) cx_ a_ hI_) hI_
set_option maxRecDepth 100000 in
set_option maxHeartbeats 4000000 in
theorem fsame_pc (u v : Nat) : PC Try.prog 11 [(flv u), (flv v)] [] (bv (decide (((u : Nat) : Int) = ((v : Nat) : Int)))) [] := by
  refine pc_intro Try.func11 rfl (by kernel_rfl) (Nat.le_of_ble_eq_true rfl) (by kernel_rfl) (l0 := [ps 0 (flv u), ps 1 (flv v)]) rfl (fun c0 Bor hc0 => ?_)
  refine T_seq ?_
  refine T_region [] [ks 0, ks 1] (fun _ => mixed) (l' := [ps 0 (flv u), ps 1 (flv v)]) (obs := []) (by kernel_rfl) (obs_nil) ?_
  refine T_seq ?_
  refine T_region [(1, .ext true), (3, .ext true)] [ks 4] (fun _ => mixed) (l' := [ps 4 (bv (decide (((u : Nat) : Int) = ((v : Nat) : Int))))]) (obs := [IsBits Try.prog 23, IsBits Try.prog 23]) (by kernel_rfl) (obs_cons is_bits (obs_cons is_bits (obs_nil))) ?_
  exact T_ret fun cx_ a_ hI_ => ret_ok (H' := []) (.inr rfl) (Wk.ren2 [ps 4 (bv (decide (((u : Nat) : Int) = ((v : Nat) : Int))))] 0 hc0 [] rfl rfl (by kernel_rfl) (by kernel_rfl)) rfl (obs_nil) (fun cx_ a_ hI_ => ret_res (l' := [ps 4 (bv (decide (((u : Nat) : Int) = ((v : Nat) : Int))))]) (by kernel_rfl) cx_ a_ hI_) hI_
set_option maxRecDepth 100000 in
set_option maxHeartbeats 4000000 in
theorem hertz_pc (l a o : Int) (u : Nat) (hx0 : u < 18446744073709551616) : PC Try.prog 10 [(.agg [(iv l), (iv a), (iv o)]), (flv u)] [] (.tup [(flv ((herS l a o u).1)), (iv ((herS l a o u).2))]) [] := by
  refine pc_intro Try.func10 rfl (by kernel_rfl) (Nat.le_of_ble_eq_true rfl) (by kernel_rfl) (l0 := [ps 0 (.agg [(iv l), (iv a), (iv o)]), ps 1 (flv u)]) rfl (fun c0 Bor hc0 => ?_)
  refine T_seq ?_
  refine T_region [] [ks 1, ks 2, kb 0] (fun _ => mixed) (l' := [ps 1 (flv u), ps 2 (.opt 0 0), pb 0 35 [(iv l), (iv a), (iv o)]]) (obs := []) (by kernel_rfl) (obs_nil) ?_
  refine T_seq ?_
  refine T_region [(1, .call [] [(.agg [(iv l), (iv a), (iv o)])] [] (.tup [(iv ((Pi.key l a o).1)), (iv ((Pi.key l a o).2))]) [])] [ks 1, ks 6, ks 7] (fun _ => mixed) (l' := [ps 1 (flv u), ps 6 (iv ((Pi.key l a o).1)), ps 7 (iv ((Pi.key l a o).2))]) (obs := [PC Try.prog 13 [(.agg [(iv l), (iv a), (iv o)])] [] (.tup [(iv ((Pi.key l a o).1)), (iv ((Pi.key l a o).2))]) [], [(.agg [(iv l), (iv a), (iv o)])] = renL (sigi [] 32) [(.agg [(iv l), (iv a), (iv o)])]]) (by kernel_rfl) (obs_cons (key_pc l a o) (obs_cons rfl (obs_nil))) ?_
  refine T_seq ?_
  refine T_seq ?_
  refine T_region [] [ks 1, ks 6, ks 7, ks 15] (fun _ => mixed) (l' := [ps 1 (flv u), ps 6 (iv ((Pi.key l a o).1)), ps 7 (iv ((Pi.key l a o).2)), ps 15 (bv (!(decide (((Pi.key l a o).2) = 0))))]) (obs := []) (by kernel_rfl) (obs_nil) ?_
  by_cases h1 : ((Pi.key l a o).2) = 0
  · refine T_else (b := (!(decide (((Pi.key l a o).2) = 0)))) rfl (congrArg Bool.not (decide_eq_true h1)) ?_
    refine T_skip ?_
    refine T_seq ?_
    refine T_seq ?_
    by_cases h2 : (FloatKind.f64.format.order u 4607182418800017408 == some .gt || FloatKind.f64.format.order u 4607182418800017408 == some .eq) = true
    · refine T_region [(3, .gd true (.no)), (4, .gd true (.no)), (5, .yes true)] [ks 1, ks 6, ks 23] (fun _ => mixed) (l' := [ps 1 (flv u), ps 6 (iv ((Pi.key l a o).1)), ps 23 (bv (!(FloatKind.f64.format.order u 4681608360884174848 == some .lt || FloatKind.f64.format.order u 4681608360884174848 == some .eq)))]) (obs := [(FloatKind.f64.format.order u 4607182418800017408 == some .gt || FloatKind.f64.format.order u 4607182418800017408 == some .eq) = true, (FloatKind.f64.format.order u 4607182418800017408 == some .gt || FloatKind.f64.format.order u 4607182418800017408 == some .eq) = true, (FloatKind.f64.format.order u 4607182418800017408 == some .gt || FloatKind.f64.format.order u 4607182418800017408 == some .eq) = true]) (by kernel_rfl) (obs_cons h2 (obs_cons h2 (obs_cons h2 (obs_nil)))) ?_
      by_cases h3 : (FloatKind.f64.format.order u 4681608360884174848 == some .lt || FloatKind.f64.format.order u 4681608360884174848 == some .eq) = true
      · refine T_else (b := (!(FloatKind.f64.format.order u 4681608360884174848 == some .lt || FloatKind.f64.format.order u 4681608360884174848 == some .eq))) rfl (congrArg Bool.not h3) ?_
        refine T_skip ?_
        refine T_seq ?_
        have hfx : fairB u = true := by rw [← fair_text, h2, h3]; rfl
        have hx := fair_nrm hx0 hfx
        have hkb := key_bd h1
        have hq := Pi.tq ((Pi.key l a o).1 - 69) 12 (by decide)
        refine T_region [] [ks 1, ks 6] (fun _ => mixed) (l' := [ps 1 (flv u), ps 6 (iv (((Pi.key l a o).1) - 69))]) (obs := [InK .i64 (((Pi.key l a o).1) - 69)]) (by kernel_rfl) (obs_cons (by simp only [InK]; omega) (obs_nil)) ?_
        refine T_seq ?_
        refine T_region [] [ks 1, ks 6, ks 8] (fun _ => mixed) (l' := [ps 1 (flv u), ps 6 (iv (((Pi.key l a o).1) - 69)), ps 8 (iv (((((Pi.key l a o).1) - 69)).tdiv 12))]) (obs := [12 ≠ (0 : Int), InK .i64 (((((Pi.key l a o).1) - 69)).tdiv 12)]) (by kernel_rfl) (obs_cons (by decide) (obs_cons (by simp only [InK]; omega) (obs_nil))) ?_
        refine T_seq ?_
        refine T_seq ?_
        refine T_region [] [ks 1, ks 6, ks 8] (fun _ => mixed) (l' := [ps 1 (flv u), ps 6 (iv (((((Pi.key l a o).1) - 69)).tmod 12)), ps 8 (iv (((((Pi.key l a o).1) - 69)).tdiv 12))]) (obs := [12 ≠ (0 : Int)]) (by kernel_rfl) (obs_cons (by decide) (obs_nil)) ?_
        refine T_seq ?_
        refine T_region [] [ks 1, ks 6, ks 8, ks 31] (fun _ => mixed) (l' := [ps 1 (flv u), ps 6 (iv (((((Pi.key l a o).1) - 69)).tmod 12)), ps 8 (iv (((((Pi.key l a o).1) - 69)).tdiv 12)), ps 31 (bv (decide ((((((Pi.key l a o).1) - 69)).tmod 12) < 0)))]) (obs := []) (by kernel_rfl) (obs_nil) ?_
        by_cases h4 : (((((Pi.key l a o).1) - 69)).tmod 12) < 0
        · refine T_then (b := (decide ((((((Pi.key l a o).1) - 69)).tmod 12) < 0))) rfl (decide_eq_true h4) ?_
          refine T_region [] [ks 1, ks 6, ks 8] (fun _ => mixed) (l' := [ps 1 (flv u), ps 6 (iv ((((((Pi.key l a o).1) - 69)).tmod 12) + 12)), ps 8 (iv ((((((Pi.key l a o).1) - 69)).tdiv 12) - 1))]) (obs := [InK .i64 ((((((Pi.key l a o).1) - 69)).tmod 12) + 12), InK .i64 ((((((Pi.key l a o).1) - 69)).tdiv 12) - 1)]) (by kernel_rfl) (obs_cons (by simp only [InK]; omega) (obs_cons (by simp only [InK]; omega) (obs_nil))) ?_
          refine T_seq ?_
          obtain ⟨y, hy⟩ : ∃ y, y = mulR u (swL.getD ((((Pi.key l a o).1 - 69) % 12).toNat) 0) := ⟨_, rfl⟩
          have hyb := prod_bd hx (i := (((Pi.key l a o).1 - 69) % 12).toNat) (by omega)
          rw [← hy] at hyb
          obtain ⟨hy1, hy2, hy3⟩ := hyb
          refine T_wk (Wk.eq (show _ = [ps 1 (flv u), ps 6 (nv ((((Pi.key l a o).1 - 69) % 12).toNat)), ps 8 (iv (((Pi.key l a o).1 - 69) / 12))] from by rw [show ((((((Pi.key l a o).1) - 69)).tmod 12) + 12) = (((((Pi.key l a o).1 - 69) % 12).toNat : Nat) : Int) from by omega, show ((((((Pi.key l a o).1) - 69)).tdiv 12) - 1) = ((Pi.key l a o).1 - 69) / 12 from by omega])) ?_
          refine T_region [(2, .call [] [(nv ((((Pi.key l a o).1 - 69) % 12).toNat))] [] (flv (swL.getD ((((Pi.key l a o).1 - 69) % 12).toNat) 0)) []), (3, .nat y), (5, .call [] [(flv y), (iv (((Pi.key l a o).1 - 69) / 12))] [] (flv (ldR y (((Pi.key l a o).1 - 69) / 12))) [])] [ks 4, ks 5] (fun _ => mixed) (l' := [ps 4 (flv (ldR y (((Pi.key l a o).1 - 69) / 12))), ps 5 (iv 0)]) (obs := [PC Try.prog 22 [(nv ((((Pi.key l a o).1 - 69) % 12).toNat))] [] (flv (swL.getD ((((Pi.key l a o).1 - 69) % 12).toNat) 0)) [], [(nv ((((Pi.key l a o).1 - 69) % 12).toNat))] = renL (sigi [] 304) [(nv ((((Pi.key l a o).1 - 69) % 12).toNat))], FloatKind.f64.format.mul u (swL.getD ((((Pi.key l a o).1 - 69) % 12).toNat) 0) = some y, PC Try.prog 21 [(flv y), (iv (((Pi.key l a o).1 - 69) / 12))] [] (flv (ldR y (((Pi.key l a o).1 - 69) / 12))) [], [(flv y), (iv (((Pi.key l a o).1 - 69) / 12))] = renL (sigi [] 328) [(flv y), (iv (((Pi.key l a o).1 - 69) / 12))]]) (by kernel_rfl) (obs_cons (swing_pc ((((Pi.key l a o).1 - 69) % 12).toNat) (by omega)) (obs_cons rfl (obs_cons (by rw [hy]; exact mul_nrm hx.1 (sw_bd (by omega)).1) (obs_cons (bigldexp_pc y (((Pi.key l a o).1 - 69) / 12) hy3 (by omega) (by omega)) (obs_cons rfl (obs_nil)))))) ?_
          rw [her_yes h1 hfx, ← hy]
          exact T_ret fun cx_ a_ hI_ => ret_ok (H' := []) (.inr rfl) (Wk.ren2 [ps 4 (flv (ldR y (((Pi.key l a o).1 - 69) / 12))), ps 5 (iv 0)] 0 hc0 [] rfl rfl (by kernel_rfl) (by kernel_rfl)) rfl (obs_nil) (fun cx_ a_ hI_ => ret_res (l' := [ps 4 (flv (ldR y (((Pi.key l a o).1 - 69) / 12))), ps 5 (iv 0)]) (by kernel_rfl) cx_ a_ hI_) hI_
        · refine T_else (b := (decide ((((((Pi.key l a o).1) - 69)).tmod 12) < 0))) rfl (decide_eq_false h4) ?_
          refine T_skip ?_
          refine T_seq ?_
          obtain ⟨y, hy⟩ : ∃ y, y = mulR u (swL.getD ((((Pi.key l a o).1 - 69) % 12).toNat) 0) := ⟨_, rfl⟩
          have hyb := prod_bd hx (i := (((Pi.key l a o).1 - 69) % 12).toNat) (by omega)
          rw [← hy] at hyb
          obtain ⟨hy1, hy2, hy3⟩ := hyb
          refine T_wk (Wk.eq (show _ = [ps 1 (flv u), ps 6 (nv ((((Pi.key l a o).1 - 69) % 12).toNat)), ps 8 (iv (((Pi.key l a o).1 - 69) / 12)), ps 31 (bv (decide ((((((Pi.key l a o).1) - 69)).tmod 12) < 0)))] from by rw [show (((((Pi.key l a o).1) - 69)).tmod 12) = (((((Pi.key l a o).1 - 69) % 12).toNat : Nat) : Int) from by omega, show (((((Pi.key l a o).1) - 69)).tdiv 12) = ((Pi.key l a o).1 - 69) / 12 from by omega])) ?_
          refine T_region [(2, .call [] [(nv ((((Pi.key l a o).1 - 69) % 12).toNat))] [] (flv (swL.getD ((((Pi.key l a o).1 - 69) % 12).toNat) 0)) []), (3, .nat y), (5, .call [] [(flv y), (iv (((Pi.key l a o).1 - 69) / 12))] [] (flv (ldR y (((Pi.key l a o).1 - 69) / 12))) [])] [ks 4, ks 5] (fun _ => mixed) (l' := [ps 4 (flv (ldR y (((Pi.key l a o).1 - 69) / 12))), ps 5 (iv 0)]) (obs := [PC Try.prog 22 [(nv ((((Pi.key l a o).1 - 69) % 12).toNat))] [] (flv (swL.getD ((((Pi.key l a o).1 - 69) % 12).toNat) 0)) [], [(nv ((((Pi.key l a o).1 - 69) % 12).toNat))] = renL (sigi [] 256) [(nv ((((Pi.key l a o).1 - 69) % 12).toNat))], FloatKind.f64.format.mul u (swL.getD ((((Pi.key l a o).1 - 69) % 12).toNat) 0) = some y, PC Try.prog 21 [(flv y), (iv (((Pi.key l a o).1 - 69) / 12))] [] (flv (ldR y (((Pi.key l a o).1 - 69) / 12))) [], [(flv y), (iv (((Pi.key l a o).1 - 69) / 12))] = renL (sigi [] 280) [(flv y), (iv (((Pi.key l a o).1 - 69) / 12))]]) (by kernel_rfl) (obs_cons (swing_pc ((((Pi.key l a o).1 - 69) % 12).toNat) (by omega)) (obs_cons rfl (obs_cons (by rw [hy]; exact mul_nrm hx.1 (sw_bd (by omega)).1) (obs_cons (bigldexp_pc y (((Pi.key l a o).1 - 69) / 12) hy3 (by omega) (by omega)) (obs_cons rfl (obs_nil)))))) ?_
          rw [her_yes h1 hfx, ← hy]
          exact T_ret fun cx_ a_ hI_ => ret_ok (H' := []) (.inr rfl) (Wk.ren2 [ps 4 (flv (ldR y (((Pi.key l a o).1 - 69) / 12))), ps 5 (iv 0)] 0 hc0 [] rfl rfl (by kernel_rfl) (by kernel_rfl)) rfl (obs_nil) (fun cx_ a_ hI_ => ret_res (l' := [ps 4 (flv (ldR y (((Pi.key l a o).1 - 69) / 12))), ps 5 (iv 0)]) (by kernel_rfl) cx_ a_ hI_) hI_
      · refine T_then (b := (!(FloatKind.f64.format.order u 4681608360884174848 == some .lt || FloatKind.f64.format.order u 4681608360884174848 == some .eq))) rfl (congrArg Bool.not (Bool.eq_false_iff.2 h3)) ?_
        refine T_seq ?_
        refine T_region [] [ks 4, ks 5] (fun _ => mixed) (l' := [ps 4 (flv 0), ps 5 (iv 3)]) (obs := []) (by kernel_rfl) (obs_nil) ?_
        rw [her_unfair h1 (fun e => by rw [← fair_text, Bool.and_eq_true] at e; exact h3 e.2)]
        exact T_ret fun cx_ a_ hI_ => ret_ok (H' := []) (.inr rfl) (Wk.ren2 [ps 4 (flv 0), ps 5 (iv 3)] 0 hc0 [] rfl rfl (by kernel_rfl) (by kernel_rfl)) rfl (obs_nil) (fun cx_ a_ hI_ => ret_res (l' := [ps 4 (flv 0), ps 5 (iv 3)]) (by kernel_rfl) cx_ a_ hI_) hI_
    · refine T_region [(3, .gd false .no), (4, .gd false .no), (5, .yes false)] [ks 1, ks 6, ks 23] (fun _ => mixed) (l' := [ps 1 (flv u), ps 6 (iv ((Pi.key l a o).1)), ps 23 (bv true)]) (obs := [(FloatKind.f64.format.order u 4607182418800017408 == some .gt || FloatKind.f64.format.order u 4607182418800017408 == some .eq) = false, (FloatKind.f64.format.order u 4607182418800017408 == some .gt || FloatKind.f64.format.order u 4607182418800017408 == some .eq) = false, (FloatKind.f64.format.order u 4607182418800017408 == some .gt || FloatKind.f64.format.order u 4607182418800017408 == some .eq) = false]) (by kernel_rfl) (obs_cons (Bool.eq_false_iff.2 h2) (obs_cons (Bool.eq_false_iff.2 h2) (obs_cons (Bool.eq_false_iff.2 h2) (obs_nil)))) ?_
      refine T_then (b := true) rfl rfl ?_
      refine T_seq ?_
      refine T_region [] [ks 4, ks 5] (fun _ => mixed) (l' := [ps 4 (flv 0), ps 5 (iv 3)]) (obs := []) (by kernel_rfl) (obs_nil) ?_
      rw [her_unfair h1 (fun e => by rw [← fair_text, Bool.and_eq_true] at e; exact h2 e.1)]
      exact T_ret fun cx_ a_ hI_ => ret_ok (H' := []) (.inr rfl) (Wk.ren2 [ps 4 (flv 0), ps 5 (iv 3)] 0 hc0 [] rfl rfl (by kernel_rfl) (by kernel_rfl)) rfl (obs_nil) (fun cx_ a_ hI_ => ret_res (l' := [ps 4 (flv 0), ps 5 (iv 3)]) (by kernel_rfl) cx_ a_ hI_) hI_
  · refine T_then (b := (!(decide (((Pi.key l a o).2) = 0)))) rfl (congrArg Bool.not (decide_eq_false h1)) ?_
    refine T_seq ?_
    refine T_region [] [ks 4, ks 5] (fun _ => mixed) (l' := [ps 4 (flv 0), ps 5 (iv ((Pi.key l a o).2))]) (obs := []) (by kernel_rfl) (obs_nil) ?_
    rw [her_no h1]
    exact T_ret fun cx_ a_ hI_ => ret_ok (H' := []) (.inr rfl) (Wk.ren2 [ps 4 (flv 0), ps 5 (iv ((Pi.key l a o).2))] 0 hc0 [] rfl rfl (by kernel_rfl) (by kernel_rfl)) rfl (obs_nil) (fun cx_ a_ hI_ => ret_res (l' := [ps 4 (flv 0), ps 5 (iv ((Pi.key l a o).2))]) (by kernel_rfl) cx_ a_ hI_) hI_
set_option maxRecDepth 100000 in
set_option maxHeartbeats 4000000 in
theorem ref_hertz_pc (l a o : Int) (u : Nat) (hx0 : u < 18446744073709551616) (ha : Pi.I64 a) : PC Try.prog 15 [(.agg [(iv l), (iv a), (iv o)]), (flv u)] [] (.tup [(flv ((herS l a o u).1)), (iv ((herS l a o u).2))]) [] := by
  refine pc_intro Try.func15 rfl (by kernel_rfl) (Nat.le_of_ble_eq_true rfl) (by kernel_rfl) (l0 := [ps 0 (.agg [(iv l), (iv a), (iv o)]), ps 1 (flv u)]) rfl (fun c0 Bor hc0 => ?_)
  refine T_seq ?_
  refine T_region [] [ks 1, ks 2, kb 0] (fun _ => mixed) (l' := [ps 1 (flv u), ps 2 (.opt 0 0), pb 0 35 [(iv l), (iv a), (iv o)]]) (obs := []) (by kernel_rfl) (obs_nil) ?_
  refine T_seq ?_
  refine T_region [(1, .call [] [(.agg [(iv l), (iv a), (iv o)])] [] (.tup [(iv ((Pi.key l a o).1)), (iv ((Pi.key l a o).2))]) [])] [ks 1, ks 6, ks 7] (fun _ => mixed) (l' := [ps 1 (flv u), ps 6 (iv ((Pi.key l a o).1)), ps 7 (iv ((Pi.key l a o).2))]) (obs := [PC Try.prog 28 [(.agg [(iv l), (iv a), (iv o)])] [] (.tup [(iv ((Pi.key l a o).1)), (iv ((Pi.key l a o).2))]) [], [(.agg [(iv l), (iv a), (iv o)])] = renL (sigi [] 32) [(.agg [(iv l), (iv a), (iv o)])]]) (by kernel_rfl) (obs_cons (ref_key_pc l a o ha) (obs_cons rfl (obs_nil))) ?_
  refine T_seq ?_
  refine T_seq ?_
  refine T_region [] [ks 1, ks 6, ks 7, ks 16] (fun _ => mixed) (l' := [ps 1 (flv u), ps 6 (iv ((Pi.key l a o).1)), ps 7 (iv ((Pi.key l a o).2)), ps 16 (bv (!(decide (((Pi.key l a o).2) = 0))))]) (obs := []) (by kernel_rfl) (obs_nil) ?_
  by_cases h1 : ((Pi.key l a o).2) = 0
  · refine T_else (b := (!(decide (((Pi.key l a o).2) = 0)))) rfl (congrArg Bool.not (decide_eq_true h1)) ?_
    refine T_skip ?_
    refine T_seq ?_
    refine T_seq ?_
    refine T_region [(1, .call [] [(flv u)] [] (bv (fairB u)) [])] [ks 1, ks 6, ks 20] (fun _ => mixed) (l' := [ps 1 (flv u), ps 6 (iv ((Pi.key l a o).1)), ps 20 (bv (!(fairB u)))]) (obs := [PC Try.prog 29 [(flv u)] [] (bv (fairB u)) [], [(flv u)] = renL (sigi [] 104) [(flv u)]]) (by kernel_rfl) (obs_cons (fair_pc u) (obs_cons rfl (obs_nil))) ?_
    by_cases h2 : (fairB u) = true
    · refine T_else (b := (!(fairB u))) rfl (congrArg Bool.not h2) ?_
      refine T_skip ?_
      refine T_seq ?_
      have hfx := h2
      have hx := fair_nrm hx0 hfx
      have hkb := key_bd h1
      refine T_region [] [ks 1, ks 6, ks 8] (fun _ => mixed) (l' := [ps 1 (flv u), ps 6 (iv ((Pi.key l a o).1)), ps 8 (iv 0)]) (obs := []) (by kernel_rfl) (obs_nil) ?_
      refine T_seq ?_
      refine T_region [] [ks 1, ks 6, ks 8] (fun _ => mixed) (l' := [ps 1 (flv u), ps 6 (iv (((Pi.key l a o).1) - 69)), ps 8 (iv 0)]) (obs := [InK .i64 (((Pi.key l a o).1) - 69)]) (by kernel_rfl) (obs_cons (by simp only [InK]; omega) (obs_nil)) ?_
      refine T_seq ?_
      refine T_block ?_
      refine T_loop (α := {x : Int × Int // x.1 + 12 * x.2 = (Pi.key l a o).1 - 69 ∧ (-204 ≤ x.1 ∧ x.1 ≤ 101) ∧ (x.2 = 0 ∨ x.1 < 12)}) (fun x => [ps 1 (flv u), ps 6 (iv x.1.1), ps 8 (iv x.1.2)]) (fun x => (-x.1.1).toNat) 0 ⟨((Pi.key l a o).1 - 69, 0), ⟨by show (Pi.key l a o).1 - 69 + 12 * 0 = _; omega, hkb, .inl rfl⟩⟩ (Wk.ren2 [ps 1 (flv u), ps 6 (iv ((Pi.key l a o).1 - 69)), ps 8 (iv 0)] 0 hc0 [] rfl rfl (by kernel_rfl) (by kernel_rfl)) ?_
      rintro ⟨⟨k, c⟩, ⟨hk, hkr, hc⟩⟩
      dsimp only at hk hkr hc
      refine T_seq ?_
      refine T_seq ?_
      refine T_region [] [ks 1, ks 6, ks 8, ks 24] (fun _ => mixed) (l' := [ps 1 (flv u), ps 6 (iv k), ps 8 (iv c), ps 24 (bv (decide (k < 0)))]) (obs := []) (by kernel_rfl) (obs_nil) ?_
      by_cases h3 : k < 0
      · refine T_then (b := (decide (k < 0))) rfl (decide_eq_true h3) ?_
        refine T_skip ?_
        refine T_block ?_
        refine T_region [] [ks 1, ks 6, ks 8] (fun _ => mixed) (l' := [ps 1 (flv u), ps 6 (iv (k + 12)), ps 8 (iv (c - 1))]) (obs := [InK .i64 (k + 12), InK .i64 (c - 1)]) (by kernel_rfl) (obs_cons (by simp only [InK]; omega) (obs_cons (by simp only [InK]; omega) (obs_nil))) ?_
        refine T_blk ?_
        exact T_back ⟨(k + 12, c - 1), ⟨by show k + 12 + 12 * (c - 1) = _; omega, ⟨by omega, by omega⟩, .inr (by show k + 12 < 12; omega)⟩⟩ (Wk.ren2 [ps 1 (flv u), ps 6 (iv (k + 12)), ps 8 (iv (c - 1))] 0 hc0 [] rfl rfl (by kernel_rfl) (by kernel_rfl)) (show (-(k + 12)).toNat < (-k).toNat from by omega)
      · refine T_else (b := (decide (k < 0))) rfl (decide_eq_false h3) ?_
        refine T_break rfl rfl ?_
        refine T_seq ?_
        refine T_block ?_
        refine T_loop (α := {x : Int × Int // x.1 + 12 * x.2 = (Pi.key l a o).1 - 69 ∧ (0 ≤ x.1 ∧ x.1 ≤ 101)}) (fun x => [ps 1 (flv u), ps 6 (iv x.1.1), ps 8 (iv x.1.2)]) (fun x => x.1.1.toNat) 0 ⟨(k, c), ⟨hk, ⟨by omega, by omega⟩⟩⟩ (Wk.ren2 [ps 1 (flv u), ps 6 (iv k), ps 8 (iv c)] 0 hc0 [] rfl rfl (by kernel_rfl) (by kernel_rfl)) ?_
        rintro ⟨⟨k, c⟩, ⟨hk, hkr⟩⟩
        dsimp only at hk hkr
        refine T_seq ?_
        refine T_seq ?_
        refine T_region [] [ks 1, ks 6, ks 8, ks 30] (fun _ => mixed) (l' := [ps 1 (flv u), ps 6 (iv k), ps 8 (iv c), ps 30 (bv (decide (12 ≤ k)))]) (obs := []) (by kernel_rfl) (obs_nil) ?_
        by_cases h4 : 12 ≤ k
        · refine T_then (b := (decide (12 ≤ k))) rfl (decide_eq_true h4) ?_
          refine T_skip ?_
          refine T_block ?_
          refine T_region [] [ks 1, ks 6, ks 8] (fun _ => mixed) (l' := [ps 1 (flv u), ps 6 (iv (k - 12)), ps 8 (iv (c + 1))]) (obs := [InK .i64 (k - 12), InK .i64 (c + 1)]) (by kernel_rfl) (obs_cons (by simp only [InK]; omega) (obs_cons (by simp only [InK]; omega) (obs_nil))) ?_
          refine T_blk ?_
          exact T_back ⟨(k - 12, c + 1), ⟨by show k - 12 + 12 * (c + 1) = _; omega, ⟨by omega, by omega⟩⟩⟩ (Wk.ren2 [ps 1 (flv u), ps 6 (iv (k - 12)), ps 8 (iv (c + 1))] 0 hc0 [] rfl rfl (by kernel_rfl) (by kernel_rfl)) (show (k - 12).toNat < k.toNat from by omega)
        · refine T_else (b := (decide (12 ≤ k))) rfl (decide_eq_false h4) ?_
          refine T_break rfl rfl ?_
          refine T_seq ?_
          obtain ⟨y, hy⟩ : ∃ y, y = mulR u (swL.getD ((((Pi.key l a o).1 - 69) % 12).toNat) 0) := ⟨_, rfl⟩
          have hyb := prod_bd hx (i := (((Pi.key l a o).1 - 69) % 12).toNat) (by omega)
          rw [← hy] at hyb
          obtain ⟨hy1, hy2, hy3⟩ := hyb
          obtain ⟨C, hC⟩ : ∃ C, C = ((Pi.key l a o).1 - 69) / 12 := ⟨_, rfl⟩
          refine T_wk (Wk.eq (show _ = [ps 1 (flv u), ps 6 (nv ((((Pi.key l a o).1 - 69) % 12).toNat)), ps 8 (iv C), ps 30 (bv (decide (12 ≤ k)))] from by rw [show k = (((((Pi.key l a o).1 - 69) % 12).toNat : Nat) : Int) from by omega, show c = C from by omega])) ?_
          refine T_region [(2, .call [] [(nv ((((Pi.key l a o).1 - 69) % 12).toNat))] [] (flv (swL.getD ((((Pi.key l a o).1 - 69) % 12).toNat) 0)) []), (3, .nat y)] [ks 8, ks 9] (fun _ => mixed) (l' := [ps 8 (iv C), ps 9 (flv y)]) (obs := [PC Try.prog 30 [(nv ((((Pi.key l a o).1 - 69) % 12).toNat))] [] (flv (swL.getD ((((Pi.key l a o).1 - 69) % 12).toNat) 0)) [], [(nv ((((Pi.key l a o).1 - 69) % 12).toNat))] = renL (sigi [] 32) [(nv ((((Pi.key l a o).1 - 69) % 12).toNat))], FloatKind.f64.format.mul u (swL.getD ((((Pi.key l a o).1 - 69) % 12).toNat) 0) = some y]) (by kernel_rfl) (obs_cons (twelfth_pc ((((Pi.key l a o).1 - 69) % 12).toNat) (by omega)) (obs_cons rfl (obs_cons (by rw [hy]; exact mul_nrm hx.1 (sw_bd (by omega)).1) (obs_nil)))) ?_
          refine T_seq ?_
          refine T_block ?_
          refine T_wk (Wk.eq (show _ = [ps 8 (iv C), ps 9 (flv (ldR y (C - C)))] from by rw [show C - C = 0 from by omega, ldR_zero])) ?_
          refine T_loop (α := {x : Int // x ≤ C ∧ (0 ≤ x ∨ x = C)}) (fun x => [ps 8 (iv x.1), ps 9 (flv (ldR y (C - x.1)))]) (fun x => x.1.toNat) 0 ⟨C, ⟨Int.le_refl _, .inr rfl⟩⟩ (Wk.ren2 [ps 8 (iv C), ps 9 (flv (ldR y (C - C)))] 0 hc0 [] rfl rfl (by kernel_rfl) (by kernel_rfl)) ?_
          rintro ⟨j, ⟨hj, hj2⟩⟩
          refine T_seq ?_
          refine T_seq ?_
          refine T_region [] [ks 8, ks 9, ks 40] (fun _ => mixed) (l' := [ps 8 (iv j), ps 9 (flv (ldR y (C - j))), ps 40 (bv (decide (0 < j)))]) (obs := []) (by kernel_rfl) (obs_nil) ?_
          by_cases h5 : 0 < j
          · refine T_then (b := (decide (0 < j))) rfl (decide_eq_true h5) ?_
            refine T_skip ?_
            refine T_seq ?_
            refine T_block ?_
            refine T_region [(1, .nat (ldR y (C - (j - 1))))] [ks 8, ks 9] (fun _ => mixed) (l' := [ps 8 (iv j), ps 9 (flv (ldR y (C - (j - 1))))]) (obs := [FloatKind.f64.format.mul (ldR y (C - j)) 4611686018427387904 = some (ldR y (C - (j - 1)))]) (by kernel_rfl) (obs_cons (by rw [show C - (j - 1) = C - j + 1 from by omega, ldR_succ (by omega)]; exact mul_two (ldR_nrm (by omega) (by omega)) (by rw [← ldR_succ (by omega)]; exact ldR_nrm (by omega) (by omega))) (obs_nil)) ?_
            refine T_blk ?_
            refine T_region [] [ks 8, ks 9] (fun _ => mixed) (l' := [ps 8 (iv (j - 1)), ps 9 (flv (ldR y (C - (j - 1))))]) (obs := [InK .i64 (j - 1)]) (by kernel_rfl) (obs_cons (by simp only [InK]; omega) (obs_nil)) ?_
            exact T_back ⟨j - 1, ⟨by omega, .inl (by omega)⟩⟩ (Wk.ren2 [ps 8 (iv (j - 1)), ps 9 (flv (ldR y (C - (j - 1))))] 0 hc0 [] rfl rfl (by kernel_rfl) (by kernel_rfl)) (show (j - 1).toNat < j.toNat from by omega)
          · refine T_else (b := (decide (0 < j))) rfl (decide_eq_false h5) ?_
            refine T_break rfl rfl ?_
            refine T_seq ?_
            refine T_block ?_
            refine T_loop (α := {x : Int // x ≤ 0 ∧ (C ≤ x ∨ (x = 0 ∧ 0 ≤ C))}) (fun x => [ps 8 (iv x.1), ps 9 (flv (ldR y (C - x.1)))]) (fun x => (-x.1).toNat) 0 ⟨j, ⟨by omega, by omega⟩⟩ (Wk.ren2 [ps 8 (iv j), ps 9 (flv (ldR y (C - j)))] 0 hc0 [] rfl rfl (by kernel_rfl) (by kernel_rfl)) ?_
            rintro ⟨j, ⟨hj, hj2⟩⟩
            refine T_seq ?_
            refine T_seq ?_
            refine T_region [] [ks 8, ks 9, ks 46] (fun _ => mixed) (l' := [ps 8 (iv j), ps 9 (flv (ldR y (C - j))), ps 46 (bv (decide (j < 0)))]) (obs := []) (by kernel_rfl) (obs_nil) ?_
            by_cases h6 : j < 0
            · refine T_then (b := (decide (j < 0))) rfl (decide_eq_true h6) ?_
              refine T_skip ?_
              refine T_seq ?_
              refine T_block ?_
              refine T_region [(1, .nat (ldR y (C - (j + 1))))] [ks 8, ks 9] (fun _ => mixed) (l' := [ps 8 (iv j), ps 9 (flv (ldR y (C - (j + 1))))]) (obs := [FloatKind.f64.format.div (ldR y (C - j)) 4611686018427387904 = some (ldR y (C - (j + 1)))]) (by kernel_rfl) (obs_cons (by rw [show C - j = C - (j + 1) + 1 from by omega, ldR_succ (by omega)]; exact div_two (by rw [← ldR_succ (by omega)]; exact ldR_nrm (by omega) (by omega)) (ldR_nrm (by omega) (by omega))) (obs_nil)) ?_
              refine T_blk ?_
              refine T_region [] [ks 8, ks 9] (fun _ => mixed) (l' := [ps 8 (iv (j + 1)), ps 9 (flv (ldR y (C - (j + 1))))]) (obs := [InK .i64 (j + 1)]) (by kernel_rfl) (obs_cons (by simp only [InK]; omega) (obs_nil)) ?_
              exact T_back ⟨j + 1, ⟨by omega, by omega⟩⟩ (Wk.ren2 [ps 8 (iv (j + 1)), ps 9 (flv (ldR y (C - (j + 1))))] 0 hc0 [] rfl rfl (by kernel_rfl) (by kernel_rfl)) (show (-(j + 1)).toNat < (-j).toNat from by omega)
            · refine T_else (b := (decide (j < 0))) rfl (decide_eq_false h6) ?_
              refine T_break rfl rfl ?_
              refine T_seq ?_
              refine T_region [] [ks 4, ks 5] (fun _ => mixed) (l' := [ps 4 (flv (ldR y (C - j))), ps 5 (iv 0)]) (obs := []) (by kernel_rfl) (obs_nil) ?_
              rw [her_yes h1 hfx, ← hy, ← hC]
              refine T_wk (Wk.eq (show _ = [ps 4 (flv (ldR y C)), ps 5 (iv 0)] from by rw [show C - j = C from by omega])) ?_
              exact T_ret fun cx_ a_ hI_ => ret_ok (H' := []) (.inr rfl) (Wk.ren2 [ps 4 (flv (ldR y C)), ps 5 (iv 0)] 0 hc0 [] rfl rfl (by kernel_rfl) (by kernel_rfl)) rfl (obs_nil) (fun cx_ a_ hI_ => ret_res (l' := [ps 4 (flv (ldR y C)), ps 5 (iv 0)]) (by kernel_rfl) cx_ a_ hI_) hI_
    · refine T_then (b := (!(fairB u))) rfl (congrArg Bool.not (Bool.eq_false_iff.2 h2)) ?_
      refine T_seq ?_
      refine T_region [] [ks 4, ks 5] (fun _ => mixed) (l' := [ps 4 (flv 0), ps 5 (iv 3)]) (obs := []) (by kernel_rfl) (obs_nil) ?_
      rw [her_unfair h1 h2]
      exact T_ret fun cx_ a_ hI_ => ret_ok (H' := []) (.inr rfl) (Wk.ren2 [ps 4 (flv 0), ps 5 (iv 3)] 0 hc0 [] rfl rfl (by kernel_rfl) (by kernel_rfl)) rfl (obs_nil) (fun cx_ a_ hI_ => ret_res (l' := [ps 4 (flv 0), ps 5 (iv 3)]) (by kernel_rfl) cx_ a_ hI_) hI_
  · refine T_then (b := (!(decide (((Pi.key l a o).2) = 0)))) rfl (congrArg Bool.not (decide_eq_false h1)) ?_
    refine T_seq ?_
    refine T_region [] [ks 4, ks 5] (fun _ => mixed) (l' := [ps 4 (flv 0), ps 5 (iv ((Pi.key l a o).2))]) (obs := []) (by kernel_rfl) (obs_nil) ?_
    rw [her_no h1]
    exact T_ret fun cx_ a_ hI_ => ret_ok (H' := []) (.inr rfl) (Wk.ren2 [ps 4 (flv 0), ps 5 (iv ((Pi.key l a o).2))] 0 hc0 [] rfl rfl (by kernel_rfl) (by kernel_rfl)) rfl (obs_nil) (fun cx_ a_ hI_ => ret_res (l' := [ps 4 (flv 0), ps 5 (iv ((Pi.key l a o).2))]) (by kernel_rfl) cx_ a_ hI_) hI_
end Go.Proofs.Ytdboencinnlebaa.Pm
namespace Go.Proofs.Ytdboencinnlebaa.Pm
open Go Go.Proofs.Ytdboencinnlebaa.Fl

theorem pw2_yes (A : Int) {k n : Nat} (h : k < n) : 2 * (A * 2 ^ (min k n)) = A * 2 ^ (min (k + 1) n) := by
  rw [← pw_yes 2 h, ← Int.mul_assoc, Int.mul_comm 2 A, Int.mul_assoc]
theorem pw2_no (A : Int) {k n : Nat} (h : n ≤ k) : A * 2 ^ (min k n) = A * 2 ^ (min (k + 1) n) := by rw [← pw_no 2 h]
theorem num_one : (1 : Int) = 3 ^ (min 0 0) := rfl
set_option maxRecDepth 100000 in
set_option maxHeartbeats 4000000 in
theorem ref_ratio_pc0 (s h : Int) : PC Try.prog 14 [(.agg [(iv s), (iv h)])] [] (.tup [(.agg [(iv ((Tu.ratio s h).1)), (iv ((Tu.ratio s h).2.1))]), (iv ((Tu.ratio s h).2.2))]) [none] := by
  refine pc_intro Try.func14 rfl (by kernel_rfl) (Nat.le_of_ble_eq_true rfl) (by kernel_rfl) (l0 := [ps 0 (.agg [(iv s), (iv h)])]) rfl (fun c0 Bor hc0 => ?_)
  refine T_seq ?_
  refine T_region [] [ks 1, ks 2, kb 0, kb 8] (fun _ => mixed) (l' := [ps 1 (.opt 0 0), ps 2 (.opt 8 0), pb 0 23 [(iv s), (iv h)], pb 8 26 [(iv 0), (iv 0)]]) (obs := []) (by kernel_rfl) (obs_nil) ?_
  refine T_seq ?_
  refine T_seq ?_
  refine T_region [(1, .call [] [(.agg [(iv s), (iv h)])] [] (bv (Pi.withinB s h)) [])] [ks 1, ks 2, ks 13, kb 0, kb 8] (fun _ => mixed) (l' := [ps 1 (.opt 0 0), ps 2 (.opt 8 0), ps 13 (bv (!(Pi.withinB s h))), pb 0 23 [(iv s), (iv h)], pb 8 26 [(iv 0), (iv 0)]]) (obs := [PC Try.prog 25 [(.agg [(iv s), (iv h)])] [] (bv (Pi.withinB s h)) [], [(.agg [(iv s), (iv h)])] = renL (sigi [] 32) [(.agg [(iv s), (iv h)])]]) (by kernel_rfl) (obs_cons (ref_pwithin_pc s h) (obs_cons rfl (obs_nil))) ?_
  by_cases h1 : (Pi.withinB s h) = true
  · refine T_else (b := (!(Pi.withinB s h))) rfl (congrArg Bool.not h1) ?_
    refine T_skip ?_
    refine T_seq ?_
    have hw := Pi.withinB_iff.1 h1
    refine T_region [] [ks 1, ks 2, ks 4, kb 0, kb 8] (fun _ => mixed) (l' := [ps 1 (.opt 0 0), ps 2 (.opt 8 0), ps 4 (iv ((7 * h) - (12 * s))), pb 0 23 [(iv s), (iv h)], pb 8 26 [(iv 0), (iv 0)]]) (obs := [InK .i64 (7 * h), InK .i64 (12 * s), InK .i64 ((7 * h) - (12 * s))]) (by kernel_rfl) (obs_cons (by simp only [InK]; omega) (obs_cons (by simp only [InK]; omega) (obs_cons (by simp only [InK]; omega) (obs_nil)))) ?_
    refine T_seq ?_
    refine T_region [] [ks 2, ks 4, ks 5, kb 8] (fun _ => mixed) (l' := [ps 2 (.opt 8 0), ps 4 (iv ((7 * h) - (12 * s))), ps 5 (iv ((7 * s) - (4 * h))), pb 8 26 [(iv 0), (iv 0)]]) (obs := [InK .i64 (7 * s), InK .i64 (4 * h), InK .i64 ((7 * s) - (4 * h))]) (by kernel_rfl) (obs_cons (by simp only [InK]; omega) (obs_cons (by simp only [InK]; omega) (obs_cons (by simp only [InK]; omega) (obs_nil)))) ?_
    refine T_seq ?_
    refine T_region [] [ks 2, ks 4, ks 6, kb 8] (fun _ => mixed) (l' := [ps 2 (.opt 8 0), ps 4 (iv ((7 * h) - (12 * s))), ps 6 (iv (((7 * s) - (4 * h)) - ((7 * h) - (12 * s)))), pb 8 26 [(iv 0), (iv 0)]]) (obs := [InK .i64 (((7 * s) - (4 * h)) - ((7 * h) - (12 * s)))]) (by kernel_rfl) (obs_cons (by simp only [InK]; omega) (obs_nil)) ?_
    refine T_seq ?_
    refine T_seq ?_
    obtain ⟨f, hf⟩ : ∃ f, f = 7 * h - 12 * s := ⟨_, rfl⟩
    obtain ⟨t, ht⟩ : ∃ t, t = 19 * s - 11 * h := ⟨_, rfl⟩
    have hmk : Fr.make (Tu.num f t) (Tu.num (-f) (-t)) = Tu.ratio s h := by rw [hf, ht]; unfold Tu.ratio; rw [if_pos h1]
    refine T_wk (Wk.eq (show _ = [ps 2 (.opt 8 0), ps 4 (iv f), ps 6 (iv t), pb 8 26 [(iv 0), (iv 0)]] from by rw [show ((7 * h) - (12 * s)) = f from by omega, show (((7 * s) - (4 * h)) - f) = t from by omega])) ?_
    by_cases h2 : 18 < ((f.natAbs : Nat) : Int)
    · refine T_region [(1, .call [] [(iv f)] [] (nv f.natAbs) []), (4, .gd true .no), (5, .gd true .no), (6, .gd true .no), (7, .yes true)] [ks 2, ks 4, ks 6, ks 39, kb 8] (fun _ => mixed) (l' := [ps 2 (.opt 8 0), ps 4 (iv f), ps 6 (iv t), ps 39 (bv true), pb 8 26 [(iv 0), (iv 0)]]) (obs := [PC Try.prog 26 [(iv f)] [] (nv f.natAbs) [], [(iv f)] = renL (sigi [] 216) [(iv f)], (decide (18 < ((f.natAbs : Nat) : Int))) = true, (decide (18 < ((f.natAbs : Nat) : Int))) = true, (decide (18 < ((f.natAbs : Nat) : Int))) = true, (decide (18 < ((f.natAbs : Nat) : Int))) = true]) (by kernel_rfl) (obs_cons (rabs_pc f (by omega) (by omega)) (obs_cons rfl (obs_cons (decide_eq_true h2) (obs_cons (decide_eq_true h2) (obs_cons (decide_eq_true h2) (obs_cons (decide_eq_true h2) (obs_nil))))))) ?_
      refine T_then (b := true) rfl rfl ?_
      refine T_seq ?_
      refine T_region [] [ks 2, ks 3, kb 8] (fun _ => mixed) (l' := [ps 2 (.opt 8 0), ps 3 (iv 4), pb 8 26 [(iv 0), (iv 0)]]) (obs := []) (by kernel_rfl) (obs_nil) ?_
      rw [ratio_far h1 (by omega)]
      exact T_ret fun cx_ a_ hI_ => ret_ok (H' := [none]) (.inr rfl) (Wk.ren2 [ps 2 (.opt 0 0), ps 3 (iv 4), pb 0 26 [(iv 0), (iv 0)]] 0 hc0 [8] rfl rfl (by kernel_rfl) (by kernel_rfl)) rfl (obs_nil) (fun cx_ a_ hI_ => ret_res (l' := [ps 2 (.opt 0 0), ps 3 (iv 4), pb 0 26 [(iv 0), (iv 0)]]) (by kernel_rfl) cx_ a_ hI_) hI_
    · refine T_region [(1, .call [] [(iv f)] [] (nv f.natAbs) []), (4, .gd false (.no)), (5, .gd false (.call [] [(iv t)] [] (nv t.natAbs) [])), (6, .gd false (.no)), (7, .yes false)] [ks 2, ks 4, ks 6, ks 39, kb 8] (fun _ => mixed) (l' := [ps 2 (.opt 8 0), ps 4 (iv f), ps 6 (iv t), ps 39 (bv (decide (30 < ((t.natAbs : Nat) : Int)))), pb 8 26 [(iv 0), (iv 0)]]) (obs := [PC Try.prog 26 [(iv f)] [] (nv f.natAbs) [], [(iv f)] = renL (sigi [] 216) [(iv f)], (decide (18 < ((f.natAbs : Nat) : Int))) = false, (decide (18 < ((f.natAbs : Nat) : Int))) = false, PC Try.prog 26 [(iv t)] [] (nv t.natAbs) [], [(iv t)] = renL (sigi [] 248) [(iv t)], (decide (18 < ((f.natAbs : Nat) : Int))) = false, (decide (18 < ((f.natAbs : Nat) : Int))) = false]) (by kernel_rfl) (obs_cons (rabs_pc f (by omega) (by omega)) (obs_cons rfl (obs_cons (decide_eq_false h2) (obs_cons (decide_eq_false h2) (obs_cons (rabs_pc t (by omega) (by omega)) (obs_cons rfl (obs_cons (decide_eq_false h2) (obs_cons (decide_eq_false h2) (obs_nil))))))))) ?_
      by_cases h3 : 30 < ((t.natAbs : Nat) : Int)
      · refine T_then (b := (decide (30 < ((t.natAbs : Nat) : Int)))) rfl (decide_eq_true h3) ?_
        refine T_seq ?_
        refine T_region [] [ks 2, ks 3, kb 8] (fun _ => mixed) (l' := [ps 2 (.opt 8 0), ps 3 (iv 4), pb 8 26 [(iv 0), (iv 0)]]) (obs := []) (by kernel_rfl) (obs_nil) ?_
        rw [ratio_far h1 (by omega)]
        exact T_ret fun cx_ a_ hI_ => ret_ok (H' := [none]) (.inr rfl) (Wk.ren2 [ps 2 (.opt 0 0), ps 3 (iv 4), pb 0 26 [(iv 0), (iv 0)]] 0 hc0 [8] rfl rfl (by kernel_rfl) (by kernel_rfl)) rfl (obs_nil) (fun cx_ a_ hI_ => ret_res (l' := [ps 2 (.opt 0 0), ps 3 (iv 4), pb 0 26 [(iv 0), (iv 0)]]) (by kernel_rfl) cx_ a_ hI_) hI_
      · refine T_else (b := (decide (30 < ((t.natAbs : Nat) : Int)))) rfl (decide_eq_false h3) ?_
        refine T_skip ?_
        refine T_seq ?_
        refine T_region [] [ks 2, ks 4, ks 6, ks 7, ks 8, kb 8] (fun _ => mixed) (l' := [ps 2 (.opt 8 0), ps 4 (iv f), ps 6 (iv t), ps 7 (iv 1), ps 8 (iv 1), pb 8 26 [(iv 0), (iv 0)]]) (obs := []) (by kernel_rfl) (obs_nil) ?_
        refine T_seq ?_
        refine T_seq ?_
        refine T_region [] [ks 2, ks 4, ks 6, ks 7, ks 8, ks 9, kb 8] (fun _ => mixed) (l' := [ps 2 (.opt 8 0), ps 4 (iv f), ps 6 (iv t), ps 7 (iv 1), ps 8 (iv 1), ps 9 (iv 0), pb 8 26 [(iv 0), (iv 0)]]) (obs := []) (by kernel_rfl) (obs_nil) ?_
        refine T_block ?_
        have hfb : f.natAbs ≤ 18 := by omega
        have htb : t.natAbs ≤ 30 := by omega
        refine T_wk (Wk.eq (show _ = [ps 2 (.opt 8 0), ps 4 (iv f), ps 6 (iv t), ps 7 (iv (3 ^ (min 0 f.toNat))), ps 8 (iv (3 ^ (min 0 (-f).toNat))), ps 9 (nv 0), pb 8 26 [(iv 0), (iv 0)]] from by rw [Nat.zero_min, Nat.zero_min]; rfl)) ?_
        refine T_loop (α := {x : Nat // x ≤ f.natAbs}) (fun x => [ps 2 (.opt 0 0), ps 4 (iv f), ps 6 (iv t), ps 7 (iv (3 ^ (min x.1 f.toNat))), ps 8 (iv (3 ^ (min x.1 (-f).toNat))), ps 9 (nv x.1), pb 0 26 [(iv 0), (iv 0)]]) (fun x => f.natAbs - x.1) 1 ⟨0, Nat.zero_le _⟩ (Wk.ren2 [ps 2 (.opt 0 0), ps 4 (iv f), ps 6 (iv t), ps 7 (iv (3 ^ (min 0 f.toNat))), ps 8 (iv (3 ^ (min 0 (-f).toNat))), ps 9 (nv 0), pb 0 26 [(iv 0), (iv 0)]] 0 hc0 [8] rfl rfl (by kernel_rfl) (by kernel_rfl)) ?_
        rintro ⟨k, hk⟩
        refine T_seq ?_
        refine T_seq ?_
        refine T_region [(2, .call [] [(iv f)] [] (nv f.natAbs) [])] [ks 2, ks 4, ks 6, ks 7, ks 8, ks 9, ks 44, kb 0] (fun _ => mixed) (l' := [ps 2 (.opt 0 0), ps 4 (iv f), ps 6 (iv t), ps 7 (iv (3 ^ (min k f.toNat))), ps 8 (iv (3 ^ (min k (-f).toNat))), ps 9 (nv k), ps 44 (bv (decide (((k : Nat) : Int) < ((f.natAbs : Nat) : Int)))), pb 0 26 [(iv 0), (iv 0)]]) (obs := [PC Try.prog 26 [(iv f)] [] (nv f.natAbs) [], [(iv f)] = renL (sigi [] 17) [(iv f)]]) (by kernel_rfl) (obs_cons (rabs_pc f (by omega) (by omega)) (obs_cons rfl (obs_nil))) ?_
        by_cases h4 : ((k : Nat) : Int) < ((f.natAbs : Nat) : Int)
        · refine T_then (b := (decide (((k : Nat) : Int) < ((f.natAbs : Nat) : Int)))) rfl (decide_eq_true h4) ?_
          refine T_skip ?_
          refine T_seq ?_
          refine T_block ?_
          refine T_seq ?_
          refine T_region [] [ks 2, ks 4, ks 6, ks 7, ks 8, ks 9, ks 48, kb 0] (fun _ => mixed) (l' := [ps 2 (.opt 0 0), ps 4 (iv f), ps 6 (iv t), ps 7 (iv (3 ^ (min k f.toNat))), ps 8 (iv (3 ^ (min k (-f).toNat))), ps 9 (nv k), ps 48 (bv (decide (0 < f))), pb 0 26 [(iv 0), (iv 0)]]) (obs := []) (by kernel_rfl) (obs_nil) ?_
          by_cases h5 : 0 < f
          · refine T_then (b := (decide (0 < f))) rfl (decide_eq_true h5) ?_
            refine T_region [] [ks 2, ks 4, ks 6, ks 7, ks 8, ks 9, kb 0] (fun _ => mixed) (l' := [ps 2 (.opt 0 0), ps 4 (iv f), ps 6 (iv t), ps 7 (iv (3 * (3 ^ (min k f.toNat)))), ps 8 (iv (3 ^ (min k (-f).toNat))), ps 9 (nv k), pb 0 26 [(iv 0), (iv 0)]]) (obs := [InK .i64 (3 * (3 ^ (min k f.toNat)))]) (by kernel_rfl) (obs_cons (by have hp := pow_cap3 (n := min k f.toNat) (by omega); simp only [InK]; omega) (obs_nil)) ?_
            refine T_blk ?_
            refine T_region [] [ks 2, ks 4, ks 6, ks 7, ks 8, ks 9, kb 0] (fun _ => mixed) (l' := [ps 2 (.opt 0 0), ps 4 (iv f), ps 6 (iv t), ps 7 (iv (3 * (3 ^ (min k f.toNat)))), ps 8 (iv (3 ^ (min k (-f).toNat))), ps 9 (iv (((k : Nat) : Int) + 1)), pb 0 26 [(iv 0), (iv 0)]]) (obs := [InK .i64 (((k : Nat) : Int) + 1)]) (by kernel_rfl) (obs_cons (by simp only [InK]; omega) (obs_nil)) ?_
            exact T_back ⟨k + 1, by omega⟩ (Wk.trans (Wk.eq (show _ = [ps 2 (.opt 0 0), ps 4 (iv f), ps 6 (iv t), ps 7 (iv (3 ^ (min (k + 1) f.toNat))), ps 8 (iv (3 ^ (min (k + 1) (-f).toNat))), ps 9 (iv (((k : Nat) : Int) + 1)), pb 0 26 [(iv 0), (iv 0)]] from by rw [pw_yes 3 (show k < f.toNat by omega), pw_no 3 (show (-f).toNat ≤ k by omega)])) (Wk.ren2 [ps 2 (.opt 0 0), ps 4 (iv f), ps 6 (iv t), ps 7 (iv (3 ^ (min (k + 1) f.toNat))), ps 8 (iv (3 ^ (min (k + 1) (-f).toNat))), ps 9 (nv (k + 1)), pb 0 26 [(iv 0), (iv 0)]] 0 hc0 [0] rfl rfl (by kernel_rfl) (by kernel_rfl))) (show f.natAbs - (k + 1) < f.natAbs - k from by omega)
          · refine T_else (b := (decide (0 < f))) rfl (decide_eq_false h5) ?_
            refine T_region [] [ks 2, ks 4, ks 6, ks 7, ks 8, ks 9, kb 0] (fun _ => mixed) (l' := [ps 2 (.opt 0 0), ps 4 (iv f), ps 6 (iv t), ps 7 (iv (3 ^ (min k f.toNat))), ps 8 (iv (3 * (3 ^ (min k (-f).toNat)))), ps 9 (nv k), pb 0 26 [(iv 0), (iv 0)]]) (obs := [InK .i64 (3 * (3 ^ (min k (-f).toNat)))]) (by kernel_rfl) (obs_cons (by have hp := pow_cap3 (n := min k (-f).toNat) (by omega); simp only [InK]; omega) (obs_nil)) ?_
            refine T_blk ?_
            refine T_region [] [ks 2, ks 4, ks 6, ks 7, ks 8, ks 9, kb 0] (fun _ => mixed) (l' := [ps 2 (.opt 0 0), ps 4 (iv f), ps 6 (iv t), ps 7 (iv (3 ^ (min k f.toNat))), ps 8 (iv (3 * (3 ^ (min k (-f).toNat)))), ps 9 (iv (((k : Nat) : Int) + 1)), pb 0 26 [(iv 0), (iv 0)]]) (obs := [InK .i64 (((k : Nat) : Int) + 1)]) (by kernel_rfl) (obs_cons (by simp only [InK]; omega) (obs_nil)) ?_
            exact T_back ⟨k + 1, by omega⟩ (Wk.trans (Wk.eq (show _ = [ps 2 (.opt 0 0), ps 4 (iv f), ps 6 (iv t), ps 7 (iv (3 ^ (min (k + 1) f.toNat))), ps 8 (iv (3 ^ (min (k + 1) (-f).toNat))), ps 9 (iv (((k : Nat) : Int) + 1)), pb 0 26 [(iv 0), (iv 0)]] from by rw [pw_yes 3 (show k < (-f).toNat by omega), pw_no 3 (show f.toNat ≤ k by omega)])) (Wk.ren2 [ps 2 (.opt 0 0), ps 4 (iv f), ps 6 (iv t), ps 7 (iv (3 ^ (min (k + 1) f.toNat))), ps 8 (iv (3 ^ (min (k + 1) (-f).toNat))), ps 9 (nv (k + 1)), pb 0 26 [(iv 0), (iv 0)]] 0 hc0 [0] rfl rfl (by kernel_rfl) (by kernel_rfl))) (show f.natAbs - (k + 1) < f.natAbs - k from by omega)
        · refine T_else (b := (decide (((k : Nat) : Int) < ((f.natAbs : Nat) : Int)))) rfl (decide_eq_false h4) ?_
          refine T_break rfl rfl ?_
          refine T_seq ?_
          refine T_seq ?_
          refine T_region [] [ks 2, ks 6, ks 7, ks 8, ks 10, kb 0] (fun _ => mixed) (l' := [ps 2 (.opt 0 0), ps 6 (iv t), ps 7 (iv (3 ^ (min k f.toNat))), ps 8 (iv (3 ^ (min k (-f).toNat))), ps 10 (iv 0), pb 0 26 [(iv 0), (iv 0)]]) (obs := []) (by kernel_rfl) (obs_nil) ?_
          refine T_block ?_
          refine T_wk (Wk.eq (show _ = [ps 2 (.opt 0 0), ps 6 (iv t), ps 7 (iv (3 ^ f.toNat * 2 ^ (min 0 t.toNat))), ps 8 (iv (3 ^ (-f).toNat * 2 ^ (min 0 (-t).toNat))), ps 10 (nv 0), pb 0 26 [(iv 0), (iv 0)]] from by rw [Nat.min_eq_right (show f.toNat ≤ k by omega), Nat.min_eq_right (show (-f).toNat ≤ k by omega), Nat.zero_min, Nat.zero_min, Int.pow_zero, Int.mul_one, Int.mul_one]; rfl)) ?_
          refine T_loop (α := {x : Nat // x ≤ t.natAbs}) (fun x => [ps 2 (.opt 0 0), ps 6 (iv t), ps 7 (iv (3 ^ f.toNat * 2 ^ (min x.1 t.toNat))), ps 8 (iv (3 ^ (-f).toNat * 2 ^ (min x.1 (-t).toNat))), ps 10 (nv x.1), pb 0 26 [(iv 0), (iv 0)]]) (fun x => t.natAbs - x.1) 1 ⟨0, Nat.zero_le _⟩ (Wk.ren2 [ps 2 (.opt 0 0), ps 6 (iv t), ps 7 (iv (3 ^ f.toNat * 2 ^ (min 0 t.toNat))), ps 8 (iv (3 ^ (-f).toNat * 2 ^ (min 0 (-t).toNat))), ps 10 (nv 0), pb 0 26 [(iv 0), (iv 0)]] 0 hc0 [0] rfl rfl (by kernel_rfl) (by kernel_rfl)) ?_
          rintro ⟨m, hm⟩
          refine T_seq ?_
          refine T_seq ?_
          refine T_region [(2, .call [] [(iv t)] [] (nv t.natAbs) [])] [ks 2, ks 6, ks 7, ks 8, ks 10, ks 56, kb 0] (fun _ => mixed) (l' := [ps 2 (.opt 0 0), ps 6 (iv t), ps 7 (iv (3 ^ f.toNat * 2 ^ (min m t.toNat))), ps 8 (iv (3 ^ (-f).toNat * 2 ^ (min m (-t).toNat))), ps 10 (nv m), ps 56 (bv (decide (((m : Nat) : Int) < ((t.natAbs : Nat) : Int)))), pb 0 26 [(iv 0), (iv 0)]]) (obs := [PC Try.prog 26 [(iv t)] [] (nv t.natAbs) [], [(iv t)] = renL (sigi [] 17) [(iv t)]]) (by kernel_rfl) (obs_cons (rabs_pc t (by omega) (by omega)) (obs_cons rfl (obs_nil))) ?_
          by_cases h6 : ((m : Nat) : Int) < ((t.natAbs : Nat) : Int)
          · refine T_then (b := (decide (((m : Nat) : Int) < ((t.natAbs : Nat) : Int)))) rfl (decide_eq_true h6) ?_
            refine T_skip ?_
            refine T_seq ?_
            refine T_block ?_
            refine T_seq ?_
            refine T_region [] [ks 2, ks 6, ks 7, ks 8, ks 10, ks 60, kb 0] (fun _ => mixed) (l' := [ps 2 (.opt 0 0), ps 6 (iv t), ps 7 (iv (3 ^ f.toNat * 2 ^ (min m t.toNat))), ps 8 (iv (3 ^ (-f).toNat * 2 ^ (min m (-t).toNat))), ps 10 (nv m), ps 60 (bv (decide (0 < t))), pb 0 26 [(iv 0), (iv 0)]]) (obs := []) (by kernel_rfl) (obs_nil) ?_
            by_cases h7 : 0 < t
            · refine T_then (b := (decide (0 < t))) rfl (decide_eq_true h7) ?_
              refine T_region [] [ks 2, ks 6, ks 7, ks 8, ks 10, kb 0] (fun _ => mixed) (l' := [ps 2 (.opt 0 0), ps 6 (iv t), ps 7 (iv (2 * (3 ^ f.toNat * 2 ^ (min m t.toNat)))), ps 8 (iv (3 ^ (-f).toNat * 2 ^ (min m (-t).toNat))), ps 10 (nv m), pb 0 26 [(iv 0), (iv 0)]]) (obs := [InK .i64 (2 * (3 ^ f.toNat * 2 ^ (min m t.toNat)))]) (by kernel_rfl) (obs_cons (by have hp := num_cap (a := f.toNat) (b := min m t.toNat) (by omega) (by omega); simp only [InK]; omega) (obs_nil)) ?_
              refine T_blk ?_
              refine T_region [] [ks 2, ks 6, ks 7, ks 8, ks 10, kb 0] (fun _ => mixed) (l' := [ps 2 (.opt 0 0), ps 6 (iv t), ps 7 (iv (2 * (3 ^ f.toNat * 2 ^ (min m t.toNat)))), ps 8 (iv (3 ^ (-f).toNat * 2 ^ (min m (-t).toNat))), ps 10 (iv (((m : Nat) : Int) + 1)), pb 0 26 [(iv 0), (iv 0)]]) (obs := [InK .i64 (((m : Nat) : Int) + 1)]) (by kernel_rfl) (obs_cons (by simp only [InK]; omega) (obs_nil)) ?_
              exact T_back ⟨m + 1, by omega⟩ (Wk.trans (Wk.eq (show _ = [ps 2 (.opt 0 0), ps 6 (iv t), ps 7 (iv (3 ^ f.toNat * 2 ^ (min (m + 1) t.toNat))), ps 8 (iv (3 ^ (-f).toNat * 2 ^ (min (m + 1) (-t).toNat))), ps 10 (iv (((m : Nat) : Int) + 1)), pb 0 26 [(iv 0), (iv 0)]] from by rw [pw2_yes _ (show m < t.toNat by omega), pw2_no _ (show (-t).toNat ≤ m by omega)])) (Wk.ren2 [ps 2 (.opt 0 0), ps 6 (iv t), ps 7 (iv (3 ^ f.toNat * 2 ^ (min (m + 1) t.toNat))), ps 8 (iv (3 ^ (-f).toNat * 2 ^ (min (m + 1) (-t).toNat))), ps 10 (nv (m + 1)), pb 0 26 [(iv 0), (iv 0)]] 0 hc0 [0] rfl rfl (by kernel_rfl) (by kernel_rfl))) (show t.natAbs - (m + 1) < t.natAbs - m from by omega)
            · refine T_else (b := (decide (0 < t))) rfl (decide_eq_false h7) ?_
              refine T_region [] [ks 2, ks 6, ks 7, ks 8, ks 10, kb 0] (fun _ => mixed) (l' := [ps 2 (.opt 0 0), ps 6 (iv t), ps 7 (iv (3 ^ f.toNat * 2 ^ (min m t.toNat))), ps 8 (iv (2 * (3 ^ (-f).toNat * 2 ^ (min m (-t).toNat)))), ps 10 (nv m), pb 0 26 [(iv 0), (iv 0)]]) (obs := [InK .i64 (2 * (3 ^ (-f).toNat * 2 ^ (min m (-t).toNat)))]) (by kernel_rfl) (obs_cons (by have hp := num_cap (a := (-f).toNat) (b := min m (-t).toNat) (by omega) (by omega); simp only [InK]; omega) (obs_nil)) ?_
              refine T_blk ?_
              refine T_region [] [ks 2, ks 6, ks 7, ks 8, ks 10, kb 0] (fun _ => mixed) (l' := [ps 2 (.opt 0 0), ps 6 (iv t), ps 7 (iv (3 ^ f.toNat * 2 ^ (min m t.toNat))), ps 8 (iv (2 * (3 ^ (-f).toNat * 2 ^ (min m (-t).toNat)))), ps 10 (iv (((m : Nat) : Int) + 1)), pb 0 26 [(iv 0), (iv 0)]]) (obs := [InK .i64 (((m : Nat) : Int) + 1)]) (by kernel_rfl) (obs_cons (by simp only [InK]; omega) (obs_nil)) ?_
              exact T_back ⟨m + 1, by omega⟩ (Wk.trans (Wk.eq (show _ = [ps 2 (.opt 0 0), ps 6 (iv t), ps 7 (iv (3 ^ f.toNat * 2 ^ (min (m + 1) t.toNat))), ps 8 (iv (3 ^ (-f).toNat * 2 ^ (min (m + 1) (-t).toNat))), ps 10 (iv (((m : Nat) : Int) + 1)), pb 0 26 [(iv 0), (iv 0)]] from by rw [pw2_yes _ (show m < (-t).toNat by omega), pw2_no _ (show t.toNat ≤ m by omega)])) (Wk.ren2 [ps 2 (.opt 0 0), ps 6 (iv t), ps 7 (iv (3 ^ f.toNat * 2 ^ (min (m + 1) t.toNat))), ps 8 (iv (3 ^ (-f).toNat * 2 ^ (min (m + 1) (-t).toNat))), ps 10 (nv (m + 1)), pb 0 26 [(iv 0), (iv 0)]] 0 hc0 [0] rfl rfl (by kernel_rfl) (by kernel_rfl))) (show t.natAbs - (m + 1) < t.natAbs - m from by omega)
          · refine T_else (b := (decide (((m : Nat) : Int) < ((t.natAbs : Nat) : Int)))) rfl (decide_eq_false h6) ?_
            refine T_break rfl rfl ?_
            refine T_seq ?_
            have hc1 := num_cap (a := f.toNat) (b := t.toNat) (by omega) (by omega)
            have hc2 := num_cap (a := (-f).toNat) (b := (-t).toNat) (by omega) (by omega)
            rw [show (3 : Int) ^ f.toNat * 2 ^ t.toNat = Tu.num f t from rfl] at hc1
            rw [show (3 : Int) ^ (-f).toNat * 2 ^ (-t).toNat = Tu.num (-f) (-t) from rfl] at hc2
            refine T_wk (Wk.eq (show _ = [ps 2 (.opt 0 0), ps 6 (iv t), ps 7 (iv (Tu.num f t)), ps 8 (iv (Tu.num (-f) (-t))), ps 10 (nv m), ps 56 (bv (decide (((m : Nat) : Int) < ((t.natAbs : Nat) : Int)))), pb 0 26 [(iv 0), (iv 0)]] from by rw [Nat.min_eq_right (show t.toNat ≤ m by omega), Nat.min_eq_right (show (-t).toNat ≤ m by omega)]; rfl)) ?_
            refine T_region [(2, .call [] [(iv (Tu.num f t)), (iv (Tu.num (-f) (-t)))] [] (.tup [(.agg [(iv ((Tu.ratio s h).1)), (iv ((Tu.ratio s h).2.1))]), (iv ((Tu.ratio s h).2.2))]) [])] [ks 2, ks 3, kb 0] (fun _ => mixed) (l' := [ps 2 (.opt 0 0), ps 3 (iv ((Tu.ratio s h).2.2)), pb 0 26 [(iv ((Tu.ratio s h).1)), (iv ((Tu.ratio s h).2.1))]]) (obs := [PC Try.prog 27 [(iv (Tu.num f t)), (iv (Tu.num (-f) (-t)))] [] (.tup [(.agg [(iv ((Tu.ratio s h).1)), (iv ((Tu.ratio s h).2.1))]), (iv ((Tu.ratio s h).2.2))]) [], [(iv (Tu.num f t)), (iv (Tu.num (-f) (-t)))] = renL (sigi [] 49) [(iv (Tu.num f t)), (iv (Tu.num (-f) (-t)))]]) (by kernel_rfl) (obs_cons (hmk ▸ ref_make_pc (Tu.num f t) (Tu.num (-f) (-t)) (by unfold Fr.I64; omega) (by unfold Fr.I64; omega)) (obs_cons rfl (obs_nil))) ?_
            exact T_ret fun cx_ a_ hI_ => ret_ok (H' := [none]) (.inr rfl) (Wk.ren2 [ps 2 (.opt 0 0), ps 3 (iv ((Tu.ratio s h).2.2)), pb 0 26 [(iv ((Tu.ratio s h).1)), (iv ((Tu.ratio s h).2.1))]] 0 hc0 [0] rfl rfl (by kernel_rfl) (by kernel_rfl)) rfl (obs_nil) (fun cx_ a_ hI_ => ret_res (l' := [ps 2 (.opt 0 0), ps 3 (iv ((Tu.ratio s h).2.2)), pb 0 26 [(iv ((Tu.ratio s h).1)), (iv ((Tu.ratio s h).2.1))]]) (by kernel_rfl) cx_ a_ hI_) hI_
  · refine T_then (b := (!(Pi.withinB s h))) rfl (congrArg Bool.not (Bool.eq_false_iff.2 h1)) ?_
    refine T_seq ?_
    refine T_region [] [ks 2, ks 3, kb 8] (fun _ => mixed) (l' := [ps 2 (.opt 8 0), ps 3 (iv 3), pb 8 26 [(iv 0), (iv 0)]]) (obs := []) (by kernel_rfl) (obs_nil) ?_
    rw [show Tu.ratio s h = (0, 0, 3) from by unfold Tu.ratio; rw [if_neg h1]]
    exact T_ret fun cx_ a_ hI_ => ret_ok (H' := [none]) (.inr rfl) (Wk.ren2 [ps 2 (.opt 0 0), ps 3 (iv 3), pb 0 26 [(iv 0), (iv 0)]] 0 hc0 [8] rfl rfl (by kernel_rfl) (by kernel_rfl)) rfl (obs_nil) (fun cx_ a_ hI_ => ret_res (l' := [ps 2 (.opt 0 0), ps 3 (iv 3), pb 0 26 [(iv 0), (iv 0)]]) (by kernel_rfl) cx_ a_ hI_) hI_
theorem ref_ratio_pc (s h : Int) : PC Try.prog 14 [.agg [iv s, iv h]] [] (M3P (Tu.ratio s h)) [] := pc_trim [none] rfl (fun i => by cases i <;> rfl) (ref_ratio_pc0 s h)
set_option maxRecDepth 100000 in
set_option maxHeartbeats 4000000 in
theorem tempered_pc (l a o : Int) (u : Nat) (hx0 : u < 18446744073709551616) : PC Try.prog 16 [(.agg [(iv l), (iv a), (iv o)]), (flv u)] [] (.tup [(flv ((temS l a o u).1)), (iv ((temS l a o u).2))]) [] := by
  refine pc_intro Try.func16 rfl (by kernel_rfl) (Nat.le_of_ble_eq_true rfl) (by kernel_rfl) (l0 := [ps 0 (.agg [(iv l), (iv a), (iv o)]), ps 1 (flv u)]) rfl (fun c0 Bor hc0 => ?_)
  refine T_seq ?_
  refine T_region [] [ks 1, ks 2, kb 0] (fun _ => mixed) (l' := [ps 1 (flv u), ps 2 (.opt 0 0), pb 0 35 [(iv l), (iv a), (iv o)]]) (obs := []) (by kernel_rfl) (obs_nil) ?_
  refine T_seq ?_
  refine T_seq ?_
  by_cases h1 : (FloatKind.f64.format.order u 4607182418800017408 == some .gt || FloatKind.f64.format.order u 4607182418800017408 == some .eq) = true
  · refine T_region [(3, .gd true (.no)), (4, .gd true (.no)), (5, .yes true)] [ks 1, ks 2, ks 15, kb 0] (fun _ => mixed) (l' := [ps 1 (flv u), ps 2 (.opt 0 0), ps 15 (bv (!(FloatKind.f64.format.order u 4681608360884174848 == some .lt || FloatKind.f64.format.order u 4681608360884174848 == some .eq))), pb 0 35 [(iv l), (iv a), (iv o)]]) (obs := [(FloatKind.f64.format.order u 4607182418800017408 == some .gt || FloatKind.f64.format.order u 4607182418800017408 == some .eq) = true, (FloatKind.f64.format.order u 4607182418800017408 == some .gt || FloatKind.f64.format.order u 4607182418800017408 == some .eq) = true, (FloatKind.f64.format.order u 4607182418800017408 == some .gt || FloatKind.f64.format.order u 4607182418800017408 == some .eq) = true]) (by kernel_rfl) (obs_cons h1 (obs_cons h1 (obs_cons h1 (obs_nil)))) ?_
    by_cases h2 : (FloatKind.f64.format.order u 4681608360884174848 == some .lt || FloatKind.f64.format.order u 4681608360884174848 == some .eq) = true
    · refine T_else (b := (!(FloatKind.f64.format.order u 4681608360884174848 == some .lt || FloatKind.f64.format.order u 4681608360884174848 == some .eq))) rfl (congrArg Bool.not h2) ?_
      refine T_skip ?_
      refine T_seq ?_
      refine T_region [(2, .call [] [(.agg [(iv 5), (iv 0), (iv 4)]), (.agg [(iv l), (iv a), (iv o)])] [] (.tup [(.agg [(iv ((Pi.between 5 0 4 l a o).1)), (iv ((Pi.between 5 0 4 l a o).2.1))]), (iv ((Pi.between 5 0 4 l a o).2.2))]) [])] [ks 1, ks 6, ks 7, kb 128] (fun _ => mixed) (l' := [ps 1 (flv u), ps 6 (.opt 128 0), ps 7 (iv ((Pi.between 5 0 4 l a o).2.2)), pb 128 23 [(iv ((Pi.between 5 0 4 l a o).1)), (iv ((Pi.between 5 0 4 l a o).2.1))]]) (obs := [PC Try.prog 31 [(.agg [(iv 5), (iv 0), (iv 4)]), (.agg [(iv l), (iv a), (iv o)])] [] (.tup [(.agg [(iv ((Pi.between 5 0 4 l a o).1)), (iv ((Pi.between 5 0 4 l a o).2.1))]), (iv ((Pi.between 5 0 4 l a o).2.2))]) [], [(.agg [(iv 5), (iv 0), (iv 4)]), (.agg [(iv l), (iv a), (iv o)])] = renL (sigi [] 96) [(.agg [(iv 5), (iv 0), (iv 4)]), (.agg [(iv l), (iv a), (iv o)])]]) (by kernel_rfl) (obs_cons (between_pc 5 0 4 l a o) (obs_cons rfl (obs_nil))) ?_
      refine T_seq ?_
      refine T_seq ?_
      refine T_region [] [ks 1, ks 6, ks 7, ks 23, kb 128] (fun _ => mixed) (l' := [ps 1 (flv u), ps 6 (.opt 128 0), ps 7 (iv ((Pi.between 5 0 4 l a o).2.2)), ps 23 (bv (!(decide (((Pi.between 5 0 4 l a o).2.2) = 0)))), pb 128 23 [(iv ((Pi.between 5 0 4 l a o).1)), (iv ((Pi.between 5 0 4 l a o).2.1))]]) (obs := []) (by kernel_rfl) (obs_nil) ?_
      by_cases h3 : ((Pi.between 5 0 4 l a o).2.2) = 0
      · refine T_else (b := (!(decide (((Pi.between 5 0 4 l a o).2.2) = 0)))) rfl (congrArg Bool.not (decide_eq_true h3)) ?_
        refine T_skip ?_
        refine T_seq ?_
        refine T_region [(1, .call [] [(.agg [(iv ((Pi.between 5 0 4 l a o).1)), (iv ((Pi.between 5 0 4 l a o).2.1))])] [] (.tup [(.agg [(iv ((Tu.ratio (Pi.between 5 0 4 l a o).1 (Pi.between 5 0 4 l a o).2.1).1)), (iv ((Tu.ratio (Pi.between 5 0 4 l a o).1 (Pi.between 5 0 4 l a o).2.1).2.1))]), (iv ((Tu.ratio (Pi.between 5 0 4 l a o).1 (Pi.between 5 0 4 l a o).2.1).2.2))]) [])] [ks 1, ks 7, ks 8, kb 208] (fun _ => mixed) (l' := [ps 1 (flv u), ps 7 (iv ((Tu.ratio (Pi.between 5 0 4 l a o).1 (Pi.between 5 0 4 l a o).2.1).2.2)), ps 8 (.opt 208 0), pb 208 26 [(iv ((Tu.ratio (Pi.between 5 0 4 l a o).1 (Pi.between 5 0 4 l a o).2.1).1)), (iv ((Tu.ratio (Pi.between 5 0 4 l a o).1 (Pi.between 5 0 4 l a o).2.1).2.1))]]) (obs := [PC Try.prog 7 [(.agg [(iv ((Pi.between 5 0 4 l a o).1)), (iv ((Pi.between 5 0 4 l a o).2.1))])] [] (.tup [(.agg [(iv ((Tu.ratio (Pi.between 5 0 4 l a o).1 (Pi.between 5 0 4 l a o).2.1).1)), (iv ((Tu.ratio (Pi.between 5 0 4 l a o).1 (Pi.between 5 0 4 l a o).2.1).2.1))]), (iv ((Tu.ratio (Pi.between 5 0 4 l a o).1 (Pi.between 5 0 4 l a o).2.1).2.2))]) [], [(.agg [(iv ((Pi.between 5 0 4 l a o).1)), (iv ((Pi.between 5 0 4 l a o).2.1))])] = renL (sigi [] 176) [(.agg [(iv ((Pi.between 5 0 4 l a o).1)), (iv ((Pi.between 5 0 4 l a o).2.1))])]]) (by kernel_rfl) (obs_cons (ratio_pc _ _ (between_i64 5 0 4 l a o).1 (between_i64 5 0 4 l a o).2) (obs_cons rfl (obs_nil))) ?_
        refine T_seq ?_
        refine T_seq ?_
        refine T_region [] [ks 1, ks 7, ks 8, ks 31, kb 208] (fun _ => mixed) (l' := [ps 1 (flv u), ps 7 (iv ((Tu.ratio (Pi.between 5 0 4 l a o).1 (Pi.between 5 0 4 l a o).2.1).2.2)), ps 8 (.opt 208 0), ps 31 (bv (!(decide (((Tu.ratio (Pi.between 5 0 4 l a o).1 (Pi.between 5 0 4 l a o).2.1).2.2) = 0)))), pb 208 26 [(iv ((Tu.ratio (Pi.between 5 0 4 l a o).1 (Pi.between 5 0 4 l a o).2.1).1)), (iv ((Tu.ratio (Pi.between 5 0 4 l a o).1 (Pi.between 5 0 4 l a o).2.1).2.1))]]) (obs := []) (by kernel_rfl) (obs_nil) ?_
        by_cases h4 : ((Tu.ratio (Pi.between 5 0 4 l a o).1 (Pi.between 5 0 4 l a o).2.1).2.2) = 0
        · refine T_else (b := (!(decide (((Tu.ratio (Pi.between 5 0 4 l a o).1 (Pi.between 5 0 4 l a o).2.1).2.2) = 0)))) rfl (congrArg Bool.not (decide_eq_true h4)) ?_
          refine T_skip ?_
          refine T_seq ?_
          have hfx : fairB u = true := by rw [← fair_text, h1, h2]; rfl
          have hx := fair_nrm hx0 hfx
          have hrp := ratio_parts0 h4
          have htk := tem_ok hx hrp.1 hrp.2
          refine T_region [(4, .nat (mulR u (FloatKind.f64.nearest ((Tu.ratio (Pi.between 5 0 4 l a o).1 (Pi.between 5 0 4 l a o).2.1).1)))), (8, .nat (fdiv (mulR u (FloatKind.f64.nearest ((Tu.ratio (Pi.between 5 0 4 l a o).1 (Pi.between 5 0 4 l a o).2.1).1))) (FloatKind.f64.nearest ((Tu.ratio (Pi.between 5 0 4 l a o).1 (Pi.between 5 0 4 l a o).2.1).2.1))))] [ks 4, ks 5] (fun _ => mixed) (l' := [ps 4 (flv (fdiv (mulR u (FloatKind.f64.nearest ((Tu.ratio (Pi.between 5 0 4 l a o).1 (Pi.between 5 0 4 l a o).2.1).1))) (FloatKind.f64.nearest ((Tu.ratio (Pi.between 5 0 4 l a o).1 (Pi.between 5 0 4 l a o).2.1).2.1)))), ps 5 (iv 0)]) (obs := [FloatKind.f64.format.mul u (FloatKind.f64.nearest ((Tu.ratio (Pi.between 5 0 4 l a o).1 (Pi.between 5 0 4 l a o).2.1).1)) = some (mulR u (FloatKind.f64.nearest ((Tu.ratio (Pi.between 5 0 4 l a o).1 (Pi.between 5 0 4 l a o).2.1).1))), FloatKind.f64.format.div (mulR u (FloatKind.f64.nearest ((Tu.ratio (Pi.between 5 0 4 l a o).1 (Pi.between 5 0 4 l a o).2.1).1))) (FloatKind.f64.nearest ((Tu.ratio (Pi.between 5 0 4 l a o).1 (Pi.between 5 0 4 l a o).2.1).2.1)) = some (fdiv (mulR u (FloatKind.f64.nearest ((Tu.ratio (Pi.between 5 0 4 l a o).1 (Pi.between 5 0 4 l a o).2.1).1))) (FloatKind.f64.nearest ((Tu.ratio (Pi.between 5 0 4 l a o).1 (Pi.between 5 0 4 l a o).2.1).2.1)))]) (by kernel_rfl) (obs_cons htk.1 (obs_cons htk.2 (obs_nil))) ?_
          rw [show temS l a o u = (fdiv (mulR u (FloatKind.f64.nearest ((Tu.ratio (Pi.between 5 0 4 l a o).1 (Pi.between 5 0 4 l a o).2.1).1))) (FloatKind.f64.nearest ((Tu.ratio (Pi.between 5 0 4 l a o).1 (Pi.between 5 0 4 l a o).2.1).2.1)), 0) from by unfold temS; rw [if_pos (show fairB u = true by rw [← fair_text, h1, h2]; rfl), if_pos h3, if_pos h4]]
          exact T_ret fun cx_ a_ hI_ => ret_ok (H' := []) (.inr rfl) (Wk.ren2 [ps 4 (flv (fdiv (mulR u (FloatKind.f64.nearest ((Tu.ratio (Pi.between 5 0 4 l a o).1 (Pi.between 5 0 4 l a o).2.1).1))) (FloatKind.f64.nearest ((Tu.ratio (Pi.between 5 0 4 l a o).1 (Pi.between 5 0 4 l a o).2.1).2.1)))), ps 5 (iv 0)] 0 hc0 [] rfl rfl (by kernel_rfl) (by kernel_rfl)) rfl (obs_nil) (fun cx_ a_ hI_ => ret_res (l' := [ps 4 (flv (fdiv (mulR u (FloatKind.f64.nearest ((Tu.ratio (Pi.between 5 0 4 l a o).1 (Pi.between 5 0 4 l a o).2.1).1))) (FloatKind.f64.nearest ((Tu.ratio (Pi.between 5 0 4 l a o).1 (Pi.between 5 0 4 l a o).2.1).2.1)))), ps 5 (iv 0)]) (by kernel_rfl) cx_ a_ hI_) hI_
        · refine T_then (b := (!(decide (((Tu.ratio (Pi.between 5 0 4 l a o).1 (Pi.between 5 0 4 l a o).2.1).2.2) = 0)))) rfl (congrArg Bool.not (decide_eq_false h4)) ?_
          refine T_seq ?_
          refine T_region [] [ks 4, ks 5] (fun _ => mixed) (l' := [ps 4 (flv 0), ps 5 (iv ((Tu.ratio (Pi.between 5 0 4 l a o).1 (Pi.between 5 0 4 l a o).2.1).2.2))]) (obs := []) (by kernel_rfl) (obs_nil) ?_
          rw [show temS l a o u = (0, (Tu.ratio (Pi.between 5 0 4 l a o).1 (Pi.between 5 0 4 l a o).2.1).2.2) from by unfold temS; rw [if_pos (show fairB u = true by rw [← fair_text, h1, h2]; rfl), if_pos h3, if_neg h4]]
          exact T_ret fun cx_ a_ hI_ => ret_ok (H' := []) (.inr rfl) (Wk.ren2 [ps 4 (flv 0), ps 5 (iv ((Tu.ratio (Pi.between 5 0 4 l a o).1 (Pi.between 5 0 4 l a o).2.1).2.2))] 0 hc0 [] rfl rfl (by kernel_rfl) (by kernel_rfl)) rfl (obs_nil) (fun cx_ a_ hI_ => ret_res (l' := [ps 4 (flv 0), ps 5 (iv ((Tu.ratio (Pi.between 5 0 4 l a o).1 (Pi.between 5 0 4 l a o).2.1).2.2))]) (by kernel_rfl) cx_ a_ hI_) hI_
      · refine T_then (b := (!(decide (((Pi.between 5 0 4 l a o).2.2) = 0)))) rfl (congrArg Bool.not (decide_eq_false h3)) ?_
        refine T_seq ?_
        refine T_region [] [ks 4, ks 5] (fun _ => mixed) (l' := [ps 4 (flv 0), ps 5 (iv ((Pi.between 5 0 4 l a o).2.2))]) (obs := []) (by kernel_rfl) (obs_nil) ?_
        rw [show temS l a o u = (0, (Pi.between 5 0 4 l a o).2.2) from by unfold temS; rw [if_pos (show fairB u = true by rw [← fair_text, h1, h2]; rfl), if_neg h3]]
        exact T_ret fun cx_ a_ hI_ => ret_ok (H' := []) (.inr rfl) (Wk.ren2 [ps 4 (flv 0), ps 5 (iv ((Pi.between 5 0 4 l a o).2.2))] 0 hc0 [] rfl rfl (by kernel_rfl) (by kernel_rfl)) rfl (obs_nil) (fun cx_ a_ hI_ => ret_res (l' := [ps 4 (flv 0), ps 5 (iv ((Pi.between 5 0 4 l a o).2.2))]) (by kernel_rfl) cx_ a_ hI_) hI_
    · refine T_then (b := (!(FloatKind.f64.format.order u 4681608360884174848 == some .lt || FloatKind.f64.format.order u 4681608360884174848 == some .eq))) rfl (congrArg Bool.not (Bool.eq_false_iff.2 h2)) ?_
      refine T_seq ?_
      refine T_region [] [ks 4, ks 5] (fun _ => mixed) (l' := [ps 4 (flv 0), ps 5 (iv 3)]) (obs := []) (by kernel_rfl) (obs_nil) ?_
      rw [tem_unfair (fun e => by rw [← fair_text, Bool.and_eq_true] at e; exact h2 e.2)]
      exact T_ret fun cx_ a_ hI_ => ret_ok (H' := []) (.inr rfl) (Wk.ren2 [ps 4 (flv 0), ps 5 (iv 3)] 0 hc0 [] rfl rfl (by kernel_rfl) (by kernel_rfl)) rfl (obs_nil) (fun cx_ a_ hI_ => ret_res (l' := [ps 4 (flv 0), ps 5 (iv 3)]) (by kernel_rfl) cx_ a_ hI_) hI_
  · refine T_region [(3, .gd false .no), (4, .gd false .no), (5, .yes false)] [ks 1, ks 2, ks 15, kb 0] (fun _ => mixed) (l' := [ps 1 (flv u), ps 2 (.opt 0 0), ps 15 (bv true), pb 0 35 [(iv l), (iv a), (iv o)]]) (obs := [(FloatKind.f64.format.order u 4607182418800017408 == some .gt || FloatKind.f64.format.order u 4607182418800017408 == some .eq) = false, (FloatKind.f64.format.order u 4607182418800017408 == some .gt || FloatKind.f64.format.order u 4607182418800017408 == some .eq) = false, (FloatKind.f64.format.order u 4607182418800017408 == some .gt || FloatKind.f64.format.order u 4607182418800017408 == some .eq) = false]) (by kernel_rfl) (obs_cons (Bool.eq_false_iff.2 h1) (obs_cons (Bool.eq_false_iff.2 h1) (obs_cons (Bool.eq_false_iff.2 h1) (obs_nil)))) ?_
    refine T_then (b := true) rfl rfl ?_
    refine T_seq ?_
    refine T_region [] [ks 4, ks 5] (fun _ => mixed) (l' := [ps 4 (flv 0), ps 5 (iv 3)]) (obs := []) (by kernel_rfl) (obs_nil) ?_
    rw [tem_unfair (fun e => by rw [← fair_text, Bool.and_eq_true] at e; exact h1 e.1)]
    exact T_ret fun cx_ a_ hI_ => ret_ok (H' := []) (.inr rfl) (Wk.ren2 [ps 4 (flv 0), ps 5 (iv 3)] 0 hc0 [] rfl rfl (by kernel_rfl) (by kernel_rfl)) rfl (obs_nil) (fun cx_ a_ hI_ => ret_res (l' := [ps 4 (flv 0), ps 5 (iv 3)]) (by kernel_rfl) cx_ a_ hI_) hI_
set_option maxRecDepth 100000 in
set_option maxHeartbeats 4000000 in
theorem ref_tempered_pc (l a o : Int) (u : Nat) (hx0 : u < 18446744073709551616) (ha : Pi.I64 a) : PC Try.prog 17 [(.agg [(iv l), (iv a), (iv o)]), (flv u)] [] (.tup [(flv ((temS l a o u).1)), (iv ((temS l a o u).2))]) [] := by
  refine pc_intro Try.func17 rfl (by kernel_rfl) (Nat.le_of_ble_eq_true rfl) (by kernel_rfl) (l0 := [ps 0 (.agg [(iv l), (iv a), (iv o)]), ps 1 (flv u)]) rfl (fun c0 Bor hc0 => ?_)
  refine T_seq ?_
  refine T_region [] [ks 1, ks 2, kb 0] (fun _ => mixed) (l' := [ps 1 (flv u), ps 2 (.opt 0 0), pb 0 35 [(iv l), (iv a), (iv o)]]) (obs := []) (by kernel_rfl) (obs_nil) ?_
  refine T_seq ?_
  refine T_seq ?_
  refine T_region [(1, .call [] [(flv u)] [] (bv (fairB u)) [])] [ks 1, ks 2, ks 12, kb 0] (fun _ => mixed) (l' := [ps 1 (flv u), ps 2 (.opt 0 0), ps 12 (bv (!(fairB u))), pb 0 35 [(iv l), (iv a), (iv o)]]) (obs := [PC Try.prog 29 [(flv u)] [] (bv (fairB u)) [], [(flv u)] = renL (sigi [] 32) [(flv u)]]) (by kernel_rfl) (obs_cons (fair_pc u) (obs_cons rfl (obs_nil))) ?_
  by_cases h1 : (fairB u) = true
  · refine T_else (b := (!(fairB u))) rfl (congrArg Bool.not h1) ?_
    refine T_skip ?_
    refine T_seq ?_
    refine T_region [(2, .call [] [(.agg [(iv 5), (iv 0), (iv 4)]), (.agg [(iv l), (iv a), (iv o)])] [] (.tup [(.agg [(iv ((Pi.between 5 0 4 l a o).1)), (iv ((Pi.between 5 0 4 l a o).2.1))]), (iv ((Pi.between 5 0 4 l a o).2.2))]) [])] [ks 1, ks 6, ks 7, kb 96] (fun _ => mixed) (l' := [ps 1 (flv u), ps 6 (.opt 96 0), ps 7 (iv ((Pi.between 5 0 4 l a o).2.2)), pb 96 23 [(iv ((Pi.between 5 0 4 l a o).1)), (iv ((Pi.between 5 0 4 l a o).2.1))]]) (obs := [PC Try.prog 32 [(.agg [(iv 5), (iv 0), (iv 4)]), (.agg [(iv l), (iv a), (iv o)])] [] (.tup [(.agg [(iv ((Pi.between 5 0 4 l a o).1)), (iv ((Pi.between 5 0 4 l a o).2.1))]), (iv ((Pi.between 5 0 4 l a o).2.2))]) [], [(.agg [(iv 5), (iv 0), (iv 4)]), (.agg [(iv l), (iv a), (iv o)])] = renL (sigi [] 64) [(.agg [(iv 5), (iv 0), (iv 4)]), (.agg [(iv l), (iv a), (iv o)])]]) (by kernel_rfl) (obs_cons (ref_between_pc 5 0 4 l a o (by unfold Pi.I64; decide) ha) (obs_cons rfl (obs_nil))) ?_
    refine T_seq ?_
    refine T_seq ?_
    refine T_region [] [ks 1, ks 6, ks 7, ks 20, kb 96] (fun _ => mixed) (l' := [ps 1 (flv u), ps 6 (.opt 96 0), ps 7 (iv ((Pi.between 5 0 4 l a o).2.2)), ps 20 (bv (!(decide (((Pi.between 5 0 4 l a o).2.2) = 0)))), pb 96 23 [(iv ((Pi.between 5 0 4 l a o).1)), (iv ((Pi.between 5 0 4 l a o).2.1))]]) (obs := []) (by kernel_rfl) (obs_nil) ?_
    by_cases h2 : ((Pi.between 5 0 4 l a o).2.2) = 0
    · refine T_else (b := (!(decide (((Pi.between 5 0 4 l a o).2.2) = 0)))) rfl (congrArg Bool.not (decide_eq_true h2)) ?_
      refine T_skip ?_
      refine T_seq ?_
      refine T_region [(1, .call [] [(.agg [(iv ((Pi.between 5 0 4 l a o).1)), (iv ((Pi.between 5 0 4 l a o).2.1))])] [] (.tup [(.agg [(iv ((Tu.ratio (Pi.between 5 0 4 l a o).1 (Pi.between 5 0 4 l a o).2.1).1)), (iv ((Tu.ratio (Pi.between 5 0 4 l a o).1 (Pi.between 5 0 4 l a o).2.1).2.1))]), (iv ((Tu.ratio (Pi.between 5 0 4 l a o).1 (Pi.between 5 0 4 l a o).2.1).2.2))]) [])] [ks 1, ks 7, ks 8, kb 176] (fun _ => mixed) (l' := [ps 1 (flv u), ps 7 (iv ((Tu.ratio (Pi.between 5 0 4 l a o).1 (Pi.between 5 0 4 l a o).2.1).2.2)), ps 8 (.opt 176 0), pb 176 26 [(iv ((Tu.ratio (Pi.between 5 0 4 l a o).1 (Pi.between 5 0 4 l a o).2.1).1)), (iv ((Tu.ratio (Pi.between 5 0 4 l a o).1 (Pi.between 5 0 4 l a o).2.1).2.1))]]) (obs := [PC Try.prog 14 [(.agg [(iv ((Pi.between 5 0 4 l a o).1)), (iv ((Pi.between 5 0 4 l a o).2.1))])] [] (.tup [(.agg [(iv ((Tu.ratio (Pi.between 5 0 4 l a o).1 (Pi.between 5 0 4 l a o).2.1).1)), (iv ((Tu.ratio (Pi.between 5 0 4 l a o).1 (Pi.between 5 0 4 l a o).2.1).2.1))]), (iv ((Tu.ratio (Pi.between 5 0 4 l a o).1 (Pi.between 5 0 4 l a o).2.1).2.2))]) [], [(.agg [(iv ((Pi.between 5 0 4 l a o).1)), (iv ((Pi.between 5 0 4 l a o).2.1))])] = renL (sigi [] 144) [(.agg [(iv ((Pi.between 5 0 4 l a o).1)), (iv ((Pi.between 5 0 4 l a o).2.1))])]]) (by kernel_rfl) (obs_cons (ref_ratio_pc _ _) (obs_cons rfl (obs_nil))) ?_
      refine T_seq ?_
      refine T_seq ?_
      refine T_region [] [ks 1, ks 7, ks 8, ks 28, kb 176] (fun _ => mixed) (l' := [ps 1 (flv u), ps 7 (iv ((Tu.ratio (Pi.between 5 0 4 l a o).1 (Pi.between 5 0 4 l a o).2.1).2.2)), ps 8 (.opt 176 0), ps 28 (bv (!(decide (((Tu.ratio (Pi.between 5 0 4 l a o).1 (Pi.between 5 0 4 l a o).2.1).2.2) = 0)))), pb 176 26 [(iv ((Tu.ratio (Pi.between 5 0 4 l a o).1 (Pi.between 5 0 4 l a o).2.1).1)), (iv ((Tu.ratio (Pi.between 5 0 4 l a o).1 (Pi.between 5 0 4 l a o).2.1).2.1))]]) (obs := []) (by kernel_rfl) (obs_nil) ?_
      by_cases h3 : ((Tu.ratio (Pi.between 5 0 4 l a o).1 (Pi.between 5 0 4 l a o).2.1).2.2) = 0
      · refine T_else (b := (!(decide (((Tu.ratio (Pi.between 5 0 4 l a o).1 (Pi.between 5 0 4 l a o).2.1).2.2) = 0)))) rfl (congrArg Bool.not (decide_eq_true h3)) ?_
        refine T_skip ?_
        refine T_seq ?_
        have hfx := h1
        have hx := fair_nrm hx0 hfx
        have hrp := ratio_parts0 h3
        have htk := tem_ok hx hrp.1 hrp.2
        refine T_region [(4, .nat (mulR u (FloatKind.f64.nearest ((Tu.ratio (Pi.between 5 0 4 l a o).1 (Pi.between 5 0 4 l a o).2.1).1))))] [ks 8, ks 9, kb 176] (fun _ => mixed) (l' := [ps 8 (.opt 176 0), ps 9 (flv (mulR u (FloatKind.f64.nearest ((Tu.ratio (Pi.between 5 0 4 l a o).1 (Pi.between 5 0 4 l a o).2.1).1)))), pb 176 26 [(iv ((Tu.ratio (Pi.between 5 0 4 l a o).1 (Pi.between 5 0 4 l a o).2.1).1)), (iv ((Tu.ratio (Pi.between 5 0 4 l a o).1 (Pi.between 5 0 4 l a o).2.1).2.1))]]) (obs := [FloatKind.f64.format.mul u (FloatKind.f64.nearest ((Tu.ratio (Pi.between 5 0 4 l a o).1 (Pi.between 5 0 4 l a o).2.1).1)) = some (mulR u (FloatKind.f64.nearest ((Tu.ratio (Pi.between 5 0 4 l a o).1 (Pi.between 5 0 4 l a o).2.1).1)))]) (by kernel_rfl) (obs_cons htk.1 (obs_nil)) ?_
        refine T_seq ?_
        refine T_region [(4, .nat (fdiv (mulR u (FloatKind.f64.nearest ((Tu.ratio (Pi.between 5 0 4 l a o).1 (Pi.between 5 0 4 l a o).2.1).1))) (FloatKind.f64.nearest ((Tu.ratio (Pi.between 5 0 4 l a o).1 (Pi.between 5 0 4 l a o).2.1).2.1))))] [ks 4, ks 5] (fun _ => mixed) (l' := [ps 4 (flv (fdiv (mulR u (FloatKind.f64.nearest ((Tu.ratio (Pi.between 5 0 4 l a o).1 (Pi.between 5 0 4 l a o).2.1).1))) (FloatKind.f64.nearest ((Tu.ratio (Pi.between 5 0 4 l a o).1 (Pi.between 5 0 4 l a o).2.1).2.1)))), ps 5 (iv 0)]) (obs := [FloatKind.f64.format.div (mulR u (FloatKind.f64.nearest ((Tu.ratio (Pi.between 5 0 4 l a o).1 (Pi.between 5 0 4 l a o).2.1).1))) (FloatKind.f64.nearest ((Tu.ratio (Pi.between 5 0 4 l a o).1 (Pi.between 5 0 4 l a o).2.1).2.1)) = some (fdiv (mulR u (FloatKind.f64.nearest ((Tu.ratio (Pi.between 5 0 4 l a o).1 (Pi.between 5 0 4 l a o).2.1).1))) (FloatKind.f64.nearest ((Tu.ratio (Pi.between 5 0 4 l a o).1 (Pi.between 5 0 4 l a o).2.1).2.1)))]) (by kernel_rfl) (obs_cons htk.2 (obs_nil)) ?_
        rw [show temS l a o u = (fdiv (mulR u (FloatKind.f64.nearest ((Tu.ratio (Pi.between 5 0 4 l a o).1 (Pi.between 5 0 4 l a o).2.1).1))) (FloatKind.f64.nearest ((Tu.ratio (Pi.between 5 0 4 l a o).1 (Pi.between 5 0 4 l a o).2.1).2.1)), 0) from by unfold temS; rw [if_pos h1, if_pos h2, if_pos h3]]
        exact T_ret fun cx_ a_ hI_ => ret_ok (H' := []) (.inr rfl) (Wk.ren2 [ps 4 (flv (fdiv (mulR u (FloatKind.f64.nearest ((Tu.ratio (Pi.between 5 0 4 l a o).1 (Pi.between 5 0 4 l a o).2.1).1))) (FloatKind.f64.nearest ((Tu.ratio (Pi.between 5 0 4 l a o).1 (Pi.between 5 0 4 l a o).2.1).2.1)))), ps 5 (iv 0)] 0 hc0 [] rfl rfl (by kernel_rfl) (by kernel_rfl)) rfl (obs_nil) (fun cx_ a_ hI_ => ret_res (l' := [ps 4 (flv (fdiv (mulR u (FloatKind.f64.nearest ((Tu.ratio (Pi.between 5 0 4 l a o).1 (Pi.between 5 0 4 l a o).2.1).1))) (FloatKind.f64.nearest ((Tu.ratio (Pi.between 5 0 4 l a o).1 (Pi.between 5 0 4 l a o).2.1).2.1)))), ps 5 (iv 0)]) (by kernel_rfl) cx_ a_ hI_) hI_
      · refine T_then (b := (!(decide (((Tu.ratio (Pi.between 5 0 4 l a o).1 (Pi.between 5 0 4 l a o).2.1).2.2) = 0)))) rfl (congrArg Bool.not (decide_eq_false h3)) ?_
        refine T_seq ?_
        refine T_region [] [ks 4, ks 5] (fun _ => mixed) (l' := [ps 4 (flv 0), ps 5 (iv ((Tu.ratio (Pi.between 5 0 4 l a o).1 (Pi.between 5 0 4 l a o).2.1).2.2))]) (obs := []) (by kernel_rfl) (obs_nil) ?_
        rw [show temS l a o u = (0, (Tu.ratio (Pi.between 5 0 4 l a o).1 (Pi.between 5 0 4 l a o).2.1).2.2) from by unfold temS; rw [if_pos h1, if_pos h2, if_neg h3]]
        exact T_ret fun cx_ a_ hI_ => ret_ok (H' := []) (.inr rfl) (Wk.ren2 [ps 4 (flv 0), ps 5 (iv ((Tu.ratio (Pi.between 5 0 4 l a o).1 (Pi.between 5 0 4 l a o).2.1).2.2))] 0 hc0 [] rfl rfl (by kernel_rfl) (by kernel_rfl)) rfl (obs_nil) (fun cx_ a_ hI_ => ret_res (l' := [ps 4 (flv 0), ps 5 (iv ((Tu.ratio (Pi.between 5 0 4 l a o).1 (Pi.between 5 0 4 l a o).2.1).2.2))]) (by kernel_rfl) cx_ a_ hI_) hI_
    · refine T_then (b := (!(decide (((Pi.between 5 0 4 l a o).2.2) = 0)))) rfl (congrArg Bool.not (decide_eq_false h2)) ?_
      refine T_seq ?_
      refine T_region [] [ks 4, ks 5] (fun _ => mixed) (l' := [ps 4 (flv 0), ps 5 (iv ((Pi.between 5 0 4 l a o).2.2))]) (obs := []) (by kernel_rfl) (obs_nil) ?_
      rw [show temS l a o u = (0, (Pi.between 5 0 4 l a o).2.2) from by unfold temS; rw [if_pos h1, if_neg h2]]
      exact T_ret fun cx_ a_ hI_ => ret_ok (H' := []) (.inr rfl) (Wk.ren2 [ps 4 (flv 0), ps 5 (iv ((Pi.between 5 0 4 l a o).2.2))] 0 hc0 [] rfl rfl (by kernel_rfl) (by kernel_rfl)) rfl (obs_nil) (fun cx_ a_ hI_ => ret_res (l' := [ps 4 (flv 0), ps 5 (iv ((Pi.between 5 0 4 l a o).2.2))]) (by kernel_rfl) cx_ a_ hI_) hI_
  · refine T_then (b := (!(fairB u))) rfl (congrArg Bool.not (Bool.eq_false_iff.2 h1)) ?_
    refine T_seq ?_
    refine T_region [] [ks 4, ks 5] (fun _ => mixed) (l' := [ps 4 (flv 0), ps 5 (iv 3)]) (obs := []) (by kernel_rfl) (obs_nil) ?_
    rw [tem_unfair h1]
    exact T_ret fun cx_ a_ hI_ => ret_ok (H' := []) (.inr rfl) (Wk.ren2 [ps 4 (flv 0), ps 5 (iv 3)] 0 hc0 [] rfl rfl (by kernel_rfl) (by kernel_rfl)) rfl (obs_nil) (fun cx_ a_ hI_ => ret_res (l' := [ps 4 (flv 0), ps 5 (iv 3)]) (by kernel_rfl) cx_ a_ hI_) hI_
end Go.Proofs.Ytdboencinnlebaa.Pm
