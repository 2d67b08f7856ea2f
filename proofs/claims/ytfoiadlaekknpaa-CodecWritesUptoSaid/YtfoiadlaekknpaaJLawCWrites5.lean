/-
  The document's answer: Encode. (Printed by wip/pm.) | The document's answer: reading numbers. (Printed by wip/pm.) | The document's answer: small readers. (Printed by wip/pm.) | What is read and written again is not longer: in plain Lean. | The document's way of reading, in plain Lean.
-/
import Derived.Test.YtfoiadlaekknpaaJLawCWrites4
namespace Go.Proofs.Ytfoiadlaekknpaa.Pm
open Go Co

attribute [local irreducible] packN byteP packS bitsOf encTo eb bestTo enc encBits frameBits long fr
set_option maxRecDepth 100000 in
set_option maxHeartbeats 4000000 in
theorem ref_encode_pc (l : List Int) (hl : l.length ≤ 1048576) : PC Try.prog 9 [(.ssl (ints l) 0 l.length)] [] (.tup [(sv ((enc l).1)), (iv ((enc l).2))]) [] := by
  refine pc_intro Try.func9 rfl (by kernel_rfl) (Nat.le_of_ble_eq_true rfl) (by kernel_rfl) (l0 := [ps 0 (.ssl (ints l) 0 l.length)]) rfl (fun c0 Bor hc0 => ?_)
  refine T_seq ?_
  refine T_region [] [ks 0] (fun _ => mixed) (l' := [ps 0 (.ssl (ints l) 0 l.length)]) (obs := []) (by kernel_rfl) (obs_nil) ?_
  refine T_seq ?_
  refine T_seq ?_
  refine T_region [] [ks 0, ks 15] (fun _ => mixed) (l' := [ps 0 (.ssl (ints l) 0 l.length), ps 15 (bv (decide (1048576 < ((l.length : Nat) : Int))))]) (obs := []) (by kernel_rfl) (obs_nil) ?_
  by_cases h1 : 1048576 < ((l.length : Nat) : Int)
  · exfalso; omega
  · refine T_else (b := (decide (1048576 < ((l.length : Nat) : Int)))) rfl (decide_eq_false h1) ?_
    refine T_skip ?_
    refine T_seq ?_
    refine T_seq ?_
    refine T_region [] [ks 0, ks 16, ks 17, ks 18] (fun _ => mixed) (l' := [ps 0 (.ssl (ints l) 0 l.length), ps 16 (.ssl (ints l) 0 l.length), ps 17 (iv ((l.length : Nat) : Int)), ps 18 (iv 0)]) (obs := []) (by kernel_rfl) (obs_nil) ?_
    refine T_block ?_
    refine T_loop (α := {x : Nat // x ≤ l.length ∧ ((∀ j, j < x → -32768 ≤ l.getD j 0 ∧ l.getD j 0 ≤ 32767))}) (fun x => [ps 0 (.ssl (ints l) 0 l.length), ps 16 (.ssl (ints l) 0 l.length), ps 17 (iv ((l.length : Nat) : Int)), ps 18 (iv ((x.1 : Nat) : Int))]) (fun x => l.length - x.1) 0 ⟨0, ⟨Nat.zero_le _, fun j hj => absurd hj (Nat.not_lt_zero j)⟩⟩ (Wk.ren2 [ps 0 (.ssl (ints l) 0 l.length), ps 16 (.ssl (ints l) 0 l.length), ps 17 (iv ((l.length : Nat) : Int)), ps 18 (iv ((0 : Nat) : Int))] 0 hc0 [] rfl rfl (by kernel_rfl) (by kernel_rfl)) ?_
    rintro ⟨i, ⟨hi, hx⟩⟩
    refine T_seq ?_
    refine T_region [] [ks 0, ks 16, ks 17, ks 18, ks 19] (fun _ => mixed) (l' := [ps 0 (.ssl (ints l) 0 l.length), ps 16 (.ssl (ints l) 0 l.length), ps 17 (iv ((l.length : Nat) : Int)), ps 18 (iv ((i : Nat) : Int)), ps 19 (bv (decide (((i : Nat) : Int) < ((l.length : Nat) : Int))))]) (obs := []) (by kernel_rfl) (obs_nil) ?_
    refine T_seq ?_
    by_cases h2 : ((i : Nat) : Int) < ((l.length : Nat) : Int)
    · refine T_then (b := (decide (((i : Nat) : Int) < ((l.length : Nat) : Int)))) rfl (decide_eq_true h2) ?_
      refine T_skip ?_
      refine T_seq ?_
      refine T_block ?_
      refine T_seq ?_
      refine T_region [(0, .nat i), (1, .val (iv (l.getD i 0)))] [ks 0, ks 5, ks 16, ks 17, ks 18] (fun _ => mixed) (l' := [ps 0 (.ssl (ints l) 0 l.length), ps 5 (iv (l.getD i 0)), ps 16 (.ssl (ints l) 0 l.length), ps 17 (iv ((l.length : Nat) : Int)), ps 18 (iv ((i : Nat) : Int))]) (obs := [(0 : Int) ≤ ((i : Nat) : Int) ∧ ((i : Nat) : Int) < ((l.length : Nat) : Int), 0 + (((i : Nat) : Int) : Int).toNat * 1 = i, i + 1 ≤ ((ints l)).length ∧ (((ints l)).drop i).take 1 = [(iv (l.getD i 0))]]) (by kernel_rfl) (obs_cons (p := (0 : Int) ≤ ((i : Nat) : Int) ∧ ((i : Nat) : Int) < ((l.length : Nat) : Int)) (by omega) (obs_cons (p := 0 + (((i : Nat) : Int) : Int).toNat * 1 = i) (by omega) (obs_cons (p := i + 1 ≤ ((ints l)).length ∧ (((ints l)).drop i).take 1 = [(iv (l.getD i 0))]) (ints_at (by omega)) (obs_nil)))) ?_
      refine T_seq ?_
      by_cases h3 : (l.getD i 0) < (-32768)
      · refine T_region [(3, .gd true .no), (4, .gd true .no), (5, .yes true)] [ks 0, ks 16, ks 17, ks 18, ks 27] (fun _ => mixed) (l' := [ps 0 (.ssl (ints l) 0 l.length), ps 16 (.ssl (ints l) 0 l.length), ps 17 (iv ((l.length : Nat) : Int)), ps 18 (iv ((i : Nat) : Int)), ps 27 (bv true)]) (obs := [(decide ((l.getD i 0) < (-32768))) = true, (decide ((l.getD i 0) < (-32768))) = true, (decide ((l.getD i 0) < (-32768))) = true]) (by kernel_rfl) (obs_cons (p := (decide ((l.getD i 0) < (-32768))) = true) (decide_eq_true h3) (obs_cons (p := (decide ((l.getD i 0) < (-32768))) = true) (decide_eq_true h3) (obs_cons (p := (decide ((l.getD i 0) < (-32768))) = true) (decide_eq_true h3) (obs_nil)))) ?_
        refine T_then (b := true) rfl rfl ?_
        refine T_seq ?_
        refine T_region [] [ks 2, ks 3] (fun _ => mixed) (l' := [ps 2 (sv (⟨#[]⟩ : ByteArray)), ps 3 (iv 3)]) (obs := []) (by kernel_rfl) (obs_nil) ?_
        rw [enc_bad hl (show i < l.length by omega) (by omega)]
        exact T_ret fun cx_ a_ hI_ => loop_ret (ret_ok (H' := []) (.inr rfl) (Wk.ren2 [ps 2 (sv (⟨#[]⟩ : ByteArray)), ps 3 (iv 3)] 0 hc0 [] rfl rfl (by kernel_rfl) (by kernel_rfl)) rfl (obs_nil) (fun cx_ a_ hI_ => ret_res (l' := [ps 2 (sv (⟨#[]⟩ : ByteArray)), ps 3 (iv 3)]) (by kernel_rfl) cx_ a_ hI_) hI_)
      · refine T_region [(3, .gd false (.no)), (4, .gd false (.no)), (5, .yes false)] [ks 0, ks 16, ks 17, ks 18, ks 27] (fun _ => mixed) (l' := [ps 0 (.ssl (ints l) 0 l.length), ps 16 (.ssl (ints l) 0 l.length), ps 17 (iv ((l.length : Nat) : Int)), ps 18 (iv ((i : Nat) : Int)), ps 27 (bv (decide (32767 < (l.getD i 0))))]) (obs := [(decide ((l.getD i 0) < (-32768))) = false, (decide ((l.getD i 0) < (-32768))) = false, (decide ((l.getD i 0) < (-32768))) = false]) (by kernel_rfl) (obs_cons (p := (decide ((l.getD i 0) < (-32768))) = false) (decide_eq_false h3) (obs_cons (p := (decide ((l.getD i 0) < (-32768))) = false) (decide_eq_false h3) (obs_cons (p := (decide ((l.getD i 0) < (-32768))) = false) (decide_eq_false h3) (obs_nil)))) ?_
        by_cases h4 : 32767 < (l.getD i 0)
        · refine T_then (b := (decide (32767 < (l.getD i 0)))) rfl (decide_eq_true h4) ?_
          refine T_seq ?_
          refine T_region [] [ks 2, ks 3] (fun _ => mixed) (l' := [ps 2 (sv (⟨#[]⟩ : ByteArray)), ps 3 (iv 3)]) (obs := []) (by kernel_rfl) (obs_nil) ?_
          rw [enc_bad hl (show i < l.length by omega) (by omega)]
          exact T_ret fun cx_ a_ hI_ => loop_ret (ret_ok (H' := []) (.inr rfl) (Wk.ren2 [ps 2 (sv (⟨#[]⟩ : ByteArray)), ps 3 (iv 3)] 0 hc0 [] rfl rfl (by kernel_rfl) (by kernel_rfl)) rfl (obs_nil) (fun cx_ a_ hI_ => ret_res (l' := [ps 2 (sv (⟨#[]⟩ : ByteArray)), ps 3 (iv 3)]) (by kernel_rfl) cx_ a_ hI_) hI_)
        · refine T_else (b := (decide (32767 < (l.getD i 0)))) rfl (decide_eq_false h4) ?_
          refine T_skip ?_
          refine T_blk ?_
          refine T_region [] [ks 0, ks 16, ks 17, ks 18] (fun _ => mixed) (l' := [ps 0 (.ssl (ints l) 0 l.length), ps 16 (.ssl (ints l) 0 l.length), ps 17 (iv ((l.length : Nat) : Int)), ps 18 (iv (((i : Nat) : Int) + 1))]) (obs := [InK .i64 (((i : Nat) : Int) + 1)]) (by kernel_rfl) (obs_cons (p := InK .i64 (((i : Nat) : Int) + 1)) (by simp only [InK]; omega) (obs_nil)) ?_
          have hx2 : ∀ j, j < i + 1 → -32768 ≤ l.getD j 0 ∧ l.getD j 0 ≤ 32767 := fun j hj => by rcases Nat.lt_or_ge j i with h9 | h9; exact hx j h9; rw [show j = i by omega]; omega
          exact T_back ⟨i + 1, ⟨by omega, hx2⟩⟩ (Wk.ren2 [ps 0 (.ssl (ints l) 0 l.length), ps 16 (.ssl (ints l) 0 l.length), ps 17 (iv ((l.length : Nat) : Int)), ps 18 (iv (((i + 1) : Nat) : Int))] 0 hc0 [] rfl rfl (by kernel_rfl) (by kernel_rfl)) (show l.length - (i + 1) < l.length - i from by show l.length - (i + 1) < l.length - i; omega)
    · refine T_else (b := (decide (((i : Nat) : Int) < ((l.length : Nat) : Int)))) rfl (decide_eq_false h2) ?_
      refine T_break rfl rfl ?_
      refine T_seq ?_
      have hs : Small l := small_of (fun j hj => hx j (by omega))
      refine T_region [(2, .call [] [(iv ((l.length : Nat) : Int)), (iv 24)] [] (.osl 0 0 ((bI (bitsOf ((l.length : Nat) : Int) 24)).length)) [some (3, (ints (bI (bitsOf ((l.length : Nat) : Int) 24))))])] [ks 0, ks 6, kb 24] (fun _ => mixed) (l' := [ps 0 (.ssl (ints l) 0 l.length), ps 6 (.osl 24 0 ((bI (bitsOf ((l.length : Nat) : Int) 24)).length)), pb 24 3 (renL (sigo [] 24) (ints (bI (bitsOf ((l.length : Nat) : Int) 24))))]) (obs := [PC Try.prog 17 [(iv ((l.length : Nat) : Int)), (iv 24)] [] (.osl 0 0 ((bI (bitsOf ((l.length : Nat) : Int) 24)).length)) [some (3, (ints (bI (bitsOf ((l.length : Nat) : Int) 24))))], [(iv ((l.length : Nat) : Int)), (iv 24)] = renL (sigi [] 24) [(iv ((l.length : Nat) : Int)), (iv 24)]]) (by kernel_rfl) (obs_cons (p := PC Try.prog 17 [(iv ((l.length : Nat) : Int)), (iv 24)] [] (.osl 0 0 ((bI (bitsOf ((l.length : Nat) : Int) 24)).length)) [some (3, (ints (bI (bitsOf ((l.length : Nat) : Int) 24))))]) (bits_as2 ((l.length : Nat) : Int) (by omega) (by omega) 24 (by omega)) (obs_cons (p := [(iv ((l.length : Nat) : Int)), (iv 24)] = renL (sigi [] 24) [(iv ((l.length : Nat) : Int)), (iv 24)]) rfl (obs_nil))) ?_
      refine T_wk (Wk.eq (show [ps 0 (.ssl (ints l) 0 l.length), ps 6 (.osl 24 0 ((bI (bitsOf ((l.length : Nat) : Int) 24)).length)), pb 24 3 (renL (sigo [] 24) (ints (bI (bitsOf ((l.length : Nat) : Int) 24))))] = [ps 0 (.ssl (ints l) 0 l.length), ps 6 (.osl 24 0 ((bI (bitsOf ((l.length : Nat) : Int) 24)).length)), pb 24 3 (ints (bI (bitsOf ((l.length : Nat) : Int) 24)))] from by simp only [renL_shd (ints_shd _)])) ?_
      refine T_seq ?_
      refine T_seq ?_
      refine T_region [] [ks 0, ks 6, ks 7, kb 24] (fun _ => mixed) (l' := [ps 0 (.ssl (ints l) 0 l.length), ps 6 (.osl 24 0 ((bI (bitsOf ((l.length : Nat) : Int) 24)).length)), ps 7 (iv 0), pb 24 3 (ints (bI (bitsOf ((l.length : Nat) : Int) 24)))]) (obs := []) (by kernel_rfl) (obs_nil) ?_
      refine T_block ?_
      refine T_wk (Wk.eq (show [ps 0 (.ssl (ints l) 0 l.length), ps 6 (.osl 24 0 ((bI (bitsOf ((l.length : Nat) : Int) 24)).length)), ps 7 (iv 0), pb 24 3 (ints (bI (bitsOf ((l.length : Nat) : Int) 24)))] = [ps 0 (.ssl (ints l) 0 l.length), ps 6 (.osl 24 0 ((bI (eb l 0)).length)), ps 7 (iv ((256 * 0 : Nat) : Int)), pb 24 3 (ints (bI (eb l 0)))] from by rw [eb_zero]; rfl)) ?_
      refine T_loop (α := {x : Nat // 256 * x ≤ l.length + 255}) (fun x => [ps 0 (.ssl (ints l) 0 l.length), ps 6 (.osl 0 0 ((bI (eb l x.1)).length)), ps 7 (iv ((256 * x.1 : Nat) : Int)), pb 0 3 (ints (bI (eb l x.1)))]) (fun x => l.length + 256 - 256 * x.1) 1 ⟨0, by show 256 * 0 ≤ l.length + 255; omega⟩ (Wk.ren3 [ps 0 (.ssl (ints l) 0 l.length), ps 6 (.osl 0 0 ((bI (eb l 0)).length)), ps 7 (iv ((256 * 0 : Nat) : Int)), pb 0 3 (ints (bI (eb l 0)))] 0 hc0 [24] [(kb 0, (ints (bI (eb l 0))))] (obs_cons (ints_shd _) (obs_nil)) (by kernel_rfl) rfl rfl (by kernel_rfl) (by kernel_rfl)) ?_
      rintro ⟨t, ht⟩
      refine T_seq ?_
      refine T_seq ?_
      refine T_region [] [ks 0, ks 6, ks 7, ks 35, kb 0] (fun _ => mixed) (l' := [ps 0 (.ssl (ints l) 0 l.length), ps 6 (.osl 0 0 ((bI (eb l t)).length)), ps 7 (iv ((256 * t : Nat) : Int)), ps 35 (bv (decide (((256 * t : Nat) : Int) < ((l.length : Nat) : Int)))), pb 0 3 (ints (bI (eb l t)))]) (obs := []) (by kernel_rfl) (obs_nil) ?_
      by_cases h5 : ((256 * t : Nat) : Int) < ((l.length : Nat) : Int)
      · refine T_then (b := (decide (((256 * t : Nat) : Int) < ((l.length : Nat) : Int)))) rfl (decide_eq_true h5) ?_
        refine T_skip ?_
        refine T_seq ?_
        refine T_block ?_
        refine T_seq ?_
        refine T_region [(2, .nat2 (256 * t) (l.length - (256 * t)))] [ks 0, ks 6, ks 7, ks 8, kb 0] (fun _ => mixed) (l' := [ps 0 (.ssl (ints l) 0 l.length), ps 6 (.osl 0 0 ((bI (eb l t)).length)), ps 7 (iv ((256 * t : Nat) : Int)), ps 8 (.ssl (ints l) (256 * t) (l.length - (256 * t))), pb 0 3 (ints (bI (eb l t)))]) (obs := [(0 : Int) ≤ ((256 * t : Nat) : Int) ∧ ((256 * t : Nat) : Int) ≤ ((l.length : Nat) : Int) ∧ ((l.length : Nat) : Int) ≤ ((l.length : Nat) : Int) ∧ ((l.length : Nat) : Int) ≤ ((l.length : Nat) : Int), 0 + (((256 * t : Nat) : Int) : Int).toNat * 1 = (256 * t) ∧ (((l.length : Nat) : Int) : Int).toNat - (((256 * t : Nat) : Int) : Int).toNat = l.length - (256 * t)]) (by kernel_rfl) (obs_cons (p := (0 : Int) ≤ ((256 * t : Nat) : Int) ∧ ((256 * t : Nat) : Int) ≤ ((l.length : Nat) : Int) ∧ ((l.length : Nat) : Int) ≤ ((l.length : Nat) : Int) ∧ ((l.length : Nat) : Int) ≤ ((l.length : Nat) : Int)) (by omega) (obs_cons (p := 0 + (((256 * t : Nat) : Int) : Int).toNat * 1 = (256 * t) ∧ (((l.length : Nat) : Int) : Int).toNat - (((256 * t : Nat) : Int) : Int).toNat = l.length - (256 * t)) (by omega) (obs_nil))) ?_
        refine T_seq ?_
        refine T_seq ?_
        refine T_region [] [ks 0, ks 6, ks 7, ks 8, ks 43, kb 0] (fun _ => mixed) (l' := [ps 0 (.ssl (ints l) 0 l.length), ps 6 (.osl 0 0 ((bI (eb l t)).length)), ps 7 (iv ((256 * t : Nat) : Int)), ps 8 (.ssl (ints l) (256 * t) (l.length - (256 * t))), ps 43 (bv (decide (256 < ((l.length - (256 * t) : Nat) : Int)))), pb 0 3 (ints (bI (eb l t)))]) (obs := []) (by kernel_rfl) (obs_nil) ?_
        by_cases h6 : 256 < ((l.length - (256 * t) : Nat) : Int)
        · refine T_then (b := (decide (256 < ((l.length - (256 * t) : Nat) : Int)))) rfl (decide_eq_true h6) ?_
          refine T_region [(1, .nat2 (256 * t) 256)] [ks 0, ks 6, ks 7, ks 8, kb 0] (fun _ => mixed) (l' := [ps 0 (.ssl (ints l) 0 l.length), ps 6 (.osl 0 0 ((bI (eb l t)).length)), ps 7 (iv ((256 * t : Nat) : Int)), ps 8 (.ssl (ints l) (256 * t) 256), pb 0 3 (ints (bI (eb l t)))]) (obs := [(0 : Int) ≤ (0 : Int) ∧ (0 : Int) ≤ (256 : Int) ∧ (256 : Int) ≤ (256 : Int) ∧ (256 : Int) ≤ ((l.length - (256 * t) : Nat) : Int), (256 * t) + ((0 : Int) : Int).toNat * 1 = (256 * t) ∧ ((256 : Int) : Int).toNat - ((0 : Int) : Int).toNat = 256]) (by kernel_rfl) (obs_cons (p := (0 : Int) ≤ (0 : Int) ∧ (0 : Int) ≤ (256 : Int) ∧ (256 : Int) ≤ (256 : Int) ∧ (256 : Int) ≤ ((l.length - (256 * t) : Nat) : Int)) (by omega) (obs_cons (p := (256 * t) + ((0 : Int) : Int).toNat * 1 = (256 * t) ∧ ((256 : Int) : Int).toNat - ((0 : Int) : Int).toNat = 256) (by omega) (obs_nil))) ?_
          refine T_seq ?_
          have hfl := fr_length l t
          have hg : (fr l t).length ≤ 256 := by omega
          have hsg := hs.frame t
          refine T_wk (Wk.slot 8 (.ssl (ints l) (256 * t) 256) (.ssl (ints (fr l t)) 0 ((fr l t).length)) (by kernel_rfl) (cut_fr (by omega) (by omega))) ?_
          refine T_wk (Wk.less (l' := [ps 0 (.ssl (ints l) 0 l.length), ps 6 (.osl 0 0 ((bI (eb l t)).length)), ps 7 (iv ((256 * t : Nat) : Int)), ps 8 (.ssl (ints (fr l t)) 0 ((fr l t).length)), pb 0 3 (ints (bI (eb l t)))]) 113 (by kernel_rfl) (by kernel_rfl)) ?_
          refine T_region [] [ks 0, ks 6, ks 7, ks 8, ks 9, ks 10, kb 0] (fun _ => mixed) (l' := [ps 0 (.ssl (ints l) 0 l.length), ps 6 (.osl 0 0 ((bI (eb l t)).length)), ps 7 (iv ((256 * t : Nat) : Int)), ps 8 (.ssl (ints (fr l t)) 0 ((fr l t).length)), ps 9 (iv 0), ps 10 (iv 0), pb 0 3 (ints (bI (eb l t)))]) (obs := []) (by kernel_rfl) (obs_nil) ?_
          refine T_seq ?_
          refine T_seq ?_
          refine T_region [] [ks 0, ks 6, ks 7, ks 8, ks 9, ks 10, ks 11, kb 0] (fun _ => mixed) (l' := [ps 0 (.ssl (ints l) 0 l.length), ps 6 (.osl 0 0 ((bI (eb l t)).length)), ps 7 (iv ((256 * t : Nat) : Int)), ps 8 (.ssl (ints (fr l t)) 0 ((fr l t).length)), ps 9 (iv 0), ps 10 (iv 0), ps 11 (iv 0), pb 0 3 (ints (bI (eb l t)))]) (obs := []) (by kernel_rfl) (obs_nil) ?_
          refine T_block ?_
          refine T_wk (Wk.eq (show [ps 0 (.ssl (ints l) 0 l.length), ps 6 (.osl 0 0 ((bI (eb l t)).length)), ps 7 (iv ((256 * t : Nat) : Int)), ps 8 (.ssl (ints (fr l t)) 0 ((fr l t).length)), ps 9 (iv 0), ps 10 (iv 0), ps 11 (iv 0), pb 0 3 (ints (bI (eb l t)))] = [ps 0 (.ssl (ints l) 0 l.length), ps 6 (.osl 0 0 ((bI (eb l t)).length)), ps 7 (iv ((256 * t : Nat) : Int)), ps 8 (.ssl (ints (fr l t)) 0 ((fr l t).length)), ps 9 (iv (((bestTo (fr l t) (16 * 0)).2.1 : Nat) : Int)), ps 10 (iv (((bestTo (fr l t) (16 * 0)).2.2 : Nat) : Int)), ps 11 (iv ((0 : Nat) : Int)), pb 0 3 (ints (bI (eb l t)))] from by rw [show bestTo (fr l t) (16 * 0) = (-1, 0, 0) from by unfold bestTo; rfl]; rfl)) ?_
          refine T_loop (α := {x : Nat // x ≤ 4}) (fun x => [ps 0 (.ssl (ints l) 0 l.length), ps 6 (.osl 0 0 ((bI (eb l t)).length)), ps 7 (iv ((256 * t : Nat) : Int)), ps 8 (.ssl (ints (fr l t)) 0 ((fr l t).length)), ps 9 (iv (((bestTo (fr l t) (16 * x.1)).2.1 : Nat) : Int)), ps 10 (iv (((bestTo (fr l t) (16 * x.1)).2.2 : Nat) : Int)), ps 11 (iv ((x.1 : Nat) : Int)), pb 0 3 (ints (bI (eb l t)))]) (fun x => 4 - x.1) 1 ⟨0, Nat.zero_le _⟩ (Wk.ren3 [ps 0 (.ssl (ints l) 0 l.length), ps 6 (.osl 0 0 ((bI (eb l t)).length)), ps 7 (iv ((256 * t : Nat) : Int)), ps 8 (.ssl (ints (fr l t)) 0 ((fr l t).length)), ps 9 (iv (((bestTo (fr l t) (16 * 0)).2.1 : Nat) : Int)), ps 10 (iv (((bestTo (fr l t) (16 * 0)).2.2 : Nat) : Int)), ps 11 (iv ((0 : Nat) : Int)), pb 0 3 (ints (bI (eb l t)))] 0 hc0 [0] [(kb 0, (ints (bI (eb l t))))] (obs_cons (ints_shd _) (obs_nil)) (by kernel_rfl) rfl rfl (by kernel_rfl) (by kernel_rfl)) ?_
          rintro ⟨a, ha⟩
          refine T_seq ?_
          refine T_seq ?_
          refine T_region [] [ks 0, ks 6, ks 7, ks 8, ks 9, ks 10, ks 11, ks 47, kb 0] (fun _ => mixed) (l' := [ps 0 (.ssl (ints l) 0 l.length), ps 6 (.osl 0 0 ((bI (eb l t)).length)), ps 7 (iv ((256 * t : Nat) : Int)), ps 8 (.ssl (ints (fr l t)) 0 ((fr l t).length)), ps 9 (iv (((bestTo (fr l t) (16 * a)).2.1 : Nat) : Int)), ps 10 (iv (((bestTo (fr l t) (16 * a)).2.2 : Nat) : Int)), ps 11 (iv ((a : Nat) : Int)), ps 47 (bv (decide (((a : Nat) : Int) < 4))), pb 0 3 (ints (bI (eb l t)))]) (obs := []) (by kernel_rfl) (obs_nil) ?_
          by_cases h7 : ((a : Nat) : Int) < 4
          · refine T_then (b := (decide (((a : Nat) : Int) < 4))) rfl (decide_eq_true h7) ?_
            refine T_skip ?_
            refine T_seq ?_
            refine T_block ?_
            refine T_seq ?_
            refine T_region [] [ks 0, ks 6, ks 7, ks 8, ks 9, ks 10, ks 11, ks 12, kb 0] (fun _ => mixed) (l' := [ps 0 (.ssl (ints l) 0 l.length), ps 6 (.osl 0 0 ((bI (eb l t)).length)), ps 7 (iv ((256 * t : Nat) : Int)), ps 8 (.ssl (ints (fr l t)) 0 ((fr l t).length)), ps 9 (iv (((bestTo (fr l t) (16 * a)).2.1 : Nat) : Int)), ps 10 (iv (((bestTo (fr l t) (16 * a)).2.2 : Nat) : Int)), ps 11 (iv ((a : Nat) : Int)), ps 12 (iv 0), pb 0 3 (ints (bI (eb l t)))]) (obs := []) (by kernel_rfl) (obs_nil) ?_
            refine T_block ?_
            refine T_wk (Wk.eq (show [ps 0 (.ssl (ints l) 0 l.length), ps 6 (.osl 0 0 ((bI (eb l t)).length)), ps 7 (iv ((256 * t : Nat) : Int)), ps 8 (.ssl (ints (fr l t)) 0 ((fr l t).length)), ps 9 (iv (((bestTo (fr l t) (16 * a)).2.1 : Nat) : Int)), ps 10 (iv (((bestTo (fr l t) (16 * a)).2.2 : Nat) : Int)), ps 11 (iv ((a : Nat) : Int)), ps 12 (iv 0), pb 0 3 (ints (bI (eb l t)))] = [ps 0 (.ssl (ints l) 0 l.length), ps 6 (.osl 0 0 ((bI (eb l t)).length)), ps 7 (iv ((256 * t : Nat) : Int)), ps 8 (.ssl (ints (fr l t)) 0 ((fr l t).length)), ps 9 (iv (((bestTo (fr l t) (16 * a + 0)).2.1 : Nat) : Int)), ps 10 (iv (((bestTo (fr l t) (16 * a + 0)).2.2 : Nat) : Int)), ps 11 (iv ((a : Nat) : Int)), ps 12 (iv ((0 : Nat) : Int)), pb 0 3 (ints (bI (eb l t)))] from by rw [Nat.add_zero]; rfl)) ?_
            refine T_loop (α := {x : Nat // x ≤ 16}) (fun x => [ps 0 (.ssl (ints l) 0 l.length), ps 6 (.osl 0 0 ((bI (eb l t)).length)), ps 7 (iv ((256 * t : Nat) : Int)), ps 8 (.ssl (ints (fr l t)) 0 ((fr l t).length)), ps 9 (iv (((bestTo (fr l t) (16 * a + x.1)).2.1 : Nat) : Int)), ps 10 (iv (((bestTo (fr l t) (16 * a + x.1)).2.2 : Nat) : Int)), ps 11 (iv ((a : Nat) : Int)), ps 12 (iv ((x.1 : Nat) : Int)), pb 0 3 (ints (bI (eb l t)))]) (fun x => 16 - x.1) 1 ⟨0, Nat.zero_le _⟩ (Wk.ren3 [ps 0 (.ssl (ints l) 0 l.length), ps 6 (.osl 0 0 ((bI (eb l t)).length)), ps 7 (iv ((256 * t : Nat) : Int)), ps 8 (.ssl (ints (fr l t)) 0 ((fr l t).length)), ps 9 (iv (((bestTo (fr l t) (16 * a + 0)).2.1 : Nat) : Int)), ps 10 (iv (((bestTo (fr l t) (16 * a + 0)).2.2 : Nat) : Int)), ps 11 (iv ((a : Nat) : Int)), ps 12 (iv ((0 : Nat) : Int)), pb 0 3 (ints (bI (eb l t)))] 0 hc0 [0] [(kb 0, (ints (bI (eb l t))))] (obs_cons (ints_shd _) (obs_nil)) (by kernel_rfl) rfl rfl (by kernel_rfl) (by kernel_rfl)) ?_
            rintro ⟨c, hc⟩
            refine T_seq ?_
            refine T_seq ?_
            refine T_region [] [ks 0, ks 6, ks 7, ks 8, ks 9, ks 10, ks 11, ks 12, ks 51, kb 0] (fun _ => mixed) (l' := [ps 0 (.ssl (ints l) 0 l.length), ps 6 (.osl 0 0 ((bI (eb l t)).length)), ps 7 (iv ((256 * t : Nat) : Int)), ps 8 (.ssl (ints (fr l t)) 0 ((fr l t).length)), ps 9 (iv (((bestTo (fr l t) (16 * a + c)).2.1 : Nat) : Int)), ps 10 (iv (((bestTo (fr l t) (16 * a + c)).2.2 : Nat) : Int)), ps 11 (iv ((a : Nat) : Int)), ps 12 (iv ((c : Nat) : Int)), ps 51 (bv (decide (((c : Nat) : Int) < 16))), pb 0 3 (ints (bI (eb l t)))]) (obs := []) (by kernel_rfl) (obs_nil) ?_
            by_cases h8 : ((c : Nat) : Int) < 16
            · refine T_then (b := (decide (((c : Nat) : Int) < 16))) rfl (decide_eq_true h8) ?_
              refine T_skip ?_
              refine T_seq ?_
              refine T_block ?_
              refine T_seq ?_
              have hbb := best_bd hsg (show 16 * a + c ≤ 64 by omega)
              refine T_region [(3, .call [] [(.ssl (ints (fr l t)) 0 ((fr l t).length)), (iv ((a : Nat) : Int)), (iv ((c : Nat) : Int))] [] (iv (6 + long (fr l t) a c)) []), (7, .call [] [(.ssl (ints (fr l t)) 0 ((fr l t).length)), (iv (((bestTo (fr l t) (16 * a + c)).2.1 : Nat) : Int)), (iv (((bestTo (fr l t) (16 * a + c)).2.2 : Nat) : Int))] [] (iv (6 + long (fr l t) ((bestTo (fr l t) (16 * a + c)).2.1) ((bestTo (fr l t) (16 * a + c)).2.2))) [])] [ks 0, ks 6, ks 7, ks 8, ks 9, ks 10, ks 11, ks 12, ks 62, kb 0] (fun _ => mixed) (l' := [ps 0 (.ssl (ints l) 0 l.length), ps 6 (.osl 0 0 ((bI (eb l t)).length)), ps 7 (iv ((256 * t : Nat) : Int)), ps 8 (.ssl (ints (fr l t)) 0 ((fr l t).length)), ps 9 (iv (((bestTo (fr l t) (16 * a + c)).2.1 : Nat) : Int)), ps 10 (iv (((bestTo (fr l t) (16 * a + c)).2.2 : Nat) : Int)), ps 11 (iv ((a : Nat) : Int)), ps 12 (iv ((c : Nat) : Int)), ps 62 (bv (decide ((6 + long (fr l t) a c) < (6 + long (fr l t) ((bestTo (fr l t) (16 * a + c)).2.1) ((bestTo (fr l t) (16 * a + c)).2.2))))), pb 0 3 (ints (bI (eb l t)))]) (obs := [PC Try.prog 8 [(.ssl (ints (fr l t)) 0 ((fr l t).length)), (iv ((a : Nat) : Int)), (iv ((c : Nat) : Int))] [] (iv (6 + long (fr l t) a c)) [], [(.ssl (ints (fr l t)) 0 ((fr l t).length)), (iv ((a : Nat) : Int)), (iv ((c : Nat) : Int))] = renL (sigi [] 41) [(.ssl (ints (fr l t)) 0 ((fr l t).length)), (iv ((a : Nat) : Int)), (iv ((c : Nat) : Int))], PC Try.prog 8 [(.ssl (ints (fr l t)) 0 ((fr l t).length)), (iv (((bestTo (fr l t) (16 * a + c)).2.1 : Nat) : Int)), (iv (((bestTo (fr l t) (16 * a + c)).2.2 : Nat) : Int))] [] (iv (6 + long (fr l t) ((bestTo (fr l t) (16 * a + c)).2.1) ((bestTo (fr l t) (16 * a + c)).2.2))) [], [(.ssl (ints (fr l t)) 0 ((fr l t).length)), (iv (((bestTo (fr l t) (16 * a + c)).2.1 : Nat) : Int)), (iv (((bestTo (fr l t) (16 * a + c)).2.2 : Nat) : Int))] = renL (sigi [] 73) [(.ssl (ints (fr l t)) 0 ((fr l t).length)), (iv (((bestTo (fr l t) (16 * a + c)).2.1 : Nat) : Int)), (iv (((bestTo (fr l t) (16 * a + c)).2.2 : Nat) : Int))]]) (by kernel_rfl) (obs_cons (p := PC Try.prog 8 [(.ssl (ints (fr l t)) 0 ((fr l t).length)), (iv ((a : Nat) : Int)), (iv ((c : Nat) : Int))] [] (iv (6 + long (fr l t) a c)) []) (ref_long_pc (fr l t) hg hsg a c (by omega) (by omega)) (obs_cons (p := [(.ssl (ints (fr l t)) 0 ((fr l t).length)), (iv ((a : Nat) : Int)), (iv ((c : Nat) : Int))] = renL (sigi [] 41) [(.ssl (ints (fr l t)) 0 ((fr l t).length)), (iv ((a : Nat) : Int)), (iv ((c : Nat) : Int))]) rfl (obs_cons (p := PC Try.prog 8 [(.ssl (ints (fr l t)) 0 ((fr l t).length)), (iv (((bestTo (fr l t) (16 * a + c)).2.1 : Nat) : Int)), (iv (((bestTo (fr l t) (16 * a + c)).2.2 : Nat) : Int))] [] (iv (6 + long (fr l t) ((bestTo (fr l t) (16 * a + c)).2.1) ((bestTo (fr l t) (16 * a + c)).2.2))) []) (ref_long_pc (fr l t) hg hsg ((bestTo (fr l t) (16 * a + c)).2.1) ((bestTo (fr l t) (16 * a + c)).2.2) (by omega) (by omega)) (obs_cons (p := [(.ssl (ints (fr l t)) 0 ((fr l t).length)), (iv (((bestTo (fr l t) (16 * a + c)).2.1 : Nat) : Int)), (iv (((bestTo (fr l t) (16 * a + c)).2.2 : Nat) : Int))] = renL (sigi [] 73) [(.ssl (ints (fr l t)) 0 ((fr l t).length)), (iv (((bestTo (fr l t) (16 * a + c)).2.1 : Nat) : Int)), (iv (((bestTo (fr l t) (16 * a + c)).2.2 : Nat) : Int))]) rfl (obs_nil))))) ?_
              by_cases h9 : (6 + long (fr l t) a c) < (6 + long (fr l t) ((bestTo (fr l t) (16 * a + c)).2.1) ((bestTo (fr l t) (16 * a + c)).2.2))
              · refine T_then (b := (decide ((6 + long (fr l t) a c) < (6 + long (fr l t) ((bestTo (fr l t) (16 * a + c)).2.1) ((bestTo (fr l t) (16 * a + c)).2.2))))) rfl (decide_eq_true h9) ?_
                refine T_region [] [ks 0, ks 6, ks 7, ks 8, ks 9, ks 10, ks 11, ks 12, kb 0] (fun _ => mixed) (l' := [ps 0 (.ssl (ints l) 0 l.length), ps 6 (.osl 0 0 ((bI (eb l t)).length)), ps 7 (iv ((256 * t : Nat) : Int)), ps 8 (.ssl (ints (fr l t)) 0 ((fr l t).length)), ps 9 (iv ((a : Nat) : Int)), ps 10 (iv ((c : Nat) : Int)), ps 11 (iv ((a : Nat) : Int)), ps 12 (iv ((c : Nat) : Int)), pb 0 3 (ints (bI (eb l t)))]) (obs := []) (by kernel_rfl) (obs_nil) ?_
                refine T_blk ?_
                refine T_region [] [ks 0, ks 6, ks 7, ks 8, ks 9, ks 10, ks 11, ks 12, kb 0] (fun _ => mixed) (l' := [ps 0 (.ssl (ints l) 0 l.length), ps 6 (.osl 0 0 ((bI (eb l t)).length)), ps 7 (iv ((256 * t : Nat) : Int)), ps 8 (.ssl (ints (fr l t)) 0 ((fr l t).length)), ps 9 (iv ((a : Nat) : Int)), ps 10 (iv ((c : Nat) : Int)), ps 11 (iv ((a : Nat) : Int)), ps 12 (iv (((c : Nat) : Int) + 1)), pb 0 3 (ints (bI (eb l t)))]) (obs := [InK .i64 (((c : Nat) : Int) + 1)]) (by kernel_rfl) (obs_cons (p := InK .i64 (((c : Nat) : Int) + 1)) (by simp only [InK]; omega) (obs_nil)) ?_
                have hq := (best_next hsg (show c < 16 by omega) (show a ≤ 3 by omega)).1 h9
                exact T_back ⟨c + 1, by show c + 1 ≤ 16; omega⟩ (Wk.trans (Wk.eq (show [ps 0 (.ssl (ints l) 0 l.length), ps 6 (.osl 0 0 ((bI (eb l t)).length)), ps 7 (iv ((256 * t : Nat) : Int)), ps 8 (.ssl (ints (fr l t)) 0 ((fr l t).length)), ps 9 (iv ((a : Nat) : Int)), ps 10 (iv ((c : Nat) : Int)), ps 11 (iv ((a : Nat) : Int)), ps 12 (iv (((c : Nat) : Int) + 1)), pb 0 3 (ints (bI (eb l t)))] = [ps 0 (.ssl (ints l) 0 l.length), ps 6 (.osl 0 0 ((bI (eb l t)).length)), ps 7 (iv ((256 * t : Nat) : Int)), ps 8 (.ssl (ints (fr l t)) 0 ((fr l t).length)), ps 9 (iv (((bestTo (fr l t) (16 * a + (c + 1))).2.1 : Nat) : Int)), ps 10 (iv (((bestTo (fr l t) (16 * a + (c + 1))).2.2 : Nat) : Int)), ps 11 (iv ((a : Nat) : Int)), ps 12 (iv (((c : Nat) : Int) + 1)), pb 0 3 (ints (bI (eb l t)))] from by rw [hq.1, hq.2])) (Wk.ren3 [ps 0 (.ssl (ints l) 0 l.length), ps 6 (.osl 0 0 ((bI (eb l t)).length)), ps 7 (iv ((256 * t : Nat) : Int)), ps 8 (.ssl (ints (fr l t)) 0 ((fr l t).length)), ps 9 (iv (((bestTo (fr l t) (16 * a + (c + 1))).2.1 : Nat) : Int)), ps 10 (iv (((bestTo (fr l t) (16 * a + (c + 1))).2.2 : Nat) : Int)), ps 11 (iv ((a : Nat) : Int)), ps 12 (iv (((c + 1) : Nat) : Int)), pb 0 3 (ints (bI (eb l t)))] 0 hc0 [0] [(kb 0, (ints (bI (eb l t))))] (obs_cons (ints_shd _) (obs_nil)) (by kernel_rfl) rfl rfl (by kernel_rfl) (by kernel_rfl))) (show 16 - (c + 1) < 16 - c from by show 16 - (c + 1) < 16 - c; omega)
              · refine T_else (b := (decide ((6 + long (fr l t) a c) < (6 + long (fr l t) ((bestTo (fr l t) (16 * a + c)).2.1) ((bestTo (fr l t) (16 * a + c)).2.2))))) rfl (decide_eq_false h9) ?_
                refine T_skip ?_
                refine T_blk ?_
                refine T_region [] [ks 0, ks 6, ks 7, ks 8, ks 9, ks 10, ks 11, ks 12, kb 0] (fun _ => mixed) (l' := [ps 0 (.ssl (ints l) 0 l.length), ps 6 (.osl 0 0 ((bI (eb l t)).length)), ps 7 (iv ((256 * t : Nat) : Int)), ps 8 (.ssl (ints (fr l t)) 0 ((fr l t).length)), ps 9 (iv (((bestTo (fr l t) (16 * a + c)).2.1 : Nat) : Int)), ps 10 (iv (((bestTo (fr l t) (16 * a + c)).2.2 : Nat) : Int)), ps 11 (iv ((a : Nat) : Int)), ps 12 (iv (((c : Nat) : Int) + 1)), pb 0 3 (ints (bI (eb l t)))]) (obs := [InK .i64 (((c : Nat) : Int) + 1)]) (by kernel_rfl) (obs_cons (p := InK .i64 (((c : Nat) : Int) + 1)) (by simp only [InK]; omega) (obs_nil)) ?_
                have hq := (best_next hsg (show c < 16 by omega) (show a ≤ 3 by omega)).2 h9
                exact T_back ⟨c + 1, by show c + 1 ≤ 16; omega⟩ (Wk.trans (Wk.eq (show [ps 0 (.ssl (ints l) 0 l.length), ps 6 (.osl 0 0 ((bI (eb l t)).length)), ps 7 (iv ((256 * t : Nat) : Int)), ps 8 (.ssl (ints (fr l t)) 0 ((fr l t).length)), ps 9 (iv (((bestTo (fr l t) (16 * a + c)).2.1 : Nat) : Int)), ps 10 (iv (((bestTo (fr l t) (16 * a + c)).2.2 : Nat) : Int)), ps 11 (iv ((a : Nat) : Int)), ps 12 (iv (((c : Nat) : Int) + 1)), pb 0 3 (ints (bI (eb l t)))] = [ps 0 (.ssl (ints l) 0 l.length), ps 6 (.osl 0 0 ((bI (eb l t)).length)), ps 7 (iv ((256 * t : Nat) : Int)), ps 8 (.ssl (ints (fr l t)) 0 ((fr l t).length)), ps 9 (iv (((bestTo (fr l t) (16 * a + (c + 1))).2.1 : Nat) : Int)), ps 10 (iv (((bestTo (fr l t) (16 * a + (c + 1))).2.2 : Nat) : Int)), ps 11 (iv ((a : Nat) : Int)), ps 12 (iv (((c : Nat) : Int) + 1)), pb 0 3 (ints (bI (eb l t)))] from by rw [hq.1, hq.2])) (Wk.ren3 [ps 0 (.ssl (ints l) 0 l.length), ps 6 (.osl 0 0 ((bI (eb l t)).length)), ps 7 (iv ((256 * t : Nat) : Int)), ps 8 (.ssl (ints (fr l t)) 0 ((fr l t).length)), ps 9 (iv (((bestTo (fr l t) (16 * a + (c + 1))).2.1 : Nat) : Int)), ps 10 (iv (((bestTo (fr l t) (16 * a + (c + 1))).2.2 : Nat) : Int)), ps 11 (iv ((a : Nat) : Int)), ps 12 (iv (((c + 1) : Nat) : Int)), pb 0 3 (ints (bI (eb l t)))] 0 hc0 [0] [(kb 0, (ints (bI (eb l t))))] (obs_cons (ints_shd _) (obs_nil)) (by kernel_rfl) rfl rfl (by kernel_rfl) (by kernel_rfl))) (show 16 - (c + 1) < 16 - c from by show 16 - (c + 1) < 16 - c; omega)
            · refine T_else (b := (decide (((c : Nat) : Int) < 16))) rfl (decide_eq_false h8) ?_
              refine T_break rfl rfl ?_
              refine T_blk ?_
              refine T_region [] [ks 0, ks 6, ks 7, ks 8, ks 9, ks 10, ks 11, kb 0] (fun _ => mixed) (l' := [ps 0 (.ssl (ints l) 0 l.length), ps 6 (.osl 0 0 ((bI (eb l t)).length)), ps 7 (iv ((256 * t : Nat) : Int)), ps 8 (.ssl (ints (fr l t)) 0 ((fr l t).length)), ps 9 (iv (((bestTo (fr l t) (16 * a + c)).2.1 : Nat) : Int)), ps 10 (iv (((bestTo (fr l t) (16 * a + c)).2.2 : Nat) : Int)), ps 11 (iv (((a : Nat) : Int) + 1)), pb 0 3 (ints (bI (eb l t)))]) (obs := [InK .i64 (((a : Nat) : Int) + 1)]) (by kernel_rfl) (obs_cons (p := InK .i64 (((a : Nat) : Int) + 1)) (by simp only [InK]; omega) (obs_nil)) ?_
              exact T_back ⟨a + 1, by show a + 1 ≤ 4; omega⟩ (Wk.trans (Wk.eq (show [ps 0 (.ssl (ints l) 0 l.length), ps 6 (.osl 0 0 ((bI (eb l t)).length)), ps 7 (iv ((256 * t : Nat) : Int)), ps 8 (.ssl (ints (fr l t)) 0 ((fr l t).length)), ps 9 (iv (((bestTo (fr l t) (16 * a + c)).2.1 : Nat) : Int)), ps 10 (iv (((bestTo (fr l t) (16 * a + c)).2.2 : Nat) : Int)), ps 11 (iv (((a : Nat) : Int) + 1)), pb 0 3 (ints (bI (eb l t)))] = [ps 0 (.ssl (ints l) 0 l.length), ps 6 (.osl 0 0 ((bI (eb l t)).length)), ps 7 (iv ((256 * t : Nat) : Int)), ps 8 (.ssl (ints (fr l t)) 0 ((fr l t).length)), ps 9 (iv (((bestTo (fr l t) (16 * (a + 1))).2.1 : Nat) : Int)), ps 10 (iv (((bestTo (fr l t) (16 * (a + 1))).2.2 : Nat) : Int)), ps 11 (iv (((a : Nat) : Int) + 1)), pb 0 3 (ints (bI (eb l t)))] from by rw [show 16 * (a + 1) = 16 * a + c from by omega])) (Wk.ren3 [ps 0 (.ssl (ints l) 0 l.length), ps 6 (.osl 0 0 ((bI (eb l t)).length)), ps 7 (iv ((256 * t : Nat) : Int)), ps 8 (.ssl (ints (fr l t)) 0 ((fr l t).length)), ps 9 (iv (((bestTo (fr l t) (16 * (a + 1))).2.1 : Nat) : Int)), ps 10 (iv (((bestTo (fr l t) (16 * (a + 1))).2.2 : Nat) : Int)), ps 11 (iv (((a + 1) : Nat) : Int)), pb 0 3 (ints (bI (eb l t)))] 0 hc0 [0] [(kb 0, (ints (bI (eb l t))))] (obs_cons (ints_shd _) (obs_nil)) (by kernel_rfl) rfl rfl (by kernel_rfl) (by kernel_rfl))) (show 4 - (a + 1) < 4 - a from by show 4 - (a + 1) < 4 - a; omega)
          · refine T_else (b := (decide (((a : Nat) : Int) < 4))) rfl (decide_eq_false h7) ?_
            refine T_break rfl rfl ?_
            have ha4 : 16 * a = 64 := by omega
            have hbb := best_bd hsg (show 64 ≤ 64 by omega)
            have hln := eb_len hs t
            have hfb := frb_len hs t
            refine T_wk (Wk.eq (show [ps 0 (.ssl (ints l) 0 l.length), ps 6 (.osl 0 0 ((bI (eb l t)).length)), ps 7 (iv ((256 * t : Nat) : Int)), ps 8 (.ssl (ints (fr l t)) 0 ((fr l t).length)), ps 9 (iv (((bestTo (fr l t) (16 * a)).2.1 : Nat) : Int)), ps 10 (iv (((bestTo (fr l t) (16 * a)).2.2 : Nat) : Int)), ps 11 (iv ((a : Nat) : Int)), ps 47 (bv (decide (((a : Nat) : Int) < 4))), pb 0 3 (ints (bI (eb l t)))] = [ps 0 (.ssl (ints l) 0 l.length), ps 6 (.osl 0 0 ((bI (eb l t)).length)), ps 7 (iv ((256 * t : Nat) : Int)), ps 8 (.ssl (ints (fr l t)) 0 ((fr l t).length)), ps 9 (iv (((bestTo (fr l t) 64).2.1 : Nat) : Int)), ps 10 (iv (((bestTo (fr l t) 64).2.2 : Nat) : Int)), ps 11 (iv ((a : Nat) : Int)), ps 47 (bv (decide (((a : Nat) : Int) < 4))), pb 0 3 (ints (bI (eb l t)))] from by rw [ha4])) ?_
            refine T_region [(4, .call [] [(.ssl (ints (fr l t)) 0 ((fr l t).length)), (iv (((bestTo (fr l t) 64).2.1 : Nat) : Int)), (iv (((bestTo (fr l t) 64).2.2 : Nat) : Int))] [] (.ssl (ints (bI (frameBits (fr l t) ((bestTo (fr l t) 64).2.1) ((bestTo (fr l t) 64).2.2)))) 0 ((bI (frameBits (fr l t) ((bestTo (fr l t) 64).2.1) ((bestTo (fr l t) 64).2.2))).length)) []), (5, .app (some (ints (bI (frameBits (fr l t) ((bestTo (fr l t) 64).2.1) ((bestTo (fr l t) 64).2.2))))) (some (ints (bI (eb l (t + 1))))))] [ks 0, ks 6, ks 7, kb 57] (fun _ => mixed) (l' := [ps 0 (.ssl (ints l) 0 l.length), ps 6 (.osl 57 0 (((bI (eb l t)).length) + ((bI (frameBits (fr l t) ((bestTo (fr l t) 64).2.1) ((bestTo (fr l t) 64).2.2))).length))), ps 7 (iv ((256 * t : Nat) : Int)), pb 57 3 (ints (bI (eb l (t + 1))))]) (obs := [PC Try.prog 18 [(.ssl (ints (fr l t)) 0 ((fr l t).length)), (iv (((bestTo (fr l t) 64).2.1 : Nat) : Int)), (iv (((bestTo (fr l t) 64).2.2 : Nat) : Int))] [] (.ssl (ints (bI (frameBits (fr l t) ((bestTo (fr l t) 64).2.1) ((bestTo (fr l t) 64).2.2)))) 0 ((bI (frameBits (fr l t) ((bestTo (fr l t) 64).2.1) ((bestTo (fr l t) 64).2.2))).length)) [], [(.ssl (ints (fr l t)) 0 ((fr l t).length)), (iv (((bestTo (fr l t) 64).2.1 : Nat) : Int)), (iv (((bestTo (fr l t) 64).2.2 : Nat) : Int))] = renL (sigi [] 49) [(.ssl (ints (fr l t)) 0 ((fr l t).length)), (iv (((bestTo (fr l t) 64).2.1 : Nat) : Int)), (iv (((bestTo (fr l t) 64).2.2 : Nat) : Int))], 0 + ((bI (frameBits (fr l t) ((bestTo (fr l t) 64).2.1) ((bestTo (fr l t) 64).2.2))).length) * 1 ≤ ((ints (bI (frameBits (fr l t) ((bestTo (fr l t) 64).2.1) ((bestTo (fr l t) 64).2.2))))).length ∧ (((ints (bI (frameBits (fr l t) ((bestTo (fr l t) 64).2.1) ((bestTo (fr l t) 64).2.2))))).drop 0).take (((bI (frameBits (fr l t) ((bestTo (fr l t) 64).2.1) ((bestTo (fr l t) 64).2.2))).length) * 1) = (ints (bI (frameBits (fr l t) ((bestTo (fr l t) 64).2.1) ((bestTo (fr l t) 64).2.2)))), ((ints (bI (eb l t)))).length = ((bI (eb l t)).length) * 1, (((bI (eb l t)).length) + ((bI (frameBits (fr l t) ((bestTo (fr l t) 64).2.1) ((bestTo (fr l t) 64).2.2))).length)) * 8 ≤ 140737488355328 ∧ ((bI (eb l t)).length) + ((bI (frameBits (fr l t) ((bestTo (fr l t) 64).2.1) ((bestTo (fr l t) 64).2.2))).length) ≤ 9223372036854775807, (ints (bI (eb l t))) ++ (ints (bI (frameBits (fr l t) ((bestTo (fr l t) 64).2.1) ((bestTo (fr l t) 64).2.2)))) = (ints (bI (eb l (t + 1))))]) (by kernel_rfl) (obs_cons (p := PC Try.prog 18 [(.ssl (ints (fr l t)) 0 ((fr l t).length)), (iv (((bestTo (fr l t) 64).2.1 : Nat) : Int)), (iv (((bestTo (fr l t) 64).2.2 : Nat) : Int))] [] (.ssl (ints (bI (frameBits (fr l t) ((bestTo (fr l t) 64).2.1) ((bestTo (fr l t) 64).2.2)))) 0 ((bI (frameBits (fr l t) ((bestTo (fr l t) 64).2.1) ((bestTo (fr l t) 64).2.2))).length)) []) (ref_frame_pc (fr l t) hg hsg ((bestTo (fr l t) 64).2.1) ((bestTo (fr l t) 64).2.2) (by omega) (by omega)) (obs_cons (p := [(.ssl (ints (fr l t)) 0 ((fr l t).length)), (iv (((bestTo (fr l t) 64).2.1 : Nat) : Int)), (iv (((bestTo (fr l t) 64).2.2 : Nat) : Int))] = renL (sigi [] 49) [(.ssl (ints (fr l t)) 0 ((fr l t).length)), (iv (((bestTo (fr l t) 64).2.1 : Nat) : Int)), (iv (((bestTo (fr l t) 64).2.2 : Nat) : Int))]) rfl (obs_cons (p := 0 + ((bI (frameBits (fr l t) ((bestTo (fr l t) 64).2.1) ((bestTo (fr l t) 64).2.2))).length) * 1 ≤ ((ints (bI (frameBits (fr l t) ((bestTo (fr l t) 64).2.1) ((bestTo (fr l t) 64).2.2))))).length ∧ (((ints (bI (frameBits (fr l t) ((bestTo (fr l t) 64).2.1) ((bestTo (fr l t) 64).2.2))))).drop 0).take (((bI (frameBits (fr l t) ((bestTo (fr l t) 64).2.1) ((bestTo (fr l t) 64).2.2))).length) * 1) = (ints (bI (frameBits (fr l t) ((bestTo (fr l t) 64).2.1) ((bestTo (fr l t) 64).2.2))))) (by have h9 := ints_len (bI (frameBits (fr l t) ((bestTo (fr l t) 64).2.1) ((bestTo (fr l t) 64).2.2))); refine ⟨by omega, ?_⟩; rw [List.drop_zero]; exact List.take_of_length_le (by omega)) (obs_cons (p := ((ints (bI (eb l t)))).length = ((bI (eb l t)).length) * 1) (by simp [ints_len]) (obs_cons (p := (((bI (eb l t)).length) + ((bI (frameBits (fr l t) ((bestTo (fr l t) 64).2.1) ((bestTo (fr l t) 64).2.2))).length)) * 8 ≤ 140737488355328 ∧ ((bI (eb l t)).length) + ((bI (frameBits (fr l t) ((bestTo (fr l t) 64).2.1) ((bestTo (fr l t) 64).2.2))).length) ≤ 9223372036854775807) (by omega) (obs_cons (p := (ints (bI (eb l t))) ++ (ints (bI (frameBits (fr l t) ((bestTo (fr l t) 64).2.1) ((bestTo (fr l t) 64).2.2)))) = (ints (bI (eb l (t + 1))))) (by rw [← eb_next]; exact (flat_app _ _ _).symm) (obs_nil))))))) ?_
            refine T_blk ?_
            refine T_region [] [ks 0, ks 6, ks 7, kb 57] (fun _ => mixed) (l' := [ps 0 (.ssl (ints l) 0 l.length), ps 6 (.osl 57 0 (((bI (eb l t)).length) + ((bI (frameBits (fr l t) ((bestTo (fr l t) 64).2.1) ((bestTo (fr l t) 64).2.2))).length))), ps 7 (iv (((256 * t : Nat) : Int) + 256)), pb 57 3 (ints (bI (eb l (t + 1))))]) (obs := [InK .i64 (((256 * t : Nat) : Int) + 256)]) (by kernel_rfl) (obs_cons (p := InK .i64 (((256 * t : Nat) : Int) + 256)) (by simp only [InK]; omega) (obs_nil)) ?_
            exact T_back ⟨t + 1, by show 256 * (t + 1) ≤ l.length + 255; omega⟩ (Wk.trans (Wk.eq (show [ps 0 (.ssl (ints l) 0 l.length), ps 6 (.osl 57 0 (((bI (eb l t)).length) + ((bI (frameBits (fr l t) ((bestTo (fr l t) 64).2.1) ((bestTo (fr l t) 64).2.2))).length))), ps 7 (iv (((256 * t : Nat) : Int) + 256)), pb 57 3 (ints (bI (eb l (t + 1))))] = [ps 0 (.ssl (ints l) 0 l.length), ps 6 (.osl 57 0 ((bI (eb l (t + 1))).length)), ps 7 (iv ((256 * (t + 1) : Nat) : Int)), pb 57 3 (ints (bI (eb l (t + 1))))] from by rw [len_of (eb_next l t), show ((256 * t : Nat) : Int) + 256 = ((256 * (t + 1) : Nat) : Int) from by omega])) (Wk.ren3 [ps 0 (.ssl (ints l) 0 l.length), ps 6 (.osl 0 0 ((bI (eb l (t + 1))).length)), ps 7 (iv ((256 * (t + 1) : Nat) : Int)), pb 0 3 (ints (bI (eb l (t + 1))))] 0 hc0 [57] [(kb 0, (ints (bI (eb l (t + 1)))))] (obs_cons (ints_shd _) (obs_nil)) (by kernel_rfl) rfl rfl (by kernel_rfl) (by kernel_rfl))) (show l.length + 256 - 256 * (t + 1) < l.length + 256 - 256 * t from by show l.length + 256 - 256 * (t + 1) < l.length + 256 - 256 * t; omega)
        · refine T_else (b := (decide (256 < ((l.length - (256 * t) : Nat) : Int)))) rfl (decide_eq_false h6) ?_
          refine T_skip ?_
          refine T_seq ?_
          have hfl := fr_length l t
          have hg : (fr l t).length ≤ 256 := by omega
          have hsg := hs.frame t
          refine T_wk (Wk.slot 8 (.ssl (ints l) (256 * t) (l.length - (256 * t))) (.ssl (ints (fr l t)) 0 ((fr l t).length)) (by kernel_rfl) (cut_fr (by omega) (by omega))) ?_
          refine T_wk (Wk.less (l' := [ps 0 (.ssl (ints l) 0 l.length), ps 6 (.osl 0 0 ((bI (eb l t)).length)), ps 7 (iv ((256 * t : Nat) : Int)), ps 8 (.ssl (ints (fr l t)) 0 ((fr l t).length)), ps 43 (bv (decide (256 < ((l.length - (256 * t) : Nat) : Int)))), pb 0 3 (ints (bI (eb l t)))]) 89 (by kernel_rfl) (by kernel_rfl)) ?_
          refine T_region [] [ks 0, ks 6, ks 7, ks 8, ks 9, ks 10, kb 0] (fun _ => mixed) (l' := [ps 0 (.ssl (ints l) 0 l.length), ps 6 (.osl 0 0 ((bI (eb l t)).length)), ps 7 (iv ((256 * t : Nat) : Int)), ps 8 (.ssl (ints (fr l t)) 0 ((fr l t).length)), ps 9 (iv 0), ps 10 (iv 0), pb 0 3 (ints (bI (eb l t)))]) (obs := []) (by kernel_rfl) (obs_nil) ?_
          refine T_seq ?_
          refine T_seq ?_
          refine T_region [] [ks 0, ks 6, ks 7, ks 8, ks 9, ks 10, ks 11, kb 0] (fun _ => mixed) (l' := [ps 0 (.ssl (ints l) 0 l.length), ps 6 (.osl 0 0 ((bI (eb l t)).length)), ps 7 (iv ((256 * t : Nat) : Int)), ps 8 (.ssl (ints (fr l t)) 0 ((fr l t).length)), ps 9 (iv 0), ps 10 (iv 0), ps 11 (iv 0), pb 0 3 (ints (bI (eb l t)))]) (obs := []) (by kernel_rfl) (obs_nil) ?_
          refine T_block ?_
          refine T_wk (Wk.eq (show [ps 0 (.ssl (ints l) 0 l.length), ps 6 (.osl 0 0 ((bI (eb l t)).length)), ps 7 (iv ((256 * t : Nat) : Int)), ps 8 (.ssl (ints (fr l t)) 0 ((fr l t).length)), ps 9 (iv 0), ps 10 (iv 0), ps 11 (iv 0), pb 0 3 (ints (bI (eb l t)))] = [ps 0 (.ssl (ints l) 0 l.length), ps 6 (.osl 0 0 ((bI (eb l t)).length)), ps 7 (iv ((256 * t : Nat) : Int)), ps 8 (.ssl (ints (fr l t)) 0 ((fr l t).length)), ps 9 (iv (((bestTo (fr l t) (16 * 0)).2.1 : Nat) : Int)), ps 10 (iv (((bestTo (fr l t) (16 * 0)).2.2 : Nat) : Int)), ps 11 (iv ((0 : Nat) : Int)), pb 0 3 (ints (bI (eb l t)))] from by rw [show bestTo (fr l t) (16 * 0) = (-1, 0, 0) from by unfold bestTo; rfl]; rfl)) ?_
          refine T_loop (α := {x : Nat // x ≤ 4}) (fun x => [ps 0 (.ssl (ints l) 0 l.length), ps 6 (.osl 0 0 ((bI (eb l t)).length)), ps 7 (iv ((256 * t : Nat) : Int)), ps 8 (.ssl (ints (fr l t)) 0 ((fr l t).length)), ps 9 (iv (((bestTo (fr l t) (16 * x.1)).2.1 : Nat) : Int)), ps 10 (iv (((bestTo (fr l t) (16 * x.1)).2.2 : Nat) : Int)), ps 11 (iv ((x.1 : Nat) : Int)), pb 0 3 (ints (bI (eb l t)))]) (fun x => 4 - x.1) 1 ⟨0, Nat.zero_le _⟩ (Wk.ren3 [ps 0 (.ssl (ints l) 0 l.length), ps 6 (.osl 0 0 ((bI (eb l t)).length)), ps 7 (iv ((256 * t : Nat) : Int)), ps 8 (.ssl (ints (fr l t)) 0 ((fr l t).length)), ps 9 (iv (((bestTo (fr l t) (16 * 0)).2.1 : Nat) : Int)), ps 10 (iv (((bestTo (fr l t) (16 * 0)).2.2 : Nat) : Int)), ps 11 (iv ((0 : Nat) : Int)), pb 0 3 (ints (bI (eb l t)))] 0 hc0 [0] [(kb 0, (ints (bI (eb l t))))] (obs_cons (ints_shd _) (obs_nil)) (by kernel_rfl) rfl rfl (by kernel_rfl) (by kernel_rfl)) ?_
          rintro ⟨a, ha⟩
          refine T_seq ?_
          refine T_seq ?_
          refine T_region [] [ks 0, ks 6, ks 7, ks 8, ks 9, ks 10, ks 11, ks 47, kb 0] (fun _ => mixed) (l' := [ps 0 (.ssl (ints l) 0 l.length), ps 6 (.osl 0 0 ((bI (eb l t)).length)), ps 7 (iv ((256 * t : Nat) : Int)), ps 8 (.ssl (ints (fr l t)) 0 ((fr l t).length)), ps 9 (iv (((bestTo (fr l t) (16 * a)).2.1 : Nat) : Int)), ps 10 (iv (((bestTo (fr l t) (16 * a)).2.2 : Nat) : Int)), ps 11 (iv ((a : Nat) : Int)), ps 47 (bv (decide (((a : Nat) : Int) < 4))), pb 0 3 (ints (bI (eb l t)))]) (obs := []) (by kernel_rfl) (obs_nil) ?_
          by_cases h10 : ((a : Nat) : Int) < 4
          · refine T_then (b := (decide (((a : Nat) : Int) < 4))) rfl (decide_eq_true h10) ?_
            refine T_skip ?_
            refine T_seq ?_
            refine T_block ?_
            refine T_seq ?_
            refine T_region [] [ks 0, ks 6, ks 7, ks 8, ks 9, ks 10, ks 11, ks 12, kb 0] (fun _ => mixed) (l' := [ps 0 (.ssl (ints l) 0 l.length), ps 6 (.osl 0 0 ((bI (eb l t)).length)), ps 7 (iv ((256 * t : Nat) : Int)), ps 8 (.ssl (ints (fr l t)) 0 ((fr l t).length)), ps 9 (iv (((bestTo (fr l t) (16 * a)).2.1 : Nat) : Int)), ps 10 (iv (((bestTo (fr l t) (16 * a)).2.2 : Nat) : Int)), ps 11 (iv ((a : Nat) : Int)), ps 12 (iv 0), pb 0 3 (ints (bI (eb l t)))]) (obs := []) (by kernel_rfl) (obs_nil) ?_
            refine T_block ?_
            refine T_wk (Wk.eq (show [ps 0 (.ssl (ints l) 0 l.length), ps 6 (.osl 0 0 ((bI (eb l t)).length)), ps 7 (iv ((256 * t : Nat) : Int)), ps 8 (.ssl (ints (fr l t)) 0 ((fr l t).length)), ps 9 (iv (((bestTo (fr l t) (16 * a)).2.1 : Nat) : Int)), ps 10 (iv (((bestTo (fr l t) (16 * a)).2.2 : Nat) : Int)), ps 11 (iv ((a : Nat) : Int)), ps 12 (iv 0), pb 0 3 (ints (bI (eb l t)))] = [ps 0 (.ssl (ints l) 0 l.length), ps 6 (.osl 0 0 ((bI (eb l t)).length)), ps 7 (iv ((256 * t : Nat) : Int)), ps 8 (.ssl (ints (fr l t)) 0 ((fr l t).length)), ps 9 (iv (((bestTo (fr l t) (16 * a + 0)).2.1 : Nat) : Int)), ps 10 (iv (((bestTo (fr l t) (16 * a + 0)).2.2 : Nat) : Int)), ps 11 (iv ((a : Nat) : Int)), ps 12 (iv ((0 : Nat) : Int)), pb 0 3 (ints (bI (eb l t)))] from by rw [Nat.add_zero]; rfl)) ?_
            refine T_loop (α := {x : Nat // x ≤ 16}) (fun x => [ps 0 (.ssl (ints l) 0 l.length), ps 6 (.osl 0 0 ((bI (eb l t)).length)), ps 7 (iv ((256 * t : Nat) : Int)), ps 8 (.ssl (ints (fr l t)) 0 ((fr l t).length)), ps 9 (iv (((bestTo (fr l t) (16 * a + x.1)).2.1 : Nat) : Int)), ps 10 (iv (((bestTo (fr l t) (16 * a + x.1)).2.2 : Nat) : Int)), ps 11 (iv ((a : Nat) : Int)), ps 12 (iv ((x.1 : Nat) : Int)), pb 0 3 (ints (bI (eb l t)))]) (fun x => 16 - x.1) 1 ⟨0, Nat.zero_le _⟩ (Wk.ren3 [ps 0 (.ssl (ints l) 0 l.length), ps 6 (.osl 0 0 ((bI (eb l t)).length)), ps 7 (iv ((256 * t : Nat) : Int)), ps 8 (.ssl (ints (fr l t)) 0 ((fr l t).length)), ps 9 (iv (((bestTo (fr l t) (16 * a + 0)).2.1 : Nat) : Int)), ps 10 (iv (((bestTo (fr l t) (16 * a + 0)).2.2 : Nat) : Int)), ps 11 (iv ((a : Nat) : Int)), ps 12 (iv ((0 : Nat) : Int)), pb 0 3 (ints (bI (eb l t)))] 0 hc0 [0] [(kb 0, (ints (bI (eb l t))))] (obs_cons (ints_shd _) (obs_nil)) (by kernel_rfl) rfl rfl (by kernel_rfl) (by kernel_rfl)) ?_
            rintro ⟨c, hc⟩
            refine T_seq ?_
            refine T_seq ?_
            refine T_region [] [ks 0, ks 6, ks 7, ks 8, ks 9, ks 10, ks 11, ks 12, ks 51, kb 0] (fun _ => mixed) (l' := [ps 0 (.ssl (ints l) 0 l.length), ps 6 (.osl 0 0 ((bI (eb l t)).length)), ps 7 (iv ((256 * t : Nat) : Int)), ps 8 (.ssl (ints (fr l t)) 0 ((fr l t).length)), ps 9 (iv (((bestTo (fr l t) (16 * a + c)).2.1 : Nat) : Int)), ps 10 (iv (((bestTo (fr l t) (16 * a + c)).2.2 : Nat) : Int)), ps 11 (iv ((a : Nat) : Int)), ps 12 (iv ((c : Nat) : Int)), ps 51 (bv (decide (((c : Nat) : Int) < 16))), pb 0 3 (ints (bI (eb l t)))]) (obs := []) (by kernel_rfl) (obs_nil) ?_
            by_cases h11 : ((c : Nat) : Int) < 16
            · refine T_then (b := (decide (((c : Nat) : Int) < 16))) rfl (decide_eq_true h11) ?_
              refine T_skip ?_
              refine T_seq ?_
              refine T_block ?_
              refine T_seq ?_
              have hbb := best_bd hsg (show 16 * a + c ≤ 64 by omega)
              refine T_region [(3, .call [] [(.ssl (ints (fr l t)) 0 ((fr l t).length)), (iv ((a : Nat) : Int)), (iv ((c : Nat) : Int))] [] (iv (6 + long (fr l t) a c)) []), (7, .call [] [(.ssl (ints (fr l t)) 0 ((fr l t).length)), (iv (((bestTo (fr l t) (16 * a + c)).2.1 : Nat) : Int)), (iv (((bestTo (fr l t) (16 * a + c)).2.2 : Nat) : Int))] [] (iv (6 + long (fr l t) ((bestTo (fr l t) (16 * a + c)).2.1) ((bestTo (fr l t) (16 * a + c)).2.2))) [])] [ks 0, ks 6, ks 7, ks 8, ks 9, ks 10, ks 11, ks 12, ks 62, kb 0] (fun _ => mixed) (l' := [ps 0 (.ssl (ints l) 0 l.length), ps 6 (.osl 0 0 ((bI (eb l t)).length)), ps 7 (iv ((256 * t : Nat) : Int)), ps 8 (.ssl (ints (fr l t)) 0 ((fr l t).length)), ps 9 (iv (((bestTo (fr l t) (16 * a + c)).2.1 : Nat) : Int)), ps 10 (iv (((bestTo (fr l t) (16 * a + c)).2.2 : Nat) : Int)), ps 11 (iv ((a : Nat) : Int)), ps 12 (iv ((c : Nat) : Int)), ps 62 (bv (decide ((6 + long (fr l t) a c) < (6 + long (fr l t) ((bestTo (fr l t) (16 * a + c)).2.1) ((bestTo (fr l t) (16 * a + c)).2.2))))), pb 0 3 (ints (bI (eb l t)))]) (obs := [PC Try.prog 8 [(.ssl (ints (fr l t)) 0 ((fr l t).length)), (iv ((a : Nat) : Int)), (iv ((c : Nat) : Int))] [] (iv (6 + long (fr l t) a c)) [], [(.ssl (ints (fr l t)) 0 ((fr l t).length)), (iv ((a : Nat) : Int)), (iv ((c : Nat) : Int))] = renL (sigi [] 41) [(.ssl (ints (fr l t)) 0 ((fr l t).length)), (iv ((a : Nat) : Int)), (iv ((c : Nat) : Int))], PC Try.prog 8 [(.ssl (ints (fr l t)) 0 ((fr l t).length)), (iv (((bestTo (fr l t) (16 * a + c)).2.1 : Nat) : Int)), (iv (((bestTo (fr l t) (16 * a + c)).2.2 : Nat) : Int))] [] (iv (6 + long (fr l t) ((bestTo (fr l t) (16 * a + c)).2.1) ((bestTo (fr l t) (16 * a + c)).2.2))) [], [(.ssl (ints (fr l t)) 0 ((fr l t).length)), (iv (((bestTo (fr l t) (16 * a + c)).2.1 : Nat) : Int)), (iv (((bestTo (fr l t) (16 * a + c)).2.2 : Nat) : Int))] = renL (sigi [] 73) [(.ssl (ints (fr l t)) 0 ((fr l t).length)), (iv (((bestTo (fr l t) (16 * a + c)).2.1 : Nat) : Int)), (iv (((bestTo (fr l t) (16 * a + c)).2.2 : Nat) : Int))]]) (by kernel_rfl) (obs_cons (p := PC Try.prog 8 [(.ssl (ints (fr l t)) 0 ((fr l t).length)), (iv ((a : Nat) : Int)), (iv ((c : Nat) : Int))] [] (iv (6 + long (fr l t) a c)) []) (ref_long_pc (fr l t) hg hsg a c (by omega) (by omega)) (obs_cons (p := [(.ssl (ints (fr l t)) 0 ((fr l t).length)), (iv ((a : Nat) : Int)), (iv ((c : Nat) : Int))] = renL (sigi [] 41) [(.ssl (ints (fr l t)) 0 ((fr l t).length)), (iv ((a : Nat) : Int)), (iv ((c : Nat) : Int))]) rfl (obs_cons (p := PC Try.prog 8 [(.ssl (ints (fr l t)) 0 ((fr l t).length)), (iv (((bestTo (fr l t) (16 * a + c)).2.1 : Nat) : Int)), (iv (((bestTo (fr l t) (16 * a + c)).2.2 : Nat) : Int))] [] (iv (6 + long (fr l t) ((bestTo (fr l t) (16 * a + c)).2.1) ((bestTo (fr l t) (16 * a + c)).2.2))) []) (ref_long_pc (fr l t) hg hsg ((bestTo (fr l t) (16 * a + c)).2.1) ((bestTo (fr l t) (16 * a + c)).2.2) (by omega) (by omega)) (obs_cons (p := [(.ssl (ints (fr l t)) 0 ((fr l t).length)), (iv (((bestTo (fr l t) (16 * a + c)).2.1 : Nat) : Int)), (iv (((bestTo (fr l t) (16 * a + c)).2.2 : Nat) : Int))] = renL (sigi [] 73) [(.ssl (ints (fr l t)) 0 ((fr l t).length)), (iv (((bestTo (fr l t) (16 * a + c)).2.1 : Nat) : Int)), (iv (((bestTo (fr l t) (16 * a + c)).2.2 : Nat) : Int))]) rfl (obs_nil))))) ?_
              by_cases h12 : (6 + long (fr l t) a c) < (6 + long (fr l t) ((bestTo (fr l t) (16 * a + c)).2.1) ((bestTo (fr l t) (16 * a + c)).2.2))
              · refine T_then (b := (decide ((6 + long (fr l t) a c) < (6 + long (fr l t) ((bestTo (fr l t) (16 * a + c)).2.1) ((bestTo (fr l t) (16 * a + c)).2.2))))) rfl (decide_eq_true h12) ?_
                refine T_region [] [ks 0, ks 6, ks 7, ks 8, ks 9, ks 10, ks 11, ks 12, kb 0] (fun _ => mixed) (l' := [ps 0 (.ssl (ints l) 0 l.length), ps 6 (.osl 0 0 ((bI (eb l t)).length)), ps 7 (iv ((256 * t : Nat) : Int)), ps 8 (.ssl (ints (fr l t)) 0 ((fr l t).length)), ps 9 (iv ((a : Nat) : Int)), ps 10 (iv ((c : Nat) : Int)), ps 11 (iv ((a : Nat) : Int)), ps 12 (iv ((c : Nat) : Int)), pb 0 3 (ints (bI (eb l t)))]) (obs := []) (by kernel_rfl) (obs_nil) ?_
                refine T_blk ?_
                refine T_region [] [ks 0, ks 6, ks 7, ks 8, ks 9, ks 10, ks 11, ks 12, kb 0] (fun _ => mixed) (l' := [ps 0 (.ssl (ints l) 0 l.length), ps 6 (.osl 0 0 ((bI (eb l t)).length)), ps 7 (iv ((256 * t : Nat) : Int)), ps 8 (.ssl (ints (fr l t)) 0 ((fr l t).length)), ps 9 (iv ((a : Nat) : Int)), ps 10 (iv ((c : Nat) : Int)), ps 11 (iv ((a : Nat) : Int)), ps 12 (iv (((c : Nat) : Int) + 1)), pb 0 3 (ints (bI (eb l t)))]) (obs := [InK .i64 (((c : Nat) : Int) + 1)]) (by kernel_rfl) (obs_cons (p := InK .i64 (((c : Nat) : Int) + 1)) (by simp only [InK]; omega) (obs_nil)) ?_
                have hq := (best_next hsg (show c < 16 by omega) (show a ≤ 3 by omega)).1 h12
                exact T_back ⟨c + 1, by show c + 1 ≤ 16; omega⟩ (Wk.trans (Wk.eq (show [ps 0 (.ssl (ints l) 0 l.length), ps 6 (.osl 0 0 ((bI (eb l t)).length)), ps 7 (iv ((256 * t : Nat) : Int)), ps 8 (.ssl (ints (fr l t)) 0 ((fr l t).length)), ps 9 (iv ((a : Nat) : Int)), ps 10 (iv ((c : Nat) : Int)), ps 11 (iv ((a : Nat) : Int)), ps 12 (iv (((c : Nat) : Int) + 1)), pb 0 3 (ints (bI (eb l t)))] = [ps 0 (.ssl (ints l) 0 l.length), ps 6 (.osl 0 0 ((bI (eb l t)).length)), ps 7 (iv ((256 * t : Nat) : Int)), ps 8 (.ssl (ints (fr l t)) 0 ((fr l t).length)), ps 9 (iv (((bestTo (fr l t) (16 * a + (c + 1))).2.1 : Nat) : Int)), ps 10 (iv (((bestTo (fr l t) (16 * a + (c + 1))).2.2 : Nat) : Int)), ps 11 (iv ((a : Nat) : Int)), ps 12 (iv (((c : Nat) : Int) + 1)), pb 0 3 (ints (bI (eb l t)))] from by rw [hq.1, hq.2])) (Wk.ren3 [ps 0 (.ssl (ints l) 0 l.length), ps 6 (.osl 0 0 ((bI (eb l t)).length)), ps 7 (iv ((256 * t : Nat) : Int)), ps 8 (.ssl (ints (fr l t)) 0 ((fr l t).length)), ps 9 (iv (((bestTo (fr l t) (16 * a + (c + 1))).2.1 : Nat) : Int)), ps 10 (iv (((bestTo (fr l t) (16 * a + (c + 1))).2.2 : Nat) : Int)), ps 11 (iv ((a : Nat) : Int)), ps 12 (iv (((c + 1) : Nat) : Int)), pb 0 3 (ints (bI (eb l t)))] 0 hc0 [0] [(kb 0, (ints (bI (eb l t))))] (obs_cons (ints_shd _) (obs_nil)) (by kernel_rfl) rfl rfl (by kernel_rfl) (by kernel_rfl))) (show 16 - (c + 1) < 16 - c from by show 16 - (c + 1) < 16 - c; omega)
              · refine T_else (b := (decide ((6 + long (fr l t) a c) < (6 + long (fr l t) ((bestTo (fr l t) (16 * a + c)).2.1) ((bestTo (fr l t) (16 * a + c)).2.2))))) rfl (decide_eq_false h12) ?_
                refine T_skip ?_
                refine T_blk ?_
                refine T_region [] [ks 0, ks 6, ks 7, ks 8, ks 9, ks 10, ks 11, ks 12, kb 0] (fun _ => mixed) (l' := [ps 0 (.ssl (ints l) 0 l.length), ps 6 (.osl 0 0 ((bI (eb l t)).length)), ps 7 (iv ((256 * t : Nat) : Int)), ps 8 (.ssl (ints (fr l t)) 0 ((fr l t).length)), ps 9 (iv (((bestTo (fr l t) (16 * a + c)).2.1 : Nat) : Int)), ps 10 (iv (((bestTo (fr l t) (16 * a + c)).2.2 : Nat) : Int)), ps 11 (iv ((a : Nat) : Int)), ps 12 (iv (((c : Nat) : Int) + 1)), pb 0 3 (ints (bI (eb l t)))]) (obs := [InK .i64 (((c : Nat) : Int) + 1)]) (by kernel_rfl) (obs_cons (p := InK .i64 (((c : Nat) : Int) + 1)) (by simp only [InK]; omega) (obs_nil)) ?_
                have hq := (best_next hsg (show c < 16 by omega) (show a ≤ 3 by omega)).2 h12
                exact T_back ⟨c + 1, by show c + 1 ≤ 16; omega⟩ (Wk.trans (Wk.eq (show [ps 0 (.ssl (ints l) 0 l.length), ps 6 (.osl 0 0 ((bI (eb l t)).length)), ps 7 (iv ((256 * t : Nat) : Int)), ps 8 (.ssl (ints (fr l t)) 0 ((fr l t).length)), ps 9 (iv (((bestTo (fr l t) (16 * a + c)).2.1 : Nat) : Int)), ps 10 (iv (((bestTo (fr l t) (16 * a + c)).2.2 : Nat) : Int)), ps 11 (iv ((a : Nat) : Int)), ps 12 (iv (((c : Nat) : Int) + 1)), pb 0 3 (ints (bI (eb l t)))] = [ps 0 (.ssl (ints l) 0 l.length), ps 6 (.osl 0 0 ((bI (eb l t)).length)), ps 7 (iv ((256 * t : Nat) : Int)), ps 8 (.ssl (ints (fr l t)) 0 ((fr l t).length)), ps 9 (iv (((bestTo (fr l t) (16 * a + (c + 1))).2.1 : Nat) : Int)), ps 10 (iv (((bestTo (fr l t) (16 * a + (c + 1))).2.2 : Nat) : Int)), ps 11 (iv ((a : Nat) : Int)), ps 12 (iv (((c : Nat) : Int) + 1)), pb 0 3 (ints (bI (eb l t)))] from by rw [hq.1, hq.2])) (Wk.ren3 [ps 0 (.ssl (ints l) 0 l.length), ps 6 (.osl 0 0 ((bI (eb l t)).length)), ps 7 (iv ((256 * t : Nat) : Int)), ps 8 (.ssl (ints (fr l t)) 0 ((fr l t).length)), ps 9 (iv (((bestTo (fr l t) (16 * a + (c + 1))).2.1 : Nat) : Int)), ps 10 (iv (((bestTo (fr l t) (16 * a + (c + 1))).2.2 : Nat) : Int)), ps 11 (iv ((a : Nat) : Int)), ps 12 (iv (((c + 1) : Nat) : Int)), pb 0 3 (ints (bI (eb l t)))] 0 hc0 [0] [(kb 0, (ints (bI (eb l t))))] (obs_cons (ints_shd _) (obs_nil)) (by kernel_rfl) rfl rfl (by kernel_rfl) (by kernel_rfl))) (show 16 - (c + 1) < 16 - c from by show 16 - (c + 1) < 16 - c; omega)
            · refine T_else (b := (decide (((c : Nat) : Int) < 16))) rfl (decide_eq_false h11) ?_
              refine T_break rfl rfl ?_
              refine T_blk ?_
              refine T_region [] [ks 0, ks 6, ks 7, ks 8, ks 9, ks 10, ks 11, kb 0] (fun _ => mixed) (l' := [ps 0 (.ssl (ints l) 0 l.length), ps 6 (.osl 0 0 ((bI (eb l t)).length)), ps 7 (iv ((256 * t : Nat) : Int)), ps 8 (.ssl (ints (fr l t)) 0 ((fr l t).length)), ps 9 (iv (((bestTo (fr l t) (16 * a + c)).2.1 : Nat) : Int)), ps 10 (iv (((bestTo (fr l t) (16 * a + c)).2.2 : Nat) : Int)), ps 11 (iv (((a : Nat) : Int) + 1)), pb 0 3 (ints (bI (eb l t)))]) (obs := [InK .i64 (((a : Nat) : Int) + 1)]) (by kernel_rfl) (obs_cons (p := InK .i64 (((a : Nat) : Int) + 1)) (by simp only [InK]; omega) (obs_nil)) ?_
              exact T_back ⟨a + 1, by show a + 1 ≤ 4; omega⟩ (Wk.trans (Wk.eq (show [ps 0 (.ssl (ints l) 0 l.length), ps 6 (.osl 0 0 ((bI (eb l t)).length)), ps 7 (iv ((256 * t : Nat) : Int)), ps 8 (.ssl (ints (fr l t)) 0 ((fr l t).length)), ps 9 (iv (((bestTo (fr l t) (16 * a + c)).2.1 : Nat) : Int)), ps 10 (iv (((bestTo (fr l t) (16 * a + c)).2.2 : Nat) : Int)), ps 11 (iv (((a : Nat) : Int) + 1)), pb 0 3 (ints (bI (eb l t)))] = [ps 0 (.ssl (ints l) 0 l.length), ps 6 (.osl 0 0 ((bI (eb l t)).length)), ps 7 (iv ((256 * t : Nat) : Int)), ps 8 (.ssl (ints (fr l t)) 0 ((fr l t).length)), ps 9 (iv (((bestTo (fr l t) (16 * (a + 1))).2.1 : Nat) : Int)), ps 10 (iv (((bestTo (fr l t) (16 * (a + 1))).2.2 : Nat) : Int)), ps 11 (iv (((a : Nat) : Int) + 1)), pb 0 3 (ints (bI (eb l t)))] from by rw [show 16 * (a + 1) = 16 * a + c from by omega])) (Wk.ren3 [ps 0 (.ssl (ints l) 0 l.length), ps 6 (.osl 0 0 ((bI (eb l t)).length)), ps 7 (iv ((256 * t : Nat) : Int)), ps 8 (.ssl (ints (fr l t)) 0 ((fr l t).length)), ps 9 (iv (((bestTo (fr l t) (16 * (a + 1))).2.1 : Nat) : Int)), ps 10 (iv (((bestTo (fr l t) (16 * (a + 1))).2.2 : Nat) : Int)), ps 11 (iv (((a + 1) : Nat) : Int)), pb 0 3 (ints (bI (eb l t)))] 0 hc0 [0] [(kb 0, (ints (bI (eb l t))))] (obs_cons (ints_shd _) (obs_nil)) (by kernel_rfl) rfl rfl (by kernel_rfl) (by kernel_rfl))) (show 4 - (a + 1) < 4 - a from by show 4 - (a + 1) < 4 - a; omega)
          · refine T_else (b := (decide (((a : Nat) : Int) < 4))) rfl (decide_eq_false h10) ?_
            refine T_break rfl rfl ?_
            have ha4 : 16 * a = 64 := by omega
            have hbb := best_bd hsg (show 64 ≤ 64 by omega)
            have hln := eb_len hs t
            have hfb := frb_len hs t
            refine T_wk (Wk.eq (show [ps 0 (.ssl (ints l) 0 l.length), ps 6 (.osl 0 0 ((bI (eb l t)).length)), ps 7 (iv ((256 * t : Nat) : Int)), ps 8 (.ssl (ints (fr l t)) 0 ((fr l t).length)), ps 9 (iv (((bestTo (fr l t) (16 * a)).2.1 : Nat) : Int)), ps 10 (iv (((bestTo (fr l t) (16 * a)).2.2 : Nat) : Int)), ps 11 (iv ((a : Nat) : Int)), ps 47 (bv (decide (((a : Nat) : Int) < 4))), pb 0 3 (ints (bI (eb l t)))] = [ps 0 (.ssl (ints l) 0 l.length), ps 6 (.osl 0 0 ((bI (eb l t)).length)), ps 7 (iv ((256 * t : Nat) : Int)), ps 8 (.ssl (ints (fr l t)) 0 ((fr l t).length)), ps 9 (iv (((bestTo (fr l t) 64).2.1 : Nat) : Int)), ps 10 (iv (((bestTo (fr l t) 64).2.2 : Nat) : Int)), ps 11 (iv ((a : Nat) : Int)), ps 47 (bv (decide (((a : Nat) : Int) < 4))), pb 0 3 (ints (bI (eb l t)))] from by rw [ha4])) ?_
            refine T_region [(4, .call [] [(.ssl (ints (fr l t)) 0 ((fr l t).length)), (iv (((bestTo (fr l t) 64).2.1 : Nat) : Int)), (iv (((bestTo (fr l t) 64).2.2 : Nat) : Int))] [] (.ssl (ints (bI (frameBits (fr l t) ((bestTo (fr l t) 64).2.1) ((bestTo (fr l t) 64).2.2)))) 0 ((bI (frameBits (fr l t) ((bestTo (fr l t) 64).2.1) ((bestTo (fr l t) 64).2.2))).length)) []), (5, .app (some (ints (bI (frameBits (fr l t) ((bestTo (fr l t) 64).2.1) ((bestTo (fr l t) 64).2.2))))) (some (ints (bI (eb l (t + 1))))))] [ks 0, ks 6, ks 7, kb 57] (fun _ => mixed) (l' := [ps 0 (.ssl (ints l) 0 l.length), ps 6 (.osl 57 0 (((bI (eb l t)).length) + ((bI (frameBits (fr l t) ((bestTo (fr l t) 64).2.1) ((bestTo (fr l t) 64).2.2))).length))), ps 7 (iv ((256 * t : Nat) : Int)), pb 57 3 (ints (bI (eb l (t + 1))))]) (obs := [PC Try.prog 18 [(.ssl (ints (fr l t)) 0 ((fr l t).length)), (iv (((bestTo (fr l t) 64).2.1 : Nat) : Int)), (iv (((bestTo (fr l t) 64).2.2 : Nat) : Int))] [] (.ssl (ints (bI (frameBits (fr l t) ((bestTo (fr l t) 64).2.1) ((bestTo (fr l t) 64).2.2)))) 0 ((bI (frameBits (fr l t) ((bestTo (fr l t) 64).2.1) ((bestTo (fr l t) 64).2.2))).length)) [], [(.ssl (ints (fr l t)) 0 ((fr l t).length)), (iv (((bestTo (fr l t) 64).2.1 : Nat) : Int)), (iv (((bestTo (fr l t) 64).2.2 : Nat) : Int))] = renL (sigi [] 49) [(.ssl (ints (fr l t)) 0 ((fr l t).length)), (iv (((bestTo (fr l t) 64).2.1 : Nat) : Int)), (iv (((bestTo (fr l t) 64).2.2 : Nat) : Int))], 0 + ((bI (frameBits (fr l t) ((bestTo (fr l t) 64).2.1) ((bestTo (fr l t) 64).2.2))).length) * 1 ≤ ((ints (bI (frameBits (fr l t) ((bestTo (fr l t) 64).2.1) ((bestTo (fr l t) 64).2.2))))).length ∧ (((ints (bI (frameBits (fr l t) ((bestTo (fr l t) 64).2.1) ((bestTo (fr l t) 64).2.2))))).drop 0).take (((bI (frameBits (fr l t) ((bestTo (fr l t) 64).2.1) ((bestTo (fr l t) 64).2.2))).length) * 1) = (ints (bI (frameBits (fr l t) ((bestTo (fr l t) 64).2.1) ((bestTo (fr l t) 64).2.2)))), ((ints (bI (eb l t)))).length = ((bI (eb l t)).length) * 1, (((bI (eb l t)).length) + ((bI (frameBits (fr l t) ((bestTo (fr l t) 64).2.1) ((bestTo (fr l t) 64).2.2))).length)) * 8 ≤ 140737488355328 ∧ ((bI (eb l t)).length) + ((bI (frameBits (fr l t) ((bestTo (fr l t) 64).2.1) ((bestTo (fr l t) 64).2.2))).length) ≤ 9223372036854775807, (ints (bI (eb l t))) ++ (ints (bI (frameBits (fr l t) ((bestTo (fr l t) 64).2.1) ((bestTo (fr l t) 64).2.2)))) = (ints (bI (eb l (t + 1))))]) (by kernel_rfl) (obs_cons (p := PC Try.prog 18 [(.ssl (ints (fr l t)) 0 ((fr l t).length)), (iv (((bestTo (fr l t) 64).2.1 : Nat) : Int)), (iv (((bestTo (fr l t) 64).2.2 : Nat) : Int))] [] (.ssl (ints (bI (frameBits (fr l t) ((bestTo (fr l t) 64).2.1) ((bestTo (fr l t) 64).2.2)))) 0 ((bI (frameBits (fr l t) ((bestTo (fr l t) 64).2.1) ((bestTo (fr l t) 64).2.2))).length)) []) (ref_frame_pc (fr l t) hg hsg ((bestTo (fr l t) 64).2.1) ((bestTo (fr l t) 64).2.2) (by omega) (by omega)) (obs_cons (p := [(.ssl (ints (fr l t)) 0 ((fr l t).length)), (iv (((bestTo (fr l t) 64).2.1 : Nat) : Int)), (iv (((bestTo (fr l t) 64).2.2 : Nat) : Int))] = renL (sigi [] 49) [(.ssl (ints (fr l t)) 0 ((fr l t).length)), (iv (((bestTo (fr l t) 64).2.1 : Nat) : Int)), (iv (((bestTo (fr l t) 64).2.2 : Nat) : Int))]) rfl (obs_cons (p := 0 + ((bI (frameBits (fr l t) ((bestTo (fr l t) 64).2.1) ((bestTo (fr l t) 64).2.2))).length) * 1 ≤ ((ints (bI (frameBits (fr l t) ((bestTo (fr l t) 64).2.1) ((bestTo (fr l t) 64).2.2))))).length ∧ (((ints (bI (frameBits (fr l t) ((bestTo (fr l t) 64).2.1) ((bestTo (fr l t) 64).2.2))))).drop 0).take (((bI (frameBits (fr l t) ((bestTo (fr l t) 64).2.1) ((bestTo (fr l t) 64).2.2))).length) * 1) = (ints (bI (frameBits (fr l t) ((bestTo (fr l t) 64).2.1) ((bestTo (fr l t) 64).2.2))))) (by have h9 := ints_len (bI (frameBits (fr l t) ((bestTo (fr l t) 64).2.1) ((bestTo (fr l t) 64).2.2))); refine ⟨by omega, ?_⟩; rw [List.drop_zero]; exact List.take_of_length_le (by omega)) (obs_cons (p := ((ints (bI (eb l t)))).length = ((bI (eb l t)).length) * 1) (by simp [ints_len]) (obs_cons (p := (((bI (eb l t)).length) + ((bI (frameBits (fr l t) ((bestTo (fr l t) 64).2.1) ((bestTo (fr l t) 64).2.2))).length)) * 8 ≤ 140737488355328 ∧ ((bI (eb l t)).length) + ((bI (frameBits (fr l t) ((bestTo (fr l t) 64).2.1) ((bestTo (fr l t) 64).2.2))).length) ≤ 9223372036854775807) (by omega) (obs_cons (p := (ints (bI (eb l t))) ++ (ints (bI (frameBits (fr l t) ((bestTo (fr l t) 64).2.1) ((bestTo (fr l t) 64).2.2)))) = (ints (bI (eb l (t + 1))))) (by rw [← eb_next]; exact (flat_app _ _ _).symm) (obs_nil))))))) ?_
            refine T_blk ?_
            refine T_region [] [ks 0, ks 6, ks 7, kb 57] (fun _ => mixed) (l' := [ps 0 (.ssl (ints l) 0 l.length), ps 6 (.osl 57 0 (((bI (eb l t)).length) + ((bI (frameBits (fr l t) ((bestTo (fr l t) 64).2.1) ((bestTo (fr l t) 64).2.2))).length))), ps 7 (iv (((256 * t : Nat) : Int) + 256)), pb 57 3 (ints (bI (eb l (t + 1))))]) (obs := [InK .i64 (((256 * t : Nat) : Int) + 256)]) (by kernel_rfl) (obs_cons (p := InK .i64 (((256 * t : Nat) : Int) + 256)) (by simp only [InK]; omega) (obs_nil)) ?_
            exact T_back ⟨t + 1, by show 256 * (t + 1) ≤ l.length + 255; omega⟩ (Wk.trans (Wk.eq (show [ps 0 (.ssl (ints l) 0 l.length), ps 6 (.osl 57 0 (((bI (eb l t)).length) + ((bI (frameBits (fr l t) ((bestTo (fr l t) 64).2.1) ((bestTo (fr l t) 64).2.2))).length))), ps 7 (iv (((256 * t : Nat) : Int) + 256)), pb 57 3 (ints (bI (eb l (t + 1))))] = [ps 0 (.ssl (ints l) 0 l.length), ps 6 (.osl 57 0 ((bI (eb l (t + 1))).length)), ps 7 (iv ((256 * (t + 1) : Nat) : Int)), pb 57 3 (ints (bI (eb l (t + 1))))] from by rw [len_of (eb_next l t), show ((256 * t : Nat) : Int) + 256 = ((256 * (t + 1) : Nat) : Int) from by omega])) (Wk.ren3 [ps 0 (.ssl (ints l) 0 l.length), ps 6 (.osl 0 0 ((bI (eb l (t + 1))).length)), ps 7 (iv ((256 * (t + 1) : Nat) : Int)), pb 0 3 (ints (bI (eb l (t + 1))))] 0 hc0 [57] [(kb 0, (ints (bI (eb l (t + 1)))))] (obs_cons (ints_shd _) (obs_nil)) (by kernel_rfl) rfl rfl (by kernel_rfl) (by kernel_rfl))) (show l.length + 256 - 256 * (t + 1) < l.length + 256 - 256 * t from by show l.length + 256 - 256 * (t + 1) < l.length + 256 - 256 * t; omega)
      · refine T_else (b := (decide (((256 * t : Nat) : Int) < ((l.length : Nat) : Int)))) rfl (decide_eq_false h5) ?_
        refine T_break rfl rfl ?_
        refine T_seq ?_
        have hE := eb_end ht (by omega)
        have hpos := eb_pos l t
        have hln := eb_len hs t
        rw [bI_len] at hln
        rw [hE] at hpos hln
        refine T_wk (Wk.eq (show [ps 0 (.ssl (ints l) 0 l.length), ps 6 (.osl 0 0 ((bI (eb l t)).length)), ps 7 (iv ((256 * t : Nat) : Int)), ps 35 (bv (decide (((256 * t : Nat) : Int) < ((l.length : Nat) : Int)))), pb 0 3 (ints (bI (eb l t)))] = [ps 0 (.ssl (ints l) 0 l.length), ps 6 (.osl 0 0 ((encBits l).length)), ps 7 (iv ((256 * t : Nat) : Int)), ps 35 (bv (decide (((256 * t : Nat) : Int) < ((l.length : Nat) : Int)))), pb 0 3 (ints (bI (encBits l)))] from by rw [hE, bI_len])) ?_
        refine T_wk (Wk.frz (l' := [ps 0 (.ssl (ints l) 0 l.length), ps 6 (.ssl (ints (bI (encBits l))) 0 ((encBits l).length)), ps 7 (iv ((256 * t : Nat) : Int)), ps 35 (bv (decide (((256 * t : Nat) : Int) < ((l.length : Nat) : Int)))), (kb 0, none)]) 0 (T := 3) (cs := (ints (bI (encBits l)))) (by kernel_rfl) (ints_shd _) (by kernel_rfl)) ?_
        refine T_wk (Wk.less (l' := [ps 0 (.ssl (ints l) 0 l.length), ps 6 (.ssl (ints (bI (encBits l))) 0 ((encBits l).length)), ps 7 (iv ((256 * t : Nat) : Int)), ps 35 (bv (decide (((256 * t : Nat) : Int) < ((l.length : Nat) : Int))))]) 33 (by kernel_rfl) (by kernel_rfl)) ?_
        refine T_region [(1, .call [] [(.ssl (ints (bI (encBits l))) 0 ((encBits l).length))] [] (sv (packS (encBits l))) [])] [ks 2, ks 3] (fun _ => mixed) (l' := [ps 2 (sv (packS (encBits l))), ps 3 (iv 0)]) (obs := [PC Try.prog 19 [(.ssl (ints (bI (encBits l))) 0 ((encBits l).length))] [] (sv (packS (encBits l))) [], [(.ssl (ints (bI (encBits l))) 0 ((encBits l).length))] = renL (sigi [] 41) [(.ssl (ints (bI (encBits l))) 0 ((encBits l).length))]]) (by kernel_rfl) (obs_cons (p := PC Try.prog 19 [(.ssl (ints (bI (encBits l))) 0 ((encBits l).length))] [] (sv (packS (encBits l))) []) (ref_bytes_pc (encBits l) (by omega) (by omega)) (obs_cons (p := [(.ssl (ints (bI (encBits l))) 0 ((encBits l).length))] = renL (sigi [] 41) [(.ssl (ints (bI (encBits l))) 0 ((encBits l).length))]) rfl (obs_nil))) ?_
        rw [enc_good hl hs]
        exact T_ret fun cx_ a_ hI_ => ret_ok (H' := []) (.inr rfl) (Wk.ren2 [ps 2 (sv (packS (encBits l))), ps 3 (iv 0)] 0 hc0 [] rfl rfl (by kernel_rfl) (by kernel_rfl)) rfl (obs_nil) (fun cx_ a_ hI_ => ret_res (l' := [ps 2 (sv (packS (encBits l))), ps 3 (iv 0)]) (by kernel_rfl) cx_ a_ hI_) hI_
end Go.Proofs.Ytfoiadlaekknpaa.Pm
namespace Go.Proofs.Ytfoiadlaekknpaa.Pm
open Go Co

attribute [local irreducible] rnum bitsB
def tk (B : List Bool) (p k : Nat) : Int × Nat × Bool := if B.length < p + k then (0, p, false) else ((rnum k 0 (B.drop p, false)).1, p + k, true)
theorem tk_next {B : List Bool} {p k i : Nat} {a v : Int} (hi : i < k) (hk : k ≤ 24) (hl : p + k ≤ B.length) (h0 : 0 ≤ a) (ha : a < 2 ^ i) (hr : (rnum (k - i) a (B.drop (p + i), false)).1 = v) :
    (rnum (k - (i + 1)) (2 * a + (bI B).getD (p + i) 0) (B.drop (p + (i + 1)), false)).1 = v ∧ 0 ≤ 2 * a + (bI B).getD (p + i) 0 ∧ 2 * a + (bI B).getD (p + i) 0 < 2 ^ (i + 1) ∧ 2 * a + (bI B).getD (p + i) 0 < 16777216 := by
  have h1 : B.drop (p + i) = B.getD (p + i) false :: B.drop (p + (i + 1)) := by
    rw [List.drop_eq_getElem_cons (show p + i < B.length by omega), List.getD_eq_getElem?_getD, List.getElem?_eq_getElem (by omega)]; rfl
  rw [h1, show k - i = (k - (i + 1)) + 1 by omega, rnum] at hr
  rw [bI_get B (p + i) (by omega)]
  have h2 := rb_01 (B.getD (p + i) false :: B.drop (p + (i + 1)), false)
  have h3 : (rb (B.getD (p + i) false :: B.drop (p + (i + 1)), false)).1 = bi (B.getD (p + i) false) := rfl
  have h4 : (2 : Int) ^ (i + 1) = 2 * 2 ^ i := by rw [Int.pow_succ]; omega
  have h5 : (2 : Int) ^ (i + 1) ≤ 2 ^ 24 := by
    have := Nat.pow_le_pow_right (n := 2) (by omega) (show i + 1 ≤ 24 by omega)
    exact_mod_cast this
  rw [h3] at h2
  exact ⟨hr, by omega, by omega, by omega⟩
theorem take_pc (B : List Bool) (hB : B.length ≤ 16777216) (p k : Nat) (hp : p ≤ B.length + 1) (hk : k ≤ 24) : PC Try.prog 24 [(.ssl (ints (bI B)) 0 B.length), (iv ((p : Nat) : Int)), (iv ((k : Nat) : Int))] [] (.tup [(iv ((tk B p k).1)), (iv (((tk B p k).2.1 : Nat) : Int)), (bv (tk B p k).2.2)]) [] := by
  refine pc_intro Try.func24 rfl (by kernel_rfl) (Nat.le_of_ble_eq_true rfl) (by kernel_rfl) (l0 := [ps 0 (.ssl (ints (bI B)) 0 B.length), ps 1 (iv ((p : Nat) : Int)), ps 2 (iv ((k : Nat) : Int))]) rfl (fun c0 Bor hc0 => ?_)
  refine T_seq ?_
  refine T_region [] [ks 0, ks 1, ks 2] (fun _ => mixed) (l' := [ps 0 (.ssl (ints (bI B)) 0 B.length), ps 1 (iv ((p : Nat) : Int)), ps 2 (iv ((k : Nat) : Int))]) (obs := []) (by kernel_rfl) (obs_nil) ?_
  refine T_seq ?_
  refine T_seq ?_
  refine T_region [] [ks 0, ks 1, ks 2, ks 16] (fun _ => mixed) (l' := [ps 0 (.ssl (ints (bI B)) 0 B.length), ps 1 (iv ((p : Nat) : Int)), ps 2 (iv ((k : Nat) : Int)), ps 16 (bv (decide (((B.length : Nat) : Int) < (((p : Nat) : Int) + ((k : Nat) : Int)))))]) (obs := [InK .i64 (((p : Nat) : Int) + ((k : Nat) : Int))]) (by kernel_rfl) (obs_cons (p := InK .i64 (((p : Nat) : Int) + ((k : Nat) : Int))) (by simp only [InK]; omega) (obs_nil)) ?_
  by_cases h1 : ((B.length : Nat) : Int) < (((p : Nat) : Int) + ((k : Nat) : Int))
  · refine T_then (b := (decide (((B.length : Nat) : Int) < (((p : Nat) : Int) + ((k : Nat) : Int))))) rfl (decide_eq_true h1) ?_
    refine T_seq ?_
    refine T_region [] [ks 6, ks 7, ks 8] (fun _ => mixed) (l' := [ps 6 (iv 0), ps 7 (iv ((p : Nat) : Int)), ps 8 (bv false)]) (obs := []) (by kernel_rfl) (obs_nil) ?_
    rw [show tk B p k = (0, p, false) from by unfold tk; rw [if_pos (by omega)]]
    exact T_ret fun cx_ a_ hI_ => ret_ok (H' := []) (.inr rfl) (Wk.ren2 [ps 6 (iv 0), ps 7 (iv ((p : Nat) : Int)), ps 8 (bv false)] 0 hc0 [] rfl rfl (by kernel_rfl) (by kernel_rfl)) rfl (obs_nil) (fun cx_ a_ hI_ => ret_res (l' := [ps 6 (iv 0), ps 7 (iv ((p : Nat) : Int)), ps 8 (bv false)]) (by kernel_rfl) cx_ a_ hI_) hI_
  · refine T_else (b := (decide (((B.length : Nat) : Int) < (((p : Nat) : Int) + ((k : Nat) : Int))))) rfl (decide_eq_false h1) ?_
    refine T_skip ?_
    refine T_seq ?_
    refine T_region [] [ks 0, ks 1, ks 2, ks 9] (fun _ => mixed) (l' := [ps 0 (.ssl (ints (bI B)) 0 B.length), ps 1 (iv ((p : Nat) : Int)), ps 2 (iv ((k : Nat) : Int)), ps 9 (iv 0)]) (obs := []) (by kernel_rfl) (obs_nil) ?_
    refine T_seq ?_
    refine T_seq ?_
    refine T_region [] [ks 0, ks 1, ks 2, ks 9, ks 10] (fun _ => mixed) (l' := [ps 0 (.ssl (ints (bI B)) 0 B.length), ps 1 (iv ((p : Nat) : Int)), ps 2 (iv ((k : Nat) : Int)), ps 9 (iv 0), ps 10 (iv 0)]) (obs := []) (by kernel_rfl) (obs_nil) ?_
    refine T_block ?_
    refine T_loop (α := {x : Nat × Int // x.1 ≤ k ∧ 0 ≤ x.2 ∧ x.2 < 2 ^ x.1 ∧ x.2 < 16777216 ∧ (rnum (k - x.1) x.2 (B.drop (p + x.1), false)).1 = (rnum k 0 (B.drop p, false)).1}) (fun x => [ps 0 (.ssl (ints (bI B)) 0 B.length), ps 1 (iv ((p : Nat) : Int)), ps 2 (iv ((k : Nat) : Int)), ps 9 (iv x.1.2), ps 10 (iv ((x.1.1 : Nat) : Int))]) (fun x => k - x.1.1) 0 ⟨(0, 0), ⟨Nat.zero_le _, Int.le_refl _, by simp, by show (0 : Int) < 16777216; omega, rfl⟩⟩ (Wk.ren2 [ps 0 (.ssl (ints (bI B)) 0 B.length), ps 1 (iv ((p : Nat) : Int)), ps 2 (iv ((k : Nat) : Int)), ps 9 (iv (0 : Int)), ps 10 (iv ((0 : Nat) : Int))] 0 hc0 [] rfl rfl (by kernel_rfl) (by kernel_rfl)) ?_
    rintro ⟨⟨i, a⟩, ⟨hi, h0, ha, hA, hr⟩⟩
    dsimp only at hi h0 ha hA hr
    refine T_seq ?_
    refine T_seq ?_
    refine T_region [] [ks 0, ks 1, ks 2, ks 9, ks 10, ks 20] (fun _ => mixed) (l' := [ps 0 (.ssl (ints (bI B)) 0 B.length), ps 1 (iv ((p : Nat) : Int)), ps 2 (iv ((k : Nat) : Int)), ps 9 (iv a), ps 10 (iv ((i : Nat) : Int)), ps 20 (bv (decide (((i : Nat) : Int) < ((k : Nat) : Int))))]) (obs := []) (by kernel_rfl) (obs_nil) ?_
    by_cases h2 : ((i : Nat) : Int) < ((k : Nat) : Int)
    · refine T_then (b := (decide (((i : Nat) : Int) < ((k : Nat) : Int)))) rfl (decide_eq_true h2) ?_
      refine T_skip ?_
      refine T_seq ?_
      refine T_block ?_
      have hq := tk_next (by omega) hk (by omega) h0 ha hr
      refine T_region [(6, .nat ((p + i))), (7, .val (iv ((bI B).getD (p + i) 0)))] [ks 0, ks 1, ks 2, ks 9, ks 10] (fun _ => mixed) (l' := [ps 0 (.ssl (ints (bI B)) 0 B.length), ps 1 (iv ((p : Nat) : Int)), ps 2 (iv ((k : Nat) : Int)), ps 9 (iv ((2 * a) + ((bI B).getD (p + i) 0))), ps 10 (iv ((i : Nat) : Int))]) (obs := [InK .i64 (2 * a), InK .i64 (((p : Nat) : Int) + ((i : Nat) : Int)), (0 : Int) ≤ (((p : Nat) : Int) + ((i : Nat) : Int)) ∧ (((p : Nat) : Int) + ((i : Nat) : Int)) < ((B.length : Nat) : Int), 0 + ((((p : Nat) : Int) + ((i : Nat) : Int)) : Int).toNat * 1 = ((p + i)), ((p + i)) + 1 ≤ ((ints (bI B))).length ∧ (((ints (bI B))).drop ((p + i))).take 1 = [(iv ((bI B).getD (p + i) 0))], InK .i64 ((2 * a) + ((bI B).getD (p + i) 0))]) (by kernel_rfl) (obs_cons (p := InK .i64 (2 * a)) (by simp only [InK]; omega) (obs_cons (p := InK .i64 (((p : Nat) : Int) + ((i : Nat) : Int))) (by simp only [InK]; omega) (obs_cons (p := (0 : Int) ≤ (((p : Nat) : Int) + ((i : Nat) : Int)) ∧ (((p : Nat) : Int) + ((i : Nat) : Int)) < ((B.length : Nat) : Int)) (by omega) (obs_cons (p := 0 + ((((p : Nat) : Int) + ((i : Nat) : Int)) : Int).toNat * 1 = ((p + i))) (by omega) (obs_cons (p := ((p + i)) + 1 ≤ ((ints (bI B))).length ∧ (((ints (bI B))).drop ((p + i))).take 1 = [(iv ((bI B).getD (p + i) 0))]) (ints_at (by rw [bI_len]; omega)) (obs_cons (p := InK .i64 ((2 * a) + ((bI B).getD (p + i) 0))) (by simp only [InK]; omega) (obs_nil))))))) ?_
      refine T_blk ?_
      refine T_region [] [ks 0, ks 1, ks 2, ks 9, ks 10] (fun _ => mixed) (l' := [ps 0 (.ssl (ints (bI B)) 0 B.length), ps 1 (iv ((p : Nat) : Int)), ps 2 (iv ((k : Nat) : Int)), ps 9 (iv ((2 * a) + ((bI B).getD (p + i) 0))), ps 10 (iv (((i : Nat) : Int) + 1))]) (obs := [InK .i64 (((i : Nat) : Int) + 1)]) (by kernel_rfl) (obs_cons (p := InK .i64 (((i : Nat) : Int) + 1)) (by simp only [InK]; omega) (obs_nil)) ?_
      exact T_back ⟨(i + 1, (2 * a + (bI B).getD (p + i) 0)), ⟨by omega, hq.2.1, hq.2.2.1, hq.2.2.2, hq.1⟩⟩ (Wk.ren2 [ps 0 (.ssl (ints (bI B)) 0 B.length), ps 1 (iv ((p : Nat) : Int)), ps 2 (iv ((k : Nat) : Int)), ps 9 (iv (2 * a + (bI B).getD (p + i) 0)), ps 10 (iv (((i + 1) : Nat) : Int))] 0 hc0 [] rfl rfl (by kernel_rfl) (by kernel_rfl)) (show k - (i + 1) < k - i from by show k - (i + 1) < k - i; omega)
    · refine T_else (b := (decide (((i : Nat) : Int) < ((k : Nat) : Int)))) rfl (decide_eq_false h2) ?_
      refine T_break rfl rfl ?_
      refine T_seq ?_
      refine T_region [] [ks 6, ks 7, ks 8] (fun _ => mixed) (l' := [ps 6 (iv a), ps 7 (iv (((p : Nat) : Int) + ((k : Nat) : Int))), ps 8 (bv true)]) (obs := [InK .i64 (((p : Nat) : Int) + ((k : Nat) : Int))]) (by kernel_rfl) (obs_cons (p := InK .i64 (((p : Nat) : Int) + ((k : Nat) : Int))) (by simp only [InK]; omega) (obs_nil)) ?_
      have hik : i = k := by omega
      have hT : tk B p k = (a, p + k, true) := by unfold tk; rw [if_neg (by omega), ← hr, hik, Nat.sub_self]; unfold rnum; rfl
      rw [hT]
      exact T_ret fun cx_ a_ hI_ => ret_ok (H' := []) (.inr rfl) (Wk.ren2 [ps 6 (iv a), ps 7 (iv (((p : Nat) : Int) + ((k : Nat) : Int))), ps 8 (bv true)] 0 hc0 [] rfl rfl (by kernel_rfl) (by kernel_rfl)) rfl (obs_nil) (fun cx_ a_ hI_ => ret_res (l' := [ps 6 (iv a), ps 7 (iv (((p : Nat) : Int) + ((k : Nat) : Int))), ps 8 (bv true)]) (by kernel_rfl) cx_ a_ hI_) hI_
def rk (B : List Bool) (p key : Nat) : Int × Nat × Bool :=
  if (rones (B.drop p)).2.2 then (0, B.length, false)
  else (((rones (B.drop p)).1 : Int) * 2 ^ key + (tk B (p + (rones (B.drop p)).1 + 1) key).1, (tk B (p + (rones (B.drop p)).1 + 1) key).2)
theorem drop_cons {B : List Bool} {p : Nat} (h : p < B.length) : B.drop p = B.getD p false :: B.drop (p + 1) := by
  rw [List.drop_eq_getElem_cons h, List.getD_eq_getElem?_getD, List.getElem?_eq_getElem h]; rfl
theorem bi_one {b : Bool} (h : bi b = 1) : b = true := by cases b with | true => rfl | false => cases h
theorem bi_zero {b : Bool} (h : ¬ bi b = 1) : b = false := by cases b with | false => rfl | true => exact absurd rfl h
theorem rk_next {B : List Bool} {p n : Nat} (h : p + n < B.length) (h1 : (bI B).getD (p + n) 0 = 1) (hr : rones (B.drop p) = (n + (rones (B.drop (p + n))).1, (rones (B.drop (p + n))).2)) :
    rones (B.drop p) = (n + 1 + (rones (B.drop (p + (n + 1)))).1, (rones (B.drop (p + (n + 1)))).2) := by
  rw [bI_get B _ h] at h1
  rw [hr, drop_cons h, bi_one h1, rones, show p + n + 1 = p + (n + 1) by omega]
  simp only [Prod.mk.injEq, and_true]; omega
theorem rk_end {B : List Bool} {p n : Nat} (h : p + n = B.length) (hr : rones (B.drop p) = (n + (rones (B.drop (p + n))).1, (rones (B.drop (p + n))).2)) (key : Nat) : rk B p key = (0, B.length, false) := by
  unfold rk
  rw [if_pos]
  rw [hr, h, List.drop_length]; rfl
theorem rk_stop {B : List Bool} {p n : Nat} (h : p + n < B.length) (h1 : ¬ (bI B).getD (p + n) 0 = 1) (hr : rones (B.drop p) = (n + (rones (B.drop (p + n))).1, (rones (B.drop (p + n))).2)) (key : Nat) :
    rk B p key = ((n : Int) * 2 ^ key + (tk B (p + n + 1) key).1, (tk B (p + n + 1) key).2) := by
  rw [bI_get B _ h] at h1
  rw [drop_cons h, bi_zero h1, rones] at hr
  unfold rk
  rw [if_neg (by rw [hr]; simp), hr]
  simp
theorem take_as (B : List Bool) (hB : B.length ≤ 16777216) (x : Int) (p : Nat) (hx : x = ((p : Nat) : Int)) (k : Nat) (hp : p ≤ B.length + 1) (hk : k ≤ 24) :
    PC Try.prog 24 [.ssl (ints (bI B)) 0 B.length, iv x, iv ((k : Nat) : Int)] [] (.tup [iv (tk B p k).1, iv (((tk B p k).2.1 : Nat) : Int), bv (tk B p k).2.2]) [] := by subst hx; exact take_pc B hB p k hp hk
theorem tk_bd (B : List Bool) (p k : Nat) (hk : k ≤ 24) : 0 ≤ (tk B p k).1 ∧ (tk B p k).1 < 16777216 ∧ (tk B p k).1 < 2 ^ k := by
  have h2 : (2 : Int) ^ k ≤ 2 ^ 24 := by
    have := Nat.pow_le_pow_right (n := 2) (by omega) hk
    exact_mod_cast this
  have h4 : (0 : Int) < 2 ^ k := Int.pow_pos (by omega)
  unfold tk
  split
  · exact ⟨Int.le_refl _, by show (0 : Int) < 16777216; omega, h4⟩
  · have h1 := rnum_bd k 0 (B.drop p, false) (Int.le_refl _)
    exact ⟨h1.1, by have := h1.2; omega, by have := h1.2; omega⟩
theorem mul_bd {n : Nat} {q : Int} (hn : n ≤ 16777216) (h1 : 1 ≤ q) (h2 : q ≤ 32768) : 0 ≤ (n : Int) * q ∧ (n : Int) * q ≤ 549755813888 := by
  have h3 : (n : Int) * q ≤ n * 32768 := Int.mul_le_mul_of_nonneg_left h2 (by omega)
  exact ⟨Int.mul_nonneg (by omega) (by omega), by omega⟩
theorem ref_rice_pc (B : List Bool) (hB : B.length ≤ 16777216) (p key : Nat) (hp : p ≤ B.length) (hk : key ≤ 15) : PC Try.prog 25 [(.ssl (ints (bI B)) 0 B.length), (iv ((p : Nat) : Int)), (iv ((key : Nat) : Int))] [] (.tup [(iv ((rk B p key).1)), (iv (((rk B p key).2.1 : Nat) : Int)), (bv (rk B p key).2.2)]) [] := by
  refine pc_intro Try.func25 rfl (by kernel_rfl) (Nat.le_of_ble_eq_true rfl) (by kernel_rfl) (l0 := [ps 0 (.ssl (ints (bI B)) 0 B.length), ps 1 (iv ((p : Nat) : Int)), ps 2 (iv ((key : Nat) : Int))]) rfl (fun c0 Bor hc0 => ?_)
  refine T_seq ?_
  refine T_region [] [ks 0, ks 1, ks 2] (fun _ => mixed) (l' := [ps 0 (.ssl (ints (bI B)) 0 B.length), ps 1 (iv ((p : Nat) : Int)), ps 2 (iv ((key : Nat) : Int))]) (obs := []) (by kernel_rfl) (obs_nil) ?_
  refine T_seq ?_
  refine T_region [] [ks 0, ks 1, ks 2, ks 9] (fun _ => mixed) (l' := [ps 0 (.ssl (ints (bI B)) 0 B.length), ps 1 (iv ((p : Nat) : Int)), ps 2 (iv ((key : Nat) : Int)), ps 9 (iv 0)]) (obs := []) (by kernel_rfl) (obs_nil) ?_
  refine T_seq ?_
  refine T_block ?_
  refine T_wk (Wk.eq (show [ps 0 (.ssl (ints (bI B)) 0 B.length), ps 1 (iv ((p : Nat) : Int)), ps 2 (iv ((key : Nat) : Int)), ps 9 (iv 0)] = [ps 0 (.ssl (ints (bI B)) 0 B.length), ps 1 (iv ((p + 0 : Nat) : Int)), ps 2 (iv ((key : Nat) : Int)), ps 9 (iv 0)] from by rfl)) ?_
  refine T_loop (α := {x : Nat // p + x ≤ B.length ∧ rones (B.drop p) = (x + (rones (B.drop (p + x))).1, (rones (B.drop (p + x))).2)}) (fun x => [ps 0 (.ssl (ints (bI B)) 0 B.length), ps 1 (iv ((p + x.1 : Nat) : Int)), ps 2 (iv ((key : Nat) : Int)), ps 9 (iv ((x.1 : Nat) : Int))]) (fun x => B.length + 1 - x.1) 0 ⟨0, ⟨hp, by rw [Nat.zero_add]; rfl⟩⟩ (Wk.ren2 [ps 0 (.ssl (ints (bI B)) 0 B.length), ps 1 (iv ((p + 0 : Nat) : Int)), ps 2 (iv ((key : Nat) : Int)), ps 9 (iv ((0 : Nat) : Int))] 0 hc0 [] rfl rfl (by kernel_rfl) (by kernel_rfl)) ?_
  rintro ⟨n, ⟨hn, hr⟩⟩
  refine T_seq ?_
  refine T_seq ?_
  by_cases h1 : ((p + n : Nat) : Int) < ((B.length : Nat) : Int)
  · refine T_region [(5, .gd true (.no)), (6, .gd true (.no)), (7, .gd true (.nat ((p + n)))), (8, .gd true (.val (iv ((bI B).getD (p + n) 0)))), (9, .gd true (.no)), (10, .yes true)] [ks 0, ks 1, ks 2, ks 9, ks 22] (fun _ => mixed) (l' := [ps 0 (.ssl (ints (bI B)) 0 B.length), ps 1 (iv ((p + n : Nat) : Int)), ps 2 (iv ((key : Nat) : Int)), ps 9 (iv ((n : Nat) : Int)), ps 22 (bv (decide (((bI B).getD (p + n) 0) = 1)))]) (obs := [(decide (((p + n : Nat) : Int) < ((B.length : Nat) : Int))) = true, (decide (((p + n : Nat) : Int) < ((B.length : Nat) : Int))) = true, (decide (((p + n : Nat) : Int) < ((B.length : Nat) : Int))) = true, (0 : Int) ≤ ((p + n : Nat) : Int) ∧ ((p + n : Nat) : Int) < ((B.length : Nat) : Int), 0 + (((p + n : Nat) : Int) : Int).toNat * 1 = ((p + n)), (decide (((p + n : Nat) : Int) < ((B.length : Nat) : Int))) = true, ((p + n)) + 1 ≤ ((ints (bI B))).length ∧ (((ints (bI B))).drop ((p + n))).take 1 = [(iv ((bI B).getD (p + n) 0))], (decide (((p + n : Nat) : Int) < ((B.length : Nat) : Int))) = true, (decide (((p + n : Nat) : Int) < ((B.length : Nat) : Int))) = true]) (by kernel_rfl) (obs_cons (p := (decide (((p + n : Nat) : Int) < ((B.length : Nat) : Int))) = true) (decide_eq_true h1) (obs_cons (p := (decide (((p + n : Nat) : Int) < ((B.length : Nat) : Int))) = true) (decide_eq_true h1) (obs_cons (p := (decide (((p + n : Nat) : Int) < ((B.length : Nat) : Int))) = true) (decide_eq_true h1) (obs_cons (p := (0 : Int) ≤ ((p + n : Nat) : Int) ∧ ((p + n : Nat) : Int) < ((B.length : Nat) : Int)) (by omega) (obs_cons (p := 0 + (((p + n : Nat) : Int) : Int).toNat * 1 = ((p + n))) (by omega) (obs_cons (p := (decide (((p + n : Nat) : Int) < ((B.length : Nat) : Int))) = true) (decide_eq_true h1) (obs_cons (p := ((p + n)) + 1 ≤ ((ints (bI B))).length ∧ (((ints (bI B))).drop ((p + n))).take 1 = [(iv ((bI B).getD (p + n) 0))]) (ints_at (by rw [bI_len]; omega)) (obs_cons (p := (decide (((p + n : Nat) : Int) < ((B.length : Nat) : Int))) = true) (decide_eq_true h1) (obs_cons (p := (decide (((p + n : Nat) : Int) < ((B.length : Nat) : Int))) = true) (decide_eq_true h1) (obs_nil)))))))))) ?_
    by_cases h2 : ((bI B).getD (p + n) 0) = 1
    · refine T_then (b := (decide (((bI B).getD (p + n) 0) = 1))) rfl (decide_eq_true h2) ?_
      refine T_skip ?_
      refine T_block ?_
      refine T_seq ?_
      refine T_region [] [ks 0, ks 1, ks 2, ks 9] (fun _ => mixed) (l' := [ps 0 (.ssl (ints (bI B)) 0 B.length), ps 1 (iv ((p + n : Nat) : Int)), ps 2 (iv ((key : Nat) : Int)), ps 9 (iv (((n : Nat) : Int) + 1))]) (obs := [InK .i64 (((n : Nat) : Int) + 1)]) (by kernel_rfl) (obs_cons (p := InK .i64 (((n : Nat) : Int) + 1)) (by simp only [InK]; omega) (obs_nil)) ?_
      refine T_region [] [ks 0, ks 1, ks 2, ks 9] (fun _ => mixed) (l' := [ps 0 (.ssl (ints (bI B)) 0 B.length), ps 1 (iv (((p + n : Nat) : Int) + 1)), ps 2 (iv ((key : Nat) : Int)), ps 9 (iv (((n : Nat) : Int) + 1))]) (obs := [InK .i64 (((p + n : Nat) : Int) + 1)]) (by kernel_rfl) (obs_cons (p := InK .i64 (((p + n : Nat) : Int) + 1)) (by simp only [InK]; omega) (obs_nil)) ?_
      refine T_blk ?_
      have hq := rk_next (by omega) h2 hr
      exact T_back ⟨n + 1, ⟨by omega, hq⟩⟩ (Wk.trans (Wk.eq (show [ps 0 (.ssl (ints (bI B)) 0 B.length), ps 1 (iv (((p + n : Nat) : Int) + 1)), ps 2 (iv ((key : Nat) : Int)), ps 9 (iv (((n : Nat) : Int) + 1))] = [ps 0 (.ssl (ints (bI B)) 0 B.length), ps 1 (iv ((p + (n + 1) : Nat) : Int)), ps 2 (iv ((key : Nat) : Int)), ps 9 (iv (((n + 1) : Nat) : Int))] from by rw [show ((p + n : Nat) : Int) + 1 = ((p + (n + 1) : Nat) : Int) from by omega, show ((n : Nat) : Int) + 1 = (((n + 1) : Nat) : Int) from by omega])) (Wk.ren2 [ps 0 (.ssl (ints (bI B)) 0 B.length), ps 1 (iv ((p + (n + 1) : Nat) : Int)), ps 2 (iv ((key : Nat) : Int)), ps 9 (iv (((n + 1) : Nat) : Int))] 0 hc0 [] rfl rfl (by kernel_rfl) (by kernel_rfl))) (show B.length + 1 - (n + 1) < B.length + 1 - n from by show B.length + 1 - (n + 1) < B.length + 1 - n; omega)
    · refine T_else (b := (decide (((bI B).getD (p + n) 0) = 1))) rfl (decide_eq_false h2) ?_
      refine T_break rfl rfl ?_
      refine T_seq ?_
      refine T_seq ?_
      refine T_region [] [ks 0, ks 1, ks 2, ks 9, ks 30] (fun _ => mixed) (l' := [ps 0 (.ssl (ints (bI B)) 0 B.length), ps 1 (iv ((p + n : Nat) : Int)), ps 2 (iv ((key : Nat) : Int)), ps 9 (iv ((n : Nat) : Int)), ps 30 (bv (decide (((p + n : Nat) : Int) = ((B.length : Nat) : Int))))]) (obs := []) (by kernel_rfl) (obs_nil) ?_
      by_cases h3 : ((p + n : Nat) : Int) = ((B.length : Nat) : Int)
      · exfalso; omega
      · refine T_else (b := (decide (((p + n : Nat) : Int) = ((B.length : Nat) : Int)))) rfl (decide_eq_false h3) ?_
        refine T_skip ?_
        refine T_seq ?_
        refine T_region [(4, .call [] [(.ssl (ints (bI B)) 0 B.length), (iv (((p + n : Nat) : Int) + 1)), (iv ((key : Nat) : Int))] [] (.tup [(iv ((tk B (p + n + 1) key).1)), (iv (((tk B (p + n + 1) key).2.1 : Nat) : Int)), (bv (tk B (p + n + 1) key).2.2)]) [])] [ks 1, ks 2, ks 9, ks 10, ks 11] (fun _ => mixed) (l' := [ps 1 (iv (((tk B (p + n + 1) key).2.1 : Nat) : Int)), ps 2 (iv ((key : Nat) : Int)), ps 9 (iv ((n : Nat) : Int)), ps 10 (iv ((tk B (p + n + 1) key).1)), ps 11 (bv (tk B (p + n + 1) key).2.2)]) (obs := [InK .i64 (((p + n : Nat) : Int) + 1), PC Try.prog 24 [(.ssl (ints (bI B)) 0 B.length), (iv (((p + n : Nat) : Int) + 1)), (iv ((key : Nat) : Int))] [] (.tup [(iv ((tk B (p + n + 1) key).1)), (iv (((tk B (p + n + 1) key).2.1 : Nat) : Int)), (bv (tk B (p + n + 1) key).2.2)]) [], [(.ssl (ints (bI B)) 0 B.length), (iv (((p + n : Nat) : Int) + 1)), (iv ((key : Nat) : Int))] = renL (sigi [] 152) [(.ssl (ints (bI B)) 0 B.length), (iv (((p + n : Nat) : Int) + 1)), (iv ((key : Nat) : Int))]]) (by kernel_rfl) (obs_cons (p := InK .i64 (((p + n : Nat) : Int) + 1)) (by simp only [InK]; omega) (obs_cons (p := PC Try.prog 24 [(.ssl (ints (bI B)) 0 B.length), (iv (((p + n : Nat) : Int) + 1)), (iv ((key : Nat) : Int))] [] (.tup [(iv ((tk B (p + n + 1) key).1)), (iv (((tk B (p + n + 1) key).2.1 : Nat) : Int)), (bv (tk B (p + n + 1) key).2.2)]) []) (take_as B hB _ (p + n + 1) (by omega) key (by omega) (by omega)) (obs_cons (p := [(.ssl (ints (bI B)) 0 B.length), (iv (((p + n : Nat) : Int) + 1)), (iv ((key : Nat) : Int))] = renL (sigi [] 152) [(.ssl (ints (bI B)) 0 B.length), (iv (((p + n : Nat) : Int) + 1)), (iv ((key : Nat) : Int))]) rfl (obs_nil)))) ?_
        refine T_seq ?_
        have hp2 := pow_small hk
        have hm := mul_bd (n := n) (by omega) hp2.1 hp2.2
        have htk := tk_bd B (p + n + 1) key (by omega)
        refine T_region [(2, .call [] [(iv ((key : Nat) : Int))] [] (iv (2 ^ key)) [])] [ks 6, ks 7, ks 8] (fun _ => mixed) (l' := [ps 6 (iv ((((n : Nat) : Int) * (2 ^ key)) + ((tk B (p + n + 1) key).1))), ps 7 (iv (((tk B (p + n + 1) key).2.1 : Nat) : Int)), ps 8 (bv (tk B (p + n + 1) key).2.2)]) (obs := [PC Try.prog 16 [(iv ((key : Nat) : Int))] [] (iv (2 ^ key)) [], [(iv ((key : Nat) : Int))] = renL (sigi [] 232) [(iv ((key : Nat) : Int))], InK .i64 (((n : Nat) : Int) * (2 ^ key)), InK .i64 ((((n : Nat) : Int) * (2 ^ key)) + ((tk B (p + n + 1) key).1))]) (by kernel_rfl) (obs_cons (p := PC Try.prog 16 [(iv ((key : Nat) : Int))] [] (iv (2 ^ key)) []) (power_pc key hk) (obs_cons (p := [(iv ((key : Nat) : Int))] = renL (sigi [] 232) [(iv ((key : Nat) : Int))]) rfl (obs_cons (p := InK .i64 (((n : Nat) : Int) * (2 ^ key))) (by simp only [InK]; omega) (obs_cons (p := InK .i64 ((((n : Nat) : Int) * (2 ^ key)) + ((tk B (p + n + 1) key).1))) (by simp only [InK]; omega) (obs_nil))))) ?_
        rw [rk_stop (by omega) h2 hr key]
        exact T_ret fun cx_ a_ hI_ => ret_ok (H' := []) (.inr rfl) (Wk.ren2 [ps 6 (iv ((((n : Nat) : Int) * (2 ^ key)) + ((tk B (p + n + 1) key).1))), ps 7 (iv (((tk B (p + n + 1) key).2.1 : Nat) : Int)), ps 8 (bv (tk B (p + n + 1) key).2.2)] 0 hc0 [] rfl rfl (by kernel_rfl) (by kernel_rfl)) rfl (obs_nil) (fun cx_ a_ hI_ => ret_res (l' := [ps 6 (iv ((((n : Nat) : Int) * (2 ^ key)) + ((tk B (p + n + 1) key).1))), ps 7 (iv (((tk B (p + n + 1) key).2.1 : Nat) : Int)), ps 8 (bv (tk B (p + n + 1) key).2.2)]) (by kernel_rfl) cx_ a_ hI_) hI_
  · refine T_region [(5, .gd false .no), (6, .gd false .no), (7, .gd false .no), (8, .gd false .no), (9, .gd false .no), (10, .yes false)] [ks 0, ks 1, ks 2, ks 9, ks 22] (fun _ => mixed) (l' := [ps 0 (.ssl (ints (bI B)) 0 B.length), ps 1 (iv ((p + n : Nat) : Int)), ps 2 (iv ((key : Nat) : Int)), ps 9 (iv ((n : Nat) : Int)), ps 22 (bv false)]) (obs := [(decide (((p + n : Nat) : Int) < ((B.length : Nat) : Int))) = false, (decide (((p + n : Nat) : Int) < ((B.length : Nat) : Int))) = false, (decide (((p + n : Nat) : Int) < ((B.length : Nat) : Int))) = false, (decide (((p + n : Nat) : Int) < ((B.length : Nat) : Int))) = false, (decide (((p + n : Nat) : Int) < ((B.length : Nat) : Int))) = false, (decide (((p + n : Nat) : Int) < ((B.length : Nat) : Int))) = false]) (by kernel_rfl) (obs_cons (p := (decide (((p + n : Nat) : Int) < ((B.length : Nat) : Int))) = false) (decide_eq_false h1) (obs_cons (p := (decide (((p + n : Nat) : Int) < ((B.length : Nat) : Int))) = false) (decide_eq_false h1) (obs_cons (p := (decide (((p + n : Nat) : Int) < ((B.length : Nat) : Int))) = false) (decide_eq_false h1) (obs_cons (p := (decide (((p + n : Nat) : Int) < ((B.length : Nat) : Int))) = false) (decide_eq_false h1) (obs_cons (p := (decide (((p + n : Nat) : Int) < ((B.length : Nat) : Int))) = false) (decide_eq_false h1) (obs_cons (p := (decide (((p + n : Nat) : Int) < ((B.length : Nat) : Int))) = false) (decide_eq_false h1) (obs_nil))))))) ?_
    refine T_else (b := false) rfl rfl ?_
    refine T_break rfl rfl ?_
    refine T_seq ?_
    refine T_seq ?_
    refine T_region [] [ks 0, ks 1, ks 2, ks 9, ks 30] (fun _ => mixed) (l' := [ps 0 (.ssl (ints (bI B)) 0 B.length), ps 1 (iv ((p + n : Nat) : Int)), ps 2 (iv ((key : Nat) : Int)), ps 9 (iv ((n : Nat) : Int)), ps 30 (bv (decide (((p + n : Nat) : Int) = ((B.length : Nat) : Int))))]) (obs := []) (by kernel_rfl) (obs_nil) ?_
    by_cases h4 : ((p + n : Nat) : Int) = ((B.length : Nat) : Int)
    · refine T_then (b := (decide (((p + n : Nat) : Int) = ((B.length : Nat) : Int)))) rfl (decide_eq_true h4) ?_
      refine T_seq ?_
      refine T_region [] [ks 6, ks 7, ks 8] (fun _ => mixed) (l' := [ps 6 (iv 0), ps 7 (iv ((p + n : Nat) : Int)), ps 8 (bv false)]) (obs := []) (by kernel_rfl) (obs_nil) ?_
      rw [rk_end (by omega) hr key]
      refine T_wk (Wk.eq (show [ps 6 (iv 0), ps 7 (iv ((p + n : Nat) : Int)), ps 8 (bv false)] = [ps 6 (iv 0), ps 7 (iv ((B.length : Nat) : Int)), ps 8 (bv false)] from by rw [show ((p + n : Nat) : Int) = ((B.length : Nat) : Int) from by omega])) ?_
      exact T_ret fun cx_ a_ hI_ => ret_ok (H' := []) (.inr rfl) (Wk.ren2 [ps 6 (iv 0), ps 7 (iv ((B.length : Nat) : Int)), ps 8 (bv false)] 0 hc0 [] rfl rfl (by kernel_rfl) (by kernel_rfl)) rfl (obs_nil) (fun cx_ a_ hI_ => ret_res (l' := [ps 6 (iv 0), ps 7 (iv ((B.length : Nat) : Int)), ps 8 (bv false)]) (by kernel_rfl) cx_ a_ hI_) hI_
    · exfalso; omega
end Go.Proofs.Ytfoiadlaekknpaa.Pm
namespace Go.Proofs.Ytfoiadlaekknpaa.Pm
open Go Co

attribute [local irreducible] rnum bitsB unf
theorem back_eq {n : Int} (h0 : 0 ≤ n) (h1 : n ≤ 1125899906842624) : (n.tmod 2 = 1 → unf n = 0 - (n + 1).tdiv 2) ∧ (¬ n.tmod 2 = 1 → unf n = n.tdiv 2) := by
  rw [unf_nat h0 (by omega), Int.tmod_eq_emod_of_nonneg h0]
  have := tdiv2 n
  have := tdiv2 (n + 1)
  exact ⟨fun h => by rw [if_pos h]; omega, fun h => by rw [if_neg h]; omega⟩
theorem bits_as (n : Int) (hn : 0 ≤ n) (hn2 : n ≤ 9223372036854775807) (k : Nat) (hk : k ≤ 24) : PC Try.prog 17 [iv n, iv ((k : Nat) : Int)] [] (.osl 0 0 (bI (bitsOf n k)).length) [some (3, ints (bI (bitsOf n k)))] := by
  rw [bI_len, bitsOf_length]; exact bits_pc n hn hn2 k hk
theorem ints_renL (σ : Nat → Nat) (l : List Int) : renL σ (ints l) = ints l := renL_shd (ints_shd l)
theorem bits_byte {b : ByteArray} {i : Nat} (h : i < b.size) : bI ((bitsB b).take (8 * i)) ++ bI (bitsOf (byteAt b i) 8) = bI ((bitsB b).take (8 * (i + 1))) := by
  rw [show 8 * (i + 1) = 8 * i + 8 by omega, List.take_add, bI_app]
  refine congrArg (fun t => bI (List.take (8 * i) (bitsB b)) ++ bI t) ?_
  refine List.ext_getElem? fun j => ?_
  rw [List.getElem?_take, List.getElem?_drop]
  unfold bitsB
  rcases Nat.lt_or_ge j 8 with hj | hj
  · rw [if_pos hj, List.getElem?_map, List.getElem?_range (by omega), Option.map_some, show (8 * i + j) / 8 = i by omega, show (8 * i + j) % 8 = j by omega]
    have h8 : j = 0 ∨ j = 1 ∨ j = 2 ∨ j = 3 ∨ j = 4 ∨ j = 5 ∨ j = 6 ∨ j = 7 := by omega
    rcases h8 with rfl | rfl | rfl | rfl | rfl | rfl | rfl | rfl <;> rfl
  · rw [if_neg (by omega), List.getElem?_eq_none (by rw [bitsOf_length]; omega)]
theorem back_pc (n : Int) (hn1 : 0 ≤ n) (hn2 : n ≤ 1125899906842624) : PC Try.prog 27 [(iv n)] [] (iv (unf n)) [] := by
  have ht := tdiv2 n
  have ht2 := tdiv2 (n + 1)
  refine pc_intro Try.func27 rfl (by kernel_rfl) (Nat.le_of_ble_eq_true rfl) (by kernel_rfl) (l0 := [ps 0 (iv n)]) rfl (fun c0 Bor hc0 => ?_)
  refine T_seq ?_
  refine T_region [] [ks 0] (fun _ => mixed) (l' := [ps 0 (iv n)]) (obs := []) (by kernel_rfl) (obs_nil) ?_
  refine T_seq ?_
  refine T_seq ?_
  refine T_region [] [ks 0, ks 5] (fun _ => mixed) (l' := [ps 0 (iv n), ps 5 (bv (decide (((n).tmod 2) = 1)))]) (obs := [2 ≠ (0 : Int)]) (by kernel_rfl) (obs_cons (p := 2 ≠ (0 : Int)) (by decide) (obs_nil)) ?_
  by_cases h1 : ((n).tmod 2) = 1
  · refine T_then (b := (decide (((n).tmod 2) = 1))) rfl (decide_eq_true h1) ?_
    refine T_seq ?_
    refine T_region [] [ks 2] (fun _ => mixed) (l' := [ps 2 (iv (0 - (((n + 1)).tdiv 2)))]) (obs := [InK .i64 (n + 1), 2 ≠ (0 : Int), InK .i64 (((n + 1)).tdiv 2), InK .i64 (0 - (((n + 1)).tdiv 2))]) (by kernel_rfl) (obs_cons (p := InK .i64 (n + 1)) (by simp only [InK]; omega) (obs_cons (p := 2 ≠ (0 : Int)) (by decide) (obs_cons (p := InK .i64 (((n + 1)).tdiv 2)) (by simp only [InK]; omega) (obs_cons (p := InK .i64 (0 - (((n + 1)).tdiv 2))) (by simp only [InK]; omega) (obs_nil))))) ?_
    rw [(back_eq hn1 hn2).1 h1]
    exact T_ret fun cx_ a_ hI_ => ret_ok (H' := []) (.inr rfl) (Wk.ren2 [ps 2 (iv (0 - (((n + 1)).tdiv 2)))] 0 hc0 [] rfl rfl (by kernel_rfl) (by kernel_rfl)) rfl (obs_nil) (fun cx_ a_ hI_ => ret_res (l' := [ps 2 (iv (0 - (((n + 1)).tdiv 2)))]) (by kernel_rfl) cx_ a_ hI_) hI_
  · refine T_else (b := (decide (((n).tmod 2) = 1))) rfl (decide_eq_false h1) ?_
    refine T_skip ?_
    refine T_seq ?_
    refine T_region [] [ks 2] (fun _ => mixed) (l' := [ps 2 (iv ((n).tdiv 2))]) (obs := [2 ≠ (0 : Int), InK .i64 ((n).tdiv 2)]) (by kernel_rfl) (obs_cons (p := 2 ≠ (0 : Int)) (by decide) (obs_cons (p := InK .i64 ((n).tdiv 2)) (by simp only [InK]; omega) (obs_nil))) ?_
    rw [(back_eq hn1 hn2).2 h1]
    exact T_ret fun cx_ a_ hI_ => ret_ok (H' := []) (.inr rfl) (Wk.ren2 [ps 2 (iv ((n).tdiv 2))] 0 hc0 [] rfl rfl (by kernel_rfl) (by kernel_rfl)) rfl (obs_nil) (fun cx_ a_ hI_ => ret_res (l' := [ps 2 (iv ((n).tdiv 2))]) (by kernel_rfl) cx_ a_ hI_) hI_
theorem next_pc (l : List Int) (hs : Small l) (hl : l.length ≤ 1000000) (o : Nat) (ho : o ≤ l.length) (ho3 : o ≤ 3) (x : Int) (hx1 : -1125899906842624 ≤ x) (hx2 : x ≤ 1125899906842624) : PC Try.prog 26 [(.osl 0 0 l.length), (iv ((o : Nat) : Int)), (iv x)] [some (3, (ints l))] (iv (x + guess l l.length o)) [some (3, (ints l))] := by
  have b1 := X_bd hs (l.length - 1)
  have b2 := X_bd hs (l.length - 2)
  have b3 := X_bd hs (l.length - 3)
  unfold X at b1 b2 b3
  refine pc_intro Try.func26 rfl (by kernel_rfl) (Nat.le_of_ble_eq_true rfl) (by kernel_rfl) (l0 := [ps 0 (.osl 0 0 l.length), ps 1 (iv ((o : Nat) : Int)), ps 2 (iv x), pb 0 3 (ints l)]) rfl (fun c0 Bor hc0 => ?_)
  refine T_seq ?_
  refine T_region [] [ks 0, ks 1, ks 2, kb 0] (fun _ => mixed) (l' := [ps 0 (.osl 0 0 l.length), ps 1 (iv ((o : Nat) : Int)), ps 2 (iv x), pb 0 3 (ints l)]) (obs := []) (by kernel_rfl) (obs_nil) ?_
  refine T_seq ?_
  refine T_region [] [ks 0, ks 1, ks 2, ks 7, kb 0] (fun _ => mixed) (l' := [ps 0 (.osl 0 0 l.length), ps 1 (iv ((o : Nat) : Int)), ps 2 (iv x), ps 7 (iv ((l.length : Nat) : Int)), pb 0 3 (ints l)]) (obs := []) (by kernel_rfl) (obs_nil) ?_
  refine T_seq ?_
  refine T_seq ?_
  refine T_region [] [ks 0, ks 1, ks 2, ks 7, ks 11, kb 0] (fun _ => mixed) (l' := [ps 0 (.osl 0 0 l.length), ps 1 (iv ((o : Nat) : Int)), ps 2 (iv x), ps 7 (iv ((l.length : Nat) : Int)), ps 11 (bv (decide (((o : Nat) : Int) = 0))), pb 0 3 (ints l)]) (obs := []) (by kernel_rfl) (obs_nil) ?_
  by_cases h1 : ((o : Nat) : Int) = 0
  · refine T_then (b := (decide (((o : Nat) : Int) = 0))) rfl (decide_eq_true h1) ?_
    refine T_seq ?_
    refine T_region [] [ks 6, kb 0] (fun _ => mixed) (l' := [ps 6 (iv x), pb 0 3 (ints l)]) (obs := []) (by kernel_rfl) (obs_nil) ?_
    rw [show x + guess l l.length o = x from by unfold guess X; rw [if_neg (by omega), if_neg (by omega), if_neg (by omega)] <;> omega]
    exact T_ret fun cx_ a_ hI_ => ret_ok (H' := [some (3, (ints l))]) (.inr rfl) (Wk.ren3 [ps 6 (iv x), pb 0 3 (ints l)] 1 hc0 [0] [(kb 0, (ints l))] (obs_cons (ints_shd _) (obs_nil)) (by kernel_rfl) rfl rfl (by kernel_rfl) (by kernel_rfl)) rfl (obs_cons rfl (obs_nil)) (fun cx_ a_ hI_ => ret_res (l' := [ps 6 (iv x), pb 0 3 (ints l)]) (by kernel_rfl) cx_ a_ hI_) hI_
  · refine T_else (b := (decide (((o : Nat) : Int) = 0))) rfl (decide_eq_false h1) ?_
    refine T_skip ?_
    refine T_seq ?_
    refine T_seq ?_
    refine T_region [] [ks 0, ks 1, ks 2, ks 7, ks 14, kb 0] (fun _ => mixed) (l' := [ps 0 (.osl 0 0 l.length), ps 1 (iv ((o : Nat) : Int)), ps 2 (iv x), ps 7 (iv ((l.length : Nat) : Int)), ps 14 (bv (decide (((o : Nat) : Int) = 1))), pb 0 3 (ints l)]) (obs := []) (by kernel_rfl) (obs_nil) ?_
    by_cases h2 : ((o : Nat) : Int) = 1
    · refine T_then (b := (decide (((o : Nat) : Int) = 1))) rfl (decide_eq_true h2) ?_
      refine T_seq ?_
      refine T_region [(4, .nat ((l.length - 1))), (5, .val (iv (l.getD (l.length - 1) 0)))] [ks 6, kb 0] (fun _ => mixed) (l' := [ps 6 (iv (x + (l.getD (l.length - 1) 0))), pb 0 3 (ints l)]) (obs := [InK .i64 (((l.length : Nat) : Int) - 1), (0 : Int) ≤ (((l.length : Nat) : Int) - 1) ∧ (((l.length : Nat) : Int) - 1) < ((l.length : Nat) : Int), 0 + ((((l.length : Nat) : Int) - 1) : Int).toNat * 1 = ((l.length - 1)), ((l.length - 1)) + 1 ≤ ((ints l)).length ∧ (((ints l)).drop ((l.length - 1))).take 1 = [(iv (l.getD (l.length - 1) 0))], InK .i64 (x + (l.getD (l.length - 1) 0))]) (by kernel_rfl) (obs_cons (p := InK .i64 (((l.length : Nat) : Int) - 1)) (by simp only [InK]; omega) (obs_cons (p := (0 : Int) ≤ (((l.length : Nat) : Int) - 1) ∧ (((l.length : Nat) : Int) - 1) < ((l.length : Nat) : Int)) (by omega) (obs_cons (p := 0 + ((((l.length : Nat) : Int) - 1) : Int).toNat * 1 = ((l.length - 1))) (by omega) (obs_cons (p := ((l.length - 1)) + 1 ≤ ((ints l)).length ∧ (((ints l)).drop ((l.length - 1))).take 1 = [(iv (l.getD (l.length - 1) 0))]) (ints_at (by omega)) (obs_cons (p := InK .i64 (x + (l.getD (l.length - 1) 0))) (by simp only [InK]; omega) (obs_nil)))))) ?_
      rw [show x + guess l l.length o = (x + (l.getD (l.length - 1) 0)) from by unfold guess X; rw [if_pos (by omega)] <;> omega]
      exact T_ret fun cx_ a_ hI_ => ret_ok (H' := [some (3, (ints l))]) (.inr rfl) (Wk.ren3 [ps 6 (iv (x + (l.getD (l.length - 1) 0))), pb 0 3 (ints l)] 1 hc0 [0] [(kb 0, (ints l))] (obs_cons (ints_shd _) (obs_nil)) (by kernel_rfl) rfl rfl (by kernel_rfl) (by kernel_rfl)) rfl (obs_cons rfl (obs_nil)) (fun cx_ a_ hI_ => ret_res (l' := [ps 6 (iv (x + (l.getD (l.length - 1) 0))), pb 0 3 (ints l)]) (by kernel_rfl) cx_ a_ hI_) hI_
    · refine T_else (b := (decide (((o : Nat) : Int) = 1))) rfl (decide_eq_false h2) ?_
      refine T_skip ?_
      refine T_seq ?_
      refine T_seq ?_
      refine T_region [] [ks 0, ks 2, ks 7, ks 23, kb 0] (fun _ => mixed) (l' := [ps 0 (.osl 0 0 l.length), ps 2 (iv x), ps 7 (iv ((l.length : Nat) : Int)), ps 23 (bv (decide (((o : Nat) : Int) = 2))), pb 0 3 (ints l)]) (obs := []) (by kernel_rfl) (obs_nil) ?_
      by_cases h3 : ((o : Nat) : Int) = 2
      · refine T_then (b := (decide (((o : Nat) : Int) = 2))) rfl (decide_eq_true h3) ?_
        refine T_seq ?_
        refine T_regionD [(4, .nat ((l.length - 1))), (5, .val (iv (l.getD (l.length - 1) 0))), (11, .nat ((l.length - 2))), (12, .val (iv (l.getD (l.length - 2) 0)))] [[], [], [], [2], [1, 2, 3], [1, 2, 3, 4], [1, 2, 3, 4, 5], [0, 1, 2, 3, 4, 5, 6], [], [], [9], [8, 9, 10], [8, 9, 10, 11], [0, 1, 2, 3, 4, 5, 6, 7, 8, 9, 10, 11, 12], [0, 1, 2, 3, 4, 5, 6, 7, 8, 9, 10, 11, 12, 13]] [([48], [4]), ([50], [0]), ([52], [14]), ([54], [52]), ([56], [50, 54]), ([58], [1, 56]), ([60], [58]), ([62], [48, 60]), ([64], [0]), ([66], [14]), ([68], [66]), ([70], [64, 68]), ([72], [1, 70]), ([74], [62, 72]), ([12], [74])] [ks 6, kb 0] (l' := [ps 6 (iv ((x + (2 * (l.getD (l.length - 1) 0))) - (l.getD (l.length - 2) 0))), pb 0 3 (ints l)]) (obs := [InK .i64 (((l.length : Nat) : Int) - 1), (0 : Int) ≤ (((l.length : Nat) : Int) - 1) ∧ (((l.length : Nat) : Int) - 1) < ((l.length : Nat) : Int), 0 + ((((l.length : Nat) : Int) - 1) : Int).toNat * 1 = ((l.length - 1)), ((l.length - 1)) + 1 ≤ ((ints l)).length ∧ (((ints l)).drop ((l.length - 1))).take 1 = [(iv (l.getD (l.length - 1) 0))], InK .i64 (2 * (l.getD (l.length - 1) 0)), InK .i64 (x + (2 * (l.getD (l.length - 1) 0))), InK .i64 (((l.length : Nat) : Int) - 2), (0 : Int) ≤ (((l.length : Nat) : Int) - 2) ∧ (((l.length : Nat) : Int) - 2) < ((l.length : Nat) : Int), 0 + ((((l.length : Nat) : Int) - 2) : Int).toNat * 1 = ((l.length - 2)), ((l.length - 2)) + 1 ≤ ((ints l)).length ∧ (((ints l)).drop ((l.length - 2))).take 1 = [(iv (l.getD (l.length - 2) 0))], InK .i64 ((x + (2 * (l.getD (l.length - 1) 0))) - (l.getD (l.length - 2) 0))]) mixed (by kernel_rfl) (by kernel_rfl) (obs_cons (p := InK .i64 (((l.length : Nat) : Int) - 1)) (by simp only [InK]; omega) (obs_cons (p := (0 : Int) ≤ (((l.length : Nat) : Int) - 1) ∧ (((l.length : Nat) : Int) - 1) < ((l.length : Nat) : Int)) (by omega) (obs_cons (p := 0 + ((((l.length : Nat) : Int) - 1) : Int).toNat * 1 = ((l.length - 1))) (by omega) (obs_cons (p := ((l.length - 1)) + 1 ≤ ((ints l)).length ∧ (((ints l)).drop ((l.length - 1))).take 1 = [(iv (l.getD (l.length - 1) 0))]) (ints_at (by omega)) (obs_cons (p := InK .i64 (2 * (l.getD (l.length - 1) 0))) (by simp only [InK]; omega) (obs_cons (p := InK .i64 (x + (2 * (l.getD (l.length - 1) 0)))) (by simp only [InK]; omega) (obs_cons (p := InK .i64 (((l.length : Nat) : Int) - 2)) (by simp only [InK]; omega) (obs_cons (p := (0 : Int) ≤ (((l.length : Nat) : Int) - 2) ∧ (((l.length : Nat) : Int) - 2) < ((l.length : Nat) : Int)) (by omega) (obs_cons (p := 0 + ((((l.length : Nat) : Int) - 2) : Int).toNat * 1 = ((l.length - 2))) (by omega) (obs_cons (p := ((l.length - 2)) + 1 ≤ ((ints l)).length ∧ (((ints l)).drop ((l.length - 2))).take 1 = [(iv (l.getD (l.length - 2) 0))]) (ints_at (by omega)) (obs_cons (p := InK .i64 ((x + (2 * (l.getD (l.length - 1) 0))) - (l.getD (l.length - 2) 0))) (by simp only [InK]; omega) (obs_nil)))))))))))) ?_
        rw [show x + guess l l.length o = ((x + (2 * (l.getD (l.length - 1) 0))) - (l.getD (l.length - 2) 0)) from by unfold guess X; rw [if_neg (by omega), if_pos (by omega)] <;> omega]
        exact T_ret fun cx_ a_ hI_ => ret_ok (H' := [some (3, (ints l))]) (.inr rfl) (Wk.ren3 [ps 6 (iv ((x + (2 * (l.getD (l.length - 1) 0))) - (l.getD (l.length - 2) 0))), pb 0 3 (ints l)] 1 hc0 [0] [(kb 0, (ints l))] (obs_cons (ints_shd _) (obs_nil)) (by kernel_rfl) rfl rfl (by kernel_rfl) (by kernel_rfl)) rfl (obs_cons rfl (obs_nil)) (fun cx_ a_ hI_ => ret_res (l' := [ps 6 (iv ((x + (2 * (l.getD (l.length - 1) 0))) - (l.getD (l.length - 2) 0))), pb 0 3 (ints l)]) (by kernel_rfl) cx_ a_ hI_) hI_
      · refine T_else (b := (decide (((o : Nat) : Int) = 2))) rfl (decide_eq_false h3) ?_
        refine T_skip ?_
        refine T_seq ?_
        refine T_regionD [(4, .nat ((l.length - 1))), (5, .val (iv (l.getD (l.length - 1) 0))), (11, .nat ((l.length - 2))), (12, .val (iv (l.getD (l.length - 2) 0))), (18, .nat ((l.length - 3))), (19, .val (iv (l.getD (l.length - 3) 0)))] [[], [], [], [2], [1, 2, 3], [1, 2, 3, 4], [1, 2, 3, 4, 5], [0, 1, 2, 3, 4, 5, 6], [], [], [9], [8, 9, 10], [8, 9, 10, 11], [8, 9, 10, 11, 12], [0, 1, 2, 3, 4, 5, 6, 7, 8, 9, 10, 11, 12, 13], [], [], [16], [15, 16, 17], [15, 16, 17, 18], [0, 1, 2, 3, 4, 5, 6, 7, 8, 9, 10, 11, 12, 13, 14, 15, 16, 17, 18, 19], [0, 1, 2, 3, 4, 5, 6, 7, 8, 9, 10, 11, 12, 13, 14, 15, 16, 17, 18, 19, 20]] [([76], [4]), ([78], [0]), ([80], [14]), ([82], [80]), ([84], [78, 82]), ([86], [1, 84]), ([88], [86]), ([90], [76, 88]), ([92], [0]), ([94], [14]), ([96], [94]), ([98], [92, 96]), ([100], [1, 98]), ([102], [100]), ([104], [90, 102]), ([106], [0]), ([108], [14]), ([110], [108]), ([112], [106, 110]), ([114], [1, 112]), ([116], [104, 114]), ([12], [116])] [ks 6, kb 0] (l' := [ps 6 (iv (((x + (3 * (l.getD (l.length - 1) 0))) - (3 * (l.getD (l.length - 2) 0))) + (l.getD (l.length - 3) 0))), pb 0 3 (ints l)]) (obs := [InK .i64 (((l.length : Nat) : Int) - 1), (0 : Int) ≤ (((l.length : Nat) : Int) - 1) ∧ (((l.length : Nat) : Int) - 1) < ((l.length : Nat) : Int), 0 + ((((l.length : Nat) : Int) - 1) : Int).toNat * 1 = ((l.length - 1)), ((l.length - 1)) + 1 ≤ ((ints l)).length ∧ (((ints l)).drop ((l.length - 1))).take 1 = [(iv (l.getD (l.length - 1) 0))], InK .i64 (3 * (l.getD (l.length - 1) 0)), InK .i64 (x + (3 * (l.getD (l.length - 1) 0))), InK .i64 (((l.length : Nat) : Int) - 2), (0 : Int) ≤ (((l.length : Nat) : Int) - 2) ∧ (((l.length : Nat) : Int) - 2) < ((l.length : Nat) : Int), 0 + ((((l.length : Nat) : Int) - 2) : Int).toNat * 1 = ((l.length - 2)), ((l.length - 2)) + 1 ≤ ((ints l)).length ∧ (((ints l)).drop ((l.length - 2))).take 1 = [(iv (l.getD (l.length - 2) 0))], InK .i64 (3 * (l.getD (l.length - 2) 0)), InK .i64 ((x + (3 * (l.getD (l.length - 1) 0))) - (3 * (l.getD (l.length - 2) 0))), InK .i64 (((l.length : Nat) : Int) - 3), (0 : Int) ≤ (((l.length : Nat) : Int) - 3) ∧ (((l.length : Nat) : Int) - 3) < ((l.length : Nat) : Int), 0 + ((((l.length : Nat) : Int) - 3) : Int).toNat * 1 = ((l.length - 3)), ((l.length - 3)) + 1 ≤ ((ints l)).length ∧ (((ints l)).drop ((l.length - 3))).take 1 = [(iv (l.getD (l.length - 3) 0))], InK .i64 (((x + (3 * (l.getD (l.length - 1) 0))) - (3 * (l.getD (l.length - 2) 0))) + (l.getD (l.length - 3) 0))]) mixed (by kernel_rfl) (by kernel_rfl) (obs_cons (p := InK .i64 (((l.length : Nat) : Int) - 1)) (by simp only [InK]; omega) (obs_cons (p := (0 : Int) ≤ (((l.length : Nat) : Int) - 1) ∧ (((l.length : Nat) : Int) - 1) < ((l.length : Nat) : Int)) (by omega) (obs_cons (p := 0 + ((((l.length : Nat) : Int) - 1) : Int).toNat * 1 = ((l.length - 1))) (by omega) (obs_cons (p := ((l.length - 1)) + 1 ≤ ((ints l)).length ∧ (((ints l)).drop ((l.length - 1))).take 1 = [(iv (l.getD (l.length - 1) 0))]) (ints_at (by omega)) (obs_cons (p := InK .i64 (3 * (l.getD (l.length - 1) 0))) (by simp only [InK]; omega) (obs_cons (p := InK .i64 (x + (3 * (l.getD (l.length - 1) 0)))) (by simp only [InK]; omega) (obs_cons (p := InK .i64 (((l.length : Nat) : Int) - 2)) (by simp only [InK]; omega) (obs_cons (p := (0 : Int) ≤ (((l.length : Nat) : Int) - 2) ∧ (((l.length : Nat) : Int) - 2) < ((l.length : Nat) : Int)) (by omega) (obs_cons (p := 0 + ((((l.length : Nat) : Int) - 2) : Int).toNat * 1 = ((l.length - 2))) (by omega) (obs_cons (p := ((l.length - 2)) + 1 ≤ ((ints l)).length ∧ (((ints l)).drop ((l.length - 2))).take 1 = [(iv (l.getD (l.length - 2) 0))]) (ints_at (by omega)) (obs_cons (p := InK .i64 (3 * (l.getD (l.length - 2) 0))) (by simp only [InK]; omega) (obs_cons (p := InK .i64 ((x + (3 * (l.getD (l.length - 1) 0))) - (3 * (l.getD (l.length - 2) 0)))) (by simp only [InK]; omega) (obs_cons (p := InK .i64 (((l.length : Nat) : Int) - 3)) (by simp only [InK]; omega) (obs_cons (p := (0 : Int) ≤ (((l.length : Nat) : Int) - 3) ∧ (((l.length : Nat) : Int) - 3) < ((l.length : Nat) : Int)) (by omega) (obs_cons (p := 0 + ((((l.length : Nat) : Int) - 3) : Int).toNat * 1 = ((l.length - 3))) (by omega) (obs_cons (p := ((l.length - 3)) + 1 ≤ ((ints l)).length ∧ (((ints l)).drop ((l.length - 3))).take 1 = [(iv (l.getD (l.length - 3) 0))]) (ints_at (by omega)) (obs_cons (p := InK .i64 (((x + (3 * (l.getD (l.length - 1) 0))) - (3 * (l.getD (l.length - 2) 0))) + (l.getD (l.length - 3) 0))) (by simp only [InK]; omega) (obs_nil)))))))))))))))))) ?_
        rw [show x + guess l l.length o = (((x + (3 * (l.getD (l.length - 1) 0))) - (3 * (l.getD (l.length - 2) 0))) + (l.getD (l.length - 3) 0)) from by unfold guess X; rw [if_neg (by omega), if_neg (by omega), if_pos (by omega)] <;> omega]
        exact T_ret fun cx_ a_ hI_ => ret_ok (H' := [some (3, (ints l))]) (.inr rfl) (Wk.ren3 [ps 6 (iv (((x + (3 * (l.getD (l.length - 1) 0))) - (3 * (l.getD (l.length - 2) 0))) + (l.getD (l.length - 3) 0))), pb 0 3 (ints l)] 1 hc0 [0] [(kb 0, (ints l))] (obs_cons (ints_shd _) (obs_nil)) (by kernel_rfl) rfl rfl (by kernel_rfl) (by kernel_rfl)) rfl (obs_cons rfl (obs_nil)) (fun cx_ a_ hI_ => ret_res (l' := [ps 6 (iv (((x + (3 * (l.getD (l.length - 1) 0))) - (3 * (l.getD (l.length - 2) 0))) + (l.getD (l.length - 3) 0))), pb 0 3 (ints l)]) (by kernel_rfl) cx_ a_ hI_) hI_
theorem all_pc (b : ByteArray) (hb : b.size ≤ 2097152) : PC Try.prog 23 [(sv b)] [] (.ssl (ints (bI (bitsB b))) 0 ((bitsB b).length)) [] := by
  refine pc_intro Try.func23 rfl (by kernel_rfl) (Nat.le_of_ble_eq_true rfl) (by kernel_rfl) (l0 := [ps 0 (sv b)]) rfl (fun c0 Bor hc0 => ?_)
  refine T_seq ?_
  refine T_region [] [ks 0] (fun _ => mixed) (l' := [ps 0 (sv b)]) (obs := []) (by kernel_rfl) (obs_nil) ?_
  refine T_seq ?_
  refine T_region [] [ks 0, ks 3] (fun _ => mixed) (l' := [ps 0 (sv b), ps 3 (.av (.slice none 0 0))]) (obs := []) (by kernel_rfl) (obs_nil) ?_
  refine T_seq ?_
  refine T_seq ?_
  refine T_region [] [ks 0, ks 3, ks 4] (fun _ => mixed) (l' := [ps 0 (sv b), ps 3 (.av (.slice none 0 0)), ps 4 (iv 0)]) (obs := []) (by kernel_rfl) (obs_nil) ?_
  refine T_block ?_
  refine T_wk (Wk.nil (s := 3) 3 (by kernel_rfl)) ?_
  refine T_wk (Wk.less (l' := [ps 0 (sv b), ps 3 (.osl 24 0 0), ps 4 (iv 0), pb 24 3 []]) 25 (by kernel_rfl) (by kernel_rfl)) ?_
  refine T_wk (Wk.eq (show [ps 0 (sv b), ps 3 (.osl 24 0 0), ps 4 (iv 0), pb 24 3 []] = [ps 0 (sv b), ps 3 (.osl 24 0 (8 * 0)), ps 4 (iv 0), pb 24 3 (ints (bI ((bitsB b).take (8 * 0))))] from by rw [Nat.mul_zero, List.take_zero]; rfl)) ?_
  refine T_loop (α := {x : Nat // x ≤ b.size}) (fun x => [ps 0 (sv b), ps 3 (.osl 0 0 (8 * x.1)), ps 4 (iv ((x.1 : Nat) : Int)), pb 0 3 (ints (bI ((bitsB b).take (8 * x.1))))]) (fun x => b.size - x.1) 1 ⟨0, Nat.zero_le _⟩ (Wk.ren3 [ps 0 (sv b), ps 3 (.osl 0 0 (8 * 0)), ps 4 (iv ((0 : Nat) : Int)), pb 0 3 (ints (bI ((bitsB b).take (8 * 0))))] 0 hc0 [24] [(kb 0, (ints (bI ((bitsB b).take (8 * 0)))))] (obs_cons (ints_shd _) (obs_nil)) (by kernel_rfl) rfl rfl (by kernel_rfl) (by kernel_rfl)) ?_
  rintro ⟨i, hi⟩
  refine T_seq ?_
  refine T_seq ?_
  refine T_region [] [ks 0, ks 3, ks 4, ks 8, kb 0] (fun _ => mixed) (l' := [ps 0 (sv b), ps 3 (.osl 0 0 (8 * i)), ps 4 (iv ((i : Nat) : Int)), ps 8 (bv (decide (((i : Nat) : Int) < (((b).size : Nat) : Int)))), pb 0 3 (ints (bI ((bitsB b).take (8 * i))))]) (obs := []) (by kernel_rfl) (obs_nil) ?_
  by_cases h1 : ((i : Nat) : Int) < (((b).size : Nat) : Int)
  · refine T_then (b := (decide (((i : Nat) : Int) < (((b).size : Nat) : Int)))) rfl (decide_eq_true h1) ?_
    refine T_skip ?_
    refine T_seq ?_
    refine T_block ?_
    have hby := byteAt_bd b (((i : Nat) : Int) : Int).toNat
    have hln : (bI ((bitsB b).take (8 * i))).length = 8 * i := by rw [bI_len, List.length_take, bitsB_length]; omega
    have hbo : (bI (bitsOf (byteAt b (((i : Nat) : Int) : Int).toNat) 8)).length = 8 := by rw [bI_len, bitsOf_length]
    refine T_region [(5, .call [] [(iv (byteAt b (((i : Nat) : Int) : Int).toNat)), (iv 8)] [] (.osl 0 0 ((bI (bitsOf (byteAt b (((i : Nat) : Int) : Int).toNat) 8)).length)) [some (3, (ints (bI (bitsOf (byteAt b (((i : Nat) : Int) : Int).toNat) 8))))]), (6, .app (some (ints (bI (bitsOf (byteAt b (((i : Nat) : Int) : Int).toNat) 8)))) (some (ints ((bI ((bitsB b).take (8 * i))) ++ (bI (bitsOf (byteAt b (((i : Nat) : Int) : Int).toNat) 8))))))] [ks 0, ks 3, ks 4, kb 81] (fun _ => mixed) (l' := [ps 0 (sv b), ps 3 (.osl 81 0 ((8 * i) + ((bI (bitsOf (byteAt b (((i : Nat) : Int) : Int).toNat) 8)).length))), ps 4 (iv ((i : Nat) : Int)), pb 81 3 (ints ((bI ((bitsB b).take (8 * i))) ++ (bI (bitsOf (byteAt b (((i : Nat) : Int) : Int).toNat) 8))))]) (obs := [(0 : Int) ≤ ((i : Nat) : Int) ∧ ((i : Nat) : Int) < (((b).size : Nat) : Int), InK .i64 (byteAt b (((i : Nat) : Int) : Int).toNat), PC Try.prog 17 [(iv (byteAt b (((i : Nat) : Int) : Int).toNat)), (iv 8)] [] (.osl 0 0 ((bI (bitsOf (byteAt b (((i : Nat) : Int) : Int).toNat) 8)).length)) [some (3, (ints (bI (bitsOf (byteAt b (((i : Nat) : Int) : Int).toNat) 8))))], [(iv (byteAt b (((i : Nat) : Int) : Int).toNat)), (iv 8)] = renL (sigi [] 73) [(iv (byteAt b (((i : Nat) : Int) : Int).toNat)), (iv 8)], 0 + ((bI (bitsOf (byteAt b (((i : Nat) : Int) : Int).toNat) 8)).length) * 1 ≤ ((renL (sigo [] 73) (ints (bI (bitsOf (byteAt b (((i : Nat) : Int) : Int).toNat) 8))))).length ∧ (((renL (sigo [] 73) (ints (bI (bitsOf (byteAt b (((i : Nat) : Int) : Int).toNat) 8))))).drop 0).take (((bI (bitsOf (byteAt b (((i : Nat) : Int) : Int).toNat) 8)).length) * 1) = (ints (bI (bitsOf (byteAt b (((i : Nat) : Int) : Int).toNat) 8))), ((ints (bI ((bitsB b).take (8 * i))))).length = (8 * i) * 1, ((8 * i) + ((bI (bitsOf (byteAt b (((i : Nat) : Int) : Int).toNat) 8)).length)) * 8 ≤ 140737488355328 ∧ (8 * i) + ((bI (bitsOf (byteAt b (((i : Nat) : Int) : Int).toNat) 8)).length) ≤ 9223372036854775807, (ints (bI ((bitsB b).take (8 * i)))) ++ (ints (bI (bitsOf (byteAt b (((i : Nat) : Int) : Int).toNat) 8))) = (ints ((bI ((bitsB b).take (8 * i))) ++ (bI (bitsOf (byteAt b (((i : Nat) : Int) : Int).toNat) 8))))]) (by kernel_rfl) (obs_cons (p := (0 : Int) ≤ ((i : Nat) : Int) ∧ ((i : Nat) : Int) < (((b).size : Nat) : Int)) (by omega) (obs_cons (p := InK .i64 (byteAt b (((i : Nat) : Int) : Int).toNat)) (by simp only [InK]; omega) (obs_cons (p := PC Try.prog 17 [(iv (byteAt b (((i : Nat) : Int) : Int).toNat)), (iv 8)] [] (.osl 0 0 ((bI (bitsOf (byteAt b (((i : Nat) : Int) : Int).toNat) 8)).length)) [some (3, (ints (bI (bitsOf (byteAt b (((i : Nat) : Int) : Int).toNat) 8))))]) (bits_as (byteAt b (((i : Nat) : Int) : Int).toNat) (by omega) (by omega) 8 (by omega)) (obs_cons (p := [(iv (byteAt b (((i : Nat) : Int) : Int).toNat)), (iv 8)] = renL (sigi [] 73) [(iv (byteAt b (((i : Nat) : Int) : Int).toNat)), (iv 8)]) rfl (obs_cons (p := 0 + ((bI (bitsOf (byteAt b (((i : Nat) : Int) : Int).toNat) 8)).length) * 1 ≤ ((renL (sigo [] 73) (ints (bI (bitsOf (byteAt b (((i : Nat) : Int) : Int).toNat) 8))))).length ∧ (((renL (sigo [] 73) (ints (bI (bitsOf (byteAt b (((i : Nat) : Int) : Int).toNat) 8))))).drop 0).take (((bI (bitsOf (byteAt b (((i : Nat) : Int) : Int).toNat) 8)).length) * 1) = (ints (bI (bitsOf (byteAt b (((i : Nat) : Int) : Int).toNat) 8)))) (by have h9 := ints_len (bI (bitsOf (byteAt b (((i : Nat) : Int) : Int).toNat) 8)); rw [ints_renL]; refine ⟨by rw [h9]; omega, ?_⟩; rw [List.drop_zero]; exact List.take_of_length_le (by omega)) (obs_cons (p := ((ints (bI ((bitsB b).take (8 * i))))).length = (8 * i) * 1) (by have h8 := ints_len (bI ((bitsB b).take (8 * i))); omega) (obs_cons (p := ((8 * i) + ((bI (bitsOf (byteAt b (((i : Nat) : Int) : Int).toNat) 8)).length)) * 8 ≤ 140737488355328 ∧ (8 * i) + ((bI (bitsOf (byteAt b (((i : Nat) : Int) : Int).toNat) 8)).length) ≤ 9223372036854775807) (by omega) (obs_cons (p := (ints (bI ((bitsB b).take (8 * i)))) ++ (ints (bI (bitsOf (byteAt b (((i : Nat) : Int) : Int).toNat) 8))) = (ints ((bI ((bitsB b).take (8 * i))) ++ (bI (bitsOf (byteAt b (((i : Nat) : Int) : Int).toNat) 8))))) (flat_app (fun n => [iv n]) (bI ((bitsB b).take (8 * i))) (bI (bitsOf (byteAt b (((i : Nat) : Int) : Int).toNat) 8))).symm (obs_nil))))))))) ?_
    refine T_blk ?_
    refine T_region [] [ks 0, ks 3, ks 4, kb 81] (fun _ => mixed) (l' := [ps 0 (sv b), ps 3 (.osl 81 0 ((8 * i) + ((bI (bitsOf (byteAt b (((i : Nat) : Int) : Int).toNat) 8)).length))), ps 4 (iv (((i : Nat) : Int) + 1)), pb 81 3 (ints ((bI ((bitsB b).take (8 * i))) ++ (bI (bitsOf (byteAt b (((i : Nat) : Int) : Int).toNat) 8))))]) (obs := [InK .i64 (((i : Nat) : Int) + 1)]) (by kernel_rfl) (obs_cons (p := InK .i64 (((i : Nat) : Int) + 1)) (by simp only [InK]; omega) (obs_nil)) ?_
    exact T_back ⟨i + 1, by show i + 1 ≤ b.size; omega⟩ (Wk.trans (Wk.eq (show [ps 0 (sv b), ps 3 (.osl 81 0 ((8 * i) + ((bI (bitsOf (byteAt b (((i : Nat) : Int) : Int).toNat) 8)).length))), ps 4 (iv (((i : Nat) : Int) + 1)), pb 81 3 (ints ((bI ((bitsB b).take (8 * i))) ++ (bI (bitsOf (byteAt b (((i : Nat) : Int) : Int).toNat) 8))))] = [ps 0 (sv b), ps 3 (.osl 81 0 (8 * (i + 1))), ps 4 (iv (((i : Nat) : Int) + 1)), pb 81 3 (ints (bI ((bitsB b).take (8 * (i + 1)))))] from by rw [show (((i : Nat) : Int) : Int).toNat = i from rfl, bits_byte (by omega), show (bI (bitsOf (byteAt b i) 8)).length = 8 from by rw [bI_len, bitsOf_length], show 8 * (i + 1) = 8 * i + 8 from by omega])) (Wk.ren3 [ps 0 (sv b), ps 3 (.osl 0 0 (8 * (i + 1))), ps 4 (iv (((i + 1) : Nat) : Int)), pb 0 3 (ints (bI ((bitsB b).take (8 * (i + 1)))))] 0 hc0 [81] [(kb 0, (ints (bI ((bitsB b).take (8 * (i + 1))))))] (obs_cons (ints_shd _) (obs_nil)) (by kernel_rfl) rfl rfl (by kernel_rfl) (by kernel_rfl))) (show b.size - (i + 1) < b.size - i from by show b.size - (i + 1) < b.size - i; omega)
  · refine T_else (b := (decide (((i : Nat) : Int) < (((b).size : Nat) : Int)))) rfl (decide_eq_false h1) ?_
    refine T_break rfl rfl ?_
    refine T_seq ?_
    refine T_region [] [ks 2, kb 0] (fun _ => mixed) (l' := [ps 2 (.osl 0 0 (8 * i)), pb 0 3 (ints (bI ((bitsB b).take (8 * i))))]) (obs := []) (by kernel_rfl) (obs_nil) ?_
    have hib : i = b.size := by omega
    refine T_wk (Wk.eq (show [ps 2 (.osl 0 0 (8 * i)), pb 0 3 (ints (bI ((bitsB b).take (8 * i))))] = [ps 2 (.osl 0 0 ((bitsB b).length)), pb 0 3 (ints (bI (bitsB b)))] from by rw [hib, ← bitsB_length, List.take_length])) ?_
    refine T_wk (Wk.frz (l' := [ps 2 (.ssl (ints (bI (bitsB b))) 0 ((bitsB b).length)), (kb 0, none)]) 0 (T := 3) (cs := (ints (bI (bitsB b)))) (by kernel_rfl) (ints_shd _) (by kernel_rfl)) ?_
    refine T_wk (Wk.less (l' := [ps 2 (.ssl (ints (bI (bitsB b))) 0 ((bitsB b).length))]) 49 (by kernel_rfl) (by kernel_rfl)) ?_
    exact T_ret fun cx_ a_ hI_ => ret_ok (H' := []) (.inr rfl) (Wk.ren2 [ps 2 (.ssl (ints (bI (bitsB b))) 0 ((bitsB b).length))] 0 hc0 [] rfl rfl (by kernel_rfl) (by kernel_rfl)) rfl (obs_nil) (fun cx_ a_ hI_ => ret_res (l' := [ps 2 (.ssl (ints (bI (bitsB b))) 0 ((bitsB b).length))]) (by kernel_rfl) cx_ a_ hI_) hI_
end Go.Proofs.Ytfoiadlaekknpaa.Pm
namespace Go.Proofs.Ytfoiadlaekknpaa.Pm
open Go Co

theorem rb_used : ∀ {s : Rs}, (rb s).2.2 = false → s.2 = false ∧ s.1.length = (rb s).2.1.length + 1
  | ([], _), h => by cases h
  | (_ :: _, _), h => ⟨h, rfl⟩
theorem rnum_used : ∀ (k : Nat) (a : Int) {s : Rs}, (rnum k a s).2.2 = false → s.2 = false ∧ s.1.length = (rnum k a s).2.1.length + k
  | 0, _, _, h => ⟨h, rfl⟩
  | k + 1, a, s, h => by
    rw [rnum] at h ⊢
    have h1 := rnum_used k _ h
    have h2 := rb_used h1.1
    exact ⟨h2.1, by omega⟩
theorem rones_used : ∀ {D : List Bool}, (rones D).2.2 = false → D.length = (rones D).1 + 1 + (rones D).2.1.length
  | [], h => by cases h
  | true :: D, h => by
    have := rones_used (D := D) h
    show D.length + 1 = (rones D).1 + 1 + 1 + (rones D).2.1.length; omega
  | false :: D, _ => by show D.length + 1 = 0 + 1 + D.length; omega
theorem rice_le {n k : Nat} {low M : Int} (hk : k ≤ 15) (h0 : 0 ≤ low) (h1 : low < 2 ^ k) (hm0 : 0 ≤ M) (hm1 : M ≤ 524288) (hM : M = Co.fold (unf (riceV n k low))) : M / 2 ^ k ≤ n := by
  have hp := pow_bd hk
  by_cases h : (n : Int) * 2 ^ k + low < 9223372036854775808
  · have hn : 0 ≤ (n : Int) * 2 ^ k := Int.mul_nonneg (by omega) (by omega)
    rw [riceV_ok h0 h1 h, fold_unf (by omega) (by omega)] at hM
    have : M / 2 ^ k < n + 1 := Int.ediv_lt_of_lt_mul (by omega) (by rw [Int.add_mul]; omega)
    omega
  · have h2 : (n : Int) * 2 ^ k ≤ n * 32768 := Int.mul_le_mul_of_nonneg_left hp.2 (by omega)
    have h3 : M / 2 ^ k ≤ M := Int.ediv_le_self _ hm0
    omega
theorem sample_used {g : List Int} {o k : Nat} {l : List Int} {D : List Bool} (hk : k ≤ 15) (hs : Small g) (hl : g.take l.length = l) (hx : X g l.length = (rsample o k l D).1) (hf : (rsample o k l D).2.2 = false) :
    (rsample o k l D).2.1.length + (piece g o k l.length).length ≤ D.length := by
  unfold rsample at hx hf ⊢
  unfold piece
  by_cases ho : l.length < o
  · rw [if_pos ho] at hf ⊢
    rw [if_pos ho, bitsOf_length]
    have hu := @rnum_used 16 0 (D, false)
    generalize rnum 16 0 (D, false) = r at *
    have e : D.length = r.2.1.length + 16 := (hu hf).2
    show r.2.1.length + 16 ≤ D.length
    omega
  · rw [if_neg ho] at hx hf ⊢
    rw [if_neg ho]
    have hm := miss_bd hs o l.length
    have hc := riceBits_length (k := k) hm.1
    have h1 := rnum_used k 0 (s := (rones D).2) hf
    have h2 := rones_used h1.1
    have h3 := rnum_bd k 0 (rones D).2 (Int.le_refl _)
    have hg : guess l l.length o = guess g l.length o := by
      have := guess_take (g := g) (i := l.length) (o := o) (by omega)
      rw [hl] at this; exact this
    have hM : miss g o l.length = Co.fold (unf (rrice k D).1) := by
      unfold miss
      rw [hx]
      show Co.fold (unf (rrice k D).1 + guess l l.length o - guess g l.length o) = _
      rw [hg, show unf (rrice k D).1 + guess g l.length o - guess g l.length o = unf (rrice k D).1 by omega]
    have h4 := rice_le (n := (rones D).1) hk h3.1 (by have := h3.2; omega) hm.1 hm.2 hM
    unfold cost at hc
    show (rnum k 0 (rones D).2).2.1.length + (riceBits k (miss g o l.length)).length ≤ D.length
    omega
theorem rfr_bad {o k : Nat} : ∀ (m : Nat) (l : List Int) (D : List Bool), rfr o k m l (D, true) = (l, (D, true))
  | 0, _, _ => rfl
  | m + 1, l, D => by rw [rfr, if_pos rfl]
theorem rfr_used {o k : Nat} (hk : k ≤ 15) : ∀ (m : Nat) {l : List Int} {D : List Bool} {g : List Int} {D' : List Bool}, rfr o k m l (D, false) = (g, (D', false)) → Small l →
    Small g ∧ g.length = l.length + m ∧ g.take l.length = l ∧ D'.length + (rest g o k m l.length).length ≤ D.length
  | 0, l, D, g, D', h, hs => by
    rw [rfr] at h
    cases h
    exact ⟨hs, rfl, List.take_length, Nat.le_refl _⟩
  | m + 1, l, D, g, D', h, hs => by
    rw [rfr, if_neg (by simp)] at h
    have hsa := @sample_used g o k l D hk
    revert hsa h
    show rfr o k m (l ++ [(rsample o k l D).1]) ((rsample o k l D).2.1, (rsample o k l D).2.2 || !sm (rsample o k l D).1) = (g, (D', false)) → _ → _
    generalize rsample o k l D = r
    obtain ⟨x, E, f⟩ := r
    intro h hsa
    cases f with
    | true =>
      rw [show ((true || !sm x) = true) from rfl, rfr_bad] at h
      cases h
    | false =>
      cases hx : sm x with
      | false =>
        rw [show ((x, E, false) : Int × Rs).1 = x from rfl, hx] at h
        rw [show ((false || !false) = true) from rfl, rfr_bad] at h
        cases h
      | true =>
        rw [show ((x, E, false) : Int × Rs).1 = x from rfl, hx] at h
        obtain ⟨h1, h2, h3, h4⟩ := rfr_used hk m (D := E) (l := l ++ [x]) h (small_snoc hs hx)
        rw [snoc_len] at h2 h3 h4
        have h5 : g.take l.length = l := by
          have := congrArg (List.take l.length) h3
          rw [List.take_take, show min l.length (l.length + 1) = l.length by omega, List.take_left] at this
          exact this
        have h6 : X g l.length = x := by
          have e : X (g.take (l.length + 1)) l.length = X g l.length := X_take (by omega)
          rw [← e, h3]; unfold X; simp
        have h7 := hsa h1 h5 h6 rfl
        refine ⟨h1, by omega, h5, ?_⟩
        rw [rest, List.length_append]
        have h8 : E.length + (piece g o k l.length).length ≤ D.length := h7
        omega
theorem rframe_used {m : Nat} {D : List Bool} {g : List Int} {D' : List Bool} (h : rframe m (D, false) = (g, (D', false))) : Small g ∧ g.length = m ∧ D'.length + (bestBits g).length ≤ D.length := by
  unfold rframe at h
  have hb2 := rnum_bd 2 0 (D, false) (Int.le_refl _)
  have hb4 := rnum_bd 4 0 (rnum 2 0 (D, false)).2 (Int.le_refl _)
  have hu4 := @rnum_used 4 0 (rnum 2 0 (D, false)).2
  have hu2 := @rnum_used 2 0 (D, false)
  generalize rnum 4 0 (rnum 2 0 (D, false)).2 = q4 at *
  generalize rnum 2 0 (D, false) = q2 at *
  obtain ⟨kk, E, f⟩ := q4
  obtain ⟨oo, E2⟩ := q2
  have hk : kk.toNat ≤ 15 := by have := hb4.2; have := hb4.1; simp only at *; omega
  have ho : oo.toNat ≤ 3 := by have := hb2.2; have := hb2.1; simp only at *; omega
  cases f with
  | true => rw [rfr_bad] at h; cases h
  | false =>
    obtain ⟨h1, h2, _, h4⟩ := rfr_used hk m h (fun x hx => absurd hx (List.not_mem_nil))
    have h5 := hu4 rfl
    have h6 := hu2 h5.1
    have h7 := frameBits_length h1 oo.toNat (k := kk.toNat)
    have h8 := bestBits_length h1
    have h9 := best_le h1 ho hk
    have h10 := congrArg List.length (frame_rest g oo.toNat kk.toNat)
    rw [List.length_append, List.length_append, bitsOf_length, bitsOf_length] at h10
    have h11 : D'.length + (rest g oo.toNat kk.toNat m 0).length ≤ E.length := h4
    have h12 : g.length = m := by rw [h2]; simp
    rw [h12] at h10
    have h13 : E2.1.length = E.length + 4 := h5.2
    have h14 : D.length = E2.1.length + 2 := h6.2
    exact ⟨h1, h12, by omega⟩
theorem rdec_bad {n : Nat} : ∀ (j : Nat) (l : List Int) (D : List Bool), rdec n j l (D, true) = (l, (D, true))
  | 0, _, _ => rfl
  | j + 1, l, D => by rw [rdec, if_neg (by simp)]
theorem rdec_used {n : Nat} : ∀ (j t : Nat) {l : List Int} {D : List Bool} {z : List Int} {D' : List Bool}, l.length = min (256 * t) n → n < l.length + j → rdec n j l (D, false) = (z, (D', false)) → Small l →
    Small z ∧ z.length = n ∧ z.take l.length = l ∧ ∀ c, t + c = (n + 255) / 256 ∨ (c = 0 ∧ n ≤ 256 * t) → D'.length + (encRest z c t).length ≤ D.length
  | 0, t, l, D, z, D', hl, hj, h, hs => by omega
  | j + 1, t, l, D, z, D', hl, hj, h, hs => by
    by_cases hn : l.length < n
    · rw [rdec, if_pos ⟨hn, rfl⟩] at h
      have hr := @rframe_used (min 256 (n - l.length)) D
      generalize rframe (min 256 (n - l.length)) (D, false) = r at *
      obtain ⟨g, E, f⟩ := r
      cases f with
      | true => rw [rdec_bad] at h; cases h
      | false =>
        obtain ⟨h1, h2, h3⟩ := hr rfl
        have hs' : Small (l ++ g) := fun x hx => by
          rcases List.mem_append.1 hx with hx | hx
          · exact hs x hx
          · exact h1 x hx
        obtain ⟨i1, i2, i3, i4⟩ := rdec_used j (t + 1) (l := l ++ g) (D := E) (by rw [List.length_append]; omega) (by rw [List.length_append]; omega) h hs'
        have h5 : z.take l.length = l := by
          have := congrArg (List.take l.length) i3
          rw [List.take_take, List.length_append, show min l.length (l.length + g.length) = l.length by omega, List.take_left] at this
          exact this
        refine ⟨i1, i2, h5, fun c hc => ?_⟩
        obtain ⟨c', rfl⟩ : ∃ c', c = c' + 1 := ⟨c - 1, by omega⟩
        have hfr : fr z t = g := by
          unfold fr
          have hlt : l.length = 256 * t := by omega
          rw [List.length_append, List.take_add, h5] at i3
          have h7 := List.append_cancel_left i3
          rw [hlt] at h7
          rw [← h7]
          rcases Nat.lt_or_ge (n - l.length) 256 with h8 | h8
          · rw [List.take_of_length_le (by rw [List.length_drop]; omega), List.take_of_length_le (by rw [List.length_drop]; omega)]
          · rw [show g.length = 256 by omega]
        have h6 := i4 c' (by omega)
        rw [encRest, List.length_append, hfr]
        omega
    · rw [rdec, if_neg (fun h => hn h.1)] at h
      cases h
      refine ⟨hs, by omega, List.take_length, fun c hc => ?_⟩
      have : c = 0 := by omega
      subst this
      exact Nat.le_refl _
theorem dec_used {b : ByteArray} {z : List Int} (h : dec b = (z, 0)) : Small z ∧ z.length ≤ 1048576 ∧ (encBits z).length ≤ 8 * b.size := by
  have hu := @rnum_used 24 0 (bitsB b, false)
  have hb := rnum_bd 24 0 (bitsB b, false) (Int.le_refl _)
  obtain ⟨n, hn⟩ : ∃ n : Nat, (rnum 24 0 (bitsB b, false)).1 = (n : Int) := ⟨(rnum 24 0 (bitsB b, false)).1.toNat, by omega⟩
  by_cases h1 : (rnum 24 0 (bitsB b, false)).2.2 = true
  · rw [dec_a h1] at h; cases h
  · by_cases h2 : (1048576 : Int) < n
    · rw [dec_b h1 hn h2] at h; cases h
    · obtain ⟨⟨l, t⟩, hr⟩ : ∃ r, rdec n (n + 1) [] (rnum 24 0 (bitsB b, false)).2 = r := ⟨_, rfl⟩
      rw [dec_c h1 hn h2 hr] at h
      obtain ⟨D', f⟩ := t
      cases f with
      | true => rw [if_pos rfl] at h; cases h
      | false =>
        rw [if_neg (by simp)] at h
        split at h
        · cases h
        · split at h
          · cases h
            have hf := Bool.eq_false_iff.2 h1
            have hu1 := hu hf
            generalize rnum 24 0 (bitsB b, false) = q at *
            obtain ⟨q1, E, f⟩ := q
            have hf : f = false := hf
            subst hf
            obtain ⟨i1, i2, _, i4⟩ := rdec_used (n + 1) 0 (l := []) (by simp) (by simp) hr (fun x hx => absurd hx (List.not_mem_nil))
            have h5 := i4 ((n + 255) / 256) (.inl (by omega))
            have h6 := encTo_rest z ((n + 255) / 256) 0
            rw [show encTo z 0 = [] from rfl, List.nil_append, Nat.zero_add] at h6
            refine ⟨i1, by omega, ?_⟩
            unfold encBits
            rw [List.length_append, bitsOf_length, i2, ← h6]
            have h7 : (bitsB b).length = E.length + 24 := hu1.2
            rw [bitsB_length] at h7
            omega
          · cases h
theorem enc_again {b : ByteArray} {z : List Int} (h : dec b = (z, 0)) : enc z = (packS (encBits z), 0) ∧ (packS (encBits z)).size ≤ b.size ∧ dec (packS (encBits z)) = (z, 0) ∧ z.length ≤ 1048576 := by
  obtain ⟨h1, h2, h3⟩ := dec_used h
  refine ⟨?_, ?_, dec_pack h2 h1, h2⟩
  · unfold enc; rw [if_neg (by omega), if_pos (smallB_iff.2 h1)]
  · rw [packS_size]; unfold nb; omega
theorem enc_size {l : List Int} {s : ByteArray} {e : Int} (h : enc l = (s, e)) : s.size ≤ 140737488355328 := by
  unfold enc at h
  split at h
  · cases h; exact Nat.zero_le _
  · split at h
    · next h1 h2 =>
      cases h
      have h3 := encTo_le (smallB_iff.1 h2) ((l.length + 255) / 256)
      rw [packS_size]; unfold nb encBits
      rw [List.length_append, bitsOf_length]; omega
    · cases h; exact Nat.zero_le _
end Go.Proofs.Ytfoiadlaekknpaa.Pm
namespace Go.Proofs.Ytfoiadlaekknpaa.Pm
open Go Co

theorem rnum_full : ∀ (k : Nat) (a : Int) (D : List Bool), k ≤ D.length → (rnum k a (D, false)).2 = (D.drop k, false)
  | 0, a, D, _ => by rw [rnum]; rfl
  | k + 1, a, [], h => by simp at h
  | k + 1, a, x :: D, h => by
    rw [rnum]
    exact rnum_full k _ D (by simpa using h)
theorem rnum_short : ∀ (k : Nat) (a : Int) (s : Rs), s.1.length < k ∨ s.2 = true → (rnum k a s).2.2 = true
  | 0, a, s, h => by
    rw [rnum]
    rcases h with h | h
    · omega
    · exact h
  | k + 1, a, ([], f), h => by rw [rnum]; exact rnum_short k _ _ (.inr rfl)
  | k + 1, a, (x :: D, f), h => by
    rw [rnum]
    refine rnum_short k _ _ ?_
    rcases h with h | h
    · exact .inl (by show D.length < k; simpa using h)
    · exact .inr h
theorem tk_yes {B : List Bool} {p k : Nat} (h : (tk B p k).2.2 = true) : rnum k 0 (B.drop p, false) = ((tk B p k).1, (B.drop (tk B p k).2.1, false)) ∧ (tk B p k).2.1 ≤ B.length ∧ (tk B p k).2.1 = p + k := by
  unfold tk at h ⊢
  split at h
  · cases h
  · next h1 =>
    rw [if_neg h1]
    have h2 := rnum_full k 0 (B.drop p) (by rw [List.length_drop]; omega)
    rw [List.drop_drop] at h2
    refine ⟨?_, by show p + k ≤ B.length; omega, rfl⟩
    rw [← h2]
theorem tk_no {B : List Bool} {p k : Nat} (hp : p ≤ B.length) (h : ¬ (tk B p k).2.2 = true) : (rnum k 0 (B.drop p, false)).2.2 = true := by
  unfold tk at h
  split at h
  · next h1 =>
    refine rnum_short k 0 _ ?_
    rcases Nat.lt_or_ge (B.drop p).length k with h2 | h2
    · exact .inl h2
    · rw [List.length_drop] at h2
      omega
  · exact absurd rfl h
theorem rones_drop : ∀ {D : List Bool}, (rones D).2.2 = false → (rones D).2 = (D.drop ((rones D).1 + 1), false)
  | [], h => by cases h
  | true :: D, h => rones_drop (D := D) h
  | false :: D, _ => rfl
/-- A sample, read in the document's way. -/
def Samp (B : List Bool) (o k : Nat) (f : List Int) (q : Nat) (x : Int) (q' : Nat) (c : Bool) : Prop :=
  (c = true → rsample o k f (B.drop q) = (x, (B.drop q', false)) ∧ q' ≤ B.length) ∧ (¬ c = true → (rsample o k f (B.drop q)).2.2 = true)
theorem samp_tk {B : List Bool} {o k : Nat} {f : List Int} {q : Nat} (hq : q ≤ B.length) (ho : f.length < o) : Samp B o k f q ((tk B q 16).1 - 32768) (tk B q 16).2.1 (tk B q 16).2.2 := by
  refine ⟨fun h => ?_, fun h => ?_⟩
  · obtain ⟨h1, h2, _⟩ := tk_yes h
    refine ⟨?_, h2⟩
    unfold rsample; rw [if_pos ho, h1]
  · have h1 := tk_no hq h
    unfold rsample; rw [if_pos ho]
    generalize rnum 16 0 (B.drop q, false) = z at *
    exact h1
theorem samp_rk {B : List Bool} {o k : Nat} {f : List Int} {q : Nat} (hB : B.length ≤ 16777216) (hk : k ≤ 15) (ho : ¬ f.length < o) : Samp B o k f q (unf (rk B q k).1 + guess f f.length o) (rk B q k).2.1 (rk B q k).2.2 := by
  unfold Samp rsample rrice
  rw [if_neg ho]
  have hl := rones_len (B.drop q)
  rw [List.length_drop] at hl
  unfold rk
  by_cases h0 : (rones (B.drop q)).2.2 = true
  · rw [if_pos h0]
    refine ⟨fun h => absurd h (by simp), fun _ => ?_⟩
    exact rnum_short k 0 _ (.inr h0)
  · rw [if_neg h0]
    have hu := rones_used (Bool.eq_false_iff.2 h0)
    rw [List.length_drop] at hu
    have h1 := rones_drop (Bool.eq_false_iff.2 h0)
    rw [List.drop_drop, show q + ((rones (B.drop q)).1 + 1) = q + (rones (B.drop q)).1 + 1 by omega] at h1
    rw [h1]
    generalize (rones (B.drop q)).1 = m at *
    refine ⟨fun h => ?_, fun h => ?_⟩
    · obtain ⟨h2, h3, _⟩ := tk_yes h
      rw [h2]
      have h4 := tk_bd B (q + m + 1) k (by omega)
      have h5 := pow_small hk
      have h6 := mul_bd (n := m) (by omega) h5.1 h5.2
      rw [riceV_ok h4.1 h4.2.2 (by omega)]
      exact ⟨rfl, h3⟩
    · exact tk_no (by omega) h
theorem rk_bd {B : List Bool} {q k : Nat} (hB : B.length ≤ 16777216) (hk : k ≤ 15) : 0 ≤ (rk B q k).1 ∧ (rk B q k).1 ≤ 1099511627776 := by
  have hl := rones_len (B.drop q)
  rw [List.length_drop] at hl
  unfold rk
  split
  · exact ⟨Int.le_refl _, by show (0 : Int) ≤ 1099511627776; omega⟩
  · have h4 := tk_bd B (q + (rones (B.drop q)).1 + 1) k (by omega)
    have h5 := pow_small hk
    have h6 := mul_bd (n := (rones (B.drop q)).1) (by omega) h5.1 h5.2
    show 0 ≤ ((rones (B.drop q)).1 : Int) * 2 ^ k + (tk B (q + (rones (B.drop q)).1 + 1) k).1 ∧ ((rones (B.drop q)).1 : Int) * 2 ^ k + (tk B (q + (rones (B.drop q)).1 + 1) k).1 ≤ 1099511627776
    omega
/-- The inner loop's invariant. -/
structure In (B : List Bool) (o k m : Nat) (F : List Int × Rs) (f : List Int) (q : Nat) (c : Bool) : Prop where
  yes : c = true → rfr o k (m - f.length) f (B.drop q, false) = F ∧ Small f ∧ q ≤ B.length
  no : ¬ c = true → F.2.2 = true
  len : f.length ≤ m
theorem in_next {B : List Bool} {o k m : Nat} {F : List Int × Rs} {f : List Int} {q : Nat} (h : In B o k m F f q true) (hm : f.length < m) {x : Int} {q' : Nat} {c : Bool} (hs : Samp B o k f q x q' c) (c' : Bool) (hc : c' = true ↔ c = true ∧ sm x = true) :
    In B o k m F (f ++ [x]) q' c' := by
  obtain ⟨h1, h2, h3⟩ := h.yes rfl
  rw [show m - f.length = (m - (f.length + 1)) + 1 by omega, rfr, if_neg (by simp)] at h1
  refine ⟨fun hc' => ?_, fun hc' => ?_, by rw [snoc_len]; omega⟩
  · obtain ⟨hc1, hx⟩ := hc.1 hc'
    obtain ⟨h4, h5⟩ := hs.1 hc1
    rw [h4, show (!sm ((x, (B.drop q', false)) : Int × Rs).1) = false by show (!sm x) = false; rw [hx]; rfl] at h1
    exact ⟨by rw [snoc_len]; exact h1, small_snoc h2 hx, h5⟩
  · by_cases hc1 : c = true
    · have hx : sm x = false := by
        rcases hx : sm x with _ | _
        · rfl
        · exact absurd (hc.2 ⟨hc1, hx⟩) hc'
      obtain ⟨h4, h5⟩ := hs.1 hc1
      rw [h4, show (!sm ((x, (B.drop q', false)) : Int × Rs).1) = true by show (!sm x) = true; rw [hx]; rfl] at h1
      rw [show ((false : Bool) || true) = true from rfl, rfr_bad] at h1
      rw [← h1]
    · have h4 := hs.2 hc1
      have h5 : ((rsample o k f (B.drop q)).2.2 || !sm (rsample o k f (B.drop q)).1) = true := by rw [h4]; rfl
      rw [h5, rfr_bad] at h1
      rw [← h1]
theorem sm_iff {x : Int} : sm x = true ↔ -32768 ≤ x ∧ x ≤ 32767 := decide_eq_true_iff
/-- One frame. -/
theorem rframe_as {B : List Bool} {p m : Nat} (h2 : (tk B p 2).2.2 = true) (h4 : (tk B (tk B p 2).2.1 4).2.2 = true) :
    rframe m (B.drop p, false) = rfr (tk B p 2).1.toNat (tk B (tk B p 2).2.1 4).1.toNat m [] (B.drop (tk B (tk B p 2).2.1 4).2.1, false) := by
  unfold rframe
  rw [(tk_yes h2).1, (tk_yes h4).1]
theorem rframe_bad2 {B : List Bool} {p m : Nat} (hp : p ≤ B.length) (h2 : ¬ (tk B p 2).2.2 = true) : (rframe m (B.drop p, false)).2.2 = true := by
  have h1 := tk_no hp h2
  have h3 := rnum_short 4 0 (rnum 2 0 (B.drop p, false)).2 (.inr h1)
  unfold rframe
  generalize rnum 4 0 (rnum 2 0 (B.drop p, false)).2 = z at *
  obtain ⟨z1, E, f⟩ := z
  have h3 : f = true := h3
  subst h3
  rw [rfr_bad]
theorem rframe_bad4 {B : List Bool} {p m : Nat} (h2 : (tk B p 2).2.2 = true) (h4 : ¬ (tk B (tk B p 2).2.1 4).2.2 = true) : (rframe m (B.drop p, false)).2.2 = true := by
  have h3 := tk_no (tk_yes h2).2.1 h4
  unfold rframe
  rw [(tk_yes h2).1]
  generalize rnum 4 0 (B.drop (tk B p 2).2.1, false) = z at *
  obtain ⟨z1, E, f⟩ := z
  have h3 : f = true := h3
  subst h3
  rw [rfr_bad]
/-- The outer loop. -/
theorem out_bad {B : List Bool} {n j p : Nat} {l : List Int} {R : List Int × Rs} (h : l.length < n) (hj : n < l.length + j) (hr : rdec n j l (B.drop p, false) = R) (hb : (rframe (min 256 (n - l.length)) (B.drop p, false)).2.2 = true) : R.2.2 = true := by
  obtain ⟨j', rfl⟩ : ∃ j', j = j' + 1 := ⟨j - 1, by omega⟩
  rw [rdec, if_pos ⟨h, rfl⟩] at hr
  generalize rframe (min 256 (n - l.length)) (B.drop p, false) = z at *
  obtain ⟨z1, E, f⟩ := z
  have hb : f = true := hb
  subst hb
  rw [rdec_bad] at hr
  rw [← hr]
theorem out_next {B : List Bool} {n j p q : Nat} {l f : List Int} {R : List Int × Rs} (h : l.length < n) (hj : n < l.length + j) (hr : rdec n j l (B.drop p, false) = R) (hb : rframe (min 256 (n - l.length)) (B.drop p, false) = (f, (B.drop q, false))) :
    rdec n (j - 1) (l ++ f) (B.drop q, false) = R ∧ n < (l ++ f).length + (j - 1) ∧ (l ++ f).length ≤ n ∧ j - 1 < j := by
  obtain ⟨j', rfl⟩ : ∃ j', j = j' + 1 := ⟨j - 1, by omega⟩
  rw [rdec, if_pos ⟨h, rfl⟩, hb] at hr
  have h1 := (rframe_used hb).2.1
  rw [List.length_append, Nat.add_sub_cancel]
  exact ⟨hr, by omega, by omega, by omega⟩
theorem all_next {B : List Bool} {q : Nat} (h : q < B.length) (hb : ¬ (bI B).getD q 0 = 1) : (B.drop q).all (· == false) = (B.drop (q + 1)).all (· == false) := by
  rw [bI_get B _ h] at hb
  rw [drop_cons h, bi_zero hb]; rfl
theorem all_hit {B : List Bool} {q : Nat} (h : q < B.length) (hb : (bI B).getD q 0 = 1) : ¬ (B.drop q).all (· == false) = true := by
  rw [bI_get B _ h] at hb
  rw [drop_cons h, bi_one hb]; simp
end Go.Proofs.Ytfoiadlaekknpaa.Pm
