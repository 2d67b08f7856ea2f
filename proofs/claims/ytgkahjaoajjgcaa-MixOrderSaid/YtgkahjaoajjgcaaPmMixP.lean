/-
  Sums of tracks, over plain lists of lists. Plain, but for the contract of 'within'.
-/
import Derived.Test.YtgkahjaoajjgcaaPmS
import Derived.Test.YtgkahjaoajjgcaaMixLaw
import Derived.Test.YtgkahjaoajjgcaaMixSameW
namespace Go.Proofs.Ytgkahjaoajjgcaa.Pm
open Go Mx

theorem mixed : Try.prog.follows .mixedOrders = true := by kernel_rfl
def RR (T : List (List Int)) : List Row := T.map fun l => ⟨none, l, 0⟩
theorem RR_len (T : List (List Int)) : (RR T).length = T.length := by simp [RR]
theorem RR_l (T : List (List Int)) (i : Nat) : (Y (RR T) i).l = T.getD i [] := by
  unfold Y RR
  by_cases h : i < T.length
  · simp [List.getD_eq_getElem?_getD, h]
  · rw [List.getD_eq_getElem?_getD, List.getElem?_eq_none (by simpa using h), List.getD_eq_getElem?_getD, List.getElem?_eq_none (by omega)]; rfl
theorem X_def (l : List Int) (i : Nat) : X l i = l.getD i 0 := rfl
theorem within_pc (n m : Int) (hm : 0 ≤ m ∧ m ≤ 1000000000) : PC Try.prog 15 [iv n, iv m] [] (bv (decide (-m ≤ n ∧ n ≤ m))) [] :=
  pc_flat (fn_ok Try.func15 (by kernel_rfl) (by kernel_rfl)) rfl rfl fun w => (within_any n m w hm).mono fun e w' ⟨h1, h2⟩ => ⟨h1, h2 ▸ RowKit.Below.refl _ _⟩
theorem alive_pc : PC Try.prog 7 [] [] (bv true) [] :=
  pc_flat (fn_ok Try.func7 (by kernel_rfl) (by kernel_rfl)) rfl rfl fun w => alive_any w

def errC (T : List (List Int)) (G : List Int) : Int := if 256 < T.length then 5 else if G.length ≠ T.length then 8 else 3
open Classical in
/-- What Sum hands back. -/
noncomputable def sumR (T : List (List Int)) (G : List Int) : PV := if Mx.Good (RR T) G then .tup [.ssl (ints (sums (RR T) G)) 0 (long (RR T) T.length), iv 0] else .tup [.ssl [] 0 0, iv (errC T G)]
theorem sumR_yes {T : List (List Int)} {G : List Int} (h : Mx.Good (RR T) G) : sumR T G = .tup [.ssl (ints (sums (RR T) G)) 0 (long (RR T) T.length), iv 0] := if_pos h
theorem sumR_no {T : List (List Int)} {G : List Int} (h : ¬ Mx.Good (RR T) G) {c : Int} (hc : errC T G = c) : sumR T G = .tup [.ssl [] 0 0, iv c] := by subst hc; exact if_neg h
theorem good_of {T : List (List Int)} {G : List Int} (h1 : T.length ≤ 256) (h2 : G.length = T.length) (h3 : ∀ j, j < T.length → LoudOk (G.getD j 0) ∧ RowGood (T.getD j [])) : Mx.Good (RR T) G :=
  ⟨by rw [RR_len]; exact h1, by rw [RR_len]; exact h2, fun i hi => by rw [RR_len] at hi; rw [RR_l]; exact h3 i hi⟩
theorem good_at {T : List (List Int)} {G : List Int} (h : Mx.Good (RR T) G) {j : Nat} (hj : j < T.length) : LoudOk (G.getD j 0) ∧ RowGood (T.getD j []) := by
  have := h.all j (by rw [RR_len]; exact hj)
  rw [RR_l] at this
  exact this
theorem long_step (T : List (List Int)) (i : Nat) : long (RR T) (i + 1) = max (long (RR T) i) (T.getD i []).length := by rw [long, RR_l]
theorem long_lim {T : List (List Int)} (h : ∀ i, (T.getD i []).length * 8 ≤ 140737488351232) (n : Nat) : long (RR T) n ≤ 17592186043904 := long_bd (fun i => by rw [RR_l]; have := h i; omega) n
theorem long_at {T : List (List Int)} {i n : Nat} (h : i < n) : (T.getD i []).length ≤ long (RR T) n := by rw [← RR_l]; exact long_le h
def outF (T : List (List Int)) (G : List Int) (N i k : Nat) : List Int := (List.range N).map fun t => if t < k then Mx.part (RR T) G (i + 1) t else Mx.part (RR T) G i t
theorem outF_len (T : List (List Int)) (G : List Int) (N i k : Nat) : (outF T G N i k).length = N := by simp [outF]
theorem outF_get {T : List (List Int)} {G : List Int} {N i k t : Nat} (h : t < N) : (outF T G N i k).getD t 0 = if t < k then Mx.part (RR T) G (i + 1) t else Mx.part (RR T) G i t := by
  simp [outF, List.getD_eq_getElem?_getD, h]
theorem outF_zero (T : List (List Int)) (G : List Int) (N : Nat) : zeros [iv 0] N = ints (outF T G N 0 0) := by
  rw [zeros_ints]
  congr 1
  apply List.ext_getElem (by rw [outF_len]; simp)
  intro n h1 h2
  simp [outF, Mx.part]
theorem part_step (T : List (List Int)) (G : List Int) (j k : Nat) : Mx.part (RR T) G (j + 1) k = Mx.part (RR T) G j k + G.getD j 0 * (T.getD j []).getD k 0 := by rw [Mx.part, RR_l]; rfl
theorem outF_next {T : List (List Int)} {G : List Int} {N i : Nat} : outF T G N i (T.getD i []).length = outF T G N (i + 1) 0 := by
  unfold outF
  apply List.map_congr_left
  intro t _
  by_cases h : t < (T.getD i []).length
  · rw [if_pos h, if_neg (Nat.not_lt_zero _)]
  · have hz : (T.getD i []).getD t 0 = 0 := X_past (l := T.getD i []) (by omega)
    simp only [h, if_false, Nat.not_lt_zero, part_step, hz, Int.mul_zero, Int.add_zero]
theorem outF_end (T : List (List Int)) (G : List Int) : outF T G (long (RR T) T.length) T.length 0 = sums (RR T) G := by
  unfold outF sums
  rw [RR_len]
  simp
theorem outF_store {T : List (List Int)} {G : List Int} {N i k : Nat} {v : Int} (hk : k < N) (hv : v = (outF T G N i k).getD k 0 + G.getD i 0 * (T.getD i []).getD k 0) :
    k + 1 ≤ (ints (outF T G N i k)).length ∧ splice (ints (outF T G N i k)) k [iv v] = ints (outF T G N i (k + 1)) := by
  obtain ⟨h1, h2⟩ := ints_splice (l := outF T G N i k) (k := k) (v := v) (by rw [outF_len]; exact hk)
  refine ⟨h1, h2.trans ?_⟩
  congr 1
  apply List.ext_getElem (by rw [List.length_set, outF_len, outF_len])
  intro n h3 h4
  rw [List.length_set, outF_len] at h3
  rw [outF_get hk, if_neg (Nat.lt_irrefl _), ← part_step] at hv
  rw [List.getElem_set]
  by_cases e : k = n
  · subst e
    rw [if_pos rfl, hv]
    simp [outF]
  · rw [if_neg e]
    simp only [outF, List.getElem_map, List.getElem_range]
    by_cases h : n < k
    · rw [if_pos h, if_pos (by omega)]
    · rw [if_neg h, if_neg (by omega)]
theorem prod_in {T : List (List Int)} {G : List Int} (h : Mx.Good (RR T) G) {i : Nat} (hi : i < T.length) (k : Nat) : -17592186044416 ≤ G.getD i 0 * (T.getD i []).getD k 0 ∧ G.getD i 0 * (T.getD i []).getD k 0 ≤ 17592186044416 := by
  have := prod_bd (T := RR T) (G := G) (j := i) (by rw [RR_l]; exact good_at h hi) k
  rw [RR_l] at this
  exact this
theorem out_in {T : List (List Int)} {G : List Int} (h : Mx.Good (RR T) G) {N i k : Nat} (hi : i < T.length) (hk : k < N) : -(17592186044416 * 256) ≤ (outF T G N i k).getD k 0 ∧ (outF T G N i k).getD k 0 ≤ 17592186044416 * 256 := by
  rw [outF_get hk, if_neg (Nat.lt_irrefl _)]
  have h1 := Mx.part_bd h k (j := i) (by rw [RR_len]; omega)
  have h2 := h.n
  rw [RR_len] at h2
  omega
theorem same_eq {l m : List Int} (hn : l.length = m.length) (h : ∀ j, j < l.length → l.getD j 0 = m.getD j 0) : l = m := X_eq hn h
end Go.Proofs.Ytgkahjaoajjgcaa.Pm
