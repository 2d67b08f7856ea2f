/-
  What MixOrder makes, over plain lists; a track cut in two. Plain, but for the contracts at the end.
-/
import Derived.Test.YtgkahjaoajjgcaaPmS
import Derived.Test.YtgkahjaoajjgcaaPmMixW
namespace Go.Proofs.Ytgkahjaoajjgcaa.Pm
open Go Mx

/-! ### the table of what has been seen -/
abbrev bools (l : List Bool) : List PV := l.flatMap fun b => [bv b]
theorem zeros_bools : ∀ n, zeros [bv false] n = bools (List.replicate n false)
  | 0 => rfl
  | n + 1 => by rw [zeros, zeros_bools n, List.replicate_succ]; rfl
def seenL (O : List Int) (n i : Nat) : List Bool := (List.range n).map fun t => (List.range i).any fun j => Nat.beq (at' O j) t
theorem seenL_len (O : List Int) (n i : Nat) : (seenL O n i).length = n := by simp [seenL]
theorem seenL_get {O : List Int} {n i t : Nat} (h : t < n) : (seenL O n i).getD t false = true ↔ ∃ j, j < i ∧ at' O j = t := by
  unfold seenL
  simp [List.getD_eq_getElem?_getD, h]
theorem seenL_zero (O : List Int) (n : Nat) : zeros [bv false] n = bools (seenL O n 0) := by
  rw [zeros_bools]
  congr 1
  apply List.ext_getElem (by rw [seenL_len]; simp)
  intro k h1 h2
  simp [seenL]
theorem bools_splice {l : List Bool} {k : Nat} {v : Bool} (h : k < l.length) : k + 1 ≤ (bools l).length ∧ splice (bools l) k [bv v] = bools (l.set k v) := flat_splice1 (fun b => [bv b]) (fun _ => rfl) h
theorem seenL_store {O : List Int} {n i : Nat} (h : (O.getD i 0).toNat < n) : (O.getD i 0).toNat + 1 ≤ (bools (seenL O n i)).length ∧ splice (bools (seenL O n i)) (O.getD i 0).toNat [bv true] = bools (seenL O n (i + 1)) := by
  obtain ⟨h1, h2⟩ := bools_splice (l := seenL O n i) (k := (O.getD i 0).toNat) (v := true) (by rw [seenL_len]; exact h)
  refine ⟨h1, h2.trans ?_⟩
  congr 1
  apply List.ext_getElem (by rw [List.length_set, seenL_len, seenL_len])
  intro k h3 h4
  rw [List.length_set, seenL_len] at h3
  rw [List.getElem_set]
  simp only [seenL, List.getElem_map, List.getElem_range, List.range_succ, List.any_append, List.any_cons, List.any_nil, Bool.or_false]
  by_cases e : (O.getD i 0).toNat = k
  · rw [if_pos e]
    have : Nat.beq (at' O i) k = true := by rw [Nat.beq_eq]; exact e
    rw [this, Bool.or_true]
  · rw [if_neg e]
    have : Nat.beq (at' O i) k = false := by rw [Bool.eq_false_iff]; intro h; exact e (Nat.eq_of_beq_eq_true h)
    rw [this, Bool.or_false]
def PermTo (O : List Int) (n i : Nat) : Prop := ∀ j, j < i → 0 ≤ O.getD j 0 ∧ O.getD j 0 < n ∧ ∀ j', j' < j → O.getD j' 0 ≠ O.getD j 0
theorem permTo_next {O : List Int} {n i : Nat} (h : PermTo O n i) (h1 : ¬ O.getD i 0 < 0) (h2 : ¬ (n : Int) ≤ O.getD i 0) (h3 : ¬ (seenL O n i).getD (O.getD i 0).toNat false = true) : PermTo O n (i + 1) := fun j hj => by
  by_cases e : j = i
  · subst e
    refine ⟨by omega, by omega, fun j' hj' he => h3 ((seenL_get (by omega)).2 ⟨j', hj', by show (O.getD j' 0).toNat = _; rw [he]⟩)⟩
  · exact h j (by omega)

/-! ### the order's lists -/
def ordL (T : List (List Int)) (O : List Int) (i : Nat) : List (List Int) := (List.range i).map fun j => T.getD (at' O j) []
def ordGL (G O : List Int) (i : Nat) : List Int := (List.range i).map fun j => G.getD (at' O j) 0
theorem ordL_len (T : List (List Int)) (O : List Int) (i : Nat) : (ordL T O i).length = i := by simp [ordL]
theorem ordGL_len (G O : List Int) (i : Nat) : (ordGL G O i).length = i := by simp [ordGL]
theorem rows_len (T : List (List Int)) : (rows T).length = T.length := by rw [flat_len _ 1 (fun _ => rfl), Nat.mul_one]
theorem ordL_app (T : List (List Int)) (O : List Int) (i : Nat) : rows (ordL T O i) ++ [.ssl (ints (T.getD (O.getD i 0).toNat [])) 0 (T.getD (O.getD i 0).toNat []).length] = rows (ordL T O (i + 1)) := by
  unfold ordL
  rw [List.range_succ, List.map_append, rows, rows, flat_app]
  rfl
theorem ordGL_app (G O : List Int) (i : Nat) : ints (ordGL G O i) ++ [iv (G.getD (O.getD i 0).toNat 0)] = ints (ordGL G O (i + 1)) := by
  unfold ordGL
  rw [List.range_succ, List.map_append, ints, ints, flat_app]
  rfl
theorem RR_ord (T : List (List Int)) (O : List Int) (n : Nat) : RR (ordL T O n) = ordT (RR T) O n := by
  unfold RR ordL ordT
  rw [List.map_map]
  apply List.map_congr_left
  intro j _
  show Row.mk none (T.getD (at' O j) []) 0 = Y (RR T) (at' O j)
  unfold Y RR
  by_cases h : at' O j < T.length
  · simp [List.getD_eq_getElem?_getD, h]
  · rw [List.getD_eq_getElem?_getD, List.getElem?_eq_none (by omega), List.getD_eq_getElem?_getD, List.getElem?_eq_none (by simpa using h)]; rfl
theorem ord_good {T : List (List Int)} {G O : List Int} {n : Nat} (hn : n = T.length) (hP : PermTo O n n) (hg : Mx.Good (RR T) G) : Mx.Good (RR (ordL T O n)) (ordGL G O n) := by
  subst hn
  rw [RR_ord]
  have := good_ord (O := O) hg (by rw [RR_len]; exact hP)
  rw [RR_len] at this
  exact this
theorem ord_sums {T : List (List Int)} {G O : List Int} {n : Nat} (hn : n = T.length) (hP : PermTo O n n) : sums (RR (ordL T O n)) (ordGL G O n) = sums (RR T) G := by
  subst hn
  rw [RR_ord]
  have := sums_ord (T := RR T) (G := G) (O := O) (by rw [RR_len]; exact hP)
  rw [RR_len] at this
  exact this
theorem ord_row {T : List (List Int)} {O : List Int} {n : Nat} (h : ∀ i, (T.getD i []).length * 8 ≤ 140737488351232) (i : Nat) : ((ordL T O n).getD i []).length * 8 ≤ 140737488351232 := by
  by_cases hi : i < n
  · unfold ordL
    simp only [List.getD_eq_getElem?_getD, List.getElem?_map, List.getElem?_range hi, Option.map_some, Option.getD_some]
    have := h (at' O i)
    rw [List.getD_eq_getElem?_getD] at this
    exact this
  · rw [List.getD_eq_getElem?_getD, List.getElem?_eq_none (by rw [ordL_len]; omega)]; simp

/-! ### a track cut in two -/
def secondL (l : List Int) (c : Nat) : List Int := List.replicate c 0 ++ l.drop c
theorem secondL_len {l : List Int} {c : Nat} (h : c ≤ l.length) : (secondL l c).length = l.length := by simp [secondL]; omega
theorem second_X {l : List Int} {c : Nat} (k : Nat) : X (l.take c) k + X (secondL l c) k = X l k := by
  unfold X secondL
  simp only [List.getD_eq_getElem?_getD, List.getElem?_append, List.length_replicate, List.getElem?_take, List.getElem?_replicate, List.getElem?_drop]
  by_cases hk : k < c
  · simp [hk]
  · simp [hk, Nat.add_sub_cancel' (Nat.le_of_not_lt hk)]
def cutT (T : List (List Int)) (c : Nat) : List (List Int) := T.set 0 ((T.getD 0 []).take c) ++ [secondL (T.getD 0 []) c]
def cutG (G : List Int) : List Int := G ++ [G.getD 0 0]
theorem cutT_len (T : List (List Int)) (c : Nat) : (cutT T c).length = T.length + 1 := by simp [cutT]
theorem cutG_len (G : List Int) : (cutG G).length = G.length + 1 := by simp [cutG]
theorem cutT_zero {T : List (List Int)} {c : Nat} (h : 0 < T.length) : (cutT T c).getD 0 [] = (T.getD 0 []).take c := by
  cases T with
  | nil => simp at h
  | cons a T => rfl
theorem cutT_mid {T : List (List Int)} {c i : Nat} (h0 : 0 < i) (h : i < T.length) : (cutT T c).getD i [] = T.getD i [] := by
  unfold cutT
  rw [List.getD_eq_getElem?_getD, List.getElem?_append_left (by simpa using h), List.getElem?_set_ne (by omega), ← List.getD_eq_getElem?_getD]
theorem cutT_end (T : List (List Int)) (c : Nat) : (cutT T c).getD T.length [] = secondL (T.getD 0 []) c := by
  unfold cutT
  rw [List.getD_eq_getElem?_getD, List.getElem?_append_right (by simp)]
  simp
theorem cutG_mid {G : List Int} {i : Nat} (h : i < G.length) : (cutG G).getD i 0 = G.getD i 0 := by
  unfold cutG
  rw [List.getD_eq_getElem?_getD, List.getElem?_append_left h, ← List.getD_eq_getElem?_getD]
theorem cutG_end (G : List Int) : (cutG G).getD G.length 0 = G.getD 0 0 := by
  unfold cutG
  rw [List.getD_eq_getElem?_getD, List.getElem?_append_right (Nat.le_refl _)]
  simp
section
variable {T : List (List Int)} {G : List Int} {c : Nat}
theorem cut_part (hg : G.length = T.length) (k : Nat) : ∀ j, 0 < j → j ≤ T.length → Mx.part (RR (cutT T c)) (cutG G) j k = Mx.part (RR T) G j k - G.getD 0 0 * (X (T.getD 0 []) k - X ((T.getD 0 []).take c) k)
  | 0, h, _ => absurd h (Nat.lt_irrefl 0)
  | 1, _, h => by
    rw [part_step, part_step, cutG_mid (by omega), cutT_zero (by omega), Int.mul_sub]
    simp only [Mx.part, X_def]
    omega
  | j + 2, _, h => by
    rw [part_step, cut_part hg k (j + 1) (by omega) (by omega), part_step (j := j + 1), cutG_mid (by omega), cutT_mid (by omega) (by omega)]
    omega
theorem cut_whole (hg : G.length = T.length) (hT : 0 < T.length) (k : Nat) : Mx.part (RR (cutT T c)) (cutG G) (T.length + 1) k = Mx.part (RR T) G T.length k := by
  have h1 := second_X (l := T.getD 0 []) (c := c) k
  have h2 : X (T.getD 0 []) k - X ((T.getD 0 []).take c) k = X (secondL (T.getD 0 []) c) k := by omega
  rw [part_step, cut_part hg k _ hT (Nat.le_refl _), h2, cutT_end, ← hg, cutG_end, hg, X_def]
  omega
theorem cut_long (hT : 0 < T.length) : ∀ j, 0 < j → j ≤ T.length → max (long (RR (cutT T c)) j) (T.getD 0 []).length = long (RR T) j
  | 0, h, _ => absurd h (Nat.lt_irrefl 0)
  | 1, _, _ => by
    rw [long_step, long_step, cutT_zero hT, List.length_take]
    simp only [long]
    omega
  | j + 2, _, h => by
    have := cut_long hT (j + 1) (by omega) (by omega)
    rw [long_step (i := j + 1), long_step (T := T) (i := j + 1), cutT_mid (by omega) (by omega)]
    omega
theorem cut_sums (hg : G.length = T.length) (hT : 0 < T.length) (hc : c ≤ (T.getD 0 []).length) : sums (RR (cutT T c)) (cutG G) = sums (RR T) G := by
  unfold sums
  rw [RR_len, RR_len, cutT_len, long_step, cutT_end, secondL_len hc, cut_long hT _ hT (Nat.le_refl _)]
  exact List.map_congr_left fun k _ => cut_whole hg hT k
theorem cut_good (hn : T.length ≤ 250) (hT : 0 < T.length) (h : Mx.Good (RR T) G) : Mx.Good (RR (cutT T c)) (cutG G) := by
  have hg := h.g
  rw [RR_len] at hg
  have h0 := good_at h hT
  refine good_of (by rw [cutT_len]; omega) (by rw [cutT_len, cutG_len]; omega) fun j hj => ?_
  rw [cutT_len] at hj
  by_cases e : j = T.length
  · subst e
    rw [cutT_end, ← hg, cutG_end]
    refine ⟨h0.1, fun k hk => ?_⟩
    have hX : X (secondL (T.getD 0 []) c) k = if k < c then 0 else (T.getD 0 []).getD k 0 := by
      generalize T.getD 0 [] = l
      unfold X secondL
      simp only [List.getD_eq_getElem?_getD, List.getElem?_append, List.length_replicate, List.getElem?_replicate, List.getElem?_drop]
      by_cases hkc : k < c
      · simp [hkc]
      · rw [if_neg hkc, if_neg hkc, Nat.add_sub_cancel' (Nat.le_of_not_lt hkc)]
    rw [hX]
    by_cases hkc : k < c
    · simp [hkc, SampOk]
    · rw [if_neg hkc]
      by_cases hl : k < (T.getD 0 []).length
      · exact h0.2 k hl
      · rw [show (T.getD 0 []).getD k 0 = 0 from X_past (by omega)]; simp [SampOk]
  · rw [cutG_mid (by omega)]
    by_cases e0 : j = 0
    · subst e0
      rw [cutT_zero hT]
      refine ⟨h0.1, fun k hk => ?_⟩
      rw [List.length_take] at hk
      have h2 := h0.2 k (by omega)
      unfold X at h2 ⊢
      rw [List.getD_eq_getElem?_getD, List.getElem?_take, if_pos (by omega), ← List.getD_eq_getElem?_getD]
      exact h2
    · rw [cutT_mid (by omega) (by omega)]
      exact good_at h (by omega)
theorem cut_row (hc : c ≤ (T.getD 0 []).length) (hT : 0 < T.length) (h : ∀ i, (T.getD i []).length * 8 ≤ 140737488351232) (i : Nat) : ((cutT T c).getD i []).length * 8 ≤ 140737488351232 := by
  by_cases e : i = T.length
  · subst e; rw [cutT_end, secondL_len hc]; exact h 0
  · by_cases e0 : i = 0
    · subst e0; rw [cutT_zero hT, List.length_take]; have := h 0; omega
    · by_cases h1 : i < T.length
      · rw [cutT_mid (by omega) h1]; exact h i
      · rw [List.getD_eq_getElem?_getD, List.getElem?_eq_none (by rw [cutT_len]; omega)]; simp
end

theorem ints_take (l : List Int) (c : Nat) : ((ints l).drop 0).take c = ints (l.take c) := by
  have e : ∀ (l : List Int), ints l = l.map iv := fun l => by
    unfold ints
    induction l with
    | nil => rfl
    | cons a l ih => rw [List.flatMap_cons, ih]; rfl
  rw [e, e, List.drop_zero, List.map_take]
theorem cutT_app (T : List (List Int)) (c : Nat) : rows (T.set 0 ((T.getD 0 []).take c)) ++ [.ssl (ints (secondL (T.getD 0 []) c)) 0 (secondL (T.getD 0 []) c).length] = rows (cutT T c) := by
  unfold cutT
  rw [rows, rows, flat_app]; rfl
theorem cutG_app (G : List Int) : ints G ++ [iv (G.getD 0 0)] = ints (cutG G) := by
  unfold cutG
  rw [ints, ints, flat_app]; rfl
theorem copy_src {l : List Int} {c m : Nat} (h : c + m = l.length) : Nat.min m m = m ∧ c + m * 1 ≤ (ints l).length ∧ ((ints l).drop c).take (m * 1) = ints (l.drop c) := by
  have e : ∀ (l : List Int), ints l = l.map iv := fun l => by
    unfold ints
    induction l with
    | nil => rfl
    | cons a l ih => rw [List.flatMap_cons, ih]; rfl
  refine ⟨Nat.min_self m, by rw [ints_len]; omega, ?_⟩
  rw [e, e, ← List.map_drop, List.take_of_length_le (by simp; omega)]
theorem copy_dst {l : List Int} {c : Nat} (h : c ≤ l.length) : c + (ints (l.drop c)).length ≤ (ints (List.replicate l.length 0)).length ∧ splice (ints (List.replicate l.length 0)) c (ints (l.drop c)) = ints (secondL l c) := by
  have e : ∀ (l : List Int), ints l = l.map iv := fun l => by
    unfold ints
    induction l with
    | nil => rfl
    | cons a l ih => rw [List.flatMap_cons, ih]; rfl
  refine ⟨by rw [ints_len, ints_len, List.length_replicate, List.length_drop]; omega, ?_⟩
  unfold splice secondL
  rw [e, e, e, List.map_append, ← List.map_take, List.take_replicate, Nat.min_eq_left h, ← List.map_drop, List.drop_of_length_le (l := List.replicate _ _) (by simp; omega)]
  simp
theorem sumsRR_len (T : List (List Int)) (G : List Int) : (sums (RR T) G).length = long (RR T) T.length := by rw [sums_length, RR_len]
theorem sums_lim {T : List (List Int)} (G : List Int) (h : ∀ i, (T.getD i []).length * 8 ≤ 140737488351232) : (sums (RR T) G).length ≤ 9223372036854775807 := by
  rw [sumsRR_len]; have := long_lim h T.length; omega

/-! ### contracts -/
theorem sum_yes (T : List (List Int)) (G : List Int) (hTl : T.length ≤ 9223372036854775807) (hrow : ∀ i, (T.getD i []).length * 8 ≤ 140737488351232) {n m : Nat} (hn : T.length = n) (hm : G.length = m) (h : Mx.Good (RR T) G) :
    PC Try.prog 8 [.ssl (rows T) 0 n, .ssl (ints G) 0 m] [] (.tup [.ssl (ints (sums (RR T) G)) 0 (long (RR T) T.length), iv 0]) [] := by
  subst hn; subst hm; rw [← sumR_yes h]; exact sum_pc T G hTl hrow
theorem sum_not (T : List (List Int)) (G : List Int) (hTl : T.length ≤ 9223372036854775807) (hrow : ∀ i, (T.getD i []).length * 8 ≤ 140737488351232) (h : ¬ Mx.Good (RR T) G) :
    PC Try.prog 8 [.ssl (rows T) 0 T.length, .ssl (ints G) 0 G.length] [] (.tup [.ssl [] 0 0, iv (errC T G)]) [] := by
  rw [← sumR_no h rfl]; exact sum_pc T G hTl hrow
theorem errC_ne (T : List (List Int)) (G : List Int) : ¬ errC T G = 0 := by unfold errC; split; · decide
                                                                            · split <;> decide
theorem same_yes {l m : List Int} {a b : Nat} (ha : l.length = a) (hb : m.length = b) (hl : l.length ≤ 9223372036854775807) (h : l = m) : PC Try.prog 9 [.ssl (ints l) 0 a, .ssl (ints m) 0 b] [] (bv true) [] := by
  subst ha; subst hb
  have := same_pc l m hl
  rw [show decide (l = m) = true from decide_eq_true h] at this
  exact this
end Go.Proofs.Ytgkahjaoajjgcaa.Pm
