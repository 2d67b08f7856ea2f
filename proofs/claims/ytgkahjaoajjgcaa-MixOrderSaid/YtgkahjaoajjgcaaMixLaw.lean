/-
  PLAIN: sums over a permuted order, and a track cut in two. No program in sight.
-/
import Derived.Test.YtgkahjaoajjgcaaMixV
namespace Go.Proofs.Ytgkahjaoajjgcaa.Mx

theorem nodup_le : ∀ (n : Nat) (l : List Nat), l.Nodup → (∀ x ∈ l, x < n) → l.length ≤ n
  | 0, l, _, h => by
    cases l with
    | nil => simp
    | cons a l => exact absurd (h a (by simp)) (by omega)
  | n + 1, l, hd, h => by
    have h1 := nodup_le n (l.erase n) (hd.erase n) fun x hx => by
      have h2 := h x (List.mem_of_mem_erase hx)
      have h3 : x ≠ n := fun e => by subst e; exact (List.Nodup.not_mem_erase hd) hx
      omega
    have h4 := List.length_erase (a := n) (l := l)
    split at h4 <;> omega
theorem perm_sum {l m : List Int} (h : l.Perm m) : l.sum = m.sum := by
  induction h with
  | nil => rfl
  | cons x _ ih => rw [List.sum_cons, List.sum_cons, ih]
  | swap x y l => simp only [List.sum_cons]; omega
  | trans _ _ h1 h2 => exact h1.trans h2
def total (f : Nat → Int) : Nat → Int
  | 0 => 0
  | n + 1 => total f n + f n
theorem total_perm (f : Nat → Int) : ∀ (n : Nat) (l : List Nat), l.Nodup → (∀ x ∈ l, x < n) → l.length = n → (l.map f).sum = total f n
  | 0, l, _, _, hl => by
    obtain rfl := List.eq_nil_of_length_eq_zero hl
    rfl
  | n + 1, l, hd, h, hl => by
    have hsub : ∀ x ∈ l.erase n, x < n := fun x hx => by
      have h2 := h x (List.mem_of_mem_erase hx)
      have h3 : x ≠ n := fun e => by subst e; exact (List.Nodup.not_mem_erase hd) hx
      omega
    have hm : n ∈ l := by
      apply Classical.byContradiction
      intro hn
      have := nodup_le n l hd fun x hx => by
        have h2 := h x hx
        have h3 : x ≠ n := fun e => hn (e ▸ hx)
        omega
      omega
    have h4 : (l.erase n).length = n := by rw [List.length_erase_of_mem hm]; omega
    have h5 := total_perm f n (l.erase n) (hd.erase n) hsub h4
    have h6 : (l.map f).sum = ((n :: l.erase n).map f).sum := perm_sum ((List.perm_cons_erase hm).map f)
    rw [h6, List.map_cons, List.sum_cons, h5, total]
    omega
theorem part_total (T : List Row) (G : List Int) (k : Nat) : ∀ n, part T G n k = total (fun j => X G j * X (Y T j).l k) n
  | 0 => rfl
  | n + 1 => by rw [part, total, part_total T G k n]

/-- The order: a rearrangement. -/
def Perm (O : List Int) (n : Nat) : Prop := ∀ j, j < n → 0 ≤ X O j ∧ X O j < n ∧ ∀ j', j' < j → X O j' ≠ X O j
def at' (O : List Int) (j : Nat) : Nat := (X O j).toNat
theorem Perm.total {O : List Int} {n : Nat} (h : Perm O n) (f : Nat → Int) : Mx.total (fun j => f (at' O j)) n = Mx.total f n := by
  have h1 : ((List.range n).map (at' O)).Nodup := by
    rw [List.nodup_iff_pairwise_ne, List.pairwise_map]
    refine List.Pairwise.imp_of_mem (R := (· < ·)) (fun {a b} ha hb hab => ?_) List.pairwise_lt_range
    have hb' := h b (by simpa using hb)
    have ha' := h a (by simpa using ha)
    have := hb'.2.2 a hab
    unfold at'
    omega
  have h2 := total_perm f n ((List.range n).map (at' O)) h1 (fun x hx => by
    obtain ⟨j, hj, rfl⟩ := List.mem_map.1 hx
    have := h j (by simpa using hj)
    unfold at'
    omega) (by simp)
  rw [← h2, List.map_map]
  have h3 : ∀ (g : Nat → Int) n, Mx.total g n = ((List.range n).map g).sum := fun g n => by
    induction n with
    | zero => rfl
    | succ n ih => rw [Mx.total, ih, List.range_succ, List.map_append, List.sum_append]; simp
  rw [h3]
  rfl
theorem total_congr {f g : Nat → Int} : ∀ {n : Nat}, (∀ j, j < n → f j = g j) → total f n = total g n
  | 0, _ => rfl
  | n + 1, h => by rw [total, total, total_congr fun j hj => h j (by omega), h n (by omega)]
theorem total_one {t : Nat} : ∀ {n : Nat}, t < n → total (fun j => if j = t then 1 else 0) n = 1
  | n + 1, h => by
    by_cases e : t = n
    · subst e
      have h0 : ∀ m, m ≤ t → total (fun j => if j = t then 1 else 0) m = 0 := fun m hm => by
        induction m with
        | zero => rfl
        | succ m ih => rw [total, ih (by omega), if_neg (by omega)]; rfl
      rw [total, h0 t (Nat.le_refl _), if_pos rfl]; rfl
    · rw [total, total_one (by omega), if_neg (fun h => e h.symm)]; rfl
theorem total_zero : ∀ n, total (fun _ => 0) n = 0
  | 0 => rfl
  | n + 1 => by rw [total, total_zero n]; rfl
theorem Perm.onto {O : List Int} {n : Nat} (h : Perm O n) {t : Nat} (ht : t < n) : ∃ j, j < n ∧ at' O j = t := by
  apply Classical.byContradiction
  intro hn
  have h1 := h.total (fun j => if j = t then 1 else 0)
  rw [total_one ht, total_congr (g := fun _ => 0) fun j hj => if_neg fun e => hn ⟨j, hj, e⟩, total_zero] at h1
  exact absurd h1 (by decide)
theorem Perm.lt {O : List Int} {n : Nat} (h : Perm O n) {j : Nat} (hj : j < n) : at' O j < n := by
  have := h j hj
  unfold at'
  omega
def ordT (T : List Row) (O : List Int) (n : Nat) : List Row := (List.range n).map fun j => Y T (at' O j)
def ordG (G : List Int) (O : List Int) (n : Nat) : List Int := (List.range n).map fun j => X G (at' O j)
theorem Y_ord {T : List Row} {O : List Int} {n j : Nat} (h : j < n) : Y (ordT T O n) j = Y T (at' O j) := by
  show (ordT T O n).getD j R0 = _
  unfold ordT
  simp [List.getD_eq_getElem?_getD, h]
theorem X_ord {G : List Int} {O : List Int} {n j : Nat} (h : j < n) : X (ordG G O n) j = X G (at' O j) := by
  show (ordG G O n).getD j 0 = _
  unfold ordG
  simp [List.getD_eq_getElem?_getD, h]
theorem long_le' {T : List Row} {M : Nat} : ∀ {n : Nat}, (∀ i, i < n → (Y T i).l.length ≤ M) → long T n ≤ M
  | 0, _ => Nat.zero_le _
  | n + 1, h => by rw [long]; have := long_le' (T := T) (M := M) (n := n) fun i hi => h i (by omega); have := h n (by omega); omega
theorem long_ord {T : List Row} {O : List Int} {n : Nat} (h : Perm O n) : long (ordT T O n) n = long T n := by
  apply Nat.le_antisymm
  · exact long_le' fun i hi => by rw [Y_ord hi]; exact long_le (h.lt hi)
  · exact long_le' fun i hi => by
      obtain ⟨j, hj, e⟩ := h.onto hi
      have := long_le (T := ordT T O n) hj
      rw [Y_ord hj, e] at this
      exact this
theorem part_ord {T : List Row} {G O : List Int} {n : Nat} (h : Perm O n) (k : Nat) : part (ordT T O n) (ordG G O n) n k = part T G n k := by
  rw [part_total, part_total, ← h.total (fun t => X G t * X (Y T t).l k)]
  exact total_congr fun j hj => by rw [Y_ord hj, X_ord hj]
theorem ordT_length (T : List Row) (O : List Int) (n : Nat) : (ordT T O n).length = n := by simp [ordT]
theorem ordG_length (G O : List Int) (n : Nat) : (ordG G O n).length = n := by simp [ordG]
theorem good_ord {T : List Row} {G O : List Int} (hg : Good T G) (h : Perm O T.length) : Good (ordT T O T.length) (ordG G O T.length) :=
  ⟨by rw [ordT_length]; exact hg.n, by rw [ordT_length, ordG_length], fun i hi => by
    rw [ordT_length] at hi
    rw [Y_ord hi, X_ord hi]
    exact hg.all _ (h.lt hi)⟩
theorem sums_ord {T : List Row} {G O : List Int} (h : Perm O T.length) : sums (ordT T O T.length) (ordG G O T.length) = sums T G := by
  unfold sums
  rw [ordT_length, long_ord h]
  exact List.map_congr_left fun k _ => part_ord h k
end Go.Proofs.Ytgkahjaoajjgcaa.Mx
