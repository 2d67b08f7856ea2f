/-
  A DITHER, piece by piece: plain.
-/
import Derived.Test.YtgkahjaoajjgcaaMixDb
namespace Go.Proofs.Ytgkahjaoajjgcaa.Pm
open Go

abbrev Dd := List Int × Int × Int × Int
def ddC (x : Dd) : List PV := [.ssl (ints x.1) 0 x.1.length, iv x.2.1, iv x.2.2.1, iv x.2.2.2]
def dds (l : List Dd) : List PV := l.flatMap ddC
abbrev dDd : Dd := ([], 0, 0, 0)
theorem dds_shd (l : List Dd) : shds (dds l) := flat_shd ddC (fun _ => rfl) l
theorem dds_len (l : List Dd) : (dds l).length = l.length * 4 := flat_len ddC 4 (fun _ => rfl) l
def tellD (s : DS) (p : List Int) : Dd := (outD s p, errD p, (nextD s p).2.2.1, (nextD s p).2.2.2)
def dithS : DS → List (List Int) → List Dd
  | _, [] => []
  | s, p :: T => tellD s p :: dithS (nextD s p) T
theorem dith_len : ∀ (s : DS) (T : List (List Int)), (dithS s T).length = T.length
  | _, [] => rfl
  | s, p :: T => by rw [dithS, List.length_cons, List.length_cons, dith_len]
def tot (T : List (List Int)) : Nat := (T.map List.length).sum
theorem tot_next {T : List (List Int)} {i : Nat} (h : i < T.length) : tot (T.take (i + 1)) = tot (T.take i) + (T.getD i []).length := by
  unfold tot
  rw [List.take_add_one, List.map_append, List.sum_append, List.getD_eq_getElem?_getD, List.getElem?_eq_getElem h]
  simp
theorem tot_take : ∀ (T : List (List Int)) (i : Nat), tot (T.take i) ≤ tot T
  | [], i => by simp [tot]
  | p :: T, 0 => by simp [tot]
  | p :: T, i + 1 => by have := tot_take T i; simp only [tot, List.take_succ_cons, List.map_cons, List.sum_cons] at this ⊢; omega
theorem tot_at {T : List (List Int)} {i : Nat} (h : i < T.length) : (T.getD i []).length ≤ tot T := by
  have := tot_take T (i + 1)
  rw [tot_next h] at this
  omega
theorem dropT {T : List (List Int)} {i : Nat} (h : i < T.length) : T.drop i = T.getD i [] :: T.drop (i + 1) := by
  rw [List.drop_eq_getElem_cons h, List.getD_eq_getElem?_getD, List.getElem?_eq_getElem h]
  rfl
theorem dith_next {A R : List Dd} {s : DS} {T : List (List Int)} {i : Nat} (h : i < T.length) (hA : A ++ dithS s (T.drop i) = R) : (A ++ [tellD s (T.getD i [])]) ++ dithS (nextD s (T.getD i [])) (T.drop (i + 1)) = R := by
  rw [dropT h, dithS] at hA
  rw [List.append_assoc, List.singleton_append]
  exact hA
theorem dith_at {R : List Dd} {s : DS} {T : List (List Int)} {i : Nat} (h : i < T.length) (hR : R.drop i = dithS s (T.drop i)) : R.getD i dDd = tellD s (T.getD i []) ∧ R.drop (i + 1) = dithS (nextD s (T.getD i [])) (T.drop (i + 1)) := by
  rw [dropT h, dithS] at hR
  have h1 : i < R.length := by
    rcases Nat.lt_or_ge i R.length with h2 | h2
    · exact h2
    · rw [List.drop_eq_nil_of_le h2] at hR; cases hR
  rw [List.drop_eq_getElem_cons h1] at hR
  simp only [List.cons.injEq] at hR
  exact ⟨by rw [List.getD_eq_getElem?_getD, List.getElem?_eq_getElem h1]; exact hR.1, hR.2⟩
theorem snoc_len {α : Type} (L : List α) (x : α) : (L ++ [x]).length = L.length + 1 := by simp
theorem okD0 (seed : Int) : okD (seed, 0, 0, 0) := by
  show ((-65535 : Int) ≤ 0 ∧ (0 : Int) ≤ 65535) ∧ ((0 : Int) ≤ 0 ∧ (0 : Int) ≤ 32768) ∧ (0 : Int) ≤ 0
  decide
end Go.Proofs.Ytgkahjaoajjgcaa.Pm
