/-
  SPANS: plain: what is told stays right.
-/
import Derived.Test.YtccpefbfjahfnaaRhySb
namespace Go.Proofs.Ytccpefbfjahfnaa.Pm
open Go Fr Gcd

theorem splice_flat {α : Type} (f : α → List PV) (s : Nat) (hf : ∀ x, (f x).length = s) (d : α) : ∀ (l : List α) (k j : Nat) (ps : List PV) (v : α), k < l.length → j + ps.length ≤ s → f v = splice (f (l.getD k d)) j ps →
    k * s + j + ps.length ≤ (l.flatMap f).length ∧ splice (l.flatMap f) (k * s + j) ps = (l.set k v).flatMap f
  | x :: l, 0, j, ps, v, _, hj, hv => by
    have hx := hf x
    refine ⟨by rw [flat_len f s hf, List.length_cons, Nat.succ_mul]; omega, ?_⟩
    rw [List.set_cons_zero, List.flatMap_cons, List.flatMap_cons, hv]
    simp only [List.getD_cons_zero, Nat.zero_mul, Nat.zero_add, splice]
    rw [List.take_append_of_le_length (by omega), List.drop_append_of_le_length (by omega)]
    simp only [List.append_assoc]
  | x :: l, k + 1, j, ps, v, hk, hj, hv => by
    have hx := hf x
    obtain ⟨h1, h2⟩ := splice_flat f s hf d l k j ps v (by simpa using hk) hj (by simpa using hv)
    refine ⟨by rw [List.flatMap_cons, List.length_append, hx, Nat.succ_mul]; omega, ?_⟩
    rw [List.set_cons_succ, List.flatMap_cons, List.flatMap_cons, ← h2]
    simp only [splice]
    rw [show (k + 1) * s + j = (f x).length + (k * s + j) from by rw [Nat.succ_mul]; omega, List.take_length_add_append, Nat.add_assoc (f x).length, List.drop_length_add_append]
    simp only [List.append_assoc]
theorem longer_splice (L : List Sp) (u d : Int) (h : 0 < L.length) : (L.length - 1) * 5 + 2 + 2 ≤ (spans L).length ∧ splice (spans L) ((L.length - 1) * 5 + 2) [iv u, iv d] = spans (longer L u d) :=
  splice_flat spC 5 (fun _ => rfl) dS L (L.length - 1) 2 [iv u, iv d] _ (by omega) (show 2 + 2 ≤ 5 by decide) rfl
theorem i64_r {u d : Int} (h : rightB u d = true) : I64 u ∧ I64 d := by
  have := rightB_iff.1 h
  unfold Fr.I64
  omega
/-- The spans so far are right. -/
def okSt (L : List Sp) (a b : Int) : Prop := rightB a b = true ∧ ∀ i, i < L.length → rightB (L.getD i dS).2.2.1 (L.getD i dS).2.2.2.1 = true
theorem plus_r {a b u d : Int} (h : (plus a b u d).2.2 = 0) : rightB (plus a b u d).1 (plus a b u d).2.1 = true := by
  have := plus_ok (show plus a b u d = ((plus a b u d).1, (plus a b u d).2.1, 0) from by rw [← h])
  exact this.2.2.1
theorem times_r {a b u d : Int} (h : (times a b u d).2.2 = 0) : rightB (times a b u d).1 (times a b u d).2.1 = true := by
  have := times_ok (show times a b u d = ((times a b u d).1, (times a b u d).2.1, 0) from by rw [← h])
  exact this.2.2.1
theorem make_r {u d : Int} (h : (make u d).2.2 = 0) : rightB (make u d).1 (make u d).2.1 = true := by
  have := make_ok (show make u d = ((make u d).1, (make u d).2.1, 0) from by rw [← h])
  exact this.2.1
theorem longer_get {L : List Sp} {u d : Int} {i : Nat} (h : 0 < L.length) : (longer L u d).getD i dS = if i = L.length - 1 then ((L.getD (L.length - 1) dS).1, (L.getD (L.length - 1) dS).2.1, u, d, (L.getD (L.length - 1) dS).2.2.2.2) else L.getD i dS := by
  unfold longer
  rw [List.getD_eq_getElem?_getD, List.getElem?_set]
  by_cases e : i = L.length - 1
  · subst e; rw [if_pos rfl, if_pos (by omega), if_pos rfl]; rfl
  · rw [if_neg (Ne.symm e), if_neg e, List.getD_eq_getElem?_getD]
theorem leaf_st {k u d : Int} {L : List Sp} {a b : Int} (h : okSt L a b) (hr : rightB u d = true) (h0 : (leafS k u d L a b).1 = 0) : okSt (leafS k u d L a b).2.1 (leafS k u d L a b).2.2.1 (leafS k u d L a b).2.2.2 := by
  unfold leafS at h0 ⊢
  by_cases c1 : (plus a b u d).2.2 = 0
  · rw [if_pos c1] at h0 ⊢
    by_cases c2 : k = 3 ∧ 0 < L.length
    · rw [if_pos c2] at h0 ⊢
      dsimp only at h0 ⊢
      by_cases c3 : (plus (L.getD (L.length - 1) dS).2.2.1 (L.getD (L.length - 1) dS).2.2.2.1 u d).2.2 = 0
      · rw [if_pos c3] at h0 ⊢
        refine ⟨plus_r c1, fun i hi => ?_⟩
        simp only [longer_len] at hi
        rw [longer_get c2.2]
        split
        · exact plus_r c3
        · exact h.2 i hi
      · rw [if_neg c3] at h0
        exact absurd h0 c3
    · rw [if_neg c2]
      refine ⟨plus_r c1, fun i hi => ?_⟩
      simp only [List.length_append, List.length_cons, List.length_nil] at hi
      by_cases e : i < L.length
      · rw [List.getD_eq_getElem?_getD, List.getElem?_append_left e, ← List.getD_eq_getElem?_getD]
        exact h.2 i e
      · rw [List.getD_eq_getElem?_getD, List.getElem?_append_right (by omega), show i - L.length = 0 by omega]
        exact hr
  · rw [if_neg c1] at h0
    exact absurd h0 c1
mutual
theorem share_st : ∀ (b : Beat) (u d : Int) (st : StS), rightB u d = true → okSt st.1 st.2.1 st.2.2 → (shareS b u d st).1 = 0 → okSt (shareS b u d st).2.1 (shareS b u d st).2.2.1 (shareS b u d st).2.2.2
  | .mk k s l, u, d, st, hr, hs, h0 => by
    rw [shareS] at h0 ⊢
    by_cases c : k = 4
    · rw [if_pos c] at h0 ⊢
      exact share_stL l (sumSh l) u d st hr hs h0
    · rw [if_neg c] at h0 ⊢
      exact leaf_st hs hr h0
theorem share_stL : ∀ (l : List Beat) (all u d : Int) (st : StS), rightB u d = true → okSt st.1 st.2.1 st.2.2 → (shareL l all u d st).1 = 0 → okSt (shareL l all u d st).2.1 (shareL l all u d st).2.2.1 (shareL l all u d st).2.2.2
  | [], _, _, _, st, hr, hs, h0 => by rw [shareL]; exact hs
  | b :: l, all, u, d, st, hr, hs, h0 => by
    rw [shareL] at h0 ⊢
    by_cases c1 : (make (sh b) all).2.2 = 0
    · rw [if_pos c1] at h0 ⊢
      by_cases c2 : (times (make (sh b) all).1 (make (sh b) all).2.1 u d).2.2 = 0
      · rw [if_pos c2] at h0 ⊢
        dsimp only at h0 ⊢
        by_cases c3 : (shareS b (times (make (sh b) all).1 (make (sh b) all).2.1 u d).1 (times (make (sh b) all).1 (make (sh b) all).2.1 u d).2.1 st).1 = 0
        · rw [if_pos c3] at h0 ⊢
          exact share_stL l all u d _ hr (share_st b _ _ st (times_r c2) hs c3) h0
        · rw [if_neg c3] at h0
          exact absurd h0 c3
      · rw [if_neg c2] at h0
        exact absurd h0 c2
    · rw [if_neg c1] at h0
      exact absurd h0 c1
end
end Go.Proofs.Ytccpefbfjahfnaa.Pm
