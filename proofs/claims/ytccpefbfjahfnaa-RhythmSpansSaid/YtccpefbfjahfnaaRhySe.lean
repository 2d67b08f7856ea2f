/-
  SPANS: plain: leaves first, then where they stand: the same.
-/
import Derived.Test.YtccpefbfjahfnaaRhySd
namespace Go.Proofs.Ytccpefbfjahfnaa.Pm
open Go Fr Gcd

abbrev Lf := Int × Int × Int
def lfC (x : Lf) : List PV := [iv x.1, iv x.2.1, iv x.2.2]
def lfs (l : List Lf) : List PV := l.flatMap lfC
abbrev dL : Lf := (0, 0, 0)
theorem lfs_shd (l : List Lf) : shds (lfs l) := flat_shd lfC (fun _ => rfl) l
theorem lfs_len (l : List Lf) : (lfs l).length = l.length * 3 := flat_len lfC 3 (fun _ => rfl) l
mutual
def leavesS : Beat → Int → Int → Option (List Lf)
  | .mk k _ l, u, d => if k = 4 then leavesL l (sumSh l) u d else some [(k, u, d)]
def leavesL : List Beat → Int → Int → Int → Option (List Lf)
  | [], _, _, _ => some []
  | b :: l, all, u, d =>
    if (make (sh b) all).2.2 = 0 then
      if (times (make (sh b) all).1 (make (sh b) all).2.1 u d).2.2 = 0 then
        match leavesS b (times (make (sh b) all).1 (make (sh b) all).2.1 u d).1 (times (make (sh b) all).1 (make (sh b) all).2.1 u d).2.1 with
        | some x => (leavesL l all u d).map (x ++ ·)
        | none => none
      else none
    else none
end
theorem leavesS_eq (b : Beat) (u d : Int) : leavesS b u d = if kd b = 4 then leavesL (kids b) (sumSh (kids b)) u d else some [(kd b, u, d)] := by
  cases b with | mk k s l => rw [leavesS]; rfl
def leavesP (b : Beat) (u d : Int) : PV := match leavesS b u d with
  | some l => .tup [.ssl (lfs l) 0 l.length, bv true]
  | none => .tup [.ssl [] 0 0, bv false]
/-- The leaves, where there are some. -/
def lvG (b : Beat) (u d : Int) : List Lf := (leavesS b u d).getD []
theorem leavesP_no {b : Beat} {u d : Int} (h : leavesS b u d = none) : leavesP b u d = .tup [.ssl [] 0 0, bv false] := by unfold leavesP; rw [h]
theorem leavesP_yes {b : Beat} {u d : Int} {l : List Lf} (h : leavesS b u d = some l) : leavesP b u d = .tup [.ssl (lfs l) 0 l.length, bv true] := by unfold leavesP; rw [h]
theorem lvG_some {b : Beat} {u d : Int} (h : ¬ leavesS b u d = none) : leavesS b u d = some (lvG b u d) := by
  unfold lvG
  cases hl : leavesS b u d with
  | none => exact absurd hl h
  | some l => rfl
theorem leavesL_at {l : List Beat} {i : Nat} {all u d : Int} (h : i < l.length) : leavesL (l.drop i) all u d =
    if (make (sh (l.getD i dB)) all).2.2 = 0 then
      if (times (make (sh (l.getD i dB)) all).1 (make (sh (l.getD i dB)) all).2.1 u d).2.2 = 0 then
        match leavesS (l.getD i dB) (times (make (sh (l.getD i dB)) all).1 (make (sh (l.getD i dB)) all).2.1 u d).1 (times (make (sh (l.getD i dB)) all).1 (make (sh (l.getD i dB)) all).2.1 u d).2.1 with
        | some x => (leavesL (l.drop (i + 1)) all u d).map (x ++ ·)
        | none => none
      else none
    else none := by rw [drop_cons h, leavesL]
/-- What stands ahead, and the rest. -/
def ahead (A : List Lf) (o : Option (List Lf)) : Option (List Lf) := o.map (A ++ ·)
theorem ahead_next {A x : List Lf} {o : Option (List Lf)} : ahead A (o.map (x ++ ·)) = ahead (A ++ x) o := by
  cases o <;> simp [ahead]
mutual
theorem leaves_len : ∀ (b : Beat) (u d : Int) (l : List Lf), leavesS b u d = some l → l.length ≤ cnt b
  | .mk k s l, u, d, r, h => by
    rw [leavesS] at h
    rw [cnt]
    split at h
    · have := leaves_lenL l _ u d r h; omega
    · simp only [Option.some.injEq] at h
      subst h
      simp
theorem leaves_lenL : ∀ (l : List Beat) (all u d : Int) (r : List Lf), leavesL l all u d = some r → r.length ≤ cntL l
  | [], _, _, _, r, h => by
    rw [leavesL] at h
    simp only [Option.some.injEq] at h
    subst h
    simp
  | b :: l, all, u, d, r, h => by
    rw [leavesL] at h
    rw [cntL]
    split at h
    · split at h
      · split at h
        · rename_i x hx
          have h1 := leaves_len b _ _ x hx
          simp only [Option.map_eq_some_iff] at h
          obtain ⟨y, hy, rfl⟩ := h
          have h2 := leaves_lenL l all u d y hy
          rw [List.length_append]
          omega
        · cases h
      · cases h
    · cases h
end
/-- Leaf by leaf. -/
def runL : List Lf → StS → Int × StS
  | [], st => (0, st)
  | x :: l, st => if (leafS x.1 x.2.1 x.2.2 st.1 st.2.1 st.2.2).1 = 0 then runL l (leafS x.1 x.2.1 x.2.2 st.1 st.2.1 st.2.2).2 else leafS x.1 x.2.1 x.2.2 st.1 st.2.1 st.2.2
theorem runL_app : ∀ (l m : List Lf) (st : StS), runL (l ++ m) st = if (runL l st).1 = 0 then runL m (runL l st).2 else runL l st
  | [], m, st => by simp [runL]
  | x :: l, m, st => by
    rw [List.cons_append, runL, runL]
    by_cases c : (leafS x.1 x.2.1 x.2.2 st.1 st.2.1 st.2.2).1 = 0
    · rw [if_pos c, if_pos c]
      exact runL_app l m _
    · rw [if_neg c, if_neg c, if_neg c]
theorem make_e {u d : Int} (hd : 1 ≤ d) : (make u d).2.2 = 0 ∨ (make u d).2.2 = 4 := by
  unfold make
  rw [if_neg (by omega)]
  split
  · exact .inl rfl
  · exact .inr rfl
theorem plus_e {a b u d : Int} (h : rightB a b = true) (k : rightB u d = true) : (plus a b u d).2.2 = 0 ∨ (plus a b u d).2.2 = 4 := by
  rw [plus_of h k]
  exact make_e (mul_one_le (pos_of h) (pos_of k))
theorem times_e {a b u d : Int} (h : rightB a b = true) (k : rightB u d = true) : (times a b u d).2.2 = 0 ∨ (times a b u d).2.2 = 4 := by
  rw [times_of h k]
  exact make_e (mul_one_le (pos_of h) (pos_of k))
theorem leaf_e {k u d : Int} {L : List Sp} {a b : Int} (hs : okSt L a b) (hr : rightB u d = true) : (leafS k u d L a b).1 = 0 ∨ (leafS k u d L a b).1 = 4 := by
  unfold leafS
  rcases plus_e hs.1 hr with c1 | c1
  · rw [if_pos c1]
    by_cases c2 : k = 3 ∧ 0 < L.length
    · rw [if_pos c2]
      dsimp only
      rcases plus_e (hs.2 (L.length - 1) (by omega)) hr with c3 | c3
      · rw [if_pos c3]; exact .inl rfl
      · rw [if_neg (by rw [c3]; decide)]; exact .inr c3
    · rw [if_neg c2]; exact .inl rfl
  · rw [if_neg (by rw [c1]; decide)]; exact .inr c1
def Agree (r : Int × StS) (o : Option (List Lf)) (st : StS) : Prop := match o with
  | some l => if (runL l st).1 = 0 then r = runL l st else r.1 = 4
  | none => r.1 = 4
mutual
theorem share_run : ∀ (b : Beat) (u d : Int) (st : StS), rightB u d = true → okSt st.1 st.2.1 st.2.2 → good b → Agree (shareS b u d st) (leavesS b u d) st
  | .mk k s l, u, d, st, hr, hs, hg => by
    rw [shareS, leavesS]
    rw [good] at hg
    by_cases c : k = 4
    · rw [if_pos c, if_pos c]
      have h1 := goodL_sum hg.2.2.2
      have h2 := List.length_pos_iff.2 (hg.2.2.1 c)
      exact share_runL l (sumSh l) u d st hr hs hg.2.2.2 (by omega)
    · rw [if_neg c, if_neg c]
      have hrun : runL [(k, u, d)] st = leafS k u d st.1 st.2.1 st.2.2 := by
        simp only [runL]
        by_cases h : (leafS k u d st.1 st.2.1 st.2.2).1 = 0
        · rw [if_pos h]
          exact Prod.ext h.symm rfl
        · rw [if_neg h]
      show if (runL [(k, u, d)] st).1 = 0 then leafS k u d st.1 st.2.1 st.2.2 = runL [(k, u, d)] st else _
      simp only [hrun]
      rcases leaf_e (k := k) hs hr with h | h
      · rw [if_pos h]; trivial
      · rw [if_neg (by rw [h]; decide)]
        exact h
theorem share_runL : ∀ (l : List Beat) (all u d : Int) (st : StS), rightB u d = true → okSt st.1 st.2.1 st.2.2 → goodL l → 1 ≤ all → Agree (shareL l all u d st) (leavesL l all u d) st
  | [], all, u, d, st, hr, hs, hg, ha => by simp [shareL, leavesL, Agree, runL]
  | b :: l, all, u, d, st, hr, hs, hg, ha => by
    rw [shareL, leavesL]
    rw [goodL] at hg
    rcases make_e (u := sh b) ha with c1 | c1
    · rw [if_pos c1, if_pos c1]
      rcases times_e (make_r c1) hr with c2 | c2
      · rw [if_pos c2, if_pos c2]
        have ih := share_run b (times (make (sh b) all).1 (make (sh b) all).2.1 u d).1 (times (make (sh b) all).1 (make (sh b) all).2.1 u d).2.1 st (times_r c2) hs hg.1
        dsimp only
        generalize hS : shareS b (times (make (sh b) all).1 (make (sh b) all).2.1 u d).1 (times (make (sh b) all).1 (make (sh b) all).2.1 u d).2.1 st = S at ih ⊢
        cases hl : leavesS b (times (make (sh b) all).1 (make (sh b) all).2.1 u d).1 (times (make (sh b) all).1 (make (sh b) all).2.1 u d).2.1 with
        | none =>
          rw [hl] at ih
          simp only [Agree] at ih ⊢
          rw [if_neg (by rw [ih]; decide)]
          exact ih
        | some x =>
          rw [hl] at ih
          simp only [Agree] at ih
          by_cases c3 : (runL x st).1 = 0
          · rw [if_pos c3] at ih
            subst ih
            rw [if_pos c3]
            have hst := share_st b _ _ st (times_r c2) hs (by rw [hS]; exact c3)
            rw [hS] at hst
            have ih2 := share_runL l all u d (runL x st).2 hr hst hg.2 ha
            cases hl2 : leavesL l all u d with
            | none =>
              rw [hl2] at ih2
              simpa only [Agree, Option.map_none] using ih2
            | some y =>
              rw [hl2] at ih2
              simp only [Agree, Option.map_some] at ih2 ⊢
              rw [runL_app, if_pos c3]
              exact ih2
          · rw [if_neg c3] at ih
            rw [if_neg (by rw [ih]; decide)]
            cases hl2 : leavesL l all u d with
            | none => simpa only [Agree, Option.map_none] using ih
            | some y =>
              simp only [Agree, Option.map_some]
              rw [runL_app, if_neg c3, if_neg c3]
              exact ih
      · rw [if_neg (by rw [c2]; decide), if_neg (by rw [c2]; decide)]
        exact c2
    · rw [if_neg (by rw [c1]; decide), if_neg (by rw [c1]; decide)]
      exact c1
end
/-- What Spans answers: what is wrong; the spans. -/
def spansE (b : Beat) (u d : Int) : Int := if wrongE b = 0 then if rightB u d = true then if u < 1 then 3 else (shareS b u d ([], 0, 1)).1 else 2 else wrongE b
def spansL (b : Beat) (u d : Int) : List Sp := (shareS b u d ([], 0, 1)).2.1
def spansP (b : Beat) (u d : Int) : PV := if spansE b u d = 0 then .tup [.ssl (spans (spansL b u d)) 0 (spansL b u d).length, iv 0] else .tup [.ssl [] 0 0, iv (spansE b u d)]
theorem spansP_no {b : Beat} {u d e : Int} (he : spansE b u d = e) (h : e ≠ 0) : spansP b u d = .tup [.ssl [] 0 0, iv e] := by unfold spansP; rw [he, if_neg h]
theorem spansP_yes {b : Beat} {u d : Int} (h : spansE b u d = 0) : spansP b u d = .tup [.ssl (spans (spansL b u d)) 0 (spansL b u d).length, iv 0] := by unfold spansP; rw [if_pos h]
theorem st0_ok : okSt [] 0 1 := ⟨by decide +kernel, fun i h => absurd h (Nat.not_lt_zero _)⟩
theorem wrong_good {b : Beat} (h : wrongE b = 0) : good b ∧ cnt b ≤ 4096 := by
  obtain ⟨h1, h2, h3⟩ := look_ok b 1 0 (by decide) (by decide)
  obtain ⟨h4, h5, h6⟩ := h3 h
  exact ⟨h6, by omega⟩
def refR (b : Beat) (u d : Int) : Int × StS := runL (lvG b u d) ([], 0, 1)
/-- The document's way tells the same. -/
theorem spansP_ref {b : Beat} {u d : Int} (hw : wrongE b = 0) (hr : rightB u d = true) (hu : ¬ u < 1) :
    spansP b u d = if leavesS b u d = none then .tup [.ssl [] 0 0, iv 4] else if (refR b u d).1 = 0 then .tup [.ssl (spans (refR b u d).2.1) 0 (refR b u d).2.1.length, iv 0] else .tup [.ssl [] 0 0, iv 4] := by
  have hE : spansE b u d = (shareS b u d ([], 0, 1)).1 := by unfold spansE; rw [if_pos hw, if_pos hr, if_neg hu]
  have hA := share_run b u d ([], 0, 1) hr st0_ok (wrong_good hw).1
  by_cases c : leavesS b u d = none
  · rw [c] at hA
    rw [if_pos c]
    exact spansP_no (hE.trans hA) (by decide)
  · rw [if_neg c]
    rw [lvG_some c] at hA
    simp only [Agree] at hA
    by_cases c2 : (refR b u d).1 = 0
    · rw [if_pos c2]
      unfold refR at c2
      rw [if_pos c2] at hA
      rw [spansP_yes (hE.trans (by rw [hA]; exact c2))]
      unfold spansL refR
      rw [hA]
    · rw [if_neg c2]
      unfold refR at c2
      rw [if_neg c2] at hA
      exact spansP_no (hE.trans hA) (by decide)
end Go.Proofs.Ytccpefbfjahfnaa.Pm
