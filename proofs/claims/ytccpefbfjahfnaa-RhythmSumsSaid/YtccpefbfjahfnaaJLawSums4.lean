/-
  SPANS: plain: leaves first, then where they stand: the same. | SPANS: Spans, and the leaves of the document: walks. (Printed by wip/pm.) | SPANS: the document's, and the law: walks. (Printed by wip/pm.) | TIME IS SHARED OUT WHOLE: plain. | WRITE: walks. (Printed by wip/pm.) | THE DOCUMENT'S WAY TO WRITE A LENGTH: plain.
-/
import Derived.Test.YtccpefbfjahfnaaJLawSums3
namespace Go.Proofs.Ytccpefbfjahfnaa.Pm
open Go Fr Gcd

abbrev Lf := Int × Int × Int
def lfC (x : Lf) : List PV := [iv x.1, iv x.2.1, iv x.2.2]
def lfs (l : List Lf) : List PV := l.flatMap lfC
abbrev dL : Lf := (0, 0, 0)
theorem lfs_shd (l : List Lf) : shds (lfs l) := flat_shd lfC (fun _ => rfl) l
theorem lfs_len (l : List Lf) : (lfs l).length = l.length * 3 := flat_len lfC 3 (fun _ => rfl) l
mutual
def leavesS : Beat → Int → Int → Option (List Lf)
  | .mk k _ l, u, d => if k = 4 then leavesL l (sumSh l) u d else some [(k, u, d)]
def leavesL : List Beat → Int → Int → Int → Option (List Lf)
  | [], _, _, _ => some []
  | b :: l, all, u, d =>
    if (make (sh b) all).2.2 = 0 then
      if (times (make (sh b) all).1 (make (sh b) all).2.1 u d).2.2 = 0 then
        match leavesS b (times (make (sh b) all).1 (make (sh b) all).2.1 u d).1 (times (make (sh b) all).1 (make (sh b) all).2.1 u d).2.1 with
        | some x => (leavesL l all u d).map (x ++ ·)
        | none => none
      else none
    else none
end
theorem leavesS_eq (b : Beat) (u d : Int) : leavesS b u d = if kd b = 4 then leavesL (kids b) (sumSh (kids b)) u d else some [(kd b, u, d)] := by
  cases b with | mk k s l => rw [leavesS]; rfl
def leavesP (b : Beat) (u d : Int) : PV := match leavesS b u d with
  | some l => .tup [.ssl (lfs l) 0 l.length, bv true]
  | none => .tup [.ssl [] 0 0, bv false]
/-- The leaves, where there are some. -/
def lvG (b : Beat) (u d : Int) : List Lf := (leavesS b u d).getD []
theorem leavesP_no {b : Beat} {u d : Int} (h : leavesS b u d = none) : leavesP b u d = .tup [.ssl [] 0 0, bv false] := by unfold leavesP; rw [h]
theorem leavesP_yes {b : Beat} {u d : Int} {l : List Lf} (h : leavesS b u d = some l) : leavesP b u d = .tup [.ssl (lfs l) 0 l.length, bv true] := by unfold leavesP; rw [h]
theorem lvG_some {b : Beat} {u d : Int} (h : ¬ leavesS b u d = none) : leavesS b u d = some (lvG b u d) := by
  unfold lvG
  cases hl : leavesS b u d with
  | none => exact absurd hl h
  | some l => rfl
theorem leavesL_at {l : List Beat} {i : Nat} {all u d : Int} (h : i < l.length) : leavesL (l.drop i) all u d =
    if (make (sh (l.getD i dB)) all).2.2 = 0 then
      if (times (make (sh (l.getD i dB)) all).1 (make (sh (l.getD i dB)) all).2.1 u d).2.2 = 0 then
        match leavesS (l.getD i dB) (times (make (sh (l.getD i dB)) all).1 (make (sh (l.getD i dB)) all).2.1 u d).1 (times (make (sh (l.getD i dB)) all).1 (make (sh (l.getD i dB)) all).2.1 u d).2.1 with
        | some x => (leavesL (l.drop (i + 1)) all u d).map (x ++ ·)
        | none => none
      else none
    else none := by rw [drop_cons h, leavesL]
/-- What stands ahead, and the rest. -/
def ahead (A : List Lf) (o : Option (List Lf)) : Option (List Lf) := o.map (A ++ ·)
theorem ahead_next {A x : List Lf} {o : Option (List Lf)} : ahead A (o.map (x ++ ·)) = ahead (A ++ x) o := by
  cases o <;> simp [ahead]
mutual
theorem leaves_len : ∀ (b : Beat) (u d : Int) (l : List Lf), leavesS b u d = some l → l.length ≤ cnt b
  | .mk k s l, u, d, r, h => by
    rw [leavesS] at h
    rw [cnt]
    split at h
    · have := leaves_lenL l _ u d r h; omega
    · simp only [Option.some.injEq] at h
      subst h
      simp
theorem leaves_lenL : ∀ (l : List Beat) (all u d : Int) (r : List Lf), leavesL l all u d = some r → r.length ≤ cntL l
  | [], _, _, _, r, h => by
    rw [leavesL] at h
    simp only [Option.some.injEq] at h
    subst h
    simp
  | b :: l, all, u, d, r, h => by
    rw [leavesL] at h
    rw [cntL]
    split at h
    · split at h
      · split at h
        · rename_i x hx
          have h1 := leaves_len b _ _ x hx
          simp only [Option.map_eq_some_iff] at h
          obtain ⟨y, hy, rfl⟩ := h
          have h2 := leaves_lenL l all u d y hy
          rw [List.length_append]
          omega
        · cases h
      · cases h
    · cases h
end
/-- Leaf by leaf. -/
def runL : List Lf → StS → Int × StS
  | [], st => (0, st)
  | x :: l, st => if (leafS x.1 x.2.1 x.2.2 st.1 st.2.1 st.2.2).1 = 0 then runL l (leafS x.1 x.2.1 x.2.2 st.1 st.2.1 st.2.2).2 else leafS x.1 x.2.1 x.2.2 st.1 st.2.1 st.2.2
theorem runL_app : ∀ (l m : List Lf) (st : StS), runL (l ++ m) st = if (runL l st).1 = 0 then runL m (runL l st).2 else runL l st
  | [], m, st => by simp [runL]
  | x :: l, m, st => by
    rw [List.cons_append, runL, runL]
    by_cases c : (leafS x.1 x.2.1 x.2.2 st.1 st.2.1 st.2.2).1 = 0
    · rw [if_pos c, if_pos c]
      exact runL_app l m _
    · rw [if_neg c, if_neg c, if_neg c]
theorem make_e {u d : Int} (hd : 1 ≤ d) : (make u d).2.2 = 0 ∨ (make u d).2.2 = 4 := by
  unfold make
  rw [if_neg (by omega)]
  split
  · exact .inl rfl
  · exact .inr rfl
theorem plus_e {a b u d : Int} (h : rightB a b = true) (k : rightB u d = true) : (plus a b u d).2.2 = 0 ∨ (plus a b u d).2.2 = 4 := by
  rw [plus_of h k]
  exact make_e (mul_one_le (pos_of h) (pos_of k))
theorem times_e {a b u d : Int} (h : rightB a b = true) (k : rightB u d = true) : (times a b u d).2.2 = 0 ∨ (times a b u d).2.2 = 4 := by
  rw [times_of h k]
  exact make_e (mul_one_le (pos_of h) (pos_of k))
theorem leaf_e {k u d : Int} {L : List Sp} {a b : Int} (hs : okSt L a b) (hr : rightB u d = true) : (leafS k u d L a b).1 = 0 ∨ (leafS k u d L a b).1 = 4 := by
  unfold leafS
  rcases plus_e hs.1 hr with c1 | c1
  · rw [if_pos c1]
    by_cases c2 : k = 3 ∧ 0 < L.length
    · rw [if_pos c2]
      dsimp only
      rcases plus_e (hs.2 (L.length - 1) (by omega)) hr with c3 | c3
      · rw [if_pos c3]; exact .inl rfl
      · rw [if_neg (by rw [c3]; decide)]; exact .inr c3
    · rw [if_neg c2]; exact .inl rfl
  · rw [if_neg (by rw [c1]; decide)]; exact .inr c1
def Agree (r : Int × StS) (o : Option (List Lf)) (st : StS) : Prop := match o with
  | some l => if (runL l st).1 = 0 then r = runL l st else r.1 = 4
  | none => r.1 = 4
mutual
theorem share_run : ∀ (b : Beat) (u d : Int) (st : StS), rightB u d = true → okSt st.1 st.2.1 st.2.2 → good b → Agree (shareS b u d st) (leavesS b u d) st
  | .mk k s l, u, d, st, hr, hs, hg => by
    rw [shareS, leavesS]
    rw [good] at hg
    by_cases c : k = 4
    · rw [if_pos c, if_pos c]
      have h1 := goodL_sum hg.2.2.2
      have h2 := List.length_pos_iff.2 (hg.2.2.1 c)
      exact share_runL l (sumSh l) u d st hr hs hg.2.2.2 (by omega)
    · rw [if_neg c, if_neg c]
      have hrun : runL [(k, u, d)] st = leafS k u d st.1 st.2.1 st.2.2 := by
        simp only [runL]
        by_cases h : (leafS k u d st.1 st.2.1 st.2.2).1 = 0
        · rw [if_pos h]
          exact Prod.ext h.symm rfl
        · rw [if_neg h]
      show if (runL [(k, u, d)] st).1 = 0 then leafS k u d st.1 st.2.1 st.2.2 = runL [(k, u, d)] st else _
      simp only [hrun]
      rcases leaf_e (k := k) hs hr with h | h
      · rw [if_pos h]; trivial
      · rw [if_neg (by rw [h]; decide)]
        exact h
theorem share_runL : ∀ (l : List Beat) (all u d : Int) (st : StS), rightB u d = true → okSt st.1 st.2.1 st.2.2 → goodL l → 1 ≤ all → Agree (shareL l all u d st) (leavesL l all u d) st
  | [], all, u, d, st, hr, hs, hg, ha => by simp [shareL, leavesL, Agree, runL]
  | b :: l, all, u, d, st, hr, hs, hg, ha => by
    rw [shareL, leavesL]
    rw [goodL] at hg
    rcases make_e (u := sh b) ha with c1 | c1
    · rw [if_pos c1, if_pos c1]
      rcases times_e (make_r c1) hr with c2 | c2
      · rw [if_pos c2, if_pos c2]
        have ih := share_run b (times (make (sh b) all).1 (make (sh b) all).2.1 u d).1 (times (make (sh b) all).1 (make (sh b) all).2.1 u d).2.1 st (times_r c2) hs hg.1
        dsimp only
        generalize hS : shareS b (times (make (sh b) all).1 (make (sh b) all).2.1 u d).1 (times (make (sh b) all).1 (make (sh b) all).2.1 u d).2.1 st = S at ih ⊢
        cases hl : leavesS b (times (make (sh b) all).1 (make (sh b) all).2.1 u d).1 (times (make (sh b) all).1 (make (sh b) all).2.1 u d).2.1 with
        | none =>
          rw [hl] at ih
          simp only [Agree] at ih ⊢
          rw [if_neg (by rw [ih]; decide)]
          exact ih
        | some x =>
          rw [hl] at ih
          simp only [Agree] at ih
          by_cases c3 : (runL x st).1 = 0
          · rw [if_pos c3] at ih
            subst ih
            rw [if_pos c3]
            have hst := share_st b _ _ st (times_r c2) hs (by rw [hS]; exact c3)
            rw [hS] at hst
            have ih2 := share_runL l all u d (runL x st).2 hr hst hg.2 ha
            cases hl2 : leavesL l all u d with
            | none =>
              rw [hl2] at ih2
              simpa only [Agree, Option.map_none] using ih2
            | some y =>
              rw [hl2] at ih2
              simp only [Agree, Option.map_some] at ih2 ⊢
              rw [runL_app, if_pos c3]
              exact ih2
          · rw [if_neg c3] at ih
            rw [if_neg (by rw [ih]; decide)]
            cases hl2 : leavesL l all u d with
            | none => simpa only [Agree, Option.map_none] using ih
            | some y =>
              simp only [Agree, Option.map_some]
              rw [runL_app, if_neg c3, if_neg c3]
              exact ih
      · rw [if_neg (by rw [c2]; decide), if_neg (by rw [c2]; decide)]
        exact c2
    · rw [if_neg (by rw [c1]; decide), if_neg (by rw [c1]; decide)]
      exact c1
end
/-- What Spans answers: what is wrong; the spans. -/
def spansE (b : Beat) (u d : Int) : Int := if wrongE b = 0 then if rightB u d = true then if u < 1 then 3 else (shareS b u d ([], 0, 1)).1 else 2 else wrongE b
def spansL (b : Beat) (u d : Int) : List Sp := (shareS b u d ([], 0, 1)).2.1
def spansP (b : Beat) (u d : Int) : PV := if spansE b u d = 0 then .tup [.ssl (spans (spansL b u d)) 0 (spansL b u d).length, iv 0] else .tup [.ssl [] 0 0, iv (spansE b u d)]
theorem spansP_no {b : Beat} {u d e : Int} (he : spansE b u d = e) (h : e ≠ 0) : spansP b u d = .tup [.ssl [] 0 0, iv e] := by unfold spansP; rw [he, if_neg h]
theorem spansP_yes {b : Beat} {u d : Int} (h : spansE b u d = 0) : spansP b u d = .tup [.ssl (spans (spansL b u d)) 0 (spansL b u d).length, iv 0] := by unfold spansP; rw [if_pos h]
theorem st0_ok : okSt [] 0 1 := ⟨by decide +kernel, fun i h => absurd h (Nat.not_lt_zero _)⟩
theorem wrong_good {b : Beat} (h : wrongE b = 0) : good b ∧ cnt b ≤ 4096 := by
  obtain ⟨h1, h2, h3⟩ := look_ok b 1 0 (by decide) (by decide)
  obtain ⟨h4, h5, h6⟩ := h3 h
  exact ⟨h6, by omega⟩
def refR (b : Beat) (u d : Int) : Int × StS := runL (lvG b u d) ([], 0, 1)
/-- The document's way tells the same. -/
theorem spansP_ref {b : Beat} {u d : Int} (hw : wrongE b = 0) (hr : rightB u d = true) (hu : ¬ u < 1) :
    spansP b u d = if leavesS b u d = none then .tup [.ssl [] 0 0, iv 4] else if (refR b u d).1 = 0 then .tup [.ssl (spans (refR b u d).2.1) 0 (refR b u d).2.1.length, iv 0] else .tup [.ssl [] 0 0, iv 4] := by
  have hE : spansE b u d = (shareS b u d ([], 0, 1)).1 := by unfold spansE; rw [if_pos hw, if_pos hr, if_neg hu]
  have hA := share_run b u d ([], 0, 1) hr st0_ok (wrong_good hw).1
  by_cases c : leavesS b u d = none
  · rw [c] at hA
    rw [if_pos c]
    exact spansP_no (hE.trans hA) (by decide)
  · rw [if_neg c]
    rw [lvG_some c] at hA
    simp only [Agree] at hA
    by_cases c2 : (refR b u d).1 = 0
    · rw [if_pos c2]
      unfold refR at c2
      rw [if_pos c2] at hA
      rw [spansP_yes (hE.trans (by rw [hA]; exact c2))]
      unfold spansL refR
      rw [hA]
    · rw [if_neg c2]
      unfold refR at c2
      rw [if_neg c2] at hA
      exact spansP_no (hE.trans hA) (by decide)
end Go.Proofs.Ytccpefbfjahfnaa.Pm
namespace Go.Proofs.Ytccpefbfjahfnaa.Pm
open Go Fr

theorem spans_pc (b : Beat) (u d : Int) (hu : I64 u) (hd : I64 d) : PC Try.prog 17 [(.agg [(iv (kd b)), (iv (sh b)), (.ssl (kc b) 0 ((kids b).length))]), (.agg [(iv u), (iv d)])] [] (spansP b u d) [] := by
  refine pc_intro Try.func17 rfl (by kernel_rfl) (Nat.le_of_ble_eq_true rfl) (by kernel_rfl) (l0 := [ps 0 (.agg [(iv (kd b)), (iv (sh b)), (.ssl (kc b) 0 ((kids b).length))]), ps 1 (.agg [(iv u), (iv d)])]) rfl (fun c0 Bor hc0 => ?_)
  refine T_seq ?_
  refine T_region [] [ks 2, ks 3, kb 0, kb 8] (fun _ => mixed) (l' := [ps 2 (.opt 0 0), ps 3 (.opt 8 0), pb 0 40 [(iv (kd b)), (iv (sh b)), (.ssl (kc b) 0 ((kids b).length))], pb 8 25 [(iv u), (iv d)]]) (obs := []) (by kernel_rfl) (obs_nil) ?_
  refine T_seq ?_
  refine T_seq ?_
  refine T_region [(1, .call [] [(.agg [(iv (kd b)), (iv (sh b)), (.ssl (kc b) 0 ((kids b).length))])] [] (iv (wrongE b)) [])] [ks 2, ks 3, ks 6, kb 0, kb 8] (fun _ => mixed) (l' := [ps 2 (.opt 0 0), ps 3 (.opt 8 0), ps 6 (iv (wrongE b)), pb 0 40 [(iv (kd b)), (iv (sh b)), (.ssl (kc b) 0 ((kids b).length))], pb 8 25 [(iv u), (iv d)]]) (obs := [PC Try.prog 15 [(.agg [(iv (kd b)), (iv (sh b)), (.ssl (kc b) 0 ((kids b).length))])] [] (iv (wrongE b)) [], [(.agg [(iv (kd b)), (iv (sh b)), (.ssl (kc b) 0 ((kids b).length))])] = renL (sigi [] 40) [(.agg [(iv (kd b)), (iv (sh b)), (.ssl (kc b) 0 ((kids b).length))])]]) (by kernel_rfl) (obs_cons (p := PC Try.prog 15 [(.agg [(iv (kd b)), (iv (sh b)), (.ssl (kc b) 0 ((kids b).length))])] [] (iv (wrongE b)) []) (wrong_pc b) (obs_cons (p := [(.agg [(iv (kd b)), (iv (sh b)), (.ssl (kc b) 0 ((kids b).length))])] = renL (sigi [] 40) [(.agg [(iv (kd b)), (iv (sh b)), (.ssl (kc b) 0 ((kids b).length))])]) rfl (obs_nil))) ?_
  refine T_seq ?_
  refine T_region [] [ks 2, ks 3, ks 6, ks 12, kb 0, kb 8] (fun _ => mixed) (l' := [ps 2 (.opt 0 0), ps 3 (.opt 8 0), ps 6 (iv (wrongE b)), ps 12 (bv (!(decide ((wrongE b) = 0)))), pb 0 40 [(iv (kd b)), (iv (sh b)), (.ssl (kc b) 0 ((kids b).length))], pb 8 25 [(iv u), (iv d)]]) (obs := []) (by kernel_rfl) (obs_nil) ?_
  by_cases h1 : (wrongE b) = 0
  · refine T_else (b := (!(decide ((wrongE b) = 0)))) rfl (congrArg Bool.not (decide_eq_true h1)) ?_
    refine T_skip ?_
    refine T_seq ?_
    refine T_seq ?_
    refine T_region [(1, .call [] [(.agg [(iv u), (iv d)])] [] (bv (Fr.rightB u d)) [])] [ks 2, ks 3, ks 16, kb 0, kb 8] (fun _ => mixed) (l' := [ps 2 (.opt 0 0), ps 3 (.opt 8 0), ps 16 (bv (!(Fr.rightB u d))), pb 0 40 [(iv (kd b)), (iv (sh b)), (.ssl (kc b) 0 ((kids b).length))], pb 8 25 [(iv u), (iv d)]]) (obs := [PC Try.prog 23 [(.agg [(iv u), (iv d)])] [] (bv (Fr.rightB u d)) [], [(.agg [(iv u), (iv d)])] = renL (sigi [] 80) [(.agg [(iv u), (iv d)])]]) (by kernel_rfl) (obs_cons (p := PC Try.prog 23 [(.agg [(iv u), (iv d)])] [] (bv (Fr.rightB u d)) []) (right_pc u d (by assumption) (by assumption)) (obs_cons (p := [(.agg [(iv u), (iv d)])] = renL (sigi [] 80) [(.agg [(iv u), (iv d)])]) rfl (obs_nil))) ?_
    by_cases h2 : (Fr.rightB u d) = true
    · refine T_else (b := (!(Fr.rightB u d))) rfl (congrArg Bool.not h2) ?_
      refine T_skip ?_
      refine T_seq ?_
      refine T_seq ?_
      refine T_region [] [ks 2, ks 3, ks 19, kb 0, kb 8] (fun _ => mixed) (l' := [ps 2 (.opt 0 0), ps 3 (.opt 8 0), ps 19 (bv (decide (u < 1))), pb 0 40 [(iv (kd b)), (iv (sh b)), (.ssl (kc b) 0 ((kids b).length))], pb 8 25 [(iv u), (iv d)]]) (obs := []) (by kernel_rfl) (obs_nil) ?_
      by_cases h3 : u < 1
      · refine T_then (b := (decide (u < 1))) rfl (decide_eq_true h3) ?_
        refine T_seq ?_
        refine T_region [] [ks 4, ks 5] (fun _ => mixed) (l' := [ps 4 (.av (.slice none 0 0)), ps 5 (iv 3)]) (obs := []) (by kernel_rfl) (obs_nil) ?_
        rw [spansP_no (show spansE b u d = 3 from by unfold spansE; rw [if_pos h1, if_pos h2, if_pos h3]) (by decide)]
        exact T_ret fun cx_ a_ hI_ => ret_ok (H' := []) (.inr rfl) (Wk.ren2 [ps 4 (.av (.slice none 0 0)), ps 5 (iv 3)] 0 hc0 [] rfl rfl (by kernel_rfl) (by kernel_rfl)) rfl (obs_nil) (fun cx_ a_ hI_ => ret_res (l' := [ps 4 (.av (.slice none 0 0)), ps 5 (iv 3)]) (by kernel_rfl) cx_ a_ hI_) hI_
      · refine T_else (b := (decide (u < 1))) rfl (decide_eq_false h3) ?_
        refine T_skip ?_
        refine T_seq ?_
        refine T_region [] [ks 2, ks 3, ks 7, kb 0, kb 8, kb 136] (fun _ => mixed) (l' := [ps 2 (.opt 0 0), ps 3 (.opt 8 0), ps 7 (.opt 136 0), pb 0 40 [(iv (kd b)), (iv (sh b)), (.ssl (kc b) 0 ((kids b).length))], pb 8 25 [(iv u), (iv d)], pb 136 62 [(.av (.slice none 0 0)), (iv 0), (iv 1)]]) (obs := []) (by kernel_rfl) (obs_nil) ?_
        refine T_seq ?_
        refine T_seq ?_
        have hR : rightB u d = true := h2
        refine T_wk (Wk.nilc (B := 62) (cells := [(.av (.slice none 0 0)), (iv 0), (iv 1)]) 136 0 48 (by kernel_rfl) rfl) ?_
        refine T_wk (Wk.less (l' := [ps 2 (.opt 0 0), ps 3 (.opt 8 0), ps 7 (.opt 136 0), pb 0 40 [(iv (kd b)), (iv (sh b)), (.ssl (kc b) 0 ((kids b).length))], pb 8 25 [(iv u), (iv d)], pb 136 62 [(.osl 152 0 0), (iv 0), (iv 1)], pb 152 48 []]) 153 (by kernel_rfl) (by kernel_rfl)) ?_
        refine T_wk (Wk.eq (show [ps 2 (.opt 0 0), ps 3 (.opt 8 0), ps 7 (.opt 136 0), pb 0 40 [(iv (kd b)), (iv (sh b)), (.ssl (kc b) 0 ((kids b).length))], pb 8 25 [(iv u), (iv d)], pb 136 62 [(.osl 152 0 0), (iv 0), (iv 1)], pb 152 48 []] = [ps 2 (.opt 0 0), ps 3 (.opt 8 0), ps 7 (.opt 136 0), pb 0 40 [(iv (kd b)), (iv (sh b)), (.ssl (kc b) 0 ((kids b).length))], pb 8 25 [(iv u), (iv d)], pb 136 62 [(.osl 152 0 (([] : List Sp).length)), (iv 0), (iv 1)], pb 152 48 (spans [])] from by rfl)) ?_
        refine T_region [(3, .call [136, 152] [(.opt 0 0), (.agg [(iv (kd b)), (iv (sh b)), (.ssl (kc b) 0 ((kids b).length))]), (.agg [(iv u), (iv d)])] [some (62, [(.osl 1 0 (([] : List Sp).length)), (iv 0), (iv 1)]), some (48, (spans []))] (iv ((shareS b u d ([], 0, 1)).1)) [some (62, [(.osl 2 0 ((shareS b u d ([], 0, 1)).2.1.length)), (iv ((shareS b u d ([], 0, 1)).2.2.1)), (iv ((shareS b u d ([], 0, 1)).2.2.2))]), none, some (48, (spans ((shareS b u d ([], 0, 1)).2.1)))])] [ks 7, ks 8, kb 136, kb 177] (fun _ => mixed) (l' := [ps 7 (.opt 136 0), ps 8 (iv ((shareS b u d ([], 0, 1)).1)), pb 136 62 [(.osl 177 0 ((shareS b u d ([], 0, 1)).2.1.length)), (iv ((shareS b u d ([], 0, 1)).2.2.1)), (iv ((shareS b u d ([], 0, 1)).2.2.2))], pb 177 48 (renL (sigo [136, 152] 177) (spans ((shareS b u d ([], 0, 1)).2.1)))]) (obs := [PC Try.prog 30 [(.opt 0 0), (.agg [(iv (kd b)), (iv (sh b)), (.ssl (kc b) 0 ((kids b).length))]), (.agg [(iv u), (iv d)])] [some (62, [(.osl 1 0 (([] : List Sp).length)), (iv 0), (iv 1)]), some (48, (spans []))] (iv ((shareS b u d ([], 0, 1)).1)) [some (62, [(.osl 2 0 ((shareS b u d ([], 0, 1)).2.1.length)), (iv ((shareS b u d ([], 0, 1)).2.2.1)), (iv ((shareS b u d ([], 0, 1)).2.2.2))]), none, some (48, (spans ((shareS b u d ([], 0, 1)).2.1)))], [(.opt 136 0), (.agg [(iv (kd b)), (iv (sh b)), (.ssl (kc b) 0 ((kids b).length))]), (.agg [(iv u), (iv d)])] = renL (sigi [136, 152] 177) [(.opt 0 0), (.agg [(iv (kd b)), (iv (sh b)), (.ssl (kc b) 0 ((kids b).length))]), (.agg [(iv u), (iv d)])], [(.osl 152 0 (([] : List Sp).length)), (iv 0), (iv 1)] = renL (sigi [136, 152] 177) [(.osl 1 0 (([] : List Sp).length)), (iv 0), (iv 1)], (spans []) = renL (sigi [136, 152] 177) (spans [])]) (by kernel_rfl) (obs_cons (p := PC Try.prog 30 [(.opt 0 0), (.agg [(iv (kd b)), (iv (sh b)), (.ssl (kc b) 0 ((kids b).length))]), (.agg [(iv u), (iv d)])] [some (62, [(.osl 1 0 (([] : List Sp).length)), (iv 0), (iv 1)]), some (48, (spans []))] (iv ((shareS b u d ([], 0, 1)).1)) [some (62, [(.osl 2 0 ((shareS b u d ([], 0, 1)).2.1.length)), (iv ((shareS b u d ([], 0, 1)).2.2.1)), (iv ((shareS b u d ([], 0, 1)).2.2.2))]), none, some (48, (spans ((shareS b u d ([], 0, 1)).2.1)))]) (share_pc b u d [] 0 1 hR st0_ok (wrong_good h1).1 (wrong_good h1).2 (by have := (wrong_good h1).2; simp only [List.length_nil]; omega)) (obs_cons (p := [(.opt 136 0), (.agg [(iv (kd b)), (iv (sh b)), (.ssl (kc b) 0 ((kids b).length))]), (.agg [(iv u), (iv d)])] = renL (sigi [136, 152] 177) [(.opt 0 0), (.agg [(iv (kd b)), (iv (sh b)), (.ssl (kc b) 0 ((kids b).length))]), (.agg [(iv u), (iv d)])]) rfl (obs_cons (p := [(.osl 152 0 (([] : List Sp).length)), (iv 0), (iv 1)] = renL (sigi [136, 152] 177) [(.osl 1 0 (([] : List Sp).length)), (iv 0), (iv 1)]) rfl (obs_cons (p := (spans []) = renL (sigi [136, 152] 177) (spans [])) (renL_shd (spans_shd _)).symm (obs_nil))))) ?_
        refine T_wk (Wk.eq (show [ps 7 (.opt 136 0), ps 8 (iv ((shareS b u d ([], 0, 1)).1)), pb 136 62 [(.osl 177 0 ((shareS b u d ([], 0, 1)).2.1.length)), (iv ((shareS b u d ([], 0, 1)).2.2.1)), (iv ((shareS b u d ([], 0, 1)).2.2.2))], pb 177 48 (renL (sigo [136, 152] 177) (spans ((shareS b u d ([], 0, 1)).2.1)))] = [ps 7 (.opt 136 0), ps 8 (iv ((shareS b u d ([], 0, 1)).1)), pb 136 62 [(.osl 177 0 ((shareS b u d ([], 0, 1)).2.1.length)), (iv ((shareS b u d ([], 0, 1)).2.2.1)), (iv ((shareS b u d ([], 0, 1)).2.2.2))], pb 177 48 (spans ((shareS b u d ([], 0, 1)).2.1))] from by simp only [renL_shd (spans_shd _)])) ?_
        refine T_seq ?_
        refine T_region [] [ks 7, ks 8, ks 28, kb 136, kb 177] (fun _ => mixed) (l' := [ps 7 (.opt 136 0), ps 8 (iv ((shareS b u d ([], 0, 1)).1)), ps 28 (bv (!(decide (((shareS b u d ([], 0, 1)).1) = 0)))), pb 136 62 [(.osl 177 0 ((shareS b u d ([], 0, 1)).2.1.length)), (iv ((shareS b u d ([], 0, 1)).2.2.1)), (iv ((shareS b u d ([], 0, 1)).2.2.2))], pb 177 48 (spans ((shareS b u d ([], 0, 1)).2.1))]) (obs := []) (by kernel_rfl) (obs_nil) ?_
        by_cases h4 : ((shareS b u d ([], 0, 1)).1) = 0
        · refine T_else (b := (!(decide (((shareS b u d ([], 0, 1)).1) = 0)))) rfl (congrArg Bool.not (decide_eq_true h4)) ?_
          refine T_skip ?_
          refine T_seq ?_
          refine T_region [] [ks 4, ks 5, kb 177] (fun _ => mixed) (l' := [ps 4 (.osl 177 0 ((shareS b u d ([], 0, 1)).2.1.length)), ps 5 (iv 0), pb 177 48 (spans ((shareS b u d ([], 0, 1)).2.1))]) (obs := []) (by kernel_rfl) (obs_nil) ?_
          have hE : spansE b u d = 0 := by unfold spansE; rw [if_pos h1, if_pos h2, if_neg h3]; assumption
          rw [spansP_yes hE]
          refine T_wk (Wk.frz (l' := [ps 4 (.ssl (spans ((shareS b u d ([], 0, 1)).2.1)) 0 ((shareS b u d ([], 0, 1)).2.1.length)), ps 5 (iv 0), (kb 177, none)]) 177 (T := 48) (cs := (spans ((shareS b u d ([], 0, 1)).2.1))) (by kernel_rfl) (spans_shd _) (by kernel_rfl)) ?_
          refine T_wk (Wk.less (l' := [ps 4 (.ssl (spans ((shareS b u d ([], 0, 1)).2.1)) 0 ((shareS b u d ([], 0, 1)).2.1.length)), ps 5 (iv 0)]) 257 (by kernel_rfl) (by kernel_rfl)) ?_
          exact T_ret fun cx_ a_ hI_ => ret_ok (H' := []) (.inr rfl) (Wk.ren2 [ps 4 (.ssl (spans ((shareS b u d ([], 0, 1)).2.1)) 0 ((shareS b u d ([], 0, 1)).2.1.length)), ps 5 (iv 0)] 0 hc0 [] rfl rfl (by kernel_rfl) (by kernel_rfl)) rfl (obs_nil) (fun cx_ a_ hI_ => ret_res (l' := [ps 4 (.ssl (spans ((shareS b u d ([], 0, 1)).2.1)) 0 ((shareS b u d ([], 0, 1)).2.1.length)), ps 5 (iv 0)]) (by kernel_rfl) cx_ a_ hI_) hI_
        · refine T_then (b := (!(decide (((shareS b u d ([], 0, 1)).1) = 0)))) rfl (congrArg Bool.not (decide_eq_false h4)) ?_
          refine T_seq ?_
          refine T_region [] [ks 4, ks 5] (fun _ => mixed) (l' := [ps 4 (.av (.slice none 0 0)), ps 5 (iv ((shareS b u d ([], 0, 1)).1))]) (obs := []) (by kernel_rfl) (obs_nil) ?_
          rw [spansP_no (show spansE b u d = (shareS b u d ([], 0, 1)).1 from by unfold spansE; rw [if_pos h1, if_pos h2, if_neg h3]) (by assumption)]
          exact T_ret fun cx_ a_ hI_ => ret_ok (H' := []) (.inr rfl) (Wk.ren2 [ps 4 (.av (.slice none 0 0)), ps 5 (iv ((shareS b u d ([], 0, 1)).1))] 0 hc0 [] rfl rfl (by kernel_rfl) (by kernel_rfl)) rfl (obs_nil) (fun cx_ a_ hI_ => ret_res (l' := [ps 4 (.av (.slice none 0 0)), ps 5 (iv ((shareS b u d ([], 0, 1)).1))]) (by kernel_rfl) cx_ a_ hI_) hI_
    · refine T_then (b := (!(Fr.rightB u d))) rfl (congrArg Bool.not (Bool.eq_false_iff.2 h2)) ?_
      refine T_seq ?_
      refine T_region [] [ks 4, ks 5] (fun _ => mixed) (l' := [ps 4 (.av (.slice none 0 0)), ps 5 (iv 2)]) (obs := []) (by kernel_rfl) (obs_nil) ?_
      rw [spansP_no (show spansE b u d = 2 from by unfold spansE; rw [if_pos h1, if_neg h2]) (by decide)]
      exact T_ret fun cx_ a_ hI_ => ret_ok (H' := []) (.inr rfl) (Wk.ren2 [ps 4 (.av (.slice none 0 0)), ps 5 (iv 2)] 0 hc0 [] rfl rfl (by kernel_rfl) (by kernel_rfl)) rfl (obs_nil) (fun cx_ a_ hI_ => ret_res (l' := [ps 4 (.av (.slice none 0 0)), ps 5 (iv 2)]) (by kernel_rfl) cx_ a_ hI_) hI_
  · refine T_then (b := (!(decide ((wrongE b) = 0)))) rfl (congrArg Bool.not (decide_eq_false h1)) ?_
    refine T_seq ?_
    refine T_region [] [ks 4, ks 5] (fun _ => mixed) (l' := [ps 4 (.av (.slice none 0 0)), ps 5 (iv (wrongE b))]) (obs := []) (by kernel_rfl) (obs_nil) ?_
    rw [spansP_no (show spansE b u d = wrongE b from by unfold spansE; rw [if_neg h1]) (by assumption)]
    exact T_ret fun cx_ a_ hI_ => ret_ok (H' := []) (.inr rfl) (Wk.ren2 [ps 4 (.av (.slice none 0 0)), ps 5 (iv (wrongE b))] 0 hc0 [] rfl rfl (by kernel_rfl) (by kernel_rfl)) rfl (obs_nil) (fun cx_ a_ hI_ => ret_res (l' := [ps 4 (.av (.slice none 0 0)), ps 5 (iv (wrongE b))]) (by kernel_rfl) cx_ a_ hI_) hI_
set_option maxRecDepth 100000 in
theorem leaves_step (b : Beat) (ih : ∀ c : Beat, SizeOf.sizeOf c < SizeOf.sizeOf b → ∀ (u d : Int), rightB u d = true → good c → cnt c ≤ 4096 → PC Try.prog 31 [.agg (gB c), fracP u d] [] (leavesP c u d) []) (u d : Int) (hr : rightB u d = true) (hgood : good b) (hc : cnt b ≤ 4096) : PC Try.prog 31 [(.agg [(iv (kd b)), (iv (sh b)), (.ssl (kc b) 0 ((kids b).length))]), (.agg [(iv u), (iv d)])] [] (leavesP b u d) [] := by
  obtain ⟨hu, hd⟩ := i64_r hr
  refine pc_intro Try.func31 rfl (by kernel_rfl) (Nat.le_of_ble_eq_true rfl) (by kernel_rfl) (l0 := [ps 0 (.agg [(iv (kd b)), (iv (sh b)), (.ssl (kc b) 0 ((kids b).length))]), ps 1 (.agg [(iv u), (iv d)])]) rfl (fun c0 Bor hc0 => ?_)
  refine T_seq ?_
  refine T_region [] [ks 2, ks 3, kb 0, kb 8] (fun _ => mixed) (l' := [ps 2 (.opt 0 0), ps 3 (.opt 8 0), pb 0 40 [(iv (kd b)), (iv (sh b)), (.ssl (kc b) 0 ((kids b).length))], pb 8 25 [(iv u), (iv d)]]) (obs := []) (by kernel_rfl) (obs_nil) ?_
  refine T_seq ?_
  refine T_seq ?_
  refine T_region [] [ks 2, ks 3, ks 19, kb 0, kb 8] (fun _ => mixed) (l' := [ps 2 (.opt 0 0), ps 3 (.opt 8 0), ps 19 (bv (!(decide ((kd b) = 4)))), pb 0 40 [(iv (kd b)), (iv (sh b)), (.ssl (kc b) 0 ((kids b).length))], pb 8 25 [(iv u), (iv d)]]) (obs := []) (by kernel_rfl) (obs_nil) ?_
  by_cases h1 : (kd b) = 4
  · refine T_else (b := (!(decide ((kd b) = 4)))) rfl (congrArg Bool.not (decide_eq_true h1)) ?_
    refine T_skip ?_
    refine T_seq ?_
    refine T_region [] [ks 2, ks 3, ks 6, kb 0, kb 8] (fun _ => mixed) (l' := [ps 2 (.opt 0 0), ps 3 (.opt 8 0), ps 6 (iv 0), pb 0 40 [(iv (kd b)), (iv (sh b)), (.ssl (kc b) 0 ((kids b).length))], pb 8 25 [(iv u), (iv d)]]) (obs := []) (by kernel_rfl) (obs_nil) ?_
    refine T_seq ?_
    refine T_seq ?_
    refine T_region [] [ks 2, ks 3, ks 6, ks 26, ks 27, ks 28, kb 0, kb 8] (fun _ => mixed) (l' := [ps 2 (.opt 0 0), ps 3 (.opt 8 0), ps 6 (iv 0), ps 26 (.ssl (kc b) 0 ((kids b).length)), ps 27 (iv (((kids b).length : Nat) : Int)), ps 28 (iv 0), pb 0 40 [(iv (kd b)), (iv (sh b)), (.ssl (kc b) 0 ((kids b).length))], pb 8 25 [(iv u), (iv d)]]) (obs := []) (by kernel_rfl) (obs_nil) ?_
    refine T_block ?_
    have hk4 : kd b = 4 := h1
    obtain ⟨hg1, hg2, hg3, hg⟩ := (good_eq b).1 hgood
    have hcn := cnt_eq b
    have hkl := cntL_len (kids b)
    have hsum := goodL_sum hg
    have hne : 0 < (kids b).length := List.length_pos_iff.2 (hg3 hk4)
    refine T_wk (Wk.eq (show [ps 2 (.opt 0 0), ps 3 (.opt 8 0), ps 6 (iv 0), ps 26 (.ssl (kc b) 0 ((kids b).length)), ps 27 (iv (((kids b).length : Nat) : Int)), ps 28 (iv 0), pb 0 40 [(iv (kd b)), (iv (sh b)), (.ssl (kc b) 0 ((kids b).length))], pb 8 25 [(iv u), (iv d)]] = [ps 2 (.opt 0 0), ps 3 (.opt 8 0), ps 6 (iv (sumSh ((kids b).take 0))), ps 26 (.ssl (kc b) 0 ((kids b).length)), ps 27 (iv (((kids b).length : Nat) : Int)), ps 28 (iv 0), pb 0 40 [(iv (kd b)), (iv (sh b)), (.ssl (kc b) 0 ((kids b).length))], pb 8 25 [(iv u), (iv d)]] from by rfl)) ?_
    refine T_loop (α := {x : Nat // x ≤ (kids b).length}) (fun x => [ps 2 (.opt 0 0), ps 3 (.opt 1 0), ps 6 (iv (sumSh ((kids b).take x.1))), ps 26 (.ssl (kc b) 0 ((kids b).length)), ps 27 (iv (((kids b).length : Nat) : Int)), ps 28 (iv ((x.1 : Nat) : Int)), pb 0 40 [(iv (kd b)), (iv (sh b)), (.ssl (kc b) 0 ((kids b).length))], pb 1 25 [(iv u), (iv d)]]) (fun x => (kids b).length - x.1) 2 ⟨0, Nat.zero_le _⟩ (Wk.ren2 [ps 2 (.opt 0 0), ps 3 (.opt 1 0), ps 6 (iv (sumSh ((kids b).take 0))), ps 26 (.ssl (kc b) 0 ((kids b).length)), ps 27 (iv (((kids b).length : Nat) : Int)), ps 28 (iv ((0 : Nat) : Int)), pb 0 40 [(iv (kd b)), (iv (sh b)), (.ssl (kc b) 0 ((kids b).length))], pb 1 25 [(iv u), (iv d)]] 0 hc0 [0, 8] rfl rfl (by kernel_rfl) (by kernel_rfl)) ?_
    rintro ⟨i, hi⟩
    refine T_seq ?_
    refine T_region [] [ks 2, ks 3, ks 6, ks 26, ks 27, ks 28, ks 29, kb 0, kb 1] (fun _ => mixed) (l' := [ps 2 (.opt 0 0), ps 3 (.opt 1 0), ps 6 (iv (sumSh ((kids b).take i))), ps 26 (.ssl (kc b) 0 ((kids b).length)), ps 27 (iv (((kids b).length : Nat) : Int)), ps 28 (iv ((i : Nat) : Int)), ps 29 (bv (decide (((i : Nat) : Int) < (((kids b).length : Nat) : Int)))), pb 0 40 [(iv (kd b)), (iv (sh b)), (.ssl (kc b) 0 ((kids b).length))], pb 1 25 [(iv u), (iv d)]]) (obs := []) (by kernel_rfl) (obs_nil) ?_
    refine T_seq ?_
    by_cases h2 : ((i : Nat) : Int) < (((kids b).length : Nat) : Int)
    · refine T_then (b := (decide (((i : Nat) : Int) < (((kids b).length : Nat) : Int)))) rfl (decide_eq_true h2) ?_
      refine T_skip ?_
      refine T_seq ?_
      refine T_block ?_
      refine T_seq ?_
      refine T_region [(0, .nat (i * 3)), (1, .cells [(iv (kd ((kids b).getD i dB))), (iv (sh ((kids b).getD i dB))), (.ssl (kc ((kids b).getD i dB)) 0 ((kids ((kids b).getD i dB)).length))])] [ks 2, ks 3, ks 6, ks 8, ks 26, ks 27, ks 28, kb 0, kb 1, kb 26] (fun _ => mixed) (l' := [ps 2 (.opt 0 0), ps 3 (.opt 1 0), ps 6 (iv (sumSh ((kids b).take i))), ps 8 (.opt 26 0), ps 26 (.ssl (kc b) 0 ((kids b).length)), ps 27 (iv (((kids b).length : Nat) : Int)), ps 28 (iv ((i : Nat) : Int)), pb 0 40 [(iv (kd b)), (iv (sh b)), (.ssl (kc b) 0 ((kids b).length))], pb 1 25 [(iv u), (iv d)], pb 26 40 [(iv (kd ((kids b).getD i dB))), (iv (sh ((kids b).getD i dB))), (.ssl (kc ((kids b).getD i dB)) 0 ((kids ((kids b).getD i dB)).length))]]) (obs := [(0 : Int) ≤ ((i : Nat) : Int) ∧ ((i : Nat) : Int) < (((kids b).length : Nat) : Int), 0 + (((i : Nat) : Int) : Int).toNat * 3 = (i * 3), (i * 3) + 3 ≤ ((kc b)).length ∧ (((kc b)).drop (i * 3)).take 3 = [(iv (kd ((kids b).getD i dB))), (iv (sh ((kids b).getD i dB))), (.ssl (kc ((kids b).getD i dB)) 0 ((kids ((kids b).getD i dB)).length))]]) (by kernel_rfl) (obs_cons (p := (0 : Int) ≤ ((i : Nat) : Int) ∧ ((i : Nat) : Int) < (((kids b).length : Nat) : Int)) (by omega) (obs_cons (p := 0 + (((i : Nat) : Int) : Int).toNat * 3 = (i * 3)) (by omega) (obs_cons (p := (i * 3) + 3 ≤ ((kc b)).length ∧ (((kc b)).drop (i * 3)).take 3 = [(iv (kd ((kids b).getD i dB))), (iv (sh ((kids b).getD i dB))), (.ssl (kc ((kids b).getD i dB)) 0 ((kids ((kids b).getD i dB)).length))]) (kc_at b i 0 3 (by omega) (by decide)) (obs_nil)))) ?_
      have hsb := sumSh_bd hg (i + 1) (by omega)
      rw [sumSh_next (by omega)] at hsb
      refine T_region [] [ks 2, ks 3, ks 6, ks 26, ks 27, ks 28, kb 0, kb 1] (fun _ => mixed) (l' := [ps 2 (.opt 0 0), ps 3 (.opt 1 0), ps 6 (iv ((sumSh ((kids b).take i)) + (sh ((kids b).getD i dB)))), ps 26 (.ssl (kc b) 0 ((kids b).length)), ps 27 (iv (((kids b).length : Nat) : Int)), ps 28 (iv ((i : Nat) : Int)), pb 0 40 [(iv (kd b)), (iv (sh b)), (.ssl (kc b) 0 ((kids b).length))], pb 1 25 [(iv u), (iv d)]]) (obs := [InK .i64 ((sumSh ((kids b).take i)) + (sh ((kids b).getD i dB)))]) (by kernel_rfl) (obs_cons (p := InK .i64 ((sumSh ((kids b).take i)) + (sh ((kids b).getD i dB)))) (by simp only [InK]; omega) (obs_nil)) ?_
      refine T_blk ?_
      refine T_region [] [ks 2, ks 3, ks 6, ks 26, ks 27, ks 28, kb 0, kb 1] (fun _ => mixed) (l' := [ps 2 (.opt 0 0), ps 3 (.opt 1 0), ps 6 (iv ((sumSh ((kids b).take i)) + (sh ((kids b).getD i dB)))), ps 26 (.ssl (kc b) 0 ((kids b).length)), ps 27 (iv (((kids b).length : Nat) : Int)), ps 28 (iv (((i : Nat) : Int) + 1)), pb 0 40 [(iv (kd b)), (iv (sh b)), (.ssl (kc b) 0 ((kids b).length))], pb 1 25 [(iv u), (iv d)]]) (obs := [InK .i64 (((i : Nat) : Int) + 1)]) (by kernel_rfl) (obs_cons (p := InK .i64 (((i : Nat) : Int) + 1)) (by simp only [InK]; omega) (obs_nil)) ?_
      exact T_back ⟨i + 1, by omega⟩ (Wk.trans (Wk.eq (show [ps 2 (.opt 0 0), ps 3 (.opt 1 0), ps 6 (iv ((sumSh ((kids b).take i)) + (sh ((kids b).getD i dB)))), ps 26 (.ssl (kc b) 0 ((kids b).length)), ps 27 (iv (((kids b).length : Nat) : Int)), ps 28 (iv (((i : Nat) : Int) + 1)), pb 0 40 [(iv (kd b)), (iv (sh b)), (.ssl (kc b) 0 ((kids b).length))], pb 1 25 [(iv u), (iv d)]] = [ps 2 (.opt 0 0), ps 3 (.opt 1 0), ps 6 (iv (sumSh ((kids b).take (i + 1)))), ps 26 (.ssl (kc b) 0 ((kids b).length)), ps 27 (iv (((kids b).length : Nat) : Int)), ps 28 (iv (((i : Nat) : Int) + 1)), pb 0 40 [(iv (kd b)), (iv (sh b)), (.ssl (kc b) 0 ((kids b).length))], pb 1 25 [(iv u), (iv d)]] from by rw [sumSh_next (by omega)])) (Wk.ren2 [ps 2 (.opt 0 0), ps 3 (.opt 1 0), ps 6 (iv (sumSh ((kids b).take (i + 1)))), ps 26 (.ssl (kc b) 0 ((kids b).length)), ps 27 (iv (((kids b).length : Nat) : Int)), ps 28 (iv (((i + 1) : Nat) : Int)), pb 0 40 [(iv (kd b)), (iv (sh b)), (.ssl (kc b) 0 ((kids b).length))], pb 1 25 [(iv u), (iv d)]] 0 hc0 [0, 1] rfl rfl (by kernel_rfl) (by kernel_rfl))) (show (kids b).length - (i + 1) < (kids b).length - i from by omega)
    · refine T_else (b := (decide (((i : Nat) : Int) < (((kids b).length : Nat) : Int)))) rfl (decide_eq_false h2) ?_
      refine T_break rfl rfl ?_
      refine T_seq ?_
      obtain rfl : i = (kids b).length := by omega
      refine T_wk (Wk.eq (show [ps 2 (.opt 0 0), ps 3 (.opt 1 0), ps 6 (iv (sumSh ((kids b).take ((kids b).length)))), ps 26 (.ssl (kc b) 0 ((kids b).length)), ps 27 (iv (((kids b).length : Nat) : Int)), ps 28 (iv ((((kids b).length) : Nat) : Int)), ps 29 (bv (decide (((((kids b).length) : Nat) : Int) < (((kids b).length : Nat) : Int)))), pb 0 40 [(iv (kd b)), (iv (sh b)), (.ssl (kc b) 0 ((kids b).length))], pb 1 25 [(iv u), (iv d)]] = [ps 2 (.opt 0 0), ps 3 (.opt 1 0), ps 6 (iv (sumSh (kids b))), ps 26 (.ssl (kc b) 0 ((kids b).length)), ps 27 (iv (((kids b).length : Nat) : Int)), ps 28 (iv ((((kids b).length) : Nat) : Int)), ps 29 (bv (decide (((((kids b).length) : Nat) : Int) < (((kids b).length : Nat) : Int)))), pb 0 40 [(iv (kd b)), (iv (sh b)), (.ssl (kc b) 0 ((kids b).length))], pb 1 25 [(iv u), (iv d)]] from by rw [List.take_length])) ?_
      refine T_region [] [ks 2, ks 3, ks 6, ks 9, kb 0, kb 1] (fun _ => mixed) (l' := [ps 2 (.opt 0 0), ps 3 (.opt 1 0), ps 6 (iv (sumSh (kids b))), ps 9 (.av (.slice none 0 0)), pb 0 40 [(iv (kd b)), (iv (sh b)), (.ssl (kc b) 0 ((kids b).length))], pb 1 25 [(iv u), (iv d)]]) (obs := []) (by kernel_rfl) (obs_nil) ?_
      refine T_seq ?_
      refine T_seq ?_
      refine T_region [] [ks 3, ks 6, ks 9, ks 38, ks 39, ks 40, kb 1] (fun _ => mixed) (l' := [ps 3 (.opt 1 0), ps 6 (iv (sumSh (kids b))), ps 9 (.av (.slice none 0 0)), ps 38 (.ssl (kc b) 0 ((kids b).length)), ps 39 (iv (((kids b).length : Nat) : Int)), ps 40 (iv 0), pb 1 25 [(iv u), (iv d)]]) (obs := []) (by kernel_rfl) (obs_nil) ?_
      refine T_block ?_
      refine T_wk (Wk.nil (s := 9) 68 (by kernel_rfl)) ?_
      refine T_wk (Wk.less (l' := [ps 3 (.opt 1 0), ps 6 (iv (sumSh (kids b))), ps 9 (.osl 50 0 0), ps 38 (.ssl (kc b) 0 ((kids b).length)), ps 39 (iv (((kids b).length : Nat) : Int)), ps 40 (iv 0), pb 1 25 [(iv u), (iv d)], pb 50 68 []]) 51 (by kernel_rfl) (by kernel_rfl)) ?_
      refine T_wk (Wk.eq (show [ps 3 (.opt 1 0), ps 6 (iv (sumSh (kids b))), ps 9 (.osl 50 0 0), ps 38 (.ssl (kc b) 0 ((kids b).length)), ps 39 (iv (((kids b).length : Nat) : Int)), ps 40 (iv 0), pb 1 25 [(iv u), (iv d)], pb 50 68 []] = [ps 3 (.opt 1 0), ps 6 (iv (sumSh (kids b))), ps 9 (.osl 50 0 (([] : List Lf).length)), ps 38 (.ssl (kc b) 0 ((kids b).length)), ps 39 (iv (((kids b).length : Nat) : Int)), ps 40 (iv 0), pb 1 25 [(iv u), (iv d)], pb 50 68 (lfs [])] from by rfl)) ?_
      refine T_loop (α := {x : Nat × List Lf // x.1 ≤ (kids b).length ∧ ahead x.2 (leavesL ((kids b).drop x.1) (sumSh (kids b)) u d) = leavesL (kids b) (sumSh (kids b)) u d ∧ x.2.length + cntL ((kids b).drop x.1) ≤ cntL (kids b) ∧ cntL ((kids b).drop x.1) ≤ cntL (kids b)}) (fun x => [ps 3 (.opt 1 0), ps 6 (iv (sumSh (kids b))), ps 9 (.osl 0 0 x.1.2.length), ps 38 (.ssl (kc b) 0 ((kids b).length)), ps 39 (iv (((kids b).length : Nat) : Int)), ps 40 (iv ((x.1.1 : Nat) : Int)), pb 0 68 (lfs x.1.2), pb 1 25 [(iv u), (iv d)]]) (fun x => (kids b).length - x.1.1) 2 ⟨(0, []), ⟨Nat.zero_le _, by simp [ahead], by simp, Nat.le_refl _⟩⟩ (Wk.ren3 [ps 3 (.opt 1 0), ps 6 (iv (sumSh (kids b))), ps 9 (.osl 0 0 [].length), ps 38 (.ssl (kc b) 0 ((kids b).length)), ps 39 (iv (((kids b).length : Nat) : Int)), ps 40 (iv ((0 : Nat) : Int)), pb 0 68 (lfs []), pb 1 25 [(iv u), (iv d)]] 0 hc0 [50, 1] [(kb 0, (lfs []))] (obs_cons (lfs_shd _) (obs_nil)) (by kernel_rfl) rfl rfl (by kernel_rfl) (by kernel_rfl)) ?_
      rintro ⟨⟨i, A⟩, ⟨hi, hA, hn, hcd⟩⟩
      dsimp only at hi hA hn hcd
      refine T_seq ?_
      refine T_region [] [ks 3, ks 6, ks 9, ks 38, ks 39, ks 40, ks 41, kb 0, kb 1] (fun _ => mixed) (l' := [ps 3 (.opt 1 0), ps 6 (iv (sumSh (kids b))), ps 9 (.osl 0 0 A.length), ps 38 (.ssl (kc b) 0 ((kids b).length)), ps 39 (iv (((kids b).length : Nat) : Int)), ps 40 (iv ((i : Nat) : Int)), ps 41 (bv (decide (((i : Nat) : Int) < (((kids b).length : Nat) : Int)))), pb 0 68 (lfs A), pb 1 25 [(iv u), (iv d)]]) (obs := []) (by kernel_rfl) (obs_nil) ?_
      refine T_seq ?_
      by_cases h3 : ((i : Nat) : Int) < (((kids b).length : Nat) : Int)
      · refine T_then (b := (decide (((i : Nat) : Int) < (((kids b).length : Nat) : Int)))) rfl (decide_eq_true h3) ?_
        refine T_skip ?_
        refine T_seq ?_
        refine T_block ?_
        refine T_seq ?_
        refine T_region [(0, .nat (i * 3)), (1, .cells [(iv (kd ((kids b).getD i dB))), (iv (sh ((kids b).getD i dB))), (.ssl (kc ((kids b).getD i dB)) 0 ((kids ((kids b).getD i dB)).length))])] [ks 3, ks 6, ks 9, ks 11, ks 38, ks 39, ks 40, kb 0, kb 1, kb 26] (fun _ => mixed) (l' := [ps 3 (.opt 1 0), ps 6 (iv (sumSh (kids b))), ps 9 (.osl 0 0 A.length), ps 11 (.opt 26 0), ps 38 (.ssl (kc b) 0 ((kids b).length)), ps 39 (iv (((kids b).length : Nat) : Int)), ps 40 (iv ((i : Nat) : Int)), pb 0 68 (lfs A), pb 1 25 [(iv u), (iv d)], pb 26 40 [(iv (kd ((kids b).getD i dB))), (iv (sh ((kids b).getD i dB))), (.ssl (kc ((kids b).getD i dB)) 0 ((kids ((kids b).getD i dB)).length))]]) (obs := [(0 : Int) ≤ ((i : Nat) : Int) ∧ ((i : Nat) : Int) < (((kids b).length : Nat) : Int), 0 + (((i : Nat) : Int) : Int).toNat * 3 = (i * 3), (i * 3) + 3 ≤ ((kc b)).length ∧ (((kc b)).drop (i * 3)).take 3 = [(iv (kd ((kids b).getD i dB))), (iv (sh ((kids b).getD i dB))), (.ssl (kc ((kids b).getD i dB)) 0 ((kids ((kids b).getD i dB)).length))]]) (by kernel_rfl) (obs_cons (p := (0 : Int) ≤ ((i : Nat) : Int) ∧ ((i : Nat) : Int) < (((kids b).length : Nat) : Int)) (by omega) (obs_cons (p := 0 + (((i : Nat) : Int) : Int).toNat * 3 = (i * 3)) (by omega) (obs_cons (p := (i * 3) + 3 ≤ ((kc b)).length ∧ (((kc b)).drop (i * 3)).take 3 = [(iv (kd ((kids b).getD i dB))), (iv (sh ((kids b).getD i dB))), (.ssl (kc ((kids b).getD i dB)) 0 ((kids ((kids b).getD i dB)).length))]) (kc_at b i 0 3 (by omega) (by decide)) (obs_nil)))) ?_
        refine T_seq ?_
        have hgx := goodL_at hg (show i < (kids b).length by omega)
        have hgx2 := (good_eq _).1 hgx
        have hca := cntL_at (l := kids b) (i := i) (by omega)
        have hmr := make_range (sh ((kids b).getD i dB)) (sumSh (kids b))
        refine T_region [(3, .call [] [(iv (sh ((kids b).getD i dB))), (iv (sumSh (kids b)))] [] (.tup [(.agg [(iv ((Fr.make (sh ((kids b).getD i dB)) (sumSh (kids b))).1)), (iv ((Fr.make (sh ((kids b).getD i dB)) (sumSh (kids b))).2.1))]), (iv ((Fr.make (sh ((kids b).getD i dB)) (sumSh (kids b))).2.2))]) [])] [ks 3, ks 6, ks 9, ks 11, ks 12, ks 13, ks 38, ks 39, ks 40, kb 0, kb 1, kb 26, kb 98] (fun _ => mixed) (l' := [ps 3 (.opt 1 0), ps 6 (iv (sumSh (kids b))), ps 9 (.osl 0 0 A.length), ps 11 (.opt 26 0), ps 12 (.opt 98 0), ps 13 (iv ((Fr.make (sh ((kids b).getD i dB)) (sumSh (kids b))).2.2)), ps 38 (.ssl (kc b) 0 ((kids b).length)), ps 39 (iv (((kids b).length : Nat) : Int)), ps 40 (iv ((i : Nat) : Int)), pb 0 68 (lfs A), pb 1 25 [(iv u), (iv d)], pb 26 40 [(iv (kd ((kids b).getD i dB))), (iv (sh ((kids b).getD i dB))), (.ssl (kc ((kids b).getD i dB)) 0 ((kids ((kids b).getD i dB)).length))], pb 98 25 [(iv ((Fr.make (sh ((kids b).getD i dB)) (sumSh (kids b))).1)), (iv ((Fr.make (sh ((kids b).getD i dB)) (sumSh (kids b))).2.1))]]) (obs := [PC Try.prog 27 [(iv (sh ((kids b).getD i dB))), (iv (sumSh (kids b)))] [] (.tup [(.agg [(iv ((Fr.make (sh ((kids b).getD i dB)) (sumSh (kids b))).1)), (iv ((Fr.make (sh ((kids b).getD i dB)) (sumSh (kids b))).2.1))]), (iv ((Fr.make (sh ((kids b).getD i dB)) (sumSh (kids b))).2.2))]) [], [(iv (sh ((kids b).getD i dB))), (iv (sumSh (kids b)))] = renL (sigi [] 66) [(iv (sh ((kids b).getD i dB))), (iv (sumSh (kids b)))]]) (by kernel_rfl) (obs_cons (p := PC Try.prog 27 [(iv (sh ((kids b).getD i dB))), (iv (sumSh (kids b)))] [] (.tup [(.agg [(iv ((Fr.make (sh ((kids b).getD i dB)) (sumSh (kids b))).1)), (iv ((Fr.make (sh ((kids b).getD i dB)) (sumSh (kids b))).2.1))]), (iv ((Fr.make (sh ((kids b).getD i dB)) (sumSh (kids b))).2.2))]) []) (ref_make_pc (sh ((kids b).getD i dB)) (sumSh (kids b)) (by unfold Fr.I64; omega) (by unfold Fr.I64; omega)) (obs_cons (p := [(iv (sh ((kids b).getD i dB))), (iv (sumSh (kids b)))] = renL (sigi [] 66) [(iv (sh ((kids b).getD i dB))), (iv (sumSh (kids b)))]) rfl (obs_nil))) ?_
        refine T_seq ?_
        refine T_seq ?_
        refine T_region [] [ks 3, ks 6, ks 9, ks 11, ks 12, ks 38, ks 39, ks 40, ks 52, kb 0, kb 1, kb 26, kb 98] (fun _ => mixed) (l' := [ps 3 (.opt 1 0), ps 6 (iv (sumSh (kids b))), ps 9 (.osl 0 0 A.length), ps 11 (.opt 26 0), ps 12 (.opt 98 0), ps 38 (.ssl (kc b) 0 ((kids b).length)), ps 39 (iv (((kids b).length : Nat) : Int)), ps 40 (iv ((i : Nat) : Int)), ps 52 (bv (!(decide (((Fr.make (sh ((kids b).getD i dB)) (sumSh (kids b))).2.2) = 0)))), pb 0 68 (lfs A), pb 1 25 [(iv u), (iv d)], pb 26 40 [(iv (kd ((kids b).getD i dB))), (iv (sh ((kids b).getD i dB))), (.ssl (kc ((kids b).getD i dB)) 0 ((kids ((kids b).getD i dB)).length))], pb 98 25 [(iv ((Fr.make (sh ((kids b).getD i dB)) (sumSh (kids b))).1)), (iv ((Fr.make (sh ((kids b).getD i dB)) (sumSh (kids b))).2.1))]]) (obs := []) (by kernel_rfl) (obs_nil) ?_
        by_cases h4 : ((Fr.make (sh ((kids b).getD i dB)) (sumSh (kids b))).2.2) = 0
        · refine T_else (b := (!(decide (((Fr.make (sh ((kids b).getD i dB)) (sumSh (kids b))).2.2) = 0)))) rfl (congrArg Bool.not (decide_eq_true h4)) ?_
          refine T_skip ?_
          refine T_seq ?_
          refine T_region [(2, .call [] [(.agg [(iv ((Fr.make (sh ((kids b).getD i dB)) (sumSh (kids b))).1)), (iv ((Fr.make (sh ((kids b).getD i dB)) (sumSh (kids b))).2.1))]), (.agg [(iv u), (iv d)])] [] (.tup [(.agg [(iv ((Fr.times ((Fr.make (sh ((kids b).getD i dB)) (sumSh (kids b))).1) ((Fr.make (sh ((kids b).getD i dB)) (sumSh (kids b))).2.1) u d).1)), (iv ((Fr.times ((Fr.make (sh ((kids b).getD i dB)) (sumSh (kids b))).1) ((Fr.make (sh ((kids b).getD i dB)) (sumSh (kids b))).2.1) u d).2.1))]), (iv ((Fr.times ((Fr.make (sh ((kids b).getD i dB)) (sumSh (kids b))).1) ((Fr.make (sh ((kids b).getD i dB)) (sumSh (kids b))).2.1) u d).2.2))]) [])] [ks 3, ks 6, ks 9, ks 11, ks 13, ks 14, ks 38, ks 39, ks 40, kb 0, kb 1, kb 26, kb 186] (fun _ => mixed) (l' := [ps 3 (.opt 1 0), ps 6 (iv (sumSh (kids b))), ps 9 (.osl 0 0 A.length), ps 11 (.opt 26 0), ps 13 (iv ((Fr.times ((Fr.make (sh ((kids b).getD i dB)) (sumSh (kids b))).1) ((Fr.make (sh ((kids b).getD i dB)) (sumSh (kids b))).2.1) u d).2.2)), ps 14 (.opt 186 0), ps 38 (.ssl (kc b) 0 ((kids b).length)), ps 39 (iv (((kids b).length : Nat) : Int)), ps 40 (iv ((i : Nat) : Int)), pb 0 68 (lfs A), pb 1 25 [(iv u), (iv d)], pb 26 40 [(iv (kd ((kids b).getD i dB))), (iv (sh ((kids b).getD i dB))), (.ssl (kc ((kids b).getD i dB)) 0 ((kids ((kids b).getD i dB)).length))], pb 186 25 [(iv ((Fr.times ((Fr.make (sh ((kids b).getD i dB)) (sumSh (kids b))).1) ((Fr.make (sh ((kids b).getD i dB)) (sumSh (kids b))).2.1) u d).1)), (iv ((Fr.times ((Fr.make (sh ((kids b).getD i dB)) (sumSh (kids b))).1) ((Fr.make (sh ((kids b).getD i dB)) (sumSh (kids b))).2.1) u d).2.1))]]) (obs := [PC Try.prog 39 [(.agg [(iv ((Fr.make (sh ((kids b).getD i dB)) (sumSh (kids b))).1)), (iv ((Fr.make (sh ((kids b).getD i dB)) (sumSh (kids b))).2.1))]), (.agg [(iv u), (iv d)])] [] (.tup [(.agg [(iv ((Fr.times ((Fr.make (sh ((kids b).getD i dB)) (sumSh (kids b))).1) ((Fr.make (sh ((kids b).getD i dB)) (sumSh (kids b))).2.1) u d).1)), (iv ((Fr.times ((Fr.make (sh ((kids b).getD i dB)) (sumSh (kids b))).1) ((Fr.make (sh ((kids b).getD i dB)) (sumSh (kids b))).2.1) u d).2.1))]), (iv ((Fr.times ((Fr.make (sh ((kids b).getD i dB)) (sumSh (kids b))).1) ((Fr.make (sh ((kids b).getD i dB)) (sumSh (kids b))).2.1) u d).2.2))]) [], [(.agg [(iv ((Fr.make (sh ((kids b).getD i dB)) (sumSh (kids b))).1)), (iv ((Fr.make (sh ((kids b).getD i dB)) (sumSh (kids b))).2.1))]), (.agg [(iv u), (iv d)])] = renL (sigi [] 154) [(.agg [(iv ((Fr.make (sh ((kids b).getD i dB)) (sumSh (kids b))).1)), (iv ((Fr.make (sh ((kids b).getD i dB)) (sumSh (kids b))).2.1))]), (.agg [(iv u), (iv d)])]]) (by kernel_rfl) (obs_cons (p := PC Try.prog 39 [(.agg [(iv ((Fr.make (sh ((kids b).getD i dB)) (sumSh (kids b))).1)), (iv ((Fr.make (sh ((kids b).getD i dB)) (sumSh (kids b))).2.1))]), (.agg [(iv u), (iv d)])] [] (.tup [(.agg [(iv ((Fr.times ((Fr.make (sh ((kids b).getD i dB)) (sumSh (kids b))).1) ((Fr.make (sh ((kids b).getD i dB)) (sumSh (kids b))).2.1) u d).1)), (iv ((Fr.times ((Fr.make (sh ((kids b).getD i dB)) (sumSh (kids b))).1) ((Fr.make (sh ((kids b).getD i dB)) (sumSh (kids b))).2.1) u d).2.1))]), (iv ((Fr.times ((Fr.make (sh ((kids b).getD i dB)) (sumSh (kids b))).1) ((Fr.make (sh ((kids b).getD i dB)) (sumSh (kids b))).2.1) u d).2.2))]) []) (ref_times_pc ((Fr.make (sh ((kids b).getD i dB)) (sumSh (kids b))).1) ((Fr.make (sh ((kids b).getD i dB)) (sumSh (kids b))).2.1) u d (by unfold Fr.I64; omega) (by unfold Fr.I64; omega) (by assumption) (by assumption)) (obs_cons (p := [(.agg [(iv ((Fr.make (sh ((kids b).getD i dB)) (sumSh (kids b))).1)), (iv ((Fr.make (sh ((kids b).getD i dB)) (sumSh (kids b))).2.1))]), (.agg [(iv u), (iv d)])] = renL (sigi [] 154) [(.agg [(iv ((Fr.make (sh ((kids b).getD i dB)) (sumSh (kids b))).1)), (iv ((Fr.make (sh ((kids b).getD i dB)) (sumSh (kids b))).2.1))]), (.agg [(iv u), (iv d)])]) rfl (obs_nil))) ?_
          refine T_seq ?_
          refine T_seq ?_
          refine T_region [] [ks 3, ks 6, ks 9, ks 11, ks 14, ks 38, ks 39, ks 40, ks 60, kb 0, kb 1, kb 26, kb 186] (fun _ => mixed) (l' := [ps 3 (.opt 1 0), ps 6 (iv (sumSh (kids b))), ps 9 (.osl 0 0 A.length), ps 11 (.opt 26 0), ps 14 (.opt 186 0), ps 38 (.ssl (kc b) 0 ((kids b).length)), ps 39 (iv (((kids b).length : Nat) : Int)), ps 40 (iv ((i : Nat) : Int)), ps 60 (bv (!(decide (((Fr.times ((Fr.make (sh ((kids b).getD i dB)) (sumSh (kids b))).1) ((Fr.make (sh ((kids b).getD i dB)) (sumSh (kids b))).2.1) u d).2.2) = 0)))), pb 0 68 (lfs A), pb 1 25 [(iv u), (iv d)], pb 26 40 [(iv (kd ((kids b).getD i dB))), (iv (sh ((kids b).getD i dB))), (.ssl (kc ((kids b).getD i dB)) 0 ((kids ((kids b).getD i dB)).length))], pb 186 25 [(iv ((Fr.times ((Fr.make (sh ((kids b).getD i dB)) (sumSh (kids b))).1) ((Fr.make (sh ((kids b).getD i dB)) (sumSh (kids b))).2.1) u d).1)), (iv ((Fr.times ((Fr.make (sh ((kids b).getD i dB)) (sumSh (kids b))).1) ((Fr.make (sh ((kids b).getD i dB)) (sumSh (kids b))).2.1) u d).2.1))]]) (obs := []) (by kernel_rfl) (obs_nil) ?_
          by_cases h5 : ((Fr.times ((Fr.make (sh ((kids b).getD i dB)) (sumSh (kids b))).1) ((Fr.make (sh ((kids b).getD i dB)) (sumSh (kids b))).2.1) u d).2.2) = 0
          · refine T_else (b := (!(decide (((Fr.times ((Fr.make (sh ((kids b).getD i dB)) (sumSh (kids b))).1) ((Fr.make (sh ((kids b).getD i dB)) (sumSh (kids b))).2.1) u d).2.2) = 0)))) rfl (congrArg Bool.not (decide_eq_true h5)) ?_
            refine T_skip ?_
            refine T_seq ?_
            by_cases h6 : leavesS ((kids b).getD i dB) ((Fr.times ((Fr.make (sh ((kids b).getD i dB)) (sumSh (kids b))).1) ((Fr.make (sh ((kids b).getD i dB)) (sumSh (kids b))).2.1) u d).1) ((Fr.times ((Fr.make (sh ((kids b).getD i dB)) (sumSh (kids b))).1) ((Fr.make (sh ((kids b).getD i dB)) (sumSh (kids b))).2.1) u d).2.1) = none
            · refine T_region [(2, .call [] [(.agg [(iv (kd ((kids b).getD i dB))), (iv (sh ((kids b).getD i dB))), (.ssl (kc ((kids b).getD i dB)) 0 ((kids ((kids b).getD i dB)).length))]), (.agg [(iv ((Fr.times ((Fr.make (sh ((kids b).getD i dB)) (sumSh (kids b))).1) ((Fr.make (sh ((kids b).getD i dB)) (sumSh (kids b))).2.1) u d).1)), (iv ((Fr.times ((Fr.make (sh ((kids b).getD i dB)) (sumSh (kids b))).1) ((Fr.make (sh ((kids b).getD i dB)) (sumSh (kids b))).2.1) u d).2.1))])] [] (.tup [(.ssl [] 0 0), (bv false)]) [])] [ks 3, ks 6, ks 9, ks 15, ks 16, ks 38, ks 39, ks 40, kb 0, kb 1] (fun _ => mixed) (l' := [ps 3 (.opt 1 0), ps 6 (iv (sumSh (kids b))), ps 9 (.osl 0 0 A.length), ps 15 (.ssl [] 0 0), ps 16 (bv false), ps 38 (.ssl (kc b) 0 ((kids b).length)), ps 39 (iv (((kids b).length : Nat) : Int)), ps 40 (iv ((i : Nat) : Int)), pb 0 68 (lfs A), pb 1 25 [(iv u), (iv d)]]) (obs := [PC Try.prog 31 [(.agg [(iv (kd ((kids b).getD i dB))), (iv (sh ((kids b).getD i dB))), (.ssl (kc ((kids b).getD i dB)) 0 ((kids ((kids b).getD i dB)).length))]), (.agg [(iv ((Fr.times ((Fr.make (sh ((kids b).getD i dB)) (sumSh (kids b))).1) ((Fr.make (sh ((kids b).getD i dB)) (sumSh (kids b))).2.1) u d).1)), (iv ((Fr.times ((Fr.make (sh ((kids b).getD i dB)) (sumSh (kids b))).1) ((Fr.make (sh ((kids b).getD i dB)) (sumSh (kids b))).2.1) u d).2.1))])] [] (.tup [(.ssl [] 0 0), (bv false)]) [], [(.agg [(iv (kd ((kids b).getD i dB))), (iv (sh ((kids b).getD i dB))), (.ssl (kc ((kids b).getD i dB)) 0 ((kids ((kids b).getD i dB)).length))]), (.agg [(iv ((Fr.times ((Fr.make (sh ((kids b).getD i dB)) (sumSh (kids b))).1) ((Fr.make (sh ((kids b).getD i dB)) (sumSh (kids b))).2.1) u d).1)), (iv ((Fr.times ((Fr.make (sh ((kids b).getD i dB)) (sumSh (kids b))).1) ((Fr.make (sh ((kids b).getD i dB)) (sumSh (kids b))).2.1) u d).2.1))])] = renL (sigi [] 242) [(.agg [(iv (kd ((kids b).getD i dB))), (iv (sh ((kids b).getD i dB))), (.ssl (kc ((kids b).getD i dB)) 0 ((kids ((kids b).getD i dB)).length))]), (.agg [(iv ((Fr.times ((Fr.make (sh ((kids b).getD i dB)) (sumSh (kids b))).1) ((Fr.make (sh ((kids b).getD i dB)) (sumSh (kids b))).2.1) u d).1)), (iv ((Fr.times ((Fr.make (sh ((kids b).getD i dB)) (sumSh (kids b))).1) ((Fr.make (sh ((kids b).getD i dB)) (sumSh (kids b))).2.1) u d).2.1))])]]) (by kernel_rfl) (obs_cons (p := PC Try.prog 31 [(.agg [(iv (kd ((kids b).getD i dB))), (iv (sh ((kids b).getD i dB))), (.ssl (kc ((kids b).getD i dB)) 0 ((kids ((kids b).getD i dB)).length))]), (.agg [(iv ((Fr.times ((Fr.make (sh ((kids b).getD i dB)) (sumSh (kids b))).1) ((Fr.make (sh ((kids b).getD i dB)) (sumSh (kids b))).2.1) u d).1)), (iv ((Fr.times ((Fr.make (sh ((kids b).getD i dB)) (sumSh (kids b))).1) ((Fr.make (sh ((kids b).getD i dB)) (sumSh (kids b))).2.1) u d).2.1))])] [] (.tup [(.ssl [] 0 0), (bv false)]) []) (by have h0 := ih ((kids b).getD i dB) (kids_lt (by omega)) _ _ (times_r h5) hgx (by omega); rw [leavesP_no h6] at h0; exact h0) (obs_cons (p := [(.agg [(iv (kd ((kids b).getD i dB))), (iv (sh ((kids b).getD i dB))), (.ssl (kc ((kids b).getD i dB)) 0 ((kids ((kids b).getD i dB)).length))]), (.agg [(iv ((Fr.times ((Fr.make (sh ((kids b).getD i dB)) (sumSh (kids b))).1) ((Fr.make (sh ((kids b).getD i dB)) (sumSh (kids b))).2.1) u d).1)), (iv ((Fr.times ((Fr.make (sh ((kids b).getD i dB)) (sumSh (kids b))).1) ((Fr.make (sh ((kids b).getD i dB)) (sumSh (kids b))).2.1) u d).2.1))])] = renL (sigi [] 242) [(.agg [(iv (kd ((kids b).getD i dB))), (iv (sh ((kids b).getD i dB))), (.ssl (kc ((kids b).getD i dB)) 0 ((kids ((kids b).getD i dB)).length))]), (.agg [(iv ((Fr.times ((Fr.make (sh ((kids b).getD i dB)) (sumSh (kids b))).1) ((Fr.make (sh ((kids b).getD i dB)) (sumSh (kids b))).2.1) u d).1)), (iv ((Fr.times ((Fr.make (sh ((kids b).getD i dB)) (sumSh (kids b))).1) ((Fr.make (sh ((kids b).getD i dB)) (sumSh (kids b))).2.1) u d).2.1))])]) rfl (obs_nil))) ?_
              refine T_seq ?_
              refine T_seq ?_
              refine T_region [] [ks 3, ks 6, ks 9, ks 15, ks 38, ks 39, ks 40, ks 68, kb 0, kb 1] (fun _ => mixed) (l' := [ps 3 (.opt 1 0), ps 6 (iv (sumSh (kids b))), ps 9 (.osl 0 0 A.length), ps 15 (.ssl [] 0 0), ps 38 (.ssl (kc b) 0 ((kids b).length)), ps 39 (iv (((kids b).length : Nat) : Int)), ps 40 (iv ((i : Nat) : Int)), ps 68 (bv true), pb 0 68 (lfs A), pb 1 25 [(iv u), (iv d)]]) (obs := []) (by kernel_rfl) (obs_nil) ?_
              refine T_then (b := true) rfl rfl ?_
              refine T_seq ?_
              refine T_region [] [ks 4, ks 5] (fun _ => mixed) (l' := [ps 4 (.av (.slice none 0 0)), ps 5 (bv false)]) (obs := []) (by kernel_rfl) (obs_nil) ?_
              rw [leavesL_at (by omega)] at hA
              repeat (first | rw [if_pos (by assumption)] at hA | rw [if_neg (by assumption)] at hA)
              rw [h6] at hA
              rw [leavesP_no (by rw [leavesS_eq, if_pos hk4]; exact hA.symm)]
              exact T_ret fun cx_ a_ hI_ => loop_ret (ret_ok (H' := []) (.inr rfl) (Wk.ren2 [ps 4 (.av (.slice none 0 0)), ps 5 (bv false)] 0 hc0 [] rfl rfl (by kernel_rfl) (by kernel_rfl)) rfl (obs_nil) (fun cx_ a_ hI_ => ret_res (l' := [ps 4 (.av (.slice none 0 0)), ps 5 (bv false)]) (by kernel_rfl) cx_ a_ hI_) hI_)
            · refine T_region [(2, .call [] [(.agg [(iv (kd ((kids b).getD i dB))), (iv (sh ((kids b).getD i dB))), (.ssl (kc ((kids b).getD i dB)) 0 ((kids ((kids b).getD i dB)).length))]), (.agg [(iv ((Fr.times ((Fr.make (sh ((kids b).getD i dB)) (sumSh (kids b))).1) ((Fr.make (sh ((kids b).getD i dB)) (sumSh (kids b))).2.1) u d).1)), (iv ((Fr.times ((Fr.make (sh ((kids b).getD i dB)) (sumSh (kids b))).1) ((Fr.make (sh ((kids b).getD i dB)) (sumSh (kids b))).2.1) u d).2.1))])] [] (.tup [(.ssl (lfs (lvG ((kids b).getD i dB) ((Fr.times ((Fr.make (sh ((kids b).getD i dB)) (sumSh (kids b))).1) ((Fr.make (sh ((kids b).getD i dB)) (sumSh (kids b))).2.1) u d).1) ((Fr.times ((Fr.make (sh ((kids b).getD i dB)) (sumSh (kids b))).1) ((Fr.make (sh ((kids b).getD i dB)) (sumSh (kids b))).2.1) u d).2.1))) 0 ((lvG ((kids b).getD i dB) ((Fr.times ((Fr.make (sh ((kids b).getD i dB)) (sumSh (kids b))).1) ((Fr.make (sh ((kids b).getD i dB)) (sumSh (kids b))).2.1) u d).1) ((Fr.times ((Fr.make (sh ((kids b).getD i dB)) (sumSh (kids b))).1) ((Fr.make (sh ((kids b).getD i dB)) (sumSh (kids b))).2.1) u d).2.1)).length)), (bv true)]) [])] [ks 3, ks 6, ks 9, ks 15, ks 16, ks 38, ks 39, ks 40, kb 0, kb 1] (fun _ => mixed) (l' := [ps 3 (.opt 1 0), ps 6 (iv (sumSh (kids b))), ps 9 (.osl 0 0 A.length), ps 15 (.ssl (lfs (lvG ((kids b).getD i dB) ((Fr.times ((Fr.make (sh ((kids b).getD i dB)) (sumSh (kids b))).1) ((Fr.make (sh ((kids b).getD i dB)) (sumSh (kids b))).2.1) u d).1) ((Fr.times ((Fr.make (sh ((kids b).getD i dB)) (sumSh (kids b))).1) ((Fr.make (sh ((kids b).getD i dB)) (sumSh (kids b))).2.1) u d).2.1))) 0 ((lvG ((kids b).getD i dB) ((Fr.times ((Fr.make (sh ((kids b).getD i dB)) (sumSh (kids b))).1) ((Fr.make (sh ((kids b).getD i dB)) (sumSh (kids b))).2.1) u d).1) ((Fr.times ((Fr.make (sh ((kids b).getD i dB)) (sumSh (kids b))).1) ((Fr.make (sh ((kids b).getD i dB)) (sumSh (kids b))).2.1) u d).2.1)).length)), ps 16 (bv true), ps 38 (.ssl (kc b) 0 ((kids b).length)), ps 39 (iv (((kids b).length : Nat) : Int)), ps 40 (iv ((i : Nat) : Int)), pb 0 68 (lfs A), pb 1 25 [(iv u), (iv d)]]) (obs := [PC Try.prog 31 [(.agg [(iv (kd ((kids b).getD i dB))), (iv (sh ((kids b).getD i dB))), (.ssl (kc ((kids b).getD i dB)) 0 ((kids ((kids b).getD i dB)).length))]), (.agg [(iv ((Fr.times ((Fr.make (sh ((kids b).getD i dB)) (sumSh (kids b))).1) ((Fr.make (sh ((kids b).getD i dB)) (sumSh (kids b))).2.1) u d).1)), (iv ((Fr.times ((Fr.make (sh ((kids b).getD i dB)) (sumSh (kids b))).1) ((Fr.make (sh ((kids b).getD i dB)) (sumSh (kids b))).2.1) u d).2.1))])] [] (.tup [(.ssl (lfs (lvG ((kids b).getD i dB) ((Fr.times ((Fr.make (sh ((kids b).getD i dB)) (sumSh (kids b))).1) ((Fr.make (sh ((kids b).getD i dB)) (sumSh (kids b))).2.1) u d).1) ((Fr.times ((Fr.make (sh ((kids b).getD i dB)) (sumSh (kids b))).1) ((Fr.make (sh ((kids b).getD i dB)) (sumSh (kids b))).2.1) u d).2.1))) 0 ((lvG ((kids b).getD i dB) ((Fr.times ((Fr.make (sh ((kids b).getD i dB)) (sumSh (kids b))).1) ((Fr.make (sh ((kids b).getD i dB)) (sumSh (kids b))).2.1) u d).1) ((Fr.times ((Fr.make (sh ((kids b).getD i dB)) (sumSh (kids b))).1) ((Fr.make (sh ((kids b).getD i dB)) (sumSh (kids b))).2.1) u d).2.1)).length)), (bv true)]) [], [(.agg [(iv (kd ((kids b).getD i dB))), (iv (sh ((kids b).getD i dB))), (.ssl (kc ((kids b).getD i dB)) 0 ((kids ((kids b).getD i dB)).length))]), (.agg [(iv ((Fr.times ((Fr.make (sh ((kids b).getD i dB)) (sumSh (kids b))).1) ((Fr.make (sh ((kids b).getD i dB)) (sumSh (kids b))).2.1) u d).1)), (iv ((Fr.times ((Fr.make (sh ((kids b).getD i dB)) (sumSh (kids b))).1) ((Fr.make (sh ((kids b).getD i dB)) (sumSh (kids b))).2.1) u d).2.1))])] = renL (sigi [] 242) [(.agg [(iv (kd ((kids b).getD i dB))), (iv (sh ((kids b).getD i dB))), (.ssl (kc ((kids b).getD i dB)) 0 ((kids ((kids b).getD i dB)).length))]), (.agg [(iv ((Fr.times ((Fr.make (sh ((kids b).getD i dB)) (sumSh (kids b))).1) ((Fr.make (sh ((kids b).getD i dB)) (sumSh (kids b))).2.1) u d).1)), (iv ((Fr.times ((Fr.make (sh ((kids b).getD i dB)) (sumSh (kids b))).1) ((Fr.make (sh ((kids b).getD i dB)) (sumSh (kids b))).2.1) u d).2.1))])]]) (by kernel_rfl) (obs_cons (p := PC Try.prog 31 [(.agg [(iv (kd ((kids b).getD i dB))), (iv (sh ((kids b).getD i dB))), (.ssl (kc ((kids b).getD i dB)) 0 ((kids ((kids b).getD i dB)).length))]), (.agg [(iv ((Fr.times ((Fr.make (sh ((kids b).getD i dB)) (sumSh (kids b))).1) ((Fr.make (sh ((kids b).getD i dB)) (sumSh (kids b))).2.1) u d).1)), (iv ((Fr.times ((Fr.make (sh ((kids b).getD i dB)) (sumSh (kids b))).1) ((Fr.make (sh ((kids b).getD i dB)) (sumSh (kids b))).2.1) u d).2.1))])] [] (.tup [(.ssl (lfs (lvG ((kids b).getD i dB) ((Fr.times ((Fr.make (sh ((kids b).getD i dB)) (sumSh (kids b))).1) ((Fr.make (sh ((kids b).getD i dB)) (sumSh (kids b))).2.1) u d).1) ((Fr.times ((Fr.make (sh ((kids b).getD i dB)) (sumSh (kids b))).1) ((Fr.make (sh ((kids b).getD i dB)) (sumSh (kids b))).2.1) u d).2.1))) 0 ((lvG ((kids b).getD i dB) ((Fr.times ((Fr.make (sh ((kids b).getD i dB)) (sumSh (kids b))).1) ((Fr.make (sh ((kids b).getD i dB)) (sumSh (kids b))).2.1) u d).1) ((Fr.times ((Fr.make (sh ((kids b).getD i dB)) (sumSh (kids b))).1) ((Fr.make (sh ((kids b).getD i dB)) (sumSh (kids b))).2.1) u d).2.1)).length)), (bv true)]) []) (by have h0 := ih ((kids b).getD i dB) (kids_lt (by omega)) _ _ (times_r h5) hgx (by omega); rw [leavesP_yes (lvG_some h6)] at h0; exact h0) (obs_cons (p := [(.agg [(iv (kd ((kids b).getD i dB))), (iv (sh ((kids b).getD i dB))), (.ssl (kc ((kids b).getD i dB)) 0 ((kids ((kids b).getD i dB)).length))]), (.agg [(iv ((Fr.times ((Fr.make (sh ((kids b).getD i dB)) (sumSh (kids b))).1) ((Fr.make (sh ((kids b).getD i dB)) (sumSh (kids b))).2.1) u d).1)), (iv ((Fr.times ((Fr.make (sh ((kids b).getD i dB)) (sumSh (kids b))).1) ((Fr.make (sh ((kids b).getD i dB)) (sumSh (kids b))).2.1) u d).2.1))])] = renL (sigi [] 242) [(.agg [(iv (kd ((kids b).getD i dB))), (iv (sh ((kids b).getD i dB))), (.ssl (kc ((kids b).getD i dB)) 0 ((kids ((kids b).getD i dB)).length))]), (.agg [(iv ((Fr.times ((Fr.make (sh ((kids b).getD i dB)) (sumSh (kids b))).1) ((Fr.make (sh ((kids b).getD i dB)) (sumSh (kids b))).2.1) u d).1)), (iv ((Fr.times ((Fr.make (sh ((kids b).getD i dB)) (sumSh (kids b))).1) ((Fr.make (sh ((kids b).getD i dB)) (sumSh (kids b))).2.1) u d).2.1))])]) rfl (obs_nil))) ?_
              refine T_seq ?_
              refine T_seq ?_
              refine T_region [] [ks 3, ks 6, ks 9, ks 15, ks 38, ks 39, ks 40, ks 68, kb 0, kb 1] (fun _ => mixed) (l' := [ps 3 (.opt 1 0), ps 6 (iv (sumSh (kids b))), ps 9 (.osl 0 0 A.length), ps 15 (.ssl (lfs (lvG ((kids b).getD i dB) ((Fr.times ((Fr.make (sh ((kids b).getD i dB)) (sumSh (kids b))).1) ((Fr.make (sh ((kids b).getD i dB)) (sumSh (kids b))).2.1) u d).1) ((Fr.times ((Fr.make (sh ((kids b).getD i dB)) (sumSh (kids b))).1) ((Fr.make (sh ((kids b).getD i dB)) (sumSh (kids b))).2.1) u d).2.1))) 0 ((lvG ((kids b).getD i dB) ((Fr.times ((Fr.make (sh ((kids b).getD i dB)) (sumSh (kids b))).1) ((Fr.make (sh ((kids b).getD i dB)) (sumSh (kids b))).2.1) u d).1) ((Fr.times ((Fr.make (sh ((kids b).getD i dB)) (sumSh (kids b))).1) ((Fr.make (sh ((kids b).getD i dB)) (sumSh (kids b))).2.1) u d).2.1)).length)), ps 38 (.ssl (kc b) 0 ((kids b).length)), ps 39 (iv (((kids b).length : Nat) : Int)), ps 40 (iv ((i : Nat) : Int)), ps 68 (bv false), pb 0 68 (lfs A), pb 1 25 [(iv u), (iv d)]]) (obs := []) (by kernel_rfl) (obs_nil) ?_
              refine T_else (b := false) rfl rfl ?_
              refine T_skip ?_
              have hll := leaves_len _ _ _ _ (lvG_some h6)
              refine T_region [(2, .app (some (lfs (lvG ((kids b).getD i dB) ((Fr.times ((Fr.make (sh ((kids b).getD i dB)) (sumSh (kids b))).1) ((Fr.make (sh ((kids b).getD i dB)) (sumSh (kids b))).2.1) u d).1) ((Fr.times ((Fr.make (sh ((kids b).getD i dB)) (sumSh (kids b))).1) ((Fr.make (sh ((kids b).getD i dB)) (sumSh (kids b))).2.1) u d).2.1)))) (some (lfs (A ++ (lvG ((kids b).getD i dB) ((Fr.times ((Fr.make (sh ((kids b).getD i dB)) (sumSh (kids b))).1) ((Fr.make (sh ((kids b).getD i dB)) (sumSh (kids b))).2.1) u d).1) ((Fr.times ((Fr.make (sh ((kids b).getD i dB)) (sumSh (kids b))).1) ((Fr.make (sh ((kids b).getD i dB)) (sumSh (kids b))).2.1) u d).2.1))))))] [ks 3, ks 6, ks 9, ks 38, ks 39, ks 40, kb 1, kb 322] (fun _ => mixed) (l' := [ps 3 (.opt 1 0), ps 6 (iv (sumSh (kids b))), ps 9 (.osl 322 0 (A.length + ((lvG ((kids b).getD i dB) ((Fr.times ((Fr.make (sh ((kids b).getD i dB)) (sumSh (kids b))).1) ((Fr.make (sh ((kids b).getD i dB)) (sumSh (kids b))).2.1) u d).1) ((Fr.times ((Fr.make (sh ((kids b).getD i dB)) (sumSh (kids b))).1) ((Fr.make (sh ((kids b).getD i dB)) (sumSh (kids b))).2.1) u d).2.1)).length))), ps 38 (.ssl (kc b) 0 ((kids b).length)), ps 39 (iv (((kids b).length : Nat) : Int)), ps 40 (iv ((i : Nat) : Int)), pb 1 25 [(iv u), (iv d)], pb 322 68 (lfs (A ++ (lvG ((kids b).getD i dB) ((Fr.times ((Fr.make (sh ((kids b).getD i dB)) (sumSh (kids b))).1) ((Fr.make (sh ((kids b).getD i dB)) (sumSh (kids b))).2.1) u d).1) ((Fr.times ((Fr.make (sh ((kids b).getD i dB)) (sumSh (kids b))).1) ((Fr.make (sh ((kids b).getD i dB)) (sumSh (kids b))).2.1) u d).2.1))))]) (obs := [0 + ((lvG ((kids b).getD i dB) ((Fr.times ((Fr.make (sh ((kids b).getD i dB)) (sumSh (kids b))).1) ((Fr.make (sh ((kids b).getD i dB)) (sumSh (kids b))).2.1) u d).1) ((Fr.times ((Fr.make (sh ((kids b).getD i dB)) (sumSh (kids b))).1) ((Fr.make (sh ((kids b).getD i dB)) (sumSh (kids b))).2.1) u d).2.1)).length) * 3 ≤ ((lfs (lvG ((kids b).getD i dB) ((Fr.times ((Fr.make (sh ((kids b).getD i dB)) (sumSh (kids b))).1) ((Fr.make (sh ((kids b).getD i dB)) (sumSh (kids b))).2.1) u d).1) ((Fr.times ((Fr.make (sh ((kids b).getD i dB)) (sumSh (kids b))).1) ((Fr.make (sh ((kids b).getD i dB)) (sumSh (kids b))).2.1) u d).2.1)))).length ∧ (((lfs (lvG ((kids b).getD i dB) ((Fr.times ((Fr.make (sh ((kids b).getD i dB)) (sumSh (kids b))).1) ((Fr.make (sh ((kids b).getD i dB)) (sumSh (kids b))).2.1) u d).1) ((Fr.times ((Fr.make (sh ((kids b).getD i dB)) (sumSh (kids b))).1) ((Fr.make (sh ((kids b).getD i dB)) (sumSh (kids b))).2.1) u d).2.1)))).drop 0).take (((lvG ((kids b).getD i dB) ((Fr.times ((Fr.make (sh ((kids b).getD i dB)) (sumSh (kids b))).1) ((Fr.make (sh ((kids b).getD i dB)) (sumSh (kids b))).2.1) u d).1) ((Fr.times ((Fr.make (sh ((kids b).getD i dB)) (sumSh (kids b))).1) ((Fr.make (sh ((kids b).getD i dB)) (sumSh (kids b))).2.1) u d).2.1)).length) * 3) = (lfs (lvG ((kids b).getD i dB) ((Fr.times ((Fr.make (sh ((kids b).getD i dB)) (sumSh (kids b))).1) ((Fr.make (sh ((kids b).getD i dB)) (sumSh (kids b))).2.1) u d).1) ((Fr.times ((Fr.make (sh ((kids b).getD i dB)) (sumSh (kids b))).1) ((Fr.make (sh ((kids b).getD i dB)) (sumSh (kids b))).2.1) u d).2.1))), ((lfs A)).length = A.length * 3, (A.length + ((lvG ((kids b).getD i dB) ((Fr.times ((Fr.make (sh ((kids b).getD i dB)) (sumSh (kids b))).1) ((Fr.make (sh ((kids b).getD i dB)) (sumSh (kids b))).2.1) u d).1) ((Fr.times ((Fr.make (sh ((kids b).getD i dB)) (sumSh (kids b))).1) ((Fr.make (sh ((kids b).getD i dB)) (sumSh (kids b))).2.1) u d).2.1)).length)) * 24 ≤ 140737488355328 ∧ A.length + ((lvG ((kids b).getD i dB) ((Fr.times ((Fr.make (sh ((kids b).getD i dB)) (sumSh (kids b))).1) ((Fr.make (sh ((kids b).getD i dB)) (sumSh (kids b))).2.1) u d).1) ((Fr.times ((Fr.make (sh ((kids b).getD i dB)) (sumSh (kids b))).1) ((Fr.make (sh ((kids b).getD i dB)) (sumSh (kids b))).2.1) u d).2.1)).length) ≤ 9223372036854775807, (lfs A) ++ (lfs (lvG ((kids b).getD i dB) ((Fr.times ((Fr.make (sh ((kids b).getD i dB)) (sumSh (kids b))).1) ((Fr.make (sh ((kids b).getD i dB)) (sumSh (kids b))).2.1) u d).1) ((Fr.times ((Fr.make (sh ((kids b).getD i dB)) (sumSh (kids b))).1) ((Fr.make (sh ((kids b).getD i dB)) (sumSh (kids b))).2.1) u d).2.1))) = (lfs (A ++ (lvG ((kids b).getD i dB) ((Fr.times ((Fr.make (sh ((kids b).getD i dB)) (sumSh (kids b))).1) ((Fr.make (sh ((kids b).getD i dB)) (sumSh (kids b))).2.1) u d).1) ((Fr.times ((Fr.make (sh ((kids b).getD i dB)) (sumSh (kids b))).1) ((Fr.make (sh ((kids b).getD i dB)) (sumSh (kids b))).2.1) u d).2.1))))]) (by kernel_rfl) (obs_cons (p := 0 + ((lvG ((kids b).getD i dB) ((Fr.times ((Fr.make (sh ((kids b).getD i dB)) (sumSh (kids b))).1) ((Fr.make (sh ((kids b).getD i dB)) (sumSh (kids b))).2.1) u d).1) ((Fr.times ((Fr.make (sh ((kids b).getD i dB)) (sumSh (kids b))).1) ((Fr.make (sh ((kids b).getD i dB)) (sumSh (kids b))).2.1) u d).2.1)).length) * 3 ≤ ((lfs (lvG ((kids b).getD i dB) ((Fr.times ((Fr.make (sh ((kids b).getD i dB)) (sumSh (kids b))).1) ((Fr.make (sh ((kids b).getD i dB)) (sumSh (kids b))).2.1) u d).1) ((Fr.times ((Fr.make (sh ((kids b).getD i dB)) (sumSh (kids b))).1) ((Fr.make (sh ((kids b).getD i dB)) (sumSh (kids b))).2.1) u d).2.1)))).length ∧ (((lfs (lvG ((kids b).getD i dB) ((Fr.times ((Fr.make (sh ((kids b).getD i dB)) (sumSh (kids b))).1) ((Fr.make (sh ((kids b).getD i dB)) (sumSh (kids b))).2.1) u d).1) ((Fr.times ((Fr.make (sh ((kids b).getD i dB)) (sumSh (kids b))).1) ((Fr.make (sh ((kids b).getD i dB)) (sumSh (kids b))).2.1) u d).2.1)))).drop 0).take (((lvG ((kids b).getD i dB) ((Fr.times ((Fr.make (sh ((kids b).getD i dB)) (sumSh (kids b))).1) ((Fr.make (sh ((kids b).getD i dB)) (sumSh (kids b))).2.1) u d).1) ((Fr.times ((Fr.make (sh ((kids b).getD i dB)) (sumSh (kids b))).1) ((Fr.make (sh ((kids b).getD i dB)) (sumSh (kids b))).2.1) u d).2.1)).length) * 3) = (lfs (lvG ((kids b).getD i dB) ((Fr.times ((Fr.make (sh ((kids b).getD i dB)) (sumSh (kids b))).1) ((Fr.make (sh ((kids b).getD i dB)) (sumSh (kids b))).2.1) u d).1) ((Fr.times ((Fr.make (sh ((kids b).getD i dB)) (sumSh (kids b))).1) ((Fr.make (sh ((kids b).getD i dB)) (sumSh (kids b))).2.1) u d).2.1)))) (by have := lfs_len (lvG ((kids b).getD i dB) ((Fr.times ((Fr.make (sh ((kids b).getD i dB)) (sumSh (kids b))).1) ((Fr.make (sh ((kids b).getD i dB)) (sumSh (kids b))).2.1) u d).1) ((Fr.times ((Fr.make (sh ((kids b).getD i dB)) (sumSh (kids b))).1) ((Fr.make (sh ((kids b).getD i dB)) (sumSh (kids b))).2.1) u d).2.1)); refine ⟨by omega, ?_⟩; rw [List.drop_zero, ← this, List.take_length]) (obs_cons (p := ((lfs A)).length = A.length * 3) (lfs_len _) (obs_cons (p := (A.length + ((lvG ((kids b).getD i dB) ((Fr.times ((Fr.make (sh ((kids b).getD i dB)) (sumSh (kids b))).1) ((Fr.make (sh ((kids b).getD i dB)) (sumSh (kids b))).2.1) u d).1) ((Fr.times ((Fr.make (sh ((kids b).getD i dB)) (sumSh (kids b))).1) ((Fr.make (sh ((kids b).getD i dB)) (sumSh (kids b))).2.1) u d).2.1)).length)) * 24 ≤ 140737488355328 ∧ A.length + ((lvG ((kids b).getD i dB) ((Fr.times ((Fr.make (sh ((kids b).getD i dB)) (sumSh (kids b))).1) ((Fr.make (sh ((kids b).getD i dB)) (sumSh (kids b))).2.1) u d).1) ((Fr.times ((Fr.make (sh ((kids b).getD i dB)) (sumSh (kids b))).1) ((Fr.make (sh ((kids b).getD i dB)) (sumSh (kids b))).2.1) u d).2.1)).length) ≤ 9223372036854775807) (by omega) (obs_cons (p := (lfs A) ++ (lfs (lvG ((kids b).getD i dB) ((Fr.times ((Fr.make (sh ((kids b).getD i dB)) (sumSh (kids b))).1) ((Fr.make (sh ((kids b).getD i dB)) (sumSh (kids b))).2.1) u d).1) ((Fr.times ((Fr.make (sh ((kids b).getD i dB)) (sumSh (kids b))).1) ((Fr.make (sh ((kids b).getD i dB)) (sumSh (kids b))).2.1) u d).2.1))) = (lfs (A ++ (lvG ((kids b).getD i dB) ((Fr.times ((Fr.make (sh ((kids b).getD i dB)) (sumSh (kids b))).1) ((Fr.make (sh ((kids b).getD i dB)) (sumSh (kids b))).2.1) u d).1) ((Fr.times ((Fr.make (sh ((kids b).getD i dB)) (sumSh (kids b))).1) ((Fr.make (sh ((kids b).getD i dB)) (sumSh (kids b))).2.1) u d).2.1))))) (flat_app lfC A (lvG ((kids b).getD i dB) ((Fr.times ((Fr.make (sh ((kids b).getD i dB)) (sumSh (kids b))).1) ((Fr.make (sh ((kids b).getD i dB)) (sumSh (kids b))).2.1) u d).1) ((Fr.times ((Fr.make (sh ((kids b).getD i dB)) (sumSh (kids b))).1) ((Fr.make (sh ((kids b).getD i dB)) (sumSh (kids b))).2.1) u d).2.1))).symm (obs_nil))))) ?_
              refine T_blk ?_
              refine T_region [] [ks 3, ks 6, ks 9, ks 38, ks 39, ks 40, kb 1, kb 322] (fun _ => mixed) (l' := [ps 3 (.opt 1 0), ps 6 (iv (sumSh (kids b))), ps 9 (.osl 322 0 (A.length + ((lvG ((kids b).getD i dB) ((Fr.times ((Fr.make (sh ((kids b).getD i dB)) (sumSh (kids b))).1) ((Fr.make (sh ((kids b).getD i dB)) (sumSh (kids b))).2.1) u d).1) ((Fr.times ((Fr.make (sh ((kids b).getD i dB)) (sumSh (kids b))).1) ((Fr.make (sh ((kids b).getD i dB)) (sumSh (kids b))).2.1) u d).2.1)).length))), ps 38 (.ssl (kc b) 0 ((kids b).length)), ps 39 (iv (((kids b).length : Nat) : Int)), ps 40 (iv (((i : Nat) : Int) + 1)), pb 1 25 [(iv u), (iv d)], pb 322 68 (lfs (A ++ (lvG ((kids b).getD i dB) ((Fr.times ((Fr.make (sh ((kids b).getD i dB)) (sumSh (kids b))).1) ((Fr.make (sh ((kids b).getD i dB)) (sumSh (kids b))).2.1) u d).1) ((Fr.times ((Fr.make (sh ((kids b).getD i dB)) (sumSh (kids b))).1) ((Fr.make (sh ((kids b).getD i dB)) (sumSh (kids b))).2.1) u d).2.1))))]) (obs := [InK .i64 (((i : Nat) : Int) + 1)]) (by kernel_rfl) (obs_cons (p := InK .i64 (((i : Nat) : Int) + 1)) (by simp only [InK]; omega) (obs_nil)) ?_
              exact T_back ⟨(i + 1, A ++ lvG ((kids b).getD i dB) (Fr.times (Fr.make (sh ((kids b).getD i dB)) (sumSh (kids b))).1 (Fr.make (sh ((kids b).getD i dB)) (sumSh (kids b))).2.1 u d).1 (Fr.times (Fr.make (sh ((kids b).getD i dB)) (sumSh (kids b))).1 (Fr.make (sh ((kids b).getD i dB)) (sumSh (kids b))).2.1 u d).2.1), ⟨by omega, by rw [leavesL_at (by omega), if_pos (by assumption), if_pos (by assumption), lvG_some (by assumption)] at hA; simp only [ahead_next] at hA; exact hA, by have h2 := cntL_at (l := kids b) (i := i) (by omega); show (A ++ lvG ((kids b).getD i dB) (Fr.times (Fr.make (sh ((kids b).getD i dB)) (sumSh (kids b))).1 (Fr.make (sh ((kids b).getD i dB)) (sumSh (kids b))).2.1 u d).1 (Fr.times (Fr.make (sh ((kids b).getD i dB)) (sumSh (kids b))).1 (Fr.make (sh ((kids b).getD i dB)) (sumSh (kids b))).2.1 u d).2.1).length + cntL ((kids b).drop (i + 1)) ≤ _; rw [List.length_append]; omega, by have h2 := cntL_at (l := kids b) (i := i) (by omega); show cntL ((kids b).drop (i + 1)) ≤ _; omega⟩⟩ (Wk.trans (Wk.eq (show [ps 3 (.opt 1 0), ps 6 (iv (sumSh (kids b))), ps 9 (.osl 322 0 (A.length + ((lvG ((kids b).getD i dB) ((Fr.times ((Fr.make (sh ((kids b).getD i dB)) (sumSh (kids b))).1) ((Fr.make (sh ((kids b).getD i dB)) (sumSh (kids b))).2.1) u d).1) ((Fr.times ((Fr.make (sh ((kids b).getD i dB)) (sumSh (kids b))).1) ((Fr.make (sh ((kids b).getD i dB)) (sumSh (kids b))).2.1) u d).2.1)).length))), ps 38 (.ssl (kc b) 0 ((kids b).length)), ps 39 (iv (((kids b).length : Nat) : Int)), ps 40 (iv (((i : Nat) : Int) + 1)), pb 1 25 [(iv u), (iv d)], pb 322 68 (lfs (A ++ (lvG ((kids b).getD i dB) ((Fr.times ((Fr.make (sh ((kids b).getD i dB)) (sumSh (kids b))).1) ((Fr.make (sh ((kids b).getD i dB)) (sumSh (kids b))).2.1) u d).1) ((Fr.times ((Fr.make (sh ((kids b).getD i dB)) (sumSh (kids b))).1) ((Fr.make (sh ((kids b).getD i dB)) (sumSh (kids b))).2.1) u d).2.1))))] = [ps 3 (.opt 1 0), ps 6 (iv (sumSh (kids b))), ps 9 (.osl 322 0 ((A ++ lvG ((kids b).getD i dB) (Fr.times (Fr.make (sh ((kids b).getD i dB)) (sumSh (kids b))).1 (Fr.make (sh ((kids b).getD i dB)) (sumSh (kids b))).2.1 u d).1 (Fr.times (Fr.make (sh ((kids b).getD i dB)) (sumSh (kids b))).1 (Fr.make (sh ((kids b).getD i dB)) (sumSh (kids b))).2.1 u d).2.1).length)), ps 38 (.ssl (kc b) 0 ((kids b).length)), ps 39 (iv (((kids b).length : Nat) : Int)), ps 40 (iv (((i : Nat) : Int) + 1)), pb 1 25 [(iv u), (iv d)], pb 322 68 (lfs (A ++ (lvG ((kids b).getD i dB) ((Fr.times ((Fr.make (sh ((kids b).getD i dB)) (sumSh (kids b))).1) ((Fr.make (sh ((kids b).getD i dB)) (sumSh (kids b))).2.1) u d).1) ((Fr.times ((Fr.make (sh ((kids b).getD i dB)) (sumSh (kids b))).1) ((Fr.make (sh ((kids b).getD i dB)) (sumSh (kids b))).2.1) u d).2.1))))] from by rw [List.length_append])) (Wk.ren3 [ps 3 (.opt 1 0), ps 6 (iv (sumSh (kids b))), ps 9 (.osl 0 0 (A ++ lvG ((kids b).getD i dB) (Fr.times (Fr.make (sh ((kids b).getD i dB)) (sumSh (kids b))).1 (Fr.make (sh ((kids b).getD i dB)) (sumSh (kids b))).2.1 u d).1 (Fr.times (Fr.make (sh ((kids b).getD i dB)) (sumSh (kids b))).1 (Fr.make (sh ((kids b).getD i dB)) (sumSh (kids b))).2.1 u d).2.1).length), ps 38 (.ssl (kc b) 0 ((kids b).length)), ps 39 (iv (((kids b).length : Nat) : Int)), ps 40 (iv (((i + 1) : Nat) : Int)), pb 0 68 (lfs (A ++ lvG ((kids b).getD i dB) (Fr.times (Fr.make (sh ((kids b).getD i dB)) (sumSh (kids b))).1 (Fr.make (sh ((kids b).getD i dB)) (sumSh (kids b))).2.1 u d).1 (Fr.times (Fr.make (sh ((kids b).getD i dB)) (sumSh (kids b))).1 (Fr.make (sh ((kids b).getD i dB)) (sumSh (kids b))).2.1 u d).2.1)), pb 1 25 [(iv u), (iv d)]] 0 hc0 [322, 1] [(kb 0, (lfs (A ++ lvG ((kids b).getD i dB) (Fr.times (Fr.make (sh ((kids b).getD i dB)) (sumSh (kids b))).1 (Fr.make (sh ((kids b).getD i dB)) (sumSh (kids b))).2.1 u d).1 (Fr.times (Fr.make (sh ((kids b).getD i dB)) (sumSh (kids b))).1 (Fr.make (sh ((kids b).getD i dB)) (sumSh (kids b))).2.1 u d).2.1)))] (obs_cons (lfs_shd _) (obs_nil)) (by kernel_rfl) rfl rfl (by kernel_rfl) (by kernel_rfl))) (show (kids b).length - (i + 1) < (kids b).length - i from by show (kids b).length - (i + 1) < (kids b).length - i; omega)
          · refine T_then (b := (!(decide (((Fr.times ((Fr.make (sh ((kids b).getD i dB)) (sumSh (kids b))).1) ((Fr.make (sh ((kids b).getD i dB)) (sumSh (kids b))).2.1) u d).2.2) = 0)))) rfl (congrArg Bool.not (decide_eq_false h5)) ?_
            refine T_seq ?_
            refine T_region [] [ks 4, ks 5] (fun _ => mixed) (l' := [ps 4 (.av (.slice none 0 0)), ps 5 (bv false)]) (obs := []) (by kernel_rfl) (obs_nil) ?_
            rw [leavesL_at (by omega)] at hA
            repeat (first | rw [if_pos (by assumption)] at hA | rw [if_neg (by assumption)] at hA)
            rw [leavesP_no (by rw [leavesS_eq, if_pos hk4]; exact hA.symm)]
            exact T_ret fun cx_ a_ hI_ => loop_ret (ret_ok (H' := []) (.inr rfl) (Wk.ren2 [ps 4 (.av (.slice none 0 0)), ps 5 (bv false)] 0 hc0 [] rfl rfl (by kernel_rfl) (by kernel_rfl)) rfl (obs_nil) (fun cx_ a_ hI_ => ret_res (l' := [ps 4 (.av (.slice none 0 0)), ps 5 (bv false)]) (by kernel_rfl) cx_ a_ hI_) hI_)
        · refine T_then (b := (!(decide (((Fr.make (sh ((kids b).getD i dB)) (sumSh (kids b))).2.2) = 0)))) rfl (congrArg Bool.not (decide_eq_false h4)) ?_
          refine T_seq ?_
          refine T_region [] [ks 4, ks 5] (fun _ => mixed) (l' := [ps 4 (.av (.slice none 0 0)), ps 5 (bv false)]) (obs := []) (by kernel_rfl) (obs_nil) ?_
          rw [leavesL_at (by omega)] at hA
          repeat (first | rw [if_pos (by assumption)] at hA | rw [if_neg (by assumption)] at hA)
          rw [leavesP_no (by rw [leavesS_eq, if_pos hk4]; exact hA.symm)]
          exact T_ret fun cx_ a_ hI_ => loop_ret (ret_ok (H' := []) (.inr rfl) (Wk.ren2 [ps 4 (.av (.slice none 0 0)), ps 5 (bv false)] 0 hc0 [] rfl rfl (by kernel_rfl) (by kernel_rfl)) rfl (obs_nil) (fun cx_ a_ hI_ => ret_res (l' := [ps 4 (.av (.slice none 0 0)), ps 5 (bv false)]) (by kernel_rfl) cx_ a_ hI_) hI_)
      · refine T_else (b := (decide (((i : Nat) : Int) < (((kids b).length : Nat) : Int)))) rfl (decide_eq_false h3) ?_
        refine T_break rfl rfl ?_
        refine T_seq ?_
        refine T_region [] [ks 4, ks 5, kb 0] (fun _ => mixed) (l' := [ps 4 (.osl 0 0 A.length), ps 5 (bv true), pb 0 68 (lfs A)]) (obs := []) (by kernel_rfl) (obs_nil) ?_
        obtain rfl : i = (kids b).length := by omega
        rw [List.drop_length, leavesL] at hA
        simp only [ahead, Option.map_some, List.append_nil] at hA
        rw [leavesP_yes (l := A) (by rw [leavesS_eq, if_pos hk4]; exact hA.symm)]
        refine T_wk (Wk.frz (l' := [ps 4 (.ssl (lfs A) 0 A.length), ps 5 (bv true), (kb 0, none)]) 0 (T := 68) (cs := (lfs A)) (by kernel_rfl) (lfs_shd _) (by kernel_rfl)) ?_
        refine T_wk (Wk.less (l' := [ps 4 (.ssl (lfs A) 0 A.length), ps 5 (bv true)]) 34 (by kernel_rfl) (by kernel_rfl)) ?_
        exact T_ret fun cx_ a_ hI_ => ret_ok (H' := []) (.inr rfl) (Wk.ren2 [ps 4 (.ssl (lfs A) 0 A.length), ps 5 (bv true)] 0 hc0 [] rfl rfl (by kernel_rfl) (by kernel_rfl)) rfl (obs_nil) (fun cx_ a_ hI_ => ret_res (l' := [ps 4 (.ssl (lfs A) 0 A.length), ps 5 (bv true)]) (by kernel_rfl) cx_ a_ hI_) hI_
  · refine T_then (b := (!(decide ((kd b) = 4)))) rfl (congrArg Bool.not (decide_eq_false h1)) ?_
    refine T_seq ?_
    refine T_region [] [ks 4, ks 5, kb 88] (fun _ => mixed) (l' := [ps 4 (.osl 88 0 1), ps 5 (bv true), pb 88 68 [(iv (kd b)), (iv u), (iv d)]]) (obs := []) (by kernel_rfl) (obs_nil) ?_
    rw [leavesP_yes (l := [(kd b, u, d)]) (by rw [leavesS_eq, if_neg (by assumption)])]
    refine T_wk (Wk.frz (l' := [ps 4 (.ssl [(iv (kd b)), (iv u), (iv d)] 0 1), ps 5 (bv true), (kb 88, none)]) 88 (T := 68) (cs := [(iv (kd b)), (iv u), (iv d)]) (by kernel_rfl) (fun p hp => List.all_eq_true.1 (show [(iv (kd b)), (iv u), (iv d)].all PV.shd = true from rfl) p hp) (by kernel_rfl)) ?_
    refine T_wk (Wk.less (l' := [ps 4 (.ssl [(iv (kd b)), (iv u), (iv d)] 0 1), ps 5 (bv true)]) 112 (by kernel_rfl) (by kernel_rfl)) ?_
    exact T_ret fun cx_ a_ hI_ => ret_ok (H' := []) (.inr rfl) (Wk.ren2 [ps 4 (.ssl [(iv (kd b)), (iv u), (iv d)] 0 1), ps 5 (bv true)] 0 hc0 [] rfl rfl (by kernel_rfl) (by kernel_rfl)) rfl (obs_nil) (fun cx_ a_ hI_ => ret_res (l' := [ps 4 (.ssl [(iv (kd b)), (iv u), (iv d)] 0 1), ps 5 (bv true)]) (by kernel_rfl) cx_ a_ hI_) hI_
theorem leaves_all : ∀ (m : Nat) (b : Beat), SizeOf.sizeOf b < m → ∀ (u d : Int), rightB u d = true → good b → cnt b ≤ 4096 → PC Try.prog 31 [.agg (gB b), fracP u d] [] (leavesP b u d) []
  | 0, _, h => absurd h (Nat.not_lt_zero _)
  | m + 1, b, h => fun u d h1 h2 h3 => leaves_step b (fun c hb => leaves_all m c (by omega)) u d h1 h2 h3
theorem leaves_pc (b : Beat) (u d : Int) (h1 : rightB u d = true) (h2 : good b) (h3 : cnt b ≤ 4096) : PC Try.prog 31 [.agg (gB b), fracP u d] [] (leavesP b u d) [] := leaves_all _ b (Nat.lt_succ_self _) u d h1 h2 h3
end Go.Proofs.Ytccpefbfjahfnaa.Pm
namespace Go.Proofs.Ytccpefbfjahfnaa.Pm
open Go Fr

mutual
theorem leaves_right : ∀ (b : Beat) (u d : Int) (l : List Lf), rightB u d = true → leavesS b u d = some l → ∀ x ∈ l, rightB x.2.1 x.2.2 = true
  | .mk k s l, u, d, r, hr, h => by
    rw [leavesS] at h
    split at h
    · exact leaves_rightL l _ u d r hr h
    · simp only [Option.some.injEq] at h
      subst h
      intro x hx
      simp only [List.mem_singleton] at hx
      subst hx
      exact hr
theorem leaves_rightL : ∀ (l : List Beat) (all u d : Int) (r : List Lf), rightB u d = true → leavesL l all u d = some r → ∀ x ∈ r, rightB x.2.1 x.2.2 = true
  | [], _, _, _, r, hr, h => by
    rw [leavesL] at h
    simp only [Option.some.injEq] at h
    subst h
    intro x hx
    cases hx
  | b :: l, all, u, d, r, hr, h => by
    rw [leavesL] at h
    split at h
    · split at h
      · rename_i c2
        split at h
        · rename_i x hx
          simp only [Option.map_eq_some_iff] at h
          obtain ⟨y, hy, rfl⟩ := h
          intro z hz
          rcases List.mem_append.1 hz with hz | hz
          · exact leaves_right b _ _ x (times_r c2) hx z hz
          · exact leaves_rightL l all u d y hr hy z hz
        · cases h
      · cases h
    · cases h
end
theorem lv_right {b : Beat} {u d : Int} (hr : rightB u d = true) (h : ¬ leavesS b u d = none) {i : Nat} (hi : i < (lvG b u d).length) : rightB ((lvG b u d).getD i dL).2.1 ((lvG b u d).getD i dL).2.2 = true := by
  refine leaves_right b u d _ hr (lvG_some h) _ ?_
  rw [List.getD_eq_getElem?_getD, List.getElem?_eq_getElem hi]
  exact List.getElem_mem hi
theorem runL_at {l : List Lf} {i : Nat} {st : StS} (h : i < l.length) : runL (l.drop i) st =
    if (leafS (l.getD i dL).1 (l.getD i dL).2.1 (l.getD i dL).2.2 st.1 st.2.1 st.2.2).1 = 0 then runL (l.drop (i + 1)) (leafS (l.getD i dL).1 (l.getD i dL).2.1 (l.getD i dL).2.2 st.1 st.2.1 st.2.2).2
    else leafS (l.getD i dL).1 (l.getD i dL).2.1 (l.getD i dL).2.2 st.1 st.2.1 st.2.2 := by
  rw [List.drop_eq_getElem_cons h, runL, List.getD_eq_getElem?_getD, List.getElem?_eq_getElem h]
  rfl
set_option maxRecDepth 100000 in
theorem ref_spans_pc (b : Beat) (u d : Int) (hu : I64 u) (hd : I64 d) : PC Try.prog 18 [(.agg [(iv (kd b)), (iv (sh b)), (.ssl (kc b) 0 ((kids b).length))]), (.agg [(iv u), (iv d)])] [] (spansP b u d) [] := by
  refine pc_intro Try.func18 rfl (by kernel_rfl) (Nat.le_of_ble_eq_true rfl) (by kernel_rfl) (l0 := [ps 0 (.agg [(iv (kd b)), (iv (sh b)), (.ssl (kc b) 0 ((kids b).length))]), ps 1 (.agg [(iv u), (iv d)])]) rfl (fun c0 Bor hc0 => ?_)
  refine T_seq ?_
  refine T_region [] [ks 2, ks 3, kb 0, kb 8] (fun _ => mixed) (l' := [ps 2 (.opt 0 0), ps 3 (.opt 8 0), pb 0 40 [(iv (kd b)), (iv (sh b)), (.ssl (kc b) 0 ((kids b).length))], pb 8 25 [(iv u), (iv d)]]) (obs := []) (by kernel_rfl) (obs_nil) ?_
  refine T_seq ?_
  refine T_seq ?_
  refine T_region [(1, .call [] [(.agg [(iv (kd b)), (iv (sh b)), (.ssl (kc b) 0 ((kids b).length))])] [] (iv (wrongE b)) [])] [ks 2, ks 3, ks 6, kb 0, kb 8] (fun _ => mixed) (l' := [ps 2 (.opt 0 0), ps 3 (.opt 8 0), ps 6 (iv (wrongE b)), pb 0 40 [(iv (kd b)), (iv (sh b)), (.ssl (kc b) 0 ((kids b).length))], pb 8 25 [(iv u), (iv d)]]) (obs := [PC Try.prog 16 [(.agg [(iv (kd b)), (iv (sh b)), (.ssl (kc b) 0 ((kids b).length))])] [] (iv (wrongE b)) [], [(.agg [(iv (kd b)), (iv (sh b)), (.ssl (kc b) 0 ((kids b).length))])] = renL (sigi [] 40) [(.agg [(iv (kd b)), (iv (sh b)), (.ssl (kc b) 0 ((kids b).length))])]]) (by kernel_rfl) (obs_cons (p := PC Try.prog 16 [(.agg [(iv (kd b)), (iv (sh b)), (.ssl (kc b) 0 ((kids b).length))])] [] (iv (wrongE b)) []) (ref_wrong_pc b) (obs_cons (p := [(.agg [(iv (kd b)), (iv (sh b)), (.ssl (kc b) 0 ((kids b).length))])] = renL (sigi [] 40) [(.agg [(iv (kd b)), (iv (sh b)), (.ssl (kc b) 0 ((kids b).length))])]) rfl (obs_nil))) ?_
  refine T_seq ?_
  refine T_region [] [ks 2, ks 3, ks 6, ks 21, kb 0, kb 8] (fun _ => mixed) (l' := [ps 2 (.opt 0 0), ps 3 (.opt 8 0), ps 6 (iv (wrongE b)), ps 21 (bv (!(decide ((wrongE b) = 0)))), pb 0 40 [(iv (kd b)), (iv (sh b)), (.ssl (kc b) 0 ((kids b).length))], pb 8 25 [(iv u), (iv d)]]) (obs := []) (by kernel_rfl) (obs_nil) ?_
  by_cases h1 : (wrongE b) = 0
  · refine T_else (b := (!(decide ((wrongE b) = 0)))) rfl (congrArg Bool.not (decide_eq_true h1)) ?_
    refine T_skip ?_
    refine T_seq ?_
    refine T_seq ?_
    refine T_region [(1, .call [] [(.agg [(iv u), (iv d)])] [] (bv (Fr.rightB u d)) [])] [ks 2, ks 3, ks 25, kb 0, kb 8] (fun _ => mixed) (l' := [ps 2 (.opt 0 0), ps 3 (.opt 8 0), ps 25 (bv (!(Fr.rightB u d))), pb 0 40 [(iv (kd b)), (iv (sh b)), (.ssl (kc b) 0 ((kids b).length))], pb 8 25 [(iv u), (iv d)]]) (obs := [PC Try.prog 26 [(.agg [(iv u), (iv d)])] [] (bv (Fr.rightB u d)) [], [(.agg [(iv u), (iv d)])] = renL (sigi [] 80) [(.agg [(iv u), (iv d)])]]) (by kernel_rfl) (obs_cons (p := PC Try.prog 26 [(.agg [(iv u), (iv d)])] [] (bv (Fr.rightB u d)) []) (ref_right_pc u d (by assumption) (by assumption)) (obs_cons (p := [(.agg [(iv u), (iv d)])] = renL (sigi [] 80) [(.agg [(iv u), (iv d)])]) rfl (obs_nil))) ?_
    by_cases h2 : (Fr.rightB u d) = true
    · refine T_else (b := (!(Fr.rightB u d))) rfl (congrArg Bool.not h2) ?_
      refine T_skip ?_
      refine T_seq ?_
      refine T_seq ?_
      refine T_region [] [ks 2, ks 3, ks 28, kb 0, kb 8] (fun _ => mixed) (l' := [ps 2 (.opt 0 0), ps 3 (.opt 8 0), ps 28 (bv (decide (u < 1))), pb 0 40 [(iv (kd b)), (iv (sh b)), (.ssl (kc b) 0 ((kids b).length))], pb 8 25 [(iv u), (iv d)]]) (obs := []) (by kernel_rfl) (obs_nil) ?_
      by_cases h3 : u < 1
      · refine T_then (b := (decide (u < 1))) rfl (decide_eq_true h3) ?_
        refine T_seq ?_
        refine T_region [] [ks 4, ks 5] (fun _ => mixed) (l' := [ps 4 (.av (.slice none 0 0)), ps 5 (iv 3)]) (obs := []) (by kernel_rfl) (obs_nil) ?_
        rw [spansP_no (show spansE b u d = 3 from by unfold spansE; rw [if_pos h1, if_pos h2, if_pos h3]) (by decide)]
        exact T_ret fun cx_ a_ hI_ => ret_ok (H' := []) (.inr rfl) (Wk.ren2 [ps 4 (.av (.slice none 0 0)), ps 5 (iv 3)] 0 hc0 [] rfl rfl (by kernel_rfl) (by kernel_rfl)) rfl (obs_nil) (fun cx_ a_ hI_ => ret_res (l' := [ps 4 (.av (.slice none 0 0)), ps 5 (iv 3)]) (by kernel_rfl) cx_ a_ hI_) hI_
      · refine T_else (b := (decide (u < 1))) rfl (decide_eq_false h3) ?_
        refine T_skip ?_
        refine T_seq ?_
        by_cases h4 : leavesS b u d = none
        · refine T_region [(2, .call [] [(.agg [(iv (kd b)), (iv (sh b)), (.ssl (kc b) 0 ((kids b).length))]), (.agg [(iv u), (iv d)])] [] (.tup [(.ssl [] 0 0), (bv false)]) [])] [ks 7, ks 8] (fun _ => mixed) (l' := [ps 7 (.ssl [] 0 0), ps 8 (bv false)]) (obs := [PC Try.prog 31 [(.agg [(iv (kd b)), (iv (sh b)), (.ssl (kc b) 0 ((kids b).length))]), (.agg [(iv u), (iv d)])] [] (.tup [(.ssl [] 0 0), (bv false)]) [], [(.agg [(iv (kd b)), (iv (sh b)), (.ssl (kc b) 0 ((kids b).length))]), (.agg [(iv u), (iv d)])] = renL (sigi [] 136) [(.agg [(iv (kd b)), (iv (sh b)), (.ssl (kc b) 0 ((kids b).length))]), (.agg [(iv u), (iv d)])]]) (by kernel_rfl) (obs_cons (p := PC Try.prog 31 [(.agg [(iv (kd b)), (iv (sh b)), (.ssl (kc b) 0 ((kids b).length))]), (.agg [(iv u), (iv d)])] [] (.tup [(.ssl [] 0 0), (bv false)]) []) (by have h0 := leaves_pc b u d h2 (wrong_good h1).1 (wrong_good h1).2; rw [leavesP_no h4] at h0; exact h0) (obs_cons (p := [(.agg [(iv (kd b)), (iv (sh b)), (.ssl (kc b) 0 ((kids b).length))]), (.agg [(iv u), (iv d)])] = renL (sigi [] 136) [(.agg [(iv (kd b)), (iv (sh b)), (.ssl (kc b) 0 ((kids b).length))]), (.agg [(iv u), (iv d)])]) rfl (obs_nil))) ?_
          refine T_seq ?_
          refine T_seq ?_
          refine T_region [] [ks 7, ks 36] (fun _ => mixed) (l' := [ps 7 (.ssl [] 0 0), ps 36 (bv true)]) (obs := []) (by kernel_rfl) (obs_nil) ?_
          refine T_then (b := true) rfl rfl ?_
          refine T_seq ?_
          refine T_region [] [ks 4, ks 5] (fun _ => mixed) (l' := [ps 4 (.av (.slice none 0 0)), ps 5 (iv 4)]) (obs := []) (by kernel_rfl) (obs_nil) ?_
          rw [spansP_ref h1 h2 h3, if_pos h4]
          exact T_ret fun cx_ a_ hI_ => ret_ok (H' := []) (.inr rfl) (Wk.ren2 [ps 4 (.av (.slice none 0 0)), ps 5 (iv 4)] 0 hc0 [] rfl rfl (by kernel_rfl) (by kernel_rfl)) rfl (obs_nil) (fun cx_ a_ hI_ => ret_res (l' := [ps 4 (.av (.slice none 0 0)), ps 5 (iv 4)]) (by kernel_rfl) cx_ a_ hI_) hI_
        · refine T_region [(2, .call [] [(.agg [(iv (kd b)), (iv (sh b)), (.ssl (kc b) 0 ((kids b).length))]), (.agg [(iv u), (iv d)])] [] (.tup [(.ssl (lfs (lvG b u d)) 0 ((lvG b u d).length)), (bv true)]) [])] [ks 7, ks 8] (fun _ => mixed) (l' := [ps 7 (.ssl (lfs (lvG b u d)) 0 ((lvG b u d).length)), ps 8 (bv true)]) (obs := [PC Try.prog 31 [(.agg [(iv (kd b)), (iv (sh b)), (.ssl (kc b) 0 ((kids b).length))]), (.agg [(iv u), (iv d)])] [] (.tup [(.ssl (lfs (lvG b u d)) 0 ((lvG b u d).length)), (bv true)]) [], [(.agg [(iv (kd b)), (iv (sh b)), (.ssl (kc b) 0 ((kids b).length))]), (.agg [(iv u), (iv d)])] = renL (sigi [] 136) [(.agg [(iv (kd b)), (iv (sh b)), (.ssl (kc b) 0 ((kids b).length))]), (.agg [(iv u), (iv d)])]]) (by kernel_rfl) (obs_cons (p := PC Try.prog 31 [(.agg [(iv (kd b)), (iv (sh b)), (.ssl (kc b) 0 ((kids b).length))]), (.agg [(iv u), (iv d)])] [] (.tup [(.ssl (lfs (lvG b u d)) 0 ((lvG b u d).length)), (bv true)]) []) (by have h0 := leaves_pc b u d h2 (wrong_good h1).1 (wrong_good h1).2; rw [leavesP_yes (lvG_some h4)] at h0; exact h0) (obs_cons (p := [(.agg [(iv (kd b)), (iv (sh b)), (.ssl (kc b) 0 ((kids b).length))]), (.agg [(iv u), (iv d)])] = renL (sigi [] 136) [(.agg [(iv (kd b)), (iv (sh b)), (.ssl (kc b) 0 ((kids b).length))]), (.agg [(iv u), (iv d)])]) rfl (obs_nil))) ?_
          refine T_seq ?_
          refine T_seq ?_
          refine T_region [] [ks 7, ks 36] (fun _ => mixed) (l' := [ps 7 (.ssl (lfs (lvG b u d)) 0 ((lvG b u d).length)), ps 36 (bv false)]) (obs := []) (by kernel_rfl) (obs_nil) ?_
          refine T_else (b := false) rfl rfl ?_
          refine T_skip ?_
          refine T_seq ?_
          refine T_region [] [ks 7, ks 9] (fun _ => mixed) (l' := [ps 7 (.ssl (lfs (lvG b u d)) 0 ((lvG b u d).length)), ps 9 (.av (.slice none 0 0))]) (obs := []) (by kernel_rfl) (obs_nil) ?_
          refine T_seq ?_
          refine T_region [] [ks 7, ks 9, ks 10, kb 216] (fun _ => mixed) (l' := [ps 7 (.ssl (lfs (lvG b u d)) 0 ((lvG b u d).length)), ps 9 (.av (.slice none 0 0)), ps 10 (.opt 216 0), pb 216 25 [(iv 0), (iv 1)]]) (obs := []) (by kernel_rfl) (obs_nil) ?_
          refine T_seq ?_
          refine T_seq ?_
          refine T_region [] [ks 9, ks 10, ks 38, ks 39, ks 40, kb 216] (fun _ => mixed) (l' := [ps 9 (.av (.slice none 0 0)), ps 10 (.opt 216 0), ps 38 (.ssl (lfs (lvG b u d)) 0 ((lvG b u d).length)), ps 39 (iv (((lvG b u d).length : Nat) : Int)), ps 40 (iv 0), pb 216 25 [(iv 0), (iv 1)]]) (obs := []) (by kernel_rfl) (obs_nil) ?_
          refine T_block ?_
          have hR : rightB u d = true := h2
          have hlv := leaves_len b u d _ (lvG_some h4)
          have hcw := (wrong_good h1).2
          refine T_wk (Wk.nil (s := 9) 48 (by kernel_rfl)) ?_
          refine T_wk (Wk.less (l' := [ps 9 (.osl 256 0 0), ps 10 (.opt 216 0), ps 38 (.ssl (lfs (lvG b u d)) 0 ((lvG b u d).length)), ps 39 (iv (((lvG b u d).length : Nat) : Int)), ps 40 (iv 0), pb 216 25 [(iv 0), (iv 1)], pb 256 48 []]) 257 (by kernel_rfl) (by kernel_rfl)) ?_
          refine T_wk (Wk.eq (show [ps 9 (.osl 256 0 0), ps 10 (.opt 216 0), ps 38 (.ssl (lfs (lvG b u d)) 0 ((lvG b u d).length)), ps 39 (iv (((lvG b u d).length : Nat) : Int)), ps 40 (iv 0), pb 216 25 [(iv 0), (iv 1)], pb 256 48 []] = [ps 9 (.osl 256 0 (([] : List Sp).length)), ps 10 (.opt 216 0), ps 38 (.ssl (lfs (lvG b u d)) 0 ((lvG b u d).length)), ps 39 (iv (((lvG b u d).length : Nat) : Int)), ps 40 (iv 0), pb 216 25 [(iv 0), (iv 1)], pb 256 48 (spans [])] from by rfl)) ?_
          refine T_loop (α := {x : Nat × List Sp × Int × Int // x.1 ≤ (lvG b u d).length ∧ runL ((lvG b u d).drop x.1) (x.2.1, x.2.2.1, x.2.2.2) = runL (lvG b u d) ([], 0, 1) ∧ okSt x.2.1 x.2.2.1 x.2.2.2 ∧ x.2.1.length ≤ x.1}) (fun x => [ps 9 (.osl 0 0 x.1.2.1.length), ps 10 (.opt 1 0), ps 38 (.ssl (lfs (lvG b u d)) 0 ((lvG b u d).length)), ps 39 (iv (((lvG b u d).length : Nat) : Int)), ps 40 (iv ((x.1.1 : Nat) : Int)), pb 0 48 (spans x.1.2.1), pb 1 25 [(iv x.1.2.2.1), (iv x.1.2.2.2)]]) (fun x => (lvG b u d).length - x.1.1) 2 ⟨(0, [], 0, 1), ⟨Nat.zero_le _, rfl, st0_ok, Nat.le_refl _⟩⟩ (Wk.ren3 [ps 9 (.osl 0 0 [].length), ps 10 (.opt 1 0), ps 38 (.ssl (lfs (lvG b u d)) 0 ((lvG b u d).length)), ps 39 (iv (((lvG b u d).length : Nat) : Int)), ps 40 (iv ((0 : Nat) : Int)), pb 0 48 (spans []), pb 1 25 [(iv 0), (iv 1)]] 0 hc0 [256, 216] [(kb 0, (spans []))] (obs_cons (spans_shd _) (obs_nil)) (by kernel_rfl) rfl rfl (by kernel_rfl) (by kernel_rfl)) ?_
          rintro ⟨⟨i, L, a, b2⟩, ⟨hi, hL, hs, hn⟩⟩
          dsimp only at hi hL hs hn
          refine T_seq ?_
          refine T_region [] [ks 9, ks 10, ks 38, ks 39, ks 40, ks 41, kb 0, kb 1] (fun _ => mixed) (l' := [ps 9 (.osl 0 0 L.length), ps 10 (.opt 1 0), ps 38 (.ssl (lfs (lvG b u d)) 0 ((lvG b u d).length)), ps 39 (iv (((lvG b u d).length : Nat) : Int)), ps 40 (iv ((i : Nat) : Int)), ps 41 (bv (decide (((i : Nat) : Int) < (((lvG b u d).length : Nat) : Int)))), pb 0 48 (spans L), pb 1 25 [(iv a), (iv b2)]]) (obs := []) (by kernel_rfl) (obs_nil) ?_
          refine T_seq ?_
          by_cases h5 : ((i : Nat) : Int) < (((lvG b u d).length : Nat) : Int)
          · refine T_then (b := (decide (((i : Nat) : Int) < (((lvG b u d).length : Nat) : Int)))) rfl (decide_eq_true h5) ?_
            refine T_skip ?_
            refine T_seq ?_
            refine T_block ?_
            refine T_seq ?_
            refine T_region [(0, .nat (i * 3)), (1, .cells [(iv (((lvG b u d).getD i dL).1)), (iv (((lvG b u d).getD i dL).2.1)), (iv (((lvG b u d).getD i dL).2.2))])] [ks 9, ks 10, ks 12, ks 38, ks 39, ks 40, kb 0, kb 1, kb 26] (fun _ => mixed) (l' := [ps 9 (.osl 0 0 L.length), ps 10 (.opt 1 0), ps 12 (.opt 26 0), ps 38 (.ssl (lfs (lvG b u d)) 0 ((lvG b u d).length)), ps 39 (iv (((lvG b u d).length : Nat) : Int)), ps 40 (iv ((i : Nat) : Int)), pb 0 48 (spans L), pb 1 25 [(iv a), (iv b2)], pb 26 68 [(iv (((lvG b u d).getD i dL).1)), (iv (((lvG b u d).getD i dL).2.1)), (iv (((lvG b u d).getD i dL).2.2))]]) (obs := [(0 : Int) ≤ ((i : Nat) : Int) ∧ ((i : Nat) : Int) < (((lvG b u d).length : Nat) : Int), 0 + (((i : Nat) : Int) : Int).toNat * 3 = (i * 3), (i * 3) + 3 ≤ ((lfs (lvG b u d))).length ∧ (((lfs (lvG b u d))).drop (i * 3)).take 3 = [(iv (((lvG b u d).getD i dL).1)), (iv (((lvG b u d).getD i dL).2.1)), (iv (((lvG b u d).getD i dL).2.2))]]) (by kernel_rfl) (obs_cons (p := (0 : Int) ≤ ((i : Nat) : Int) ∧ ((i : Nat) : Int) < (((lvG b u d).length : Nat) : Int)) (by omega) (obs_cons (p := 0 + (((i : Nat) : Int) : Int).toNat * 3 = (i * 3)) (by omega) (obs_cons (p := (i * 3) + 3 ≤ ((lfs (lvG b u d))).length ∧ (((lfs (lvG b u d))).drop (i * 3)).take 3 = [(iv (((lvG b u d).getD i dL).1)), (iv (((lvG b u d).getD i dL).2.1)), (iv (((lvG b u d).getD i dL).2.2))]) (flat_at lfC 3 (fun _ => rfl) dL (lvG b u d) i 0 3 (by omega) (by decide)) (obs_nil)))) ?_
            refine T_seq ?_
            have hrx := lv_right hR h4 (show i < (lvG b u d).length by omega)
            obtain ⟨hx1, hx2⟩ := i64_r hrx
            obtain ⟨ha1, ha2⟩ := i64_r hs.1
            refine T_region [(3, .call [] [(.agg [(iv a), (iv b2)]), (.agg [(iv (((lvG b u d).getD i dL).2.1)), (iv (((lvG b u d).getD i dL).2.2))])] [] (.tup [(.agg [(iv ((Fr.plus a b2 (((lvG b u d).getD i dL).2.1) (((lvG b u d).getD i dL).2.2)).1)), (iv ((Fr.plus a b2 (((lvG b u d).getD i dL).2.1) (((lvG b u d).getD i dL).2.2)).2.1))]), (iv ((Fr.plus a b2 (((lvG b u d).getD i dL).2.1) (((lvG b u d).getD i dL).2.2)).2.2))]) [])] [ks 9, ks 10, ks 12, ks 13, ks 14, ks 38, ks 39, ks 40, kb 0, kb 1, kb 26, kb 98] (fun _ => mixed) (l' := [ps 9 (.osl 0 0 L.length), ps 10 (.opt 1 0), ps 12 (.opt 26 0), ps 13 (.opt 98 0), ps 14 (iv ((Fr.plus a b2 (((lvG b u d).getD i dL).2.1) (((lvG b u d).getD i dL).2.2)).2.2)), ps 38 (.ssl (lfs (lvG b u d)) 0 ((lvG b u d).length)), ps 39 (iv (((lvG b u d).length : Nat) : Int)), ps 40 (iv ((i : Nat) : Int)), pb 0 48 (spans L), pb 1 25 [(iv a), (iv b2)], pb 26 68 [(iv (((lvG b u d).getD i dL).1)), (iv (((lvG b u d).getD i dL).2.1)), (iv (((lvG b u d).getD i dL).2.2))], pb 98 25 [(iv ((Fr.plus a b2 (((lvG b u d).getD i dL).2.1) (((lvG b u d).getD i dL).2.2)).1)), (iv ((Fr.plus a b2 (((lvG b u d).getD i dL).2.1) (((lvG b u d).getD i dL).2.2)).2.1))]]) (obs := [PC Try.prog 14 [(.agg [(iv a), (iv b2)]), (.agg [(iv (((lvG b u d).getD i dL).2.1)), (iv (((lvG b u d).getD i dL).2.2))])] [] (.tup [(.agg [(iv ((Fr.plus a b2 (((lvG b u d).getD i dL).2.1) (((lvG b u d).getD i dL).2.2)).1)), (iv ((Fr.plus a b2 (((lvG b u d).getD i dL).2.1) (((lvG b u d).getD i dL).2.2)).2.1))]), (iv ((Fr.plus a b2 (((lvG b u d).getD i dL).2.1) (((lvG b u d).getD i dL).2.2)).2.2))]) [], [(.agg [(iv a), (iv b2)]), (.agg [(iv (((lvG b u d).getD i dL).2.1)), (iv (((lvG b u d).getD i dL).2.2))])] = renL (sigi [] 66) [(.agg [(iv a), (iv b2)]), (.agg [(iv (((lvG b u d).getD i dL).2.1)), (iv (((lvG b u d).getD i dL).2.2))])]]) (by kernel_rfl) (obs_cons (p := PC Try.prog 14 [(.agg [(iv a), (iv b2)]), (.agg [(iv (((lvG b u d).getD i dL).2.1)), (iv (((lvG b u d).getD i dL).2.2))])] [] (.tup [(.agg [(iv ((Fr.plus a b2 (((lvG b u d).getD i dL).2.1) (((lvG b u d).getD i dL).2.2)).1)), (iv ((Fr.plus a b2 (((lvG b u d).getD i dL).2.1) (((lvG b u d).getD i dL).2.2)).2.1))]), (iv ((Fr.plus a b2 (((lvG b u d).getD i dL).2.1) (((lvG b u d).getD i dL).2.2)).2.2))]) []) (ref_plus_pc a b2 (((lvG b u d).getD i dL).2.1) (((lvG b u d).getD i dL).2.2) (by assumption) (by assumption) (by assumption) (by assumption)) (obs_cons (p := [(.agg [(iv a), (iv b2)]), (.agg [(iv (((lvG b u d).getD i dL).2.1)), (iv (((lvG b u d).getD i dL).2.2))])] = renL (sigi [] 66) [(.agg [(iv a), (iv b2)]), (.agg [(iv (((lvG b u d).getD i dL).2.1)), (iv (((lvG b u d).getD i dL).2.2))])]) rfl (obs_nil))) ?_
            refine T_seq ?_
            refine T_seq ?_
            refine T_region [] [ks 9, ks 10, ks 12, ks 13, ks 38, ks 39, ks 40, ks 52, kb 0, kb 1, kb 26, kb 98] (fun _ => mixed) (l' := [ps 9 (.osl 0 0 L.length), ps 10 (.opt 1 0), ps 12 (.opt 26 0), ps 13 (.opt 98 0), ps 38 (.ssl (lfs (lvG b u d)) 0 ((lvG b u d).length)), ps 39 (iv (((lvG b u d).length : Nat) : Int)), ps 40 (iv ((i : Nat) : Int)), ps 52 (bv (!(decide (((Fr.plus a b2 (((lvG b u d).getD i dL).2.1) (((lvG b u d).getD i dL).2.2)).2.2) = 0)))), pb 0 48 (spans L), pb 1 25 [(iv a), (iv b2)], pb 26 68 [(iv (((lvG b u d).getD i dL).1)), (iv (((lvG b u d).getD i dL).2.1)), (iv (((lvG b u d).getD i dL).2.2))], pb 98 25 [(iv ((Fr.plus a b2 (((lvG b u d).getD i dL).2.1) (((lvG b u d).getD i dL).2.2)).1)), (iv ((Fr.plus a b2 (((lvG b u d).getD i dL).2.1) (((lvG b u d).getD i dL).2.2)).2.1))]]) (obs := []) (by kernel_rfl) (obs_nil) ?_
            by_cases h6 : ((Fr.plus a b2 (((lvG b u d).getD i dL).2.1) (((lvG b u d).getD i dL).2.2)).2.2) = 0
            · refine T_else (b := (!(decide (((Fr.plus a b2 (((lvG b u d).getD i dL).2.1) (((lvG b u d).getD i dL).2.2)).2.2) = 0)))) rfl (congrArg Bool.not (decide_eq_true h6)) ?_
              refine T_skip ?_
              refine T_seq ?_
              refine T_region [] [ks 9, ks 10, ks 12, ks 13, ks 15, ks 38, ks 39, ks 40, kb 0, kb 1, kb 26, kb 98] (fun _ => mixed) (l' := [ps 9 (.osl 0 0 L.length), ps 10 (.opt 1 0), ps 12 (.opt 26 0), ps 13 (.opt 98 0), ps 15 (iv ((L.length : Nat) : Int)), ps 38 (.ssl (lfs (lvG b u d)) 0 ((lvG b u d).length)), ps 39 (iv (((lvG b u d).length : Nat) : Int)), ps 40 (iv ((i : Nat) : Int)), pb 0 48 (spans L), pb 1 25 [(iv a), (iv b2)], pb 26 68 [(iv (((lvG b u d).getD i dL).1)), (iv (((lvG b u d).getD i dL).2.1)), (iv (((lvG b u d).getD i dL).2.2))], pb 98 25 [(iv ((Fr.plus a b2 (((lvG b u d).getD i dL).2.1) (((lvG b u d).getD i dL).2.2)).1)), (iv ((Fr.plus a b2 (((lvG b u d).getD i dL).2.1) (((lvG b u d).getD i dL).2.2)).2.1))]]) (obs := []) (by kernel_rfl) (obs_nil) ?_
              refine T_seq ?_
              refine T_seq ?_
              by_cases h7 : (((lvG b u d).getD i dL).1) = 3
              · refine T_region [(4, .gd true (.no)), (5, .gd true (.no)), (6, .yes true)] [ks 9, ks 10, ks 12, ks 13, ks 15, ks 38, ks 39, ks 40, ks 61, kb 0, kb 1, kb 26, kb 98] (fun _ => mixed) (l' := [ps 9 (.osl 0 0 L.length), ps 10 (.opt 1 0), ps 12 (.opt 26 0), ps 13 (.opt 98 0), ps 15 (iv ((L.length : Nat) : Int)), ps 38 (.ssl (lfs (lvG b u d)) 0 ((lvG b u d).length)), ps 39 (iv (((lvG b u d).length : Nat) : Int)), ps 40 (iv ((i : Nat) : Int)), ps 61 (bv (decide (0 < ((L.length : Nat) : Int)))), pb 0 48 (spans L), pb 1 25 [(iv a), (iv b2)], pb 26 68 [(iv (((lvG b u d).getD i dL).1)), (iv (((lvG b u d).getD i dL).2.1)), (iv (((lvG b u d).getD i dL).2.2))], pb 98 25 [(iv ((Fr.plus a b2 (((lvG b u d).getD i dL).2.1) (((lvG b u d).getD i dL).2.2)).1)), (iv ((Fr.plus a b2 (((lvG b u d).getD i dL).2.1) (((lvG b u d).getD i dL).2.2)).2.1))]]) (obs := [(decide ((((lvG b u d).getD i dL).1) = 3)) = true, (decide ((((lvG b u d).getD i dL).1) = 3)) = true, (decide ((((lvG b u d).getD i dL).1) = 3)) = true]) (by kernel_rfl) (obs_cons (p := (decide ((((lvG b u d).getD i dL).1) = 3)) = true) (decide_eq_true h7) (obs_cons (p := (decide ((((lvG b u d).getD i dL).1) = 3)) = true) (decide_eq_true h7) (obs_cons (p := (decide ((((lvG b u d).getD i dL).1) = 3)) = true) (decide_eq_true h7) (obs_nil)))) ?_
                by_cases h8 : 0 < ((L.length : Nat) : Int)
                · refine T_then (b := (decide (0 < ((L.length : Nat) : Int)))) rfl (decide_eq_true h8) ?_
                  refine T_seq ?_
                  obtain ⟨hy1, hy2⟩ := i64_r (hs.2 (L.length - 1) (by omega))
                  refine T_region [(3, .nat ((L.length - 1) * 5)), (5, .cells [(iv ((L.getD (L.length - 1) dS).2.2.1)), (iv ((L.getD (L.length - 1) dS).2.2.2.1))]), (8, .call [] [(.agg [(iv ((L.getD (L.length - 1) dS).2.2.1)), (iv ((L.getD (L.length - 1) dS).2.2.2.1))]), (.agg [(iv (((lvG b u d).getD i dL).2.1)), (iv (((lvG b u d).getD i dL).2.2))])] [] (.tup [(.agg [(iv ((Fr.plus ((L.getD (L.length - 1) dS).2.2.1) ((L.getD (L.length - 1) dS).2.2.2.1) (((lvG b u d).getD i dL).2.1) (((lvG b u d).getD i dL).2.2)).1)), (iv ((Fr.plus ((L.getD (L.length - 1) dS).2.2.1) ((L.getD (L.length - 1) dS).2.2.2.1) (((lvG b u d).getD i dL).2.1) (((lvG b u d).getD i dL).2.2)).2.1))]), (iv ((Fr.plus ((L.getD (L.length - 1) dS).2.2.1) ((L.getD (L.length - 1) dS).2.2.2.1) (((lvG b u d).getD i dL).2.1) (((lvG b u d).getD i dL).2.2)).2.2))]) [])] [ks 9, ks 10, ks 13, ks 15, ks 16, ks 17, ks 38, ks 39, ks 40, kb 0, kb 1, kb 98, kb 314] (fun _ => mixed) (l' := [ps 9 (.osl 0 0 L.length), ps 10 (.opt 1 0), ps 13 (.opt 98 0), ps 15 (iv ((L.length : Nat) : Int)), ps 16 (.opt 314 0), ps 17 (iv ((Fr.plus ((L.getD (L.length - 1) dS).2.2.1) ((L.getD (L.length - 1) dS).2.2.2.1) (((lvG b u d).getD i dL).2.1) (((lvG b u d).getD i dL).2.2)).2.2)), ps 38 (.ssl (lfs (lvG b u d)) 0 ((lvG b u d).length)), ps 39 (iv (((lvG b u d).length : Nat) : Int)), ps 40 (iv ((i : Nat) : Int)), pb 0 48 (spans L), pb 1 25 [(iv a), (iv b2)], pb 98 25 [(iv ((Fr.plus a b2 (((lvG b u d).getD i dL).2.1) (((lvG b u d).getD i dL).2.2)).1)), (iv ((Fr.plus a b2 (((lvG b u d).getD i dL).2.1) (((lvG b u d).getD i dL).2.2)).2.1))], pb 314 25 [(iv ((Fr.plus ((L.getD (L.length - 1) dS).2.2.1) ((L.getD (L.length - 1) dS).2.2.2.1) (((lvG b u d).getD i dL).2.1) (((lvG b u d).getD i dL).2.2)).1)), (iv ((Fr.plus ((L.getD (L.length - 1) dS).2.2.1) ((L.getD (L.length - 1) dS).2.2.2.1) (((lvG b u d).getD i dL).2.1) (((lvG b u d).getD i dL).2.2)).2.1))]]) (obs := [InK .i64 (((L.length : Nat) : Int) - 1), (0 : Int) ≤ (((L.length : Nat) : Int) - 1) ∧ (((L.length : Nat) : Int) - 1) < ((L.length : Nat) : Int), 0 + ((((L.length : Nat) : Int) - 1) : Int).toNat * 5 = ((L.length - 1) * 5), ((L.length - 1) * 5 + 2) + 2 ≤ ((spans L)).length ∧ (((spans L)).drop ((L.length - 1) * 5 + 2)).take 2 = [(iv ((L.getD (L.length - 1) dS).2.2.1)), (iv ((L.getD (L.length - 1) dS).2.2.2.1))], PC Try.prog 14 [(.agg [(iv ((L.getD (L.length - 1) dS).2.2.1)), (iv ((L.getD (L.length - 1) dS).2.2.2.1))]), (.agg [(iv (((lvG b u d).getD i dL).2.1)), (iv (((lvG b u d).getD i dL).2.2))])] [] (.tup [(.agg [(iv ((Fr.plus ((L.getD (L.length - 1) dS).2.2.1) ((L.getD (L.length - 1) dS).2.2.2.1) (((lvG b u d).getD i dL).2.1) (((lvG b u d).getD i dL).2.2)).1)), (iv ((Fr.plus ((L.getD (L.length - 1) dS).2.2.1) ((L.getD (L.length - 1) dS).2.2.2.1) (((lvG b u d).getD i dL).2.1) (((lvG b u d).getD i dL).2.2)).2.1))]), (iv ((Fr.plus ((L.getD (L.length - 1) dS).2.2.1) ((L.getD (L.length - 1) dS).2.2.2.1) (((lvG b u d).getD i dL).2.1) (((lvG b u d).getD i dL).2.2)).2.2))]) [], [(.agg [(iv ((L.getD (L.length - 1) dS).2.2.1)), (iv ((L.getD (L.length - 1) dS).2.2.2.1))]), (.agg [(iv (((lvG b u d).getD i dL).2.1)), (iv (((lvG b u d).getD i dL).2.2))])] = renL (sigi [] 282) [(.agg [(iv ((L.getD (L.length - 1) dS).2.2.1)), (iv ((L.getD (L.length - 1) dS).2.2.2.1))]), (.agg [(iv (((lvG b u d).getD i dL).2.1)), (iv (((lvG b u d).getD i dL).2.2))])]]) (by kernel_rfl) (obs_cons (p := InK .i64 (((L.length : Nat) : Int) - 1)) (by simp only [InK]; omega) (obs_cons (p := (0 : Int) ≤ (((L.length : Nat) : Int) - 1) ∧ (((L.length : Nat) : Int) - 1) < ((L.length : Nat) : Int)) (by omega) (obs_cons (p := 0 + ((((L.length : Nat) : Int) - 1) : Int).toNat * 5 = ((L.length - 1) * 5)) (by omega) (obs_cons (p := ((L.length - 1) * 5 + 2) + 2 ≤ ((spans L)).length ∧ (((spans L)).drop ((L.length - 1) * 5 + 2)).take 2 = [(iv ((L.getD (L.length - 1) dS).2.2.1)), (iv ((L.getD (L.length - 1) dS).2.2.2.1))]) (flat_at spC 5 (fun _ => rfl) dS L (L.length - 1) 2 2 (by omega) (by decide)) (obs_cons (p := PC Try.prog 14 [(.agg [(iv ((L.getD (L.length - 1) dS).2.2.1)), (iv ((L.getD (L.length - 1) dS).2.2.2.1))]), (.agg [(iv (((lvG b u d).getD i dL).2.1)), (iv (((lvG b u d).getD i dL).2.2))])] [] (.tup [(.agg [(iv ((Fr.plus ((L.getD (L.length - 1) dS).2.2.1) ((L.getD (L.length - 1) dS).2.2.2.1) (((lvG b u d).getD i dL).2.1) (((lvG b u d).getD i dL).2.2)).1)), (iv ((Fr.plus ((L.getD (L.length - 1) dS).2.2.1) ((L.getD (L.length - 1) dS).2.2.2.1) (((lvG b u d).getD i dL).2.1) (((lvG b u d).getD i dL).2.2)).2.1))]), (iv ((Fr.plus ((L.getD (L.length - 1) dS).2.2.1) ((L.getD (L.length - 1) dS).2.2.2.1) (((lvG b u d).getD i dL).2.1) (((lvG b u d).getD i dL).2.2)).2.2))]) []) (ref_plus_pc ((L.getD (L.length - 1) dS).2.2.1) ((L.getD (L.length - 1) dS).2.2.2.1) (((lvG b u d).getD i dL).2.1) (((lvG b u d).getD i dL).2.2) (by assumption) (by assumption) (by assumption) (by assumption)) (obs_cons (p := [(.agg [(iv ((L.getD (L.length - 1) dS).2.2.1)), (iv ((L.getD (L.length - 1) dS).2.2.2.1))]), (.agg [(iv (((lvG b u d).getD i dL).2.1)), (iv (((lvG b u d).getD i dL).2.2))])] = renL (sigi [] 282) [(.agg [(iv ((L.getD (L.length - 1) dS).2.2.1)), (iv ((L.getD (L.length - 1) dS).2.2.2.1))]), (.agg [(iv (((lvG b u d).getD i dL).2.1)), (iv (((lvG b u d).getD i dL).2.2))])]) rfl (obs_nil))))))) ?_
                  refine T_seq ?_
                  refine T_seq ?_
                  refine T_region [] [ks 9, ks 10, ks 13, ks 15, ks 16, ks 38, ks 39, ks 40, ks 75, kb 0, kb 1, kb 98, kb 314] (fun _ => mixed) (l' := [ps 9 (.osl 0 0 L.length), ps 10 (.opt 1 0), ps 13 (.opt 98 0), ps 15 (iv ((L.length : Nat) : Int)), ps 16 (.opt 314 0), ps 38 (.ssl (lfs (lvG b u d)) 0 ((lvG b u d).length)), ps 39 (iv (((lvG b u d).length : Nat) : Int)), ps 40 (iv ((i : Nat) : Int)), ps 75 (bv (!(decide (((Fr.plus ((L.getD (L.length - 1) dS).2.2.1) ((L.getD (L.length - 1) dS).2.2.2.1) (((lvG b u d).getD i dL).2.1) (((lvG b u d).getD i dL).2.2)).2.2) = 0)))), pb 0 48 (spans L), pb 1 25 [(iv a), (iv b2)], pb 98 25 [(iv ((Fr.plus a b2 (((lvG b u d).getD i dL).2.1) (((lvG b u d).getD i dL).2.2)).1)), (iv ((Fr.plus a b2 (((lvG b u d).getD i dL).2.1) (((lvG b u d).getD i dL).2.2)).2.1))], pb 314 25 [(iv ((Fr.plus ((L.getD (L.length - 1) dS).2.2.1) ((L.getD (L.length - 1) dS).2.2.2.1) (((lvG b u d).getD i dL).2.1) (((lvG b u d).getD i dL).2.2)).1)), (iv ((Fr.plus ((L.getD (L.length - 1) dS).2.2.1) ((L.getD (L.length - 1) dS).2.2.2.1) (((lvG b u d).getD i dL).2.1) (((lvG b u d).getD i dL).2.2)).2.1))]]) (obs := []) (by kernel_rfl) (obs_nil) ?_
                  by_cases h9 : ((Fr.plus ((L.getD (L.length - 1) dS).2.2.1) ((L.getD (L.length - 1) dS).2.2.2.1) (((lvG b u d).getD i dL).2.1) (((lvG b u d).getD i dL).2.2)).2.2) = 0
                  · refine T_else (b := (!(decide (((Fr.plus ((L.getD (L.length - 1) dS).2.2.1) ((L.getD (L.length - 1) dS).2.2.2.1) (((lvG b u d).getD i dL).2.1) (((lvG b u d).getD i dL).2.2)).2.2) = 0)))) rfl (congrArg Bool.not (decide_eq_true h9)) ?_
                    refine T_skip ?_
                    refine T_region [(4, .nat ((L.length - 1) * 5)), (6, .cells (spans (longer L (Fr.plus (L.getD (L.length - 1) dS).2.2.1 (L.getD (L.length - 1) dS).2.2.2.1 ((lvG b u d).getD i dL).2.1 ((lvG b u d).getD i dL).2.2).1 (Fr.plus (L.getD (L.length - 1) dS).2.2.1 (L.getD (L.length - 1) dS).2.2.2.1 ((lvG b u d).getD i dL).2.1 ((lvG b u d).getD i dL).2.2).2.1)))] [ks 9, ks 10, ks 13, ks 38, ks 39, ks 40, kb 0, kb 1, kb 98] (fun _ => mixed) (l' := [ps 9 (.osl 0 0 L.length), ps 10 (.opt 1 0), ps 13 (.opt 98 0), ps 38 (.ssl (lfs (lvG b u d)) 0 ((lvG b u d).length)), ps 39 (iv (((lvG b u d).length : Nat) : Int)), ps 40 (iv ((i : Nat) : Int)), pb 0 48 (spans (longer L (Fr.plus (L.getD (L.length - 1) dS).2.2.1 (L.getD (L.length - 1) dS).2.2.2.1 ((lvG b u d).getD i dL).2.1 ((lvG b u d).getD i dL).2.2).1 (Fr.plus (L.getD (L.length - 1) dS).2.2.1 (L.getD (L.length - 1) dS).2.2.2.1 ((lvG b u d).getD i dL).2.1 ((lvG b u d).getD i dL).2.2).2.1)), pb 1 25 [(iv a), (iv b2)], pb 98 25 [(iv ((Fr.plus a b2 (((lvG b u d).getD i dL).2.1) (((lvG b u d).getD i dL).2.2)).1)), (iv ((Fr.plus a b2 (((lvG b u d).getD i dL).2.1) (((lvG b u d).getD i dL).2.2)).2.1))]]) (obs := [InK .i64 (((L.length : Nat) : Int) - 1), (0 : Int) ≤ (((L.length : Nat) : Int) - 1) ∧ (((L.length : Nat) : Int) - 1) < ((L.length : Nat) : Int), 0 + ((((L.length : Nat) : Int) - 1) : Int).toNat * 5 = ((L.length - 1) * 5), ((L.length - 1) * 5 + 2) + 2 ≤ ((spans L)).length ∧ splice (spans L) ((L.length - 1) * 5 + 2) [(iv ((Fr.plus ((L.getD (L.length - 1) dS).2.2.1) ((L.getD (L.length - 1) dS).2.2.2.1) (((lvG b u d).getD i dL).2.1) (((lvG b u d).getD i dL).2.2)).1)), (iv ((Fr.plus ((L.getD (L.length - 1) dS).2.2.1) ((L.getD (L.length - 1) dS).2.2.2.1) (((lvG b u d).getD i dL).2.1) (((lvG b u d).getD i dL).2.2)).2.1))] = (spans (longer L (Fr.plus (L.getD (L.length - 1) dS).2.2.1 (L.getD (L.length - 1) dS).2.2.2.1 ((lvG b u d).getD i dL).2.1 ((lvG b u d).getD i dL).2.2).1 (Fr.plus (L.getD (L.length - 1) dS).2.2.1 (L.getD (L.length - 1) dS).2.2.2.1 ((lvG b u d).getD i dL).2.1 ((lvG b u d).getD i dL).2.2).2.1))]) (by kernel_rfl) (obs_cons (p := InK .i64 (((L.length : Nat) : Int) - 1)) (by simp only [InK]; omega) (obs_cons (p := (0 : Int) ≤ (((L.length : Nat) : Int) - 1) ∧ (((L.length : Nat) : Int) - 1) < ((L.length : Nat) : Int)) (by omega) (obs_cons (p := 0 + ((((L.length : Nat) : Int) - 1) : Int).toNat * 5 = ((L.length - 1) * 5)) (by omega) (obs_cons (p := ((L.length - 1) * 5 + 2) + 2 ≤ ((spans L)).length ∧ splice (spans L) ((L.length - 1) * 5 + 2) [(iv ((Fr.plus ((L.getD (L.length - 1) dS).2.2.1) ((L.getD (L.length - 1) dS).2.2.2.1) (((lvG b u d).getD i dL).2.1) (((lvG b u d).getD i dL).2.2)).1)), (iv ((Fr.plus ((L.getD (L.length - 1) dS).2.2.1) ((L.getD (L.length - 1) dS).2.2.2.1) (((lvG b u d).getD i dL).2.1) (((lvG b u d).getD i dL).2.2)).2.1))] = (spans (longer L (Fr.plus (L.getD (L.length - 1) dS).2.2.1 (L.getD (L.length - 1) dS).2.2.2.1 ((lvG b u d).getD i dL).2.1 ((lvG b u d).getD i dL).2.2).1 (Fr.plus (L.getD (L.length - 1) dS).2.2.1 (L.getD (L.length - 1) dS).2.2.2.1 ((lvG b u d).getD i dL).2.1 ((lvG b u d).getD i dL).2.2).2.1))) (longer_splice L _ _ (by omega)) (obs_nil))))) ?_
                    refine T_region [] [ks 9, ks 10, ks 38, ks 39, ks 40, kb 0, kb 1] (fun _ => mixed) (l' := [ps 9 (.osl 0 0 L.length), ps 10 (.opt 1 0), ps 38 (.ssl (lfs (lvG b u d)) 0 ((lvG b u d).length)), ps 39 (iv (((lvG b u d).length : Nat) : Int)), ps 40 (iv ((i : Nat) : Int)), pb 0 48 (spans (longer L (Fr.plus (L.getD (L.length - 1) dS).2.2.1 (L.getD (L.length - 1) dS).2.2.2.1 ((lvG b u d).getD i dL).2.1 ((lvG b u d).getD i dL).2.2).1 (Fr.plus (L.getD (L.length - 1) dS).2.2.1 (L.getD (L.length - 1) dS).2.2.2.1 ((lvG b u d).getD i dL).2.1 ((lvG b u d).getD i dL).2.2).2.1)), pb 1 25 [(iv ((Fr.plus a b2 (((lvG b u d).getD i dL).2.1) (((lvG b u d).getD i dL).2.2)).1)), (iv ((Fr.plus a b2 (((lvG b u d).getD i dL).2.1) (((lvG b u d).getD i dL).2.2)).2.1))]]) (obs := []) (by kernel_rfl) (obs_nil) ?_
                    refine T_blk ?_
                    refine T_region [] [ks 9, ks 10, ks 38, ks 39, ks 40, kb 0, kb 1] (fun _ => mixed) (l' := [ps 9 (.osl 0 0 L.length), ps 10 (.opt 1 0), ps 38 (.ssl (lfs (lvG b u d)) 0 ((lvG b u d).length)), ps 39 (iv (((lvG b u d).length : Nat) : Int)), ps 40 (iv (((i : Nat) : Int) + 1)), pb 0 48 (spans (longer L (Fr.plus (L.getD (L.length - 1) dS).2.2.1 (L.getD (L.length - 1) dS).2.2.2.1 ((lvG b u d).getD i dL).2.1 ((lvG b u d).getD i dL).2.2).1 (Fr.plus (L.getD (L.length - 1) dS).2.2.1 (L.getD (L.length - 1) dS).2.2.2.1 ((lvG b u d).getD i dL).2.1 ((lvG b u d).getD i dL).2.2).2.1)), pb 1 25 [(iv ((Fr.plus a b2 (((lvG b u d).getD i dL).2.1) (((lvG b u d).getD i dL).2.2)).1)), (iv ((Fr.plus a b2 (((lvG b u d).getD i dL).2.1) (((lvG b u d).getD i dL).2.2)).2.1))]]) (obs := [InK .i64 (((i : Nat) : Int) + 1)]) (by kernel_rfl) (obs_cons (p := InK .i64 (((i : Nat) : Int) + 1)) (by simp only [InK]; omega) (obs_nil)) ?_
                    have hlf : leafS ((lvG b u d).getD i dL).1 ((lvG b u d).getD i dL).2.1 ((lvG b u d).getD i dL).2.2 L a b2 = (0, longer L (Fr.plus (L.getD (L.length - 1) dS).2.2.1 (L.getD (L.length - 1) dS).2.2.2.1 ((lvG b u d).getD i dL).2.1 ((lvG b u d).getD i dL).2.2).1 (Fr.plus (L.getD (L.length - 1) dS).2.2.1 (L.getD (L.length - 1) dS).2.2.2.1 ((lvG b u d).getD i dL).2.1 ((lvG b u d).getD i dL).2.2).2.1, (Fr.plus a b2 ((lvG b u d).getD i dL).2.1 ((lvG b u d).getD i dL).2.2).1, (Fr.plus a b2 ((lvG b u d).getD i dL).2.1 ((lvG b u d).getD i dL).2.2).2.1) := by unfold leafS; rw [if_pos h6, if_pos ⟨by omega, by omega⟩]; dsimp only; rw [if_pos h9]
                    rw [runL_at (by omega)] at hL
                    dsimp only at hL
                    rw [hlf, if_pos rfl] at hL
                    have hs3 := leaf_st (k := ((lvG b u d).getD i dL).1) hs hrx (by rw [hlf])
                    rw [hlf] at hs3
                    exact T_back ⟨(i + 1, longer L (Fr.plus (L.getD (L.length - 1) dS).2.2.1 (L.getD (L.length - 1) dS).2.2.2.1 ((lvG b u d).getD i dL).2.1 ((lvG b u d).getD i dL).2.2).1 (Fr.plus (L.getD (L.length - 1) dS).2.2.1 (L.getD (L.length - 1) dS).2.2.2.1 ((lvG b u d).getD i dL).2.1 ((lvG b u d).getD i dL).2.2).2.1, (Fr.plus a b2 ((lvG b u d).getD i dL).2.1 ((lvG b u d).getD i dL).2.2).1, (Fr.plus a b2 ((lvG b u d).getD i dL).2.1 ((lvG b u d).getD i dL).2.2).2.1), ⟨by omega, hL, hs3, by show (longer L (Fr.plus (L.getD (L.length - 1) dS).2.2.1 (L.getD (L.length - 1) dS).2.2.2.1 ((lvG b u d).getD i dL).2.1 ((lvG b u d).getD i dL).2.2).1 (Fr.plus (L.getD (L.length - 1) dS).2.2.1 (L.getD (L.length - 1) dS).2.2.2.1 ((lvG b u d).getD i dL).2.1 ((lvG b u d).getD i dL).2.2).2.1).length ≤ i + 1; rw [longer_len]; omega⟩⟩ (Wk.trans (Wk.eq (show [ps 9 (.osl 0 0 L.length), ps 10 (.opt 1 0), ps 38 (.ssl (lfs (lvG b u d)) 0 ((lvG b u d).length)), ps 39 (iv (((lvG b u d).length : Nat) : Int)), ps 40 (iv (((i : Nat) : Int) + 1)), pb 0 48 (spans (longer L (Fr.plus (L.getD (L.length - 1) dS).2.2.1 (L.getD (L.length - 1) dS).2.2.2.1 ((lvG b u d).getD i dL).2.1 ((lvG b u d).getD i dL).2.2).1 (Fr.plus (L.getD (L.length - 1) dS).2.2.1 (L.getD (L.length - 1) dS).2.2.2.1 ((lvG b u d).getD i dL).2.1 ((lvG b u d).getD i dL).2.2).2.1)), pb 1 25 [(iv ((Fr.plus a b2 (((lvG b u d).getD i dL).2.1) (((lvG b u d).getD i dL).2.2)).1)), (iv ((Fr.plus a b2 (((lvG b u d).getD i dL).2.1) (((lvG b u d).getD i dL).2.2)).2.1))]] = [ps 9 (.osl 0 0 ((longer L (Fr.plus (L.getD (L.length - 1) dS).2.2.1 (L.getD (L.length - 1) dS).2.2.2.1 ((lvG b u d).getD i dL).2.1 ((lvG b u d).getD i dL).2.2).1 (Fr.plus (L.getD (L.length - 1) dS).2.2.1 (L.getD (L.length - 1) dS).2.2.2.1 ((lvG b u d).getD i dL).2.1 ((lvG b u d).getD i dL).2.2).2.1).length)), ps 10 (.opt 1 0), ps 38 (.ssl (lfs (lvG b u d)) 0 ((lvG b u d).length)), ps 39 (iv (((lvG b u d).length : Nat) : Int)), ps 40 (iv (((i : Nat) : Int) + 1)), pb 0 48 (spans (longer L (Fr.plus (L.getD (L.length - 1) dS).2.2.1 (L.getD (L.length - 1) dS).2.2.2.1 ((lvG b u d).getD i dL).2.1 ((lvG b u d).getD i dL).2.2).1 (Fr.plus (L.getD (L.length - 1) dS).2.2.1 (L.getD (L.length - 1) dS).2.2.2.1 ((lvG b u d).getD i dL).2.1 ((lvG b u d).getD i dL).2.2).2.1)), pb 1 25 [(iv ((Fr.plus a b2 (((lvG b u d).getD i dL).2.1) (((lvG b u d).getD i dL).2.2)).1)), (iv ((Fr.plus a b2 (((lvG b u d).getD i dL).2.1) (((lvG b u d).getD i dL).2.2)).2.1))]] from by rw [longer_len])) (Wk.ren3 [ps 9 (.osl 0 0 (longer L (Fr.plus (L.getD (L.length - 1) dS).2.2.1 (L.getD (L.length - 1) dS).2.2.2.1 ((lvG b u d).getD i dL).2.1 ((lvG b u d).getD i dL).2.2).1 (Fr.plus (L.getD (L.length - 1) dS).2.2.1 (L.getD (L.length - 1) dS).2.2.2.1 ((lvG b u d).getD i dL).2.1 ((lvG b u d).getD i dL).2.2).2.1).length), ps 10 (.opt 1 0), ps 38 (.ssl (lfs (lvG b u d)) 0 ((lvG b u d).length)), ps 39 (iv (((lvG b u d).length : Nat) : Int)), ps 40 (iv (((i + 1) : Nat) : Int)), pb 0 48 (spans (longer L (Fr.plus (L.getD (L.length - 1) dS).2.2.1 (L.getD (L.length - 1) dS).2.2.2.1 ((lvG b u d).getD i dL).2.1 ((lvG b u d).getD i dL).2.2).1 (Fr.plus (L.getD (L.length - 1) dS).2.2.1 (L.getD (L.length - 1) dS).2.2.2.1 ((lvG b u d).getD i dL).2.1 ((lvG b u d).getD i dL).2.2).2.1)), pb 1 25 [(iv ((Fr.plus a b2 ((lvG b u d).getD i dL).2.1 ((lvG b u d).getD i dL).2.2).1)), (iv ((Fr.plus a b2 ((lvG b u d).getD i dL).2.1 ((lvG b u d).getD i dL).2.2).2.1))]] 0 hc0 [0, 1] [(kb 0, (spans (longer L (Fr.plus (L.getD (L.length - 1) dS).2.2.1 (L.getD (L.length - 1) dS).2.2.2.1 ((lvG b u d).getD i dL).2.1 ((lvG b u d).getD i dL).2.2).1 (Fr.plus (L.getD (L.length - 1) dS).2.2.1 (L.getD (L.length - 1) dS).2.2.2.1 ((lvG b u d).getD i dL).2.1 ((lvG b u d).getD i dL).2.2).2.1)))] (obs_cons (spans_shd _) (obs_nil)) (by kernel_rfl) rfl rfl (by kernel_rfl) (by kernel_rfl))) (show (lvG b u d).length - (i + 1) < (lvG b u d).length - i from by show (lvG b u d).length - (i + 1) < (lvG b u d).length - i; omega)
                  · refine T_then (b := (!(decide (((Fr.plus ((L.getD (L.length - 1) dS).2.2.1) ((L.getD (L.length - 1) dS).2.2.2.1) (((lvG b u d).getD i dL).2.1) (((lvG b u d).getD i dL).2.2)).2.2) = 0)))) rfl (congrArg Bool.not (decide_eq_false h9)) ?_
                    refine T_seq ?_
                    refine T_region [] [ks 4, ks 5] (fun _ => mixed) (l' := [ps 4 (.av (.slice none 0 0)), ps 5 (iv 4)]) (obs := []) (by kernel_rfl) (obs_nil) ?_
                    rw [runL_at (by omega)] at hL
                    dsimp only at hL
                    have hlf : ¬ (leafS ((lvG b u d).getD i dL).1 ((lvG b u d).getD i dL).2.1 ((lvG b u d).getD i dL).2.2 L a b2).1 = 0 := by unfold leafS; rw [if_pos h6, if_pos ⟨by omega, by omega⟩]; dsimp only; rw [if_neg h9]; exact h9
                    rw [if_neg hlf] at hL
                    rw [spansP_ref h1 h2 h3, if_neg h4, if_neg (show ¬ (refR b u d).1 = 0 from by unfold refR; rw [← hL]; exact hlf)]
                    exact T_ret fun cx_ a_ hI_ => loop_ret (ret_ok (H' := []) (.inr rfl) (Wk.ren2 [ps 4 (.av (.slice none 0 0)), ps 5 (iv 4)] 0 hc0 [] rfl rfl (by kernel_rfl) (by kernel_rfl)) rfl (obs_nil) (fun cx_ a_ hI_ => ret_res (l' := [ps 4 (.av (.slice none 0 0)), ps 5 (iv 4)]) (by kernel_rfl) cx_ a_ hI_) hI_)
                · refine T_else (b := (decide (0 < ((L.length : Nat) : Int)))) rfl (decide_eq_false h8) ?_
                  refine T_region [(9, .app none (some (spans (L ++ [(a, b2, (((lvG b u d).getD i dL).2.1), (((lvG b u d).getD i dL).2.2), (decide ((((lvG b u d).getD i dL).1) = 1)))]))))] [ks 9, ks 10, ks 13, ks 38, ks 39, ks 40, kb 1, kb 98, kb 290] (fun _ => mixed) (l' := [ps 9 (.osl 290 0 (L.length + 1)), ps 10 (.opt 1 0), ps 13 (.opt 98 0), ps 38 (.ssl (lfs (lvG b u d)) 0 ((lvG b u d).length)), ps 39 (iv (((lvG b u d).length : Nat) : Int)), ps 40 (iv ((i : Nat) : Int)), pb 1 25 [(iv a), (iv b2)], pb 98 25 [(iv ((Fr.plus a b2 (((lvG b u d).getD i dL).2.1) (((lvG b u d).getD i dL).2.2)).1)), (iv ((Fr.plus a b2 (((lvG b u d).getD i dL).2.1) (((lvG b u d).getD i dL).2.2)).2.1))], pb 290 48 (spans (L ++ [(a, b2, (((lvG b u d).getD i dL).2.1), (((lvG b u d).getD i dL).2.2), (decide ((((lvG b u d).getD i dL).1) = 1)))]))]) (obs := [((spans L)).length = L.length * 5, (L.length + 1) * 40 ≤ 140737488355328 ∧ L.length + 1 ≤ 9223372036854775807, (spans L) ++ [(iv a), (iv b2), (iv (((lvG b u d).getD i dL).2.1)), (iv (((lvG b u d).getD i dL).2.2)), (bv (decide ((((lvG b u d).getD i dL).1) = 1)))] = (spans (L ++ [(a, b2, (((lvG b u d).getD i dL).2.1), (((lvG b u d).getD i dL).2.2), (decide ((((lvG b u d).getD i dL).1) = 1)))]))]) (by kernel_rfl) (obs_cons (p := ((spans L)).length = L.length * 5) (spans_len _) (obs_cons (p := (L.length + 1) * 40 ≤ 140737488355328 ∧ L.length + 1 ≤ 9223372036854775807) (by omega) (obs_cons (p := (spans L) ++ [(iv a), (iv b2), (iv (((lvG b u d).getD i dL).2.1)), (iv (((lvG b u d).getD i dL).2.2)), (bv (decide ((((lvG b u d).getD i dL).1) = 1)))] = (spans (L ++ [(a, b2, (((lvG b u d).getD i dL).2.1), (((lvG b u d).getD i dL).2.2), (decide ((((lvG b u d).getD i dL).1) = 1)))]))) (flat_app spC L [(a, b2, (((lvG b u d).getD i dL).2.1), (((lvG b u d).getD i dL).2.2), (decide ((((lvG b u d).getD i dL).1) = 1)))]).symm (obs_nil)))) ?_
                  refine T_region [] [ks 9, ks 10, ks 38, ks 39, ks 40, kb 1, kb 290] (fun _ => mixed) (l' := [ps 9 (.osl 290 0 (L.length + 1)), ps 10 (.opt 1 0), ps 38 (.ssl (lfs (lvG b u d)) 0 ((lvG b u d).length)), ps 39 (iv (((lvG b u d).length : Nat) : Int)), ps 40 (iv ((i : Nat) : Int)), pb 1 25 [(iv ((Fr.plus a b2 (((lvG b u d).getD i dL).2.1) (((lvG b u d).getD i dL).2.2)).1)), (iv ((Fr.plus a b2 (((lvG b u d).getD i dL).2.1) (((lvG b u d).getD i dL).2.2)).2.1))], pb 290 48 (spans (L ++ [(a, b2, (((lvG b u d).getD i dL).2.1), (((lvG b u d).getD i dL).2.2), (decide ((((lvG b u d).getD i dL).1) = 1)))]))]) (obs := []) (by kernel_rfl) (obs_nil) ?_
                  refine T_blk ?_
                  refine T_region [] [ks 9, ks 10, ks 38, ks 39, ks 40, kb 1, kb 290] (fun _ => mixed) (l' := [ps 9 (.osl 290 0 (L.length + 1)), ps 10 (.opt 1 0), ps 38 (.ssl (lfs (lvG b u d)) 0 ((lvG b u d).length)), ps 39 (iv (((lvG b u d).length : Nat) : Int)), ps 40 (iv (((i : Nat) : Int) + 1)), pb 1 25 [(iv ((Fr.plus a b2 (((lvG b u d).getD i dL).2.1) (((lvG b u d).getD i dL).2.2)).1)), (iv ((Fr.plus a b2 (((lvG b u d).getD i dL).2.1) (((lvG b u d).getD i dL).2.2)).2.1))], pb 290 48 (spans (L ++ [(a, b2, (((lvG b u d).getD i dL).2.1), (((lvG b u d).getD i dL).2.2), (decide ((((lvG b u d).getD i dL).1) = 1)))]))]) (obs := [InK .i64 (((i : Nat) : Int) + 1)]) (by kernel_rfl) (obs_cons (p := InK .i64 (((i : Nat) : Int) + 1)) (by simp only [InK]; omega) (obs_nil)) ?_
                  have hlf : leafS ((lvG b u d).getD i dL).1 ((lvG b u d).getD i dL).2.1 ((lvG b u d).getD i dL).2.2 L a b2 = (0, L ++ [(a, b2, (((lvG b u d).getD i dL).2.1), (((lvG b u d).getD i dL).2.2), (decide ((((lvG b u d).getD i dL).1) = 1)))], (Fr.plus a b2 ((lvG b u d).getD i dL).2.1 ((lvG b u d).getD i dL).2.2).1, (Fr.plus a b2 ((lvG b u d).getD i dL).2.1 ((lvG b u d).getD i dL).2.2).2.1) := by unfold leafS; rw [if_pos h6, if_neg (by omega)]
                  rw [runL_at (by omega)] at hL
                  dsimp only at hL
                  rw [hlf, if_pos rfl] at hL
                  have hs3 := leaf_st (k := ((lvG b u d).getD i dL).1) hs hrx (by rw [hlf])
                  rw [hlf] at hs3
                  exact T_back ⟨(i + 1, L ++ [(a, b2, (((lvG b u d).getD i dL).2.1), (((lvG b u d).getD i dL).2.2), (decide ((((lvG b u d).getD i dL).1) = 1)))], (Fr.plus a b2 ((lvG b u d).getD i dL).2.1 ((lvG b u d).getD i dL).2.2).1, (Fr.plus a b2 ((lvG b u d).getD i dL).2.1 ((lvG b u d).getD i dL).2.2).2.1), ⟨by omega, hL, hs3, by show (L ++ [(a, b2, (((lvG b u d).getD i dL).2.1), (((lvG b u d).getD i dL).2.2), (decide ((((lvG b u d).getD i dL).1) = 1)))]).length ≤ i + 1; rw [snoc_len]; omega⟩⟩ (Wk.trans (Wk.eq (show [ps 9 (.osl 290 0 (L.length + 1)), ps 10 (.opt 1 0), ps 38 (.ssl (lfs (lvG b u d)) 0 ((lvG b u d).length)), ps 39 (iv (((lvG b u d).length : Nat) : Int)), ps 40 (iv (((i : Nat) : Int) + 1)), pb 1 25 [(iv ((Fr.plus a b2 (((lvG b u d).getD i dL).2.1) (((lvG b u d).getD i dL).2.2)).1)), (iv ((Fr.plus a b2 (((lvG b u d).getD i dL).2.1) (((lvG b u d).getD i dL).2.2)).2.1))], pb 290 48 (spans (L ++ [(a, b2, (((lvG b u d).getD i dL).2.1), (((lvG b u d).getD i dL).2.2), (decide ((((lvG b u d).getD i dL).1) = 1)))]))] = [ps 9 (.osl 290 0 ((L ++ [(a, b2, (((lvG b u d).getD i dL).2.1), (((lvG b u d).getD i dL).2.2), (decide ((((lvG b u d).getD i dL).1) = 1)))]).length)), ps 10 (.opt 1 0), ps 38 (.ssl (lfs (lvG b u d)) 0 ((lvG b u d).length)), ps 39 (iv (((lvG b u d).length : Nat) : Int)), ps 40 (iv (((i : Nat) : Int) + 1)), pb 1 25 [(iv ((Fr.plus a b2 (((lvG b u d).getD i dL).2.1) (((lvG b u d).getD i dL).2.2)).1)), (iv ((Fr.plus a b2 (((lvG b u d).getD i dL).2.1) (((lvG b u d).getD i dL).2.2)).2.1))], pb 290 48 (spans (L ++ [(a, b2, (((lvG b u d).getD i dL).2.1), (((lvG b u d).getD i dL).2.2), (decide ((((lvG b u d).getD i dL).1) = 1)))]))] from by rw [snoc_len])) (Wk.ren3 [ps 9 (.osl 0 0 (L ++ [(a, b2, (((lvG b u d).getD i dL).2.1), (((lvG b u d).getD i dL).2.2), (decide ((((lvG b u d).getD i dL).1) = 1)))]).length), ps 10 (.opt 1 0), ps 38 (.ssl (lfs (lvG b u d)) 0 ((lvG b u d).length)), ps 39 (iv (((lvG b u d).length : Nat) : Int)), ps 40 (iv (((i + 1) : Nat) : Int)), pb 0 48 (spans (L ++ [(a, b2, (((lvG b u d).getD i dL).2.1), (((lvG b u d).getD i dL).2.2), (decide ((((lvG b u d).getD i dL).1) = 1)))])), pb 1 25 [(iv ((Fr.plus a b2 ((lvG b u d).getD i dL).2.1 ((lvG b u d).getD i dL).2.2).1)), (iv ((Fr.plus a b2 ((lvG b u d).getD i dL).2.1 ((lvG b u d).getD i dL).2.2).2.1))]] 0 hc0 [290, 1] [(kb 0, (spans (L ++ [(a, b2, (((lvG b u d).getD i dL).2.1), (((lvG b u d).getD i dL).2.2), (decide ((((lvG b u d).getD i dL).1) = 1)))])))] (obs_cons (spans_shd _) (obs_nil)) (by kernel_rfl) rfl rfl (by kernel_rfl) (by kernel_rfl))) (show (lvG b u d).length - (i + 1) < (lvG b u d).length - i from by show (lvG b u d).length - (i + 1) < (lvG b u d).length - i; omega)
              · refine T_region [(4, .gd false .no), (5, .gd false .no), (6, .yes false)] [ks 9, ks 10, ks 12, ks 13, ks 15, ks 38, ks 39, ks 40, ks 61, kb 0, kb 1, kb 26, kb 98] (fun _ => mixed) (l' := [ps 9 (.osl 0 0 L.length), ps 10 (.opt 1 0), ps 12 (.opt 26 0), ps 13 (.opt 98 0), ps 15 (iv ((L.length : Nat) : Int)), ps 38 (.ssl (lfs (lvG b u d)) 0 ((lvG b u d).length)), ps 39 (iv (((lvG b u d).length : Nat) : Int)), ps 40 (iv ((i : Nat) : Int)), ps 61 (bv false), pb 0 48 (spans L), pb 1 25 [(iv a), (iv b2)], pb 26 68 [(iv (((lvG b u d).getD i dL).1)), (iv (((lvG b u d).getD i dL).2.1)), (iv (((lvG b u d).getD i dL).2.2))], pb 98 25 [(iv ((Fr.plus a b2 (((lvG b u d).getD i dL).2.1) (((lvG b u d).getD i dL).2.2)).1)), (iv ((Fr.plus a b2 (((lvG b u d).getD i dL).2.1) (((lvG b u d).getD i dL).2.2)).2.1))]]) (obs := [(decide ((((lvG b u d).getD i dL).1) = 3)) = false, (decide ((((lvG b u d).getD i dL).1) = 3)) = false, (decide ((((lvG b u d).getD i dL).1) = 3)) = false]) (by kernel_rfl) (obs_cons (p := (decide ((((lvG b u d).getD i dL).1) = 3)) = false) (decide_eq_false h7) (obs_cons (p := (decide ((((lvG b u d).getD i dL).1) = 3)) = false) (decide_eq_false h7) (obs_cons (p := (decide ((((lvG b u d).getD i dL).1) = 3)) = false) (decide_eq_false h7) (obs_nil)))) ?_
                refine T_else (b := false) rfl rfl ?_
                refine T_region [(9, .app none (some (spans (L ++ [(a, b2, (((lvG b u d).getD i dL).2.1), (((lvG b u d).getD i dL).2.2), (decide ((((lvG b u d).getD i dL).1) = 1)))]))))] [ks 9, ks 10, ks 13, ks 38, ks 39, ks 40, kb 1, kb 98, kb 290] (fun _ => mixed) (l' := [ps 9 (.osl 290 0 (L.length + 1)), ps 10 (.opt 1 0), ps 13 (.opt 98 0), ps 38 (.ssl (lfs (lvG b u d)) 0 ((lvG b u d).length)), ps 39 (iv (((lvG b u d).length : Nat) : Int)), ps 40 (iv ((i : Nat) : Int)), pb 1 25 [(iv a), (iv b2)], pb 98 25 [(iv ((Fr.plus a b2 (((lvG b u d).getD i dL).2.1) (((lvG b u d).getD i dL).2.2)).1)), (iv ((Fr.plus a b2 (((lvG b u d).getD i dL).2.1) (((lvG b u d).getD i dL).2.2)).2.1))], pb 290 48 (spans (L ++ [(a, b2, (((lvG b u d).getD i dL).2.1), (((lvG b u d).getD i dL).2.2), (decide ((((lvG b u d).getD i dL).1) = 1)))]))]) (obs := [((spans L)).length = L.length * 5, (L.length + 1) * 40 ≤ 140737488355328 ∧ L.length + 1 ≤ 9223372036854775807, (spans L) ++ [(iv a), (iv b2), (iv (((lvG b u d).getD i dL).2.1)), (iv (((lvG b u d).getD i dL).2.2)), (bv (decide ((((lvG b u d).getD i dL).1) = 1)))] = (spans (L ++ [(a, b2, (((lvG b u d).getD i dL).2.1), (((lvG b u d).getD i dL).2.2), (decide ((((lvG b u d).getD i dL).1) = 1)))]))]) (by kernel_rfl) (obs_cons (p := ((spans L)).length = L.length * 5) (spans_len _) (obs_cons (p := (L.length + 1) * 40 ≤ 140737488355328 ∧ L.length + 1 ≤ 9223372036854775807) (by omega) (obs_cons (p := (spans L) ++ [(iv a), (iv b2), (iv (((lvG b u d).getD i dL).2.1)), (iv (((lvG b u d).getD i dL).2.2)), (bv (decide ((((lvG b u d).getD i dL).1) = 1)))] = (spans (L ++ [(a, b2, (((lvG b u d).getD i dL).2.1), (((lvG b u d).getD i dL).2.2), (decide ((((lvG b u d).getD i dL).1) = 1)))]))) (flat_app spC L [(a, b2, (((lvG b u d).getD i dL).2.1), (((lvG b u d).getD i dL).2.2), (decide ((((lvG b u d).getD i dL).1) = 1)))]).symm (obs_nil)))) ?_
                refine T_region [] [ks 9, ks 10, ks 38, ks 39, ks 40, kb 1, kb 290] (fun _ => mixed) (l' := [ps 9 (.osl 290 0 (L.length + 1)), ps 10 (.opt 1 0), ps 38 (.ssl (lfs (lvG b u d)) 0 ((lvG b u d).length)), ps 39 (iv (((lvG b u d).length : Nat) : Int)), ps 40 (iv ((i : Nat) : Int)), pb 1 25 [(iv ((Fr.plus a b2 (((lvG b u d).getD i dL).2.1) (((lvG b u d).getD i dL).2.2)).1)), (iv ((Fr.plus a b2 (((lvG b u d).getD i dL).2.1) (((lvG b u d).getD i dL).2.2)).2.1))], pb 290 48 (spans (L ++ [(a, b2, (((lvG b u d).getD i dL).2.1), (((lvG b u d).getD i dL).2.2), (decide ((((lvG b u d).getD i dL).1) = 1)))]))]) (obs := []) (by kernel_rfl) (obs_nil) ?_
                refine T_blk ?_
                refine T_region [] [ks 9, ks 10, ks 38, ks 39, ks 40, kb 1, kb 290] (fun _ => mixed) (l' := [ps 9 (.osl 290 0 (L.length + 1)), ps 10 (.opt 1 0), ps 38 (.ssl (lfs (lvG b u d)) 0 ((lvG b u d).length)), ps 39 (iv (((lvG b u d).length : Nat) : Int)), ps 40 (iv (((i : Nat) : Int) + 1)), pb 1 25 [(iv ((Fr.plus a b2 (((lvG b u d).getD i dL).2.1) (((lvG b u d).getD i dL).2.2)).1)), (iv ((Fr.plus a b2 (((lvG b u d).getD i dL).2.1) (((lvG b u d).getD i dL).2.2)).2.1))], pb 290 48 (spans (L ++ [(a, b2, (((lvG b u d).getD i dL).2.1), (((lvG b u d).getD i dL).2.2), (decide ((((lvG b u d).getD i dL).1) = 1)))]))]) (obs := [InK .i64 (((i : Nat) : Int) + 1)]) (by kernel_rfl) (obs_cons (p := InK .i64 (((i : Nat) : Int) + 1)) (by simp only [InK]; omega) (obs_nil)) ?_
                have hlf : leafS ((lvG b u d).getD i dL).1 ((lvG b u d).getD i dL).2.1 ((lvG b u d).getD i dL).2.2 L a b2 = (0, L ++ [(a, b2, (((lvG b u d).getD i dL).2.1), (((lvG b u d).getD i dL).2.2), (decide ((((lvG b u d).getD i dL).1) = 1)))], (Fr.plus a b2 ((lvG b u d).getD i dL).2.1 ((lvG b u d).getD i dL).2.2).1, (Fr.plus a b2 ((lvG b u d).getD i dL).2.1 ((lvG b u d).getD i dL).2.2).2.1) := by unfold leafS; rw [if_pos h6, if_neg (by omega)]
                rw [runL_at (by omega)] at hL
                dsimp only at hL
                rw [hlf, if_pos rfl] at hL
                have hs3 := leaf_st (k := ((lvG b u d).getD i dL).1) hs hrx (by rw [hlf])
                rw [hlf] at hs3
                exact T_back ⟨(i + 1, L ++ [(a, b2, (((lvG b u d).getD i dL).2.1), (((lvG b u d).getD i dL).2.2), (decide ((((lvG b u d).getD i dL).1) = 1)))], (Fr.plus a b2 ((lvG b u d).getD i dL).2.1 ((lvG b u d).getD i dL).2.2).1, (Fr.plus a b2 ((lvG b u d).getD i dL).2.1 ((lvG b u d).getD i dL).2.2).2.1), ⟨by omega, hL, hs3, by show (L ++ [(a, b2, (((lvG b u d).getD i dL).2.1), (((lvG b u d).getD i dL).2.2), (decide ((((lvG b u d).getD i dL).1) = 1)))]).length ≤ i + 1; rw [snoc_len]; omega⟩⟩ (Wk.trans (Wk.eq (show [ps 9 (.osl 290 0 (L.length + 1)), ps 10 (.opt 1 0), ps 38 (.ssl (lfs (lvG b u d)) 0 ((lvG b u d).length)), ps 39 (iv (((lvG b u d).length : Nat) : Int)), ps 40 (iv (((i : Nat) : Int) + 1)), pb 1 25 [(iv ((Fr.plus a b2 (((lvG b u d).getD i dL).2.1) (((lvG b u d).getD i dL).2.2)).1)), (iv ((Fr.plus a b2 (((lvG b u d).getD i dL).2.1) (((lvG b u d).getD i dL).2.2)).2.1))], pb 290 48 (spans (L ++ [(a, b2, (((lvG b u d).getD i dL).2.1), (((lvG b u d).getD i dL).2.2), (decide ((((lvG b u d).getD i dL).1) = 1)))]))] = [ps 9 (.osl 290 0 ((L ++ [(a, b2, (((lvG b u d).getD i dL).2.1), (((lvG b u d).getD i dL).2.2), (decide ((((lvG b u d).getD i dL).1) = 1)))]).length)), ps 10 (.opt 1 0), ps 38 (.ssl (lfs (lvG b u d)) 0 ((lvG b u d).length)), ps 39 (iv (((lvG b u d).length : Nat) : Int)), ps 40 (iv (((i : Nat) : Int) + 1)), pb 1 25 [(iv ((Fr.plus a b2 (((lvG b u d).getD i dL).2.1) (((lvG b u d).getD i dL).2.2)).1)), (iv ((Fr.plus a b2 (((lvG b u d).getD i dL).2.1) (((lvG b u d).getD i dL).2.2)).2.1))], pb 290 48 (spans (L ++ [(a, b2, (((lvG b u d).getD i dL).2.1), (((lvG b u d).getD i dL).2.2), (decide ((((lvG b u d).getD i dL).1) = 1)))]))] from by rw [snoc_len])) (Wk.ren3 [ps 9 (.osl 0 0 (L ++ [(a, b2, (((lvG b u d).getD i dL).2.1), (((lvG b u d).getD i dL).2.2), (decide ((((lvG b u d).getD i dL).1) = 1)))]).length), ps 10 (.opt 1 0), ps 38 (.ssl (lfs (lvG b u d)) 0 ((lvG b u d).length)), ps 39 (iv (((lvG b u d).length : Nat) : Int)), ps 40 (iv (((i + 1) : Nat) : Int)), pb 0 48 (spans (L ++ [(a, b2, (((lvG b u d).getD i dL).2.1), (((lvG b u d).getD i dL).2.2), (decide ((((lvG b u d).getD i dL).1) = 1)))])), pb 1 25 [(iv ((Fr.plus a b2 ((lvG b u d).getD i dL).2.1 ((lvG b u d).getD i dL).2.2).1)), (iv ((Fr.plus a b2 ((lvG b u d).getD i dL).2.1 ((lvG b u d).getD i dL).2.2).2.1))]] 0 hc0 [290, 1] [(kb 0, (spans (L ++ [(a, b2, (((lvG b u d).getD i dL).2.1), (((lvG b u d).getD i dL).2.2), (decide ((((lvG b u d).getD i dL).1) = 1)))])))] (obs_cons (spans_shd _) (obs_nil)) (by kernel_rfl) rfl rfl (by kernel_rfl) (by kernel_rfl))) (show (lvG b u d).length - (i + 1) < (lvG b u d).length - i from by show (lvG b u d).length - (i + 1) < (lvG b u d).length - i; omega)
            · refine T_then (b := (!(decide (((Fr.plus a b2 (((lvG b u d).getD i dL).2.1) (((lvG b u d).getD i dL).2.2)).2.2) = 0)))) rfl (congrArg Bool.not (decide_eq_false h6)) ?_
              refine T_seq ?_
              refine T_region [] [ks 4, ks 5] (fun _ => mixed) (l' := [ps 4 (.av (.slice none 0 0)), ps 5 (iv 4)]) (obs := []) (by kernel_rfl) (obs_nil) ?_
              rw [runL_at (by omega)] at hL
              dsimp only at hL
              have hlf : ¬ (leafS ((lvG b u d).getD i dL).1 ((lvG b u d).getD i dL).2.1 ((lvG b u d).getD i dL).2.2 L a b2).1 = 0 := by unfold leafS; rw [if_neg h6]; exact h6
              rw [if_neg hlf] at hL
              rw [spansP_ref h1 h2 h3, if_neg h4, if_neg (show ¬ (refR b u d).1 = 0 from by unfold refR; rw [← hL]; exact hlf)]
              exact T_ret fun cx_ a_ hI_ => loop_ret (ret_ok (H' := []) (.inr rfl) (Wk.ren2 [ps 4 (.av (.slice none 0 0)), ps 5 (iv 4)] 0 hc0 [] rfl rfl (by kernel_rfl) (by kernel_rfl)) rfl (obs_nil) (fun cx_ a_ hI_ => ret_res (l' := [ps 4 (.av (.slice none 0 0)), ps 5 (iv 4)]) (by kernel_rfl) cx_ a_ hI_) hI_)
          · refine T_else (b := (decide (((i : Nat) : Int) < (((lvG b u d).length : Nat) : Int)))) rfl (decide_eq_false h5) ?_
            refine T_break rfl rfl ?_
            refine T_seq ?_
            refine T_region [] [ks 4, ks 5, kb 0] (fun _ => mixed) (l' := [ps 4 (.osl 0 0 L.length), ps 5 (iv 0), pb 0 48 (spans L)]) (obs := []) (by kernel_rfl) (obs_nil) ?_
            obtain rfl : i = (lvG b u d).length := by omega
            rw [List.drop_length, runL] at hL
            have hR2 : refR b u d = (0, L, a, b2) := hL.symm
            rw [spansP_ref h1 h2 h3, if_neg h4, hR2, if_pos rfl]
            refine T_wk (Wk.frz (l' := [ps 4 (.ssl (spans L) 0 L.length), ps 5 (iv 0), (kb 0, none)]) 0 (T := 48) (cs := (spans L)) (by kernel_rfl) (spans_shd _) (by kernel_rfl)) ?_
            refine T_wk (Wk.less (l' := [ps 4 (.ssl (spans L) 0 L.length), ps 5 (iv 0)]) 34 (by kernel_rfl) (by kernel_rfl)) ?_
            exact T_ret fun cx_ a_ hI_ => ret_ok (H' := []) (.inr rfl) (Wk.ren2 [ps 4 (.ssl (spans L) 0 L.length), ps 5 (iv 0)] 0 hc0 [] rfl rfl (by kernel_rfl) (by kernel_rfl)) rfl (obs_nil) (fun cx_ a_ hI_ => ret_res (l' := [ps 4 (.ssl (spans L) 0 L.length), ps 5 (iv 0)]) (by kernel_rfl) cx_ a_ hI_) hI_
    · refine T_then (b := (!(Fr.rightB u d))) rfl (congrArg Bool.not (Bool.eq_false_iff.2 h2)) ?_
      refine T_seq ?_
      refine T_region [] [ks 4, ks 5] (fun _ => mixed) (l' := [ps 4 (.av (.slice none 0 0)), ps 5 (iv 2)]) (obs := []) (by kernel_rfl) (obs_nil) ?_
      rw [spansP_no (show spansE b u d = 2 from by unfold spansE; rw [if_pos h1, if_neg h2]) (by decide)]
      exact T_ret fun cx_ a_ hI_ => ret_ok (H' := []) (.inr rfl) (Wk.ren2 [ps 4 (.av (.slice none 0 0)), ps 5 (iv 2)] 0 hc0 [] rfl rfl (by kernel_rfl) (by kernel_rfl)) rfl (obs_nil) (fun cx_ a_ hI_ => ret_res (l' := [ps 4 (.av (.slice none 0 0)), ps 5 (iv 2)]) (by kernel_rfl) cx_ a_ hI_) hI_
  · refine T_then (b := (!(decide ((wrongE b) = 0)))) rfl (congrArg Bool.not (decide_eq_false h1)) ?_
    refine T_seq ?_
    refine T_region [] [ks 4, ks 5] (fun _ => mixed) (l' := [ps 4 (.av (.slice none 0 0)), ps 5 (iv (wrongE b))]) (obs := []) (by kernel_rfl) (obs_nil) ?_
    rw [spansP_no (show spansE b u d = wrongE b from by unfold spansE; rw [if_neg h1]) h1]
    exact T_ret fun cx_ a_ hI_ => ret_ok (H' := []) (.inr rfl) (Wk.ren2 [ps 4 (.av (.slice none 0 0)), ps 5 (iv (wrongE b))] 0 hc0 [] rfl rfl (by kernel_rfl) (by kernel_rfl)) rfl (obs_nil) (fun cx_ a_ hI_ => ret_res (l' := [ps 4 (.av (.slice none 0 0)), ps 5 (iv (wrongE b))]) (by kernel_rfl) cx_ a_ hI_) hI_
theorem same_spans (l : List Sp) (hl : l.length ≤ 9223372036854775807) : PC Try.prog 19 [(.ssl (spans l) 0 l.length), (.ssl (spans l) 0 l.length)] [] (bv true) [] := by
  refine pc_intro Try.func19 rfl (by kernel_rfl) (Nat.le_of_ble_eq_true rfl) (by kernel_rfl) (l0 := [ps 0 (.ssl (spans l) 0 l.length), ps 1 (.ssl (spans l) 0 l.length)]) rfl (fun c0 Bor hc0 => ?_)
  refine T_seq ?_
  refine T_region [] [ks 0, ks 1] (fun _ => mixed) (l' := [ps 0 (.ssl (spans l) 0 l.length), ps 1 (.ssl (spans l) 0 l.length)]) (obs := []) (by kernel_rfl) (obs_nil) ?_
  refine T_seq ?_
  refine T_seq ?_
  refine T_region [] [ks 0, ks 1, ks 10] (fun _ => mixed) (l' := [ps 0 (.ssl (spans l) 0 l.length), ps 1 (.ssl (spans l) 0 l.length), ps 10 (bv (!(decide (((l.length : Nat) : Int) = ((l.length : Nat) : Int)))))]) (obs := []) (by kernel_rfl) (obs_nil) ?_
  have h1 : ((l.length : Nat) : Int) = ((l.length : Nat) : Int) := rfl
  refine T_else (b := (!(decide (((l.length : Nat) : Int) = ((l.length : Nat) : Int))))) rfl (congrArg Bool.not (decide_eq_true h1)) ?_
  refine T_skip ?_
  refine T_seq ?_
  refine T_seq ?_
  refine T_region [] [ks 0, ks 1, ks 12, ks 13] (fun _ => mixed) (l' := [ps 0 (.ssl (spans l) 0 l.length), ps 1 (.ssl (spans l) 0 l.length), ps 12 (iv ((l.length : Nat) : Int)), ps 13 (iv 0)]) (obs := []) (by kernel_rfl) (obs_nil) ?_
  refine T_block ?_
  refine T_loop (α := {x : Nat // x ≤ l.length}) (fun x => [ps 0 (.ssl (spans l) 0 l.length), ps 1 (.ssl (spans l) 0 l.length), ps 12 (iv ((l.length : Nat) : Int)), ps 13 (iv ((x.1 : Nat) : Int))]) (fun x => l.length - x.1) 0 ⟨0, Nat.zero_le _⟩ (Wk.ren2 [ps 0 (.ssl (spans l) 0 l.length), ps 1 (.ssl (spans l) 0 l.length), ps 12 (iv ((l.length : Nat) : Int)), ps 13 (iv ((0 : Nat) : Int))] 0 hc0 [] rfl rfl (by kernel_rfl) (by kernel_rfl)) ?_
  rintro ⟨i, hi⟩
  refine T_seq ?_
  refine T_region [] [ks 0, ks 1, ks 12, ks 13, ks 14] (fun _ => mixed) (l' := [ps 0 (.ssl (spans l) 0 l.length), ps 1 (.ssl (spans l) 0 l.length), ps 12 (iv ((l.length : Nat) : Int)), ps 13 (iv ((i : Nat) : Int)), ps 14 (bv (decide (((i : Nat) : Int) < ((l.length : Nat) : Int))))]) (obs := []) (by kernel_rfl) (obs_nil) ?_
  refine T_seq ?_
  by_cases h2 : ((i : Nat) : Int) < ((l.length : Nat) : Int)
  · refine T_then (b := (decide (((i : Nat) : Int) < ((l.length : Nat) : Int)))) rfl (decide_eq_true h2) ?_
    refine T_skip ?_
    refine T_seq ?_
    refine T_block ?_
    refine T_seq ?_
    refine T_region [] [ks 0, ks 1, ks 5, ks 12, ks 13] (fun _ => mixed) (l' := [ps 0 (.ssl (spans l) 0 l.length), ps 1 (.ssl (spans l) 0 l.length), ps 5 (iv ((i : Nat) : Int)), ps 12 (iv ((l.length : Nat) : Int)), ps 13 (iv ((i : Nat) : Int))]) (obs := []) (by kernel_rfl) (obs_nil) ?_
    refine T_seq ?_
    refine T_region [(2, .nat (i * 5)), (3, .cells [(iv ((l.getD i dS).1)), (iv ((l.getD i dS).2.1)), (iv ((l.getD i dS).2.2.1)), (iv ((l.getD i dS).2.2.2.1)), (bv (l.getD i dS).2.2.2.2)]), (6, .nat (i * 5)), (7, .cells [(iv ((l.getD i dS).1)), (iv ((l.getD i dS).2.1)), (iv ((l.getD i dS).2.2.1)), (iv ((l.getD i dS).2.2.2.1)), (bv (l.getD i dS).2.2.2.2)])] [ks 0, ks 1, ks 12, ks 13, ks 24] (fun _ => mixed) (l' := [ps 0 (.ssl (spans l) 0 l.length), ps 1 (.ssl (spans l) 0 l.length), ps 12 (iv ((l.length : Nat) : Int)), ps 13 (iv ((i : Nat) : Int)), ps 24 (bv (!(((decide (((l.getD i dS).1) = ((l.getD i dS).1))) && (decide (((l.getD i dS).2.1) = ((l.getD i dS).2.1)))) && (((decide (((l.getD i dS).2.2.1) = ((l.getD i dS).2.2.1))) && (decide (((l.getD i dS).2.2.2.1) = ((l.getD i dS).2.2.2.1)))) && ((l.getD i dS).2.2.2.2 == (l.getD i dS).2.2.2.2)))))]) (obs := [(0 : Int) ≤ ((i : Nat) : Int) ∧ ((i : Nat) : Int) < ((l.length : Nat) : Int), 0 + (((i : Nat) : Int) : Int).toNat * 5 = (i * 5), (i * 5) + 5 ≤ ((spans l)).length ∧ (((spans l)).drop (i * 5)).take 5 = [(iv ((l.getD i dS).1)), (iv ((l.getD i dS).2.1)), (iv ((l.getD i dS).2.2.1)), (iv ((l.getD i dS).2.2.2.1)), (bv (l.getD i dS).2.2.2.2)], (0 : Int) ≤ ((i : Nat) : Int) ∧ ((i : Nat) : Int) < ((l.length : Nat) : Int), 0 + (((i : Nat) : Int) : Int).toNat * 5 = (i * 5), (i * 5) + 5 ≤ ((spans l)).length ∧ (((spans l)).drop (i * 5)).take 5 = [(iv ((l.getD i dS).1)), (iv ((l.getD i dS).2.1)), (iv ((l.getD i dS).2.2.1)), (iv ((l.getD i dS).2.2.2.1)), (bv (l.getD i dS).2.2.2.2)]]) (by kernel_rfl) (obs_cons (p := (0 : Int) ≤ ((i : Nat) : Int) ∧ ((i : Nat) : Int) < ((l.length : Nat) : Int)) (by omega) (obs_cons (p := 0 + (((i : Nat) : Int) : Int).toNat * 5 = (i * 5)) (by omega) (obs_cons (p := (i * 5) + 5 ≤ ((spans l)).length ∧ (((spans l)).drop (i * 5)).take 5 = [(iv ((l.getD i dS).1)), (iv ((l.getD i dS).2.1)), (iv ((l.getD i dS).2.2.1)), (iv ((l.getD i dS).2.2.2.1)), (bv (l.getD i dS).2.2.2.2)]) (flat_at spC 5 (fun _ => rfl) dS l i 0 5 (by omega) (by decide)) (obs_cons (p := (0 : Int) ≤ ((i : Nat) : Int) ∧ ((i : Nat) : Int) < ((l.length : Nat) : Int)) (by omega) (obs_cons (p := 0 + (((i : Nat) : Int) : Int).toNat * 5 = (i * 5)) (by omega) (obs_cons (p := (i * 5) + 5 ≤ ((spans l)).length ∧ (((spans l)).drop (i * 5)).take 5 = [(iv ((l.getD i dS).1)), (iv ((l.getD i dS).2.1)), (iv ((l.getD i dS).2.2.1)), (iv ((l.getD i dS).2.2.2.1)), (bv (l.getD i dS).2.2.2.2)]) (flat_at spC 5 (fun _ => rfl) dS l i 0 5 (by omega) (by decide)) (obs_nil))))))) ?_
    have h3 : (((decide (((l.getD i dS).1) = ((l.getD i dS).1))) && (decide (((l.getD i dS).2.1) = ((l.getD i dS).2.1)))) && (((decide (((l.getD i dS).2.2.1) = ((l.getD i dS).2.2.1))) && (decide (((l.getD i dS).2.2.2.1) = ((l.getD i dS).2.2.2.1)))) && ((l.getD i dS).2.2.2.2 == (l.getD i dS).2.2.2.2))) = true := by simp
    refine T_else (b := (!(((decide (((l.getD i dS).1) = ((l.getD i dS).1))) && (decide (((l.getD i dS).2.1) = ((l.getD i dS).2.1)))) && (((decide (((l.getD i dS).2.2.1) = ((l.getD i dS).2.2.1))) && (decide (((l.getD i dS).2.2.2.1) = ((l.getD i dS).2.2.2.1)))) && ((l.getD i dS).2.2.2.2 == (l.getD i dS).2.2.2.2))))) rfl (congrArg Bool.not h3) ?_
    refine T_skip ?_
    refine T_blk ?_
    refine T_region [] [ks 0, ks 1, ks 12, ks 13] (fun _ => mixed) (l' := [ps 0 (.ssl (spans l) 0 l.length), ps 1 (.ssl (spans l) 0 l.length), ps 12 (iv ((l.length : Nat) : Int)), ps 13 (iv (((i : Nat) : Int) + 1))]) (obs := [InK .i64 (((i : Nat) : Int) + 1)]) (by kernel_rfl) (obs_cons (p := InK .i64 (((i : Nat) : Int) + 1)) (by simp only [InK]; omega) (obs_nil)) ?_
    exact T_back ⟨i + 1, by omega⟩ (Wk.ren2 [ps 0 (.ssl (spans l) 0 l.length), ps 1 (.ssl (spans l) 0 l.length), ps 12 (iv ((l.length : Nat) : Int)), ps 13 (iv (((i + 1) : Nat) : Int))] 0 hc0 [] rfl rfl (by kernel_rfl) (by kernel_rfl)) (show l.length - (i + 1) < l.length - i from by omega)
  · refine T_else (b := (decide (((i : Nat) : Int) < ((l.length : Nat) : Int)))) rfl (decide_eq_false h2) ?_
    refine T_break rfl rfl ?_
    refine T_seq ?_
    refine T_region [] [ks 4] (fun _ => mixed) (l' := [ps 4 (bv true)]) (obs := []) (by kernel_rfl) (obs_nil) ?_
    exact T_ret fun cx_ a_ hI_ => ret_ok (H' := []) (.inr rfl) (Wk.ren2 [ps 4 (bv true)] 0 hc0 [] rfl rfl (by kernel_rfl) (by kernel_rfl)) rfl (obs_nil) (fun cx_ a_ hI_ => ret_res (l' := [ps 4 (bv true)]) (by kernel_rfl) cx_ a_ hI_) hI_
theorem spansL_len {b : Beat} {u d : Int} (h : spansE b u d = 0) : (spansL b u d).length ≤ 9223372036854775807 := by
  have hw : wrongE b = 0 := by
    by_cases c : wrongE b = 0
    · exact c
    · unfold spansE at h; rw [if_neg c] at h; exact h
  have h1 := (wrong_good hw).2
  have h2 := share_len b u d ([], 0, 1)
  unfold spansL
  simp only [List.length_nil] at h2
  omega
theorem law_spans (b : Beat) (u d : Int) (hu : I64 u) (hd : I64 d) : PC Try.prog 5 [(.agg [(iv (kd b)), (iv (sh b)), (.ssl (kc b) 0 ((kids b).length))]), (.agg [(iv u), (iv d)])] [] (bv true) [] := by
  refine pc_intro Try.func5 rfl (by kernel_rfl) (Nat.le_of_ble_eq_true rfl) (by kernel_rfl) (l0 := [ps 0 (.agg [(iv (kd b)), (iv (sh b)), (.ssl (kc b) 0 ((kids b).length))]), ps 1 (.agg [(iv u), (iv d)])]) rfl (fun c0 Bor hc0 => ?_)
  refine T_seq ?_
  refine T_region [] [ks 2, ks 3, kb 0, kb 8] (fun _ => mixed) (l' := [ps 2 (.opt 0 0), ps 3 (.opt 8 0), pb 0 40 [(iv (kd b)), (iv (sh b)), (.ssl (kc b) 0 ((kids b).length))], pb 8 25 [(iv u), (iv d)]]) (obs := []) (by kernel_rfl) (obs_nil) ?_
  refine T_seq ?_
  refine T_seq ?_
  refine T_region [(1, .call [] [(.agg [(iv (kd b)), (iv (sh b)), (.ssl (kc b) 0 ((kids b).length))])] [] (iv (wrongE b)) []), (3, .call [] [(.agg [(iv (kd b)), (iv (sh b)), (.ssl (kc b) 0 ((kids b).length))])] [] (iv (wrongE b)) [])] [ks 2, ks 3, ks 13, kb 0, kb 8] (fun _ => mixed) (l' := [ps 2 (.opt 0 0), ps 3 (.opt 8 0), ps 13 (bv (!(decide ((wrongE b) = (wrongE b))))), pb 0 40 [(iv (kd b)), (iv (sh b)), (.ssl (kc b) 0 ((kids b).length))], pb 8 25 [(iv u), (iv d)]]) (obs := [PC Try.prog 15 [(.agg [(iv (kd b)), (iv (sh b)), (.ssl (kc b) 0 ((kids b).length))])] [] (iv (wrongE b)) [], [(.agg [(iv (kd b)), (iv (sh b)), (.ssl (kc b) 0 ((kids b).length))])] = renL (sigi [] 32) [(.agg [(iv (kd b)), (iv (sh b)), (.ssl (kc b) 0 ((kids b).length))])], PC Try.prog 16 [(.agg [(iv (kd b)), (iv (sh b)), (.ssl (kc b) 0 ((kids b).length))])] [] (iv (wrongE b)) [], [(.agg [(iv (kd b)), (iv (sh b)), (.ssl (kc b) 0 ((kids b).length))])] = renL (sigi [] 48) [(.agg [(iv (kd b)), (iv (sh b)), (.ssl (kc b) 0 ((kids b).length))])]]) (by kernel_rfl) (obs_cons (p := PC Try.prog 15 [(.agg [(iv (kd b)), (iv (sh b)), (.ssl (kc b) 0 ((kids b).length))])] [] (iv (wrongE b)) []) (wrong_pc b) (obs_cons (p := [(.agg [(iv (kd b)), (iv (sh b)), (.ssl (kc b) 0 ((kids b).length))])] = renL (sigi [] 32) [(.agg [(iv (kd b)), (iv (sh b)), (.ssl (kc b) 0 ((kids b).length))])]) rfl (obs_cons (p := PC Try.prog 16 [(.agg [(iv (kd b)), (iv (sh b)), (.ssl (kc b) 0 ((kids b).length))])] [] (iv (wrongE b)) []) (ref_wrong_pc b) (obs_cons (p := [(.agg [(iv (kd b)), (iv (sh b)), (.ssl (kc b) 0 ((kids b).length))])] = renL (sigi [] 48) [(.agg [(iv (kd b)), (iv (sh b)), (.ssl (kc b) 0 ((kids b).length))])]) rfl (obs_nil))))) ?_
  have h1 : (wrongE b) = (wrongE b) := rfl
  refine T_else (b := (!(decide ((wrongE b) = (wrongE b))))) rfl (congrArg Bool.not (decide_eq_true h1)) ?_
  refine T_skip ?_
  refine T_seq ?_
  by_cases h2 : spansE b u d = 0
  · refine T_region [(2, .call [] [(.agg [(iv (kd b)), (iv (sh b)), (.ssl (kc b) 0 ((kids b).length))]), (.agg [(iv u), (iv d)])] [] (.tup [(.ssl (spans (spansL b u d)) 0 ((spansL b u d).length)), (iv 0)]) [])] [ks 2, ks 3, ks 5, ks 6, kb 0, kb 8] (fun _ => mixed) (l' := [ps 2 (.opt 0 0), ps 3 (.opt 8 0), ps 5 (.ssl (spans (spansL b u d)) 0 ((spansL b u d).length)), ps 6 (iv 0), pb 0 40 [(iv (kd b)), (iv (sh b)), (.ssl (kc b) 0 ((kids b).length))], pb 8 25 [(iv u), (iv d)]]) (obs := [PC Try.prog 17 [(.agg [(iv (kd b)), (iv (sh b)), (.ssl (kc b) 0 ((kids b).length))]), (.agg [(iv u), (iv d)])] [] (.tup [(.ssl (spans (spansL b u d)) 0 ((spansL b u d).length)), (iv 0)]) [], [(.agg [(iv (kd b)), (iv (sh b)), (.ssl (kc b) 0 ((kids b).length))]), (.agg [(iv u), (iv d)])] = renL (sigi [] 80) [(.agg [(iv (kd b)), (iv (sh b)), (.ssl (kc b) 0 ((kids b).length))]), (.agg [(iv u), (iv d)])]]) (by kernel_rfl) (obs_cons (p := PC Try.prog 17 [(.agg [(iv (kd b)), (iv (sh b)), (.ssl (kc b) 0 ((kids b).length))]), (.agg [(iv u), (iv d)])] [] (.tup [(.ssl (spans (spansL b u d)) 0 ((spansL b u d).length)), (iv 0)]) []) (by have h0 := spans_pc b u d hu hd; rw [spansP_yes h2] at h0; exact h0) (obs_cons (p := [(.agg [(iv (kd b)), (iv (sh b)), (.ssl (kc b) 0 ((kids b).length))]), (.agg [(iv u), (iv d)])] = renL (sigi [] 80) [(.agg [(iv (kd b)), (iv (sh b)), (.ssl (kc b) 0 ((kids b).length))]), (.agg [(iv u), (iv d)])]) rfl (obs_nil))) ?_
    refine T_seq ?_
    refine T_region [(2, .call [] [(.agg [(iv (kd b)), (iv (sh b)), (.ssl (kc b) 0 ((kids b).length))]), (.agg [(iv u), (iv d)])] [] (.tup [(.ssl (spans (spansL b u d)) 0 ((spansL b u d).length)), (iv 0)]) [])] [ks 5, ks 6, ks 7, ks 8] (fun _ => mixed) (l' := [ps 5 (.ssl (spans (spansL b u d)) 0 ((spansL b u d).length)), ps 6 (iv 0), ps 7 (.ssl (spans (spansL b u d)) 0 ((spansL b u d).length)), ps 8 (iv 0)]) (obs := [PC Try.prog 18 [(.agg [(iv (kd b)), (iv (sh b)), (.ssl (kc b) 0 ((kids b).length))]), (.agg [(iv u), (iv d)])] [] (.tup [(.ssl (spans (spansL b u d)) 0 ((spansL b u d).length)), (iv 0)]) [], [(.agg [(iv (kd b)), (iv (sh b)), (.ssl (kc b) 0 ((kids b).length))]), (.agg [(iv u), (iv d)])] = renL (sigi [] 144) [(.agg [(iv (kd b)), (iv (sh b)), (.ssl (kc b) 0 ((kids b).length))]), (.agg [(iv u), (iv d)])]]) (by kernel_rfl) (obs_cons (p := PC Try.prog 18 [(.agg [(iv (kd b)), (iv (sh b)), (.ssl (kc b) 0 ((kids b).length))]), (.agg [(iv u), (iv d)])] [] (.tup [(.ssl (spans (spansL b u d)) 0 ((spansL b u d).length)), (iv 0)]) []) (by have h0 := ref_spans_pc b u d hu hd; rw [spansP_yes h2] at h0; exact h0) (obs_cons (p := [(.agg [(iv (kd b)), (iv (sh b)), (.ssl (kc b) 0 ((kids b).length))]), (.agg [(iv u), (iv d)])] = renL (sigi [] 144) [(.agg [(iv (kd b)), (iv (sh b)), (.ssl (kc b) 0 ((kids b).length))]), (.agg [(iv u), (iv d)])]) rfl (obs_nil))) ?_
    refine T_seq ?_
    refine T_region [(2, .call [] [(.ssl (spans (spansL b u d)) 0 ((spansL b u d).length)), (.ssl (spans (spansL b u d)) 0 ((spansL b u d).length))] [] (bv true) []), (4, .gd true (.no)), (5, .gd true (.no)), (6, .gd true (.no))] [ks 4] (fun _ => mixed) (l' := [ps 4 (bv true)]) (obs := [PC Try.prog 19 [(.ssl (spans (spansL b u d)) 0 ((spansL b u d).length)), (.ssl (spans (spansL b u d)) 0 ((spansL b u d).length))] [] (bv true) [], [(.ssl (spans (spansL b u d)) 0 ((spansL b u d).length)), (.ssl (spans (spansL b u d)) 0 ((spansL b u d).length))] = renL (sigi [] 208) [(.ssl (spans (spansL b u d)) 0 ((spansL b u d).length)), (.ssl (spans (spansL b u d)) 0 ((spansL b u d).length))], true = true, true = true, true = true]) (by kernel_rfl) (obs_cons (p := PC Try.prog 19 [(.ssl (spans (spansL b u d)) 0 ((spansL b u d).length)), (.ssl (spans (spansL b u d)) 0 ((spansL b u d).length))] [] (bv true) []) (same_spans (spansL b u d) (spansL_len h2)) (obs_cons (p := [(.ssl (spans (spansL b u d)) 0 ((spansL b u d).length)), (.ssl (spans (spansL b u d)) 0 ((spansL b u d).length))] = renL (sigi [] 208) [(.ssl (spans (spansL b u d)) 0 ((spansL b u d).length)), (.ssl (spans (spansL b u d)) 0 ((spansL b u d).length))]) rfl (obs_cons (p := true = true) rfl (obs_cons (p := true = true) rfl (obs_cons (p := true = true) rfl (obs_nil)))))) ?_
    exact T_ret fun cx_ a_ hI_ => ret_ok (H' := []) (.inr rfl) (Wk.ren2 [ps 4 (bv true)] 0 hc0 [] rfl rfl (by kernel_rfl) (by kernel_rfl)) rfl (obs_nil) (fun cx_ a_ hI_ => ret_res (l' := [ps 4 (bv true)]) (by kernel_rfl) cx_ a_ hI_) hI_
  · refine T_region [(2, .call [] [(.agg [(iv (kd b)), (iv (sh b)), (.ssl (kc b) 0 ((kids b).length))]), (.agg [(iv u), (iv d)])] [] (.tup [(.ssl [] 0 0), (iv (spansE b u d))]) [])] [ks 2, ks 3, ks 5, ks 6, kb 0, kb 8] (fun _ => mixed) (l' := [ps 2 (.opt 0 0), ps 3 (.opt 8 0), ps 5 (.ssl [] 0 0), ps 6 (iv (spansE b u d)), pb 0 40 [(iv (kd b)), (iv (sh b)), (.ssl (kc b) 0 ((kids b).length))], pb 8 25 [(iv u), (iv d)]]) (obs := [PC Try.prog 17 [(.agg [(iv (kd b)), (iv (sh b)), (.ssl (kc b) 0 ((kids b).length))]), (.agg [(iv u), (iv d)])] [] (.tup [(.ssl [] 0 0), (iv (spansE b u d))]) [], [(.agg [(iv (kd b)), (iv (sh b)), (.ssl (kc b) 0 ((kids b).length))]), (.agg [(iv u), (iv d)])] = renL (sigi [] 80) [(.agg [(iv (kd b)), (iv (sh b)), (.ssl (kc b) 0 ((kids b).length))]), (.agg [(iv u), (iv d)])]]) (by kernel_rfl) (obs_cons (p := PC Try.prog 17 [(.agg [(iv (kd b)), (iv (sh b)), (.ssl (kc b) 0 ((kids b).length))]), (.agg [(iv u), (iv d)])] [] (.tup [(.ssl [] 0 0), (iv (spansE b u d))]) []) (by have h0 := spans_pc b u d hu hd; rw [spansP_no rfl h2] at h0; exact h0) (obs_cons (p := [(.agg [(iv (kd b)), (iv (sh b)), (.ssl (kc b) 0 ((kids b).length))]), (.agg [(iv u), (iv d)])] = renL (sigi [] 80) [(.agg [(iv (kd b)), (iv (sh b)), (.ssl (kc b) 0 ((kids b).length))]), (.agg [(iv u), (iv d)])]) rfl (obs_nil))) ?_
    refine T_seq ?_
    refine T_region [(2, .call [] [(.agg [(iv (kd b)), (iv (sh b)), (.ssl (kc b) 0 ((kids b).length))]), (.agg [(iv u), (iv d)])] [] (.tup [(.ssl [] 0 0), (iv (spansE b u d))]) [])] [ks 5, ks 6, ks 7, ks 8] (fun _ => mixed) (l' := [ps 5 (.ssl [] 0 0), ps 6 (iv (spansE b u d)), ps 7 (.ssl [] 0 0), ps 8 (iv (spansE b u d))]) (obs := [PC Try.prog 18 [(.agg [(iv (kd b)), (iv (sh b)), (.ssl (kc b) 0 ((kids b).length))]), (.agg [(iv u), (iv d)])] [] (.tup [(.ssl [] 0 0), (iv (spansE b u d))]) [], [(.agg [(iv (kd b)), (iv (sh b)), (.ssl (kc b) 0 ((kids b).length))]), (.agg [(iv u), (iv d)])] = renL (sigi [] 144) [(.agg [(iv (kd b)), (iv (sh b)), (.ssl (kc b) 0 ((kids b).length))]), (.agg [(iv u), (iv d)])]]) (by kernel_rfl) (obs_cons (p := PC Try.prog 18 [(.agg [(iv (kd b)), (iv (sh b)), (.ssl (kc b) 0 ((kids b).length))]), (.agg [(iv u), (iv d)])] [] (.tup [(.ssl [] 0 0), (iv (spansE b u d))]) []) (by have h0 := ref_spans_pc b u d hu hd; rw [spansP_no rfl h2] at h0; exact h0) (obs_cons (p := [(.agg [(iv (kd b)), (iv (sh b)), (.ssl (kc b) 0 ((kids b).length))]), (.agg [(iv u), (iv d)])] = renL (sigi [] 144) [(.agg [(iv (kd b)), (iv (sh b)), (.ssl (kc b) 0 ((kids b).length))]), (.agg [(iv u), (iv d)])]) rfl (obs_nil))) ?_
    refine T_seq ?_
    refine T_region [(2, .call [] [(.ssl [] 0 0), (.ssl [] 0 0)] [] (bv true) []), (4, .gd true (.no)), (5, .gd true (.no)), (6, .gd true (.no))] [ks 4] (fun _ => mixed) (l' := [ps 4 (bv (decide ((spansE b u d) = (spansE b u d))))]) (obs := [PC Try.prog 19 [(.ssl [] 0 0), (.ssl [] 0 0)] [] (bv true) [], [(.ssl [] 0 0), (.ssl [] 0 0)] = renL (sigi [] 208) [(.ssl [] 0 0), (.ssl [] 0 0)], true = true, true = true, true = true]) (by kernel_rfl) (obs_cons (p := PC Try.prog 19 [(.ssl [] 0 0), (.ssl [] 0 0)] [] (bv true) []) (same_spans [] (Nat.zero_le _)) (obs_cons (p := [(.ssl [] 0 0), (.ssl [] 0 0)] = renL (sigi [] 208) [(.ssl [] 0 0), (.ssl [] 0 0)]) rfl (obs_cons (p := true = true) rfl (obs_cons (p := true = true) rfl (obs_cons (p := true = true) rfl (obs_nil)))))) ?_
    refine T_wk (Wk.eq (show [ps 4 (bv (decide ((spansE b u d) = (spansE b u d))))] = [ps 4 (bv true)] from by rw [decide_eq_true rfl])) ?_
    exact T_ret fun cx_ a_ hI_ => ret_ok (H' := []) (.inr rfl) (Wk.ren2 [ps 4 (bv true)] 0 hc0 [] rfl rfl (by kernel_rfl) (by kernel_rfl)) rfl (obs_nil) (fun cx_ a_ hI_ => ret_res (l' := [ps 4 (bv true)]) (by kernel_rfl) cx_ a_ hI_) hI_
end Go.Proofs.Ytccpefbfjahfnaa.Pm
namespace Go.Proofs.Ytccpefbfjahfnaa.Pm
open Go Fr Gcd

/-- A fraction's value. -/
def vl (u d : Int) : Rat := (u : Rat) / (d : Rat)
theorem ne_rat {d : Int} (h : 0 < d) : (d : Rat) ≠ 0 := by
  intro h0
  have : d = 0 := by exact_mod_cast h0
  omega
theorem vl_of {u d p q : Int} (hd : 0 < d) (hq : 0 < q) (h : u * q = p * d) : vl p q = vl u d := by
  have h1 := ne_rat hd
  have h2 := ne_rat hq
  have h3 : (u : Rat) * q = p * d := by exact_mod_cast h
  unfold vl
  grind
theorem vl_eq {u d p q : Int} (h1 : rightB u d = true) (h2 : rightB p q = true) (h : vl u d = vl p q) : u = p ∧ d = q := by
  have a1 := rightB_iff.1 h1
  have a2 := rightB_iff.1 h2
  have h3 := ne_rat a1.1
  have h4 := ne_rat a2.1
  have h5 : (u : Rat) * q = p * d := by
    unfold vl at h
    grind
  exact lowest a1.1 a2.1 a1.2.2.2.2 a2.2.2.2.2 (by exact_mod_cast h5)
theorem plus_vl {a b u d : Int} (h : (plus a b u d).2.2 = 0) : vl (plus a b u d).1 (plus a b u d).2.1 = vl a b + vl u d := by
  obtain ⟨x1, x2, x3, x4⟩ := plus_ok (show plus a b u d = ((plus a b u d).1, (plus a b u d).2.1, 0) from by rw [← h])
  have h1 := ne_rat (rightB_iff.1 x1).1
  have h2 := ne_rat (rightB_iff.1 x2).1
  have h3 := ne_rat (rightB_iff.1 x3).1
  generalize (plus a b u d).1 = p at *
  generalize (plus a b u d).2.1 = q at *
  have h4 : ((a : Rat) * d + u * b) * q = p * (b * d) := by exact_mod_cast x4
  unfold vl
  grind
theorem times_vl {a b u d : Int} (h : (times a b u d).2.2 = 0) : vl (times a b u d).1 (times a b u d).2.1 = vl a b * vl u d := by
  obtain ⟨x1, x2, x3, x4⟩ := times_ok (show times a b u d = ((times a b u d).1, (times a b u d).2.1, 0) from by rw [← h])
  have h1 := ne_rat (rightB_iff.1 x1).1
  have h2 := ne_rat (rightB_iff.1 x2).1
  have h3 := ne_rat (rightB_iff.1 x3).1
  generalize (times a b u d).1 = p at *
  generalize (times a b u d).2.1 = q at *
  have h4 : ((a : Rat) * u) * q = p * (b * d) := by exact_mod_cast x4
  unfold vl
  grind
theorem make_vl {u d : Int} (h : (make u d).2.2 = 0) : vl (make u d).1 (make u d).2.1 = vl u d := by
  obtain ⟨x1, x2, x3⟩ := make_ok (show make u d = ((make u d).1, (make u d).2.1, 0) from by rw [← h])
  exact vl_of (by omega) (rightB_iff.1 x2).1 x3
theorem plus_pos {a b u d : Int} (h : (plus a b u d).2.2 = 0) (ha : 0 ≤ a) (hu : 1 ≤ u) : 1 ≤ (plus a b u d).1 := by
  obtain ⟨x1, x2, x3, x4⟩ := plus_ok (show plus a b u d = ((plus a b u d).1, (plus a b u d).2.1, 0) from by rw [← h])
  have p1 := pos_of x1; have p2 := pos_of x2; have p3 := pos_of x3
  have h1 : 0 < (a * d + u * b) * (plus a b u d).2.1 := Int.mul_pos (by have := Int.mul_nonneg ha (show 0 ≤ d by omega); have := mul_one_le hu p1; omega) (by omega)
  rw [x4] at h1
  have h2 : 0 < b * d := Int.mul_pos (by omega) (by omega)
  have := Int.pos_of_mul_pos_left h1 h2
  omega
theorem times_pos {a b u d : Int} (h : (times a b u d).2.2 = 0) (ha : 1 ≤ a) (hu : 1 ≤ u) : 1 ≤ (times a b u d).1 := by
  obtain ⟨x1, x2, x3, x4⟩ := times_ok (show times a b u d = ((times a b u d).1, (times a b u d).2.1, 0) from by rw [← h])
  have p1 := pos_of x1; have p2 := pos_of x2; have p3 := pos_of x3
  have h1 : 0 < (a * u) * (times a b u d).2.1 := Int.mul_pos (Int.mul_pos (by omega) (by omega)) (by omega)
  rw [x4] at h1
  have h2 : 0 < b * d := Int.mul_pos (by omega) (by omega)
  have := Int.pos_of_mul_pos_left h1 h2
  omega
theorem make_pos {u d : Int} (h : (make u d).2.2 = 0) (hu : 1 ≤ u) : 1 ≤ (make u d).1 := by
  obtain ⟨x1, x2, x3⟩ := make_ok (show make u d = ((make u d).1, (make u d).2.1, 0) from by rw [← h])
  have p2 := pos_of x2
  have h1 : 0 < u * (make u d).2.1 := Int.mul_pos (by omega) (by omega)
  rw [x3] at h1
  have := Int.pos_of_mul_pos_left h1 (show 0 < d by omega)
  omega
/-- A span stands where the one ahead ends. -/
def Link (x : Sp) (a b e f : Int) : Prop := x.1 = a ∧ x.2.1 = b ∧ 1 ≤ x.2.2.1 ∧ plus a b x.2.2.1 x.2.2.2.1 = (e, f, 0)
def Chain : List Sp → Int → Int → Int → Int → Prop
  | [], a, b, e, f => a = e ∧ b = f
  | x :: l, a, b, e, f => ∃ c d, Link x a b c d ∧ Chain l c d e f
theorem chain_snoc : ∀ (l : List Sp) (x : Sp) (a b e f : Int), Chain (l ++ [x]) a b e f ↔ ∃ c d, Chain l a b c d ∧ Link x c d e f
  | [], x, a, b, e, f => by
    simp only [List.nil_append, Chain]
    constructor
    · rintro ⟨c, d, h1, rfl, rfl⟩
      exact ⟨a, b, ⟨rfl, rfl⟩, h1⟩
    · rintro ⟨c, d, ⟨rfl, rfl⟩, h1⟩
      exact ⟨e, f, h1, rfl, rfl⟩
  | y :: l, x, a, b, e, f => by
    simp only [List.cons_append, Chain]
    constructor
    · rintro ⟨c, d, h1, h2⟩
      obtain ⟨c2, d2, h3, h4⟩ := (chain_snoc l x c d e f).1 h2
      exact ⟨c2, d2, ⟨c, d, h1, h3⟩, h4⟩
    · rintro ⟨c2, d2, ⟨c, d, h1, h3⟩, h4⟩
      exact ⟨c, d, h1, (chain_snoc l x c d e f).2 ⟨c2, d2, h3, h4⟩⟩
theorem eta3 {p : Int × Int × Int} (h : p.2.2 = 0) : p = (p.1, p.2.1, 0) := by rw [← h]
theorem leaf_chain {k u d : Int} {L : List Sp} {a b : Int} (hc : Chain L 0 1 a b) (hu : 1 ≤ u) (h0 : (leafS k u d L a b).1 = 0) :
    Chain (leafS k u d L a b).2.1 0 1 (leafS k u d L a b).2.2.1 (leafS k u d L a b).2.2.2 ∧ vl (leafS k u d L a b).2.2.1 (leafS k u d L a b).2.2.2 = vl a b + vl u d := by
  unfold leafS at h0 ⊢
  by_cases c1 : (plus a b u d).2.2 = 0
  · rw [if_pos c1] at h0 ⊢
    by_cases c2 : k = 3 ∧ 0 < L.length
    · rw [if_pos c2] at h0 ⊢
      dsimp only at h0 ⊢
      by_cases c3 : (plus (L.getD (L.length - 1) dS).2.2.1 (L.getD (L.length - 1) dS).2.2.2.1 u d).2.2 = 0
      · rw [if_pos c3]
        dsimp only
        refine ⟨?_, plus_vl c1⟩
        have hne : L ≠ [] := List.length_pos_iff.1 c2.2
        obtain ⟨M, y, rfl⟩ : ∃ M y, L = M ++ [y] := ⟨L.dropLast, L.getLast hne, (List.dropLast_concat_getLast hne).symm⟩
        have hg : (M ++ [y]).getD ((M ++ [y]).length - 1) dS = y := by simp [List.getD_eq_getElem?_getD]
        unfold longer
        rw [hg] at c3 ⊢
        rw [show (M ++ [y]).length - 1 = M.length from by simp, List.set_append_right _ _ (Nat.le_refl _), Nat.sub_self, List.set_cons_zero, chain_snoc]
        obtain ⟨c, e, h1, h2, h3, h4, h5⟩ := (chain_snoc M y 0 1 a b).1 hc
        refine ⟨c, e, h1, h2, h3, plus_pos c3 (by omega) hu, ?_⟩
        dsimp only
        rw [← plus_assoc h5 (eta3 c3)]
        exact eta3 c1
      · rw [if_neg c3] at h0
        exact absurd h0 c3
    · rw [if_neg c2]
      exact ⟨(chain_snoc _ _ _ _ _ _).2 ⟨a, b, hc, rfl, rfl, hu, eta3 c1⟩, plus_vl c1⟩
  · rw [if_neg c1] at h0
    exact absurd h0 c1
mutual
theorem share_chain : ∀ (b : Beat) (u d : Int) (st : StS), 1 ≤ u → good b → Chain st.1 0 1 st.2.1 st.2.2 → (shareS b u d st).1 = 0 →
    Chain (shareS b u d st).2.1 0 1 (shareS b u d st).2.2.1 (shareS b u d st).2.2.2 ∧ vl (shareS b u d st).2.2.1 (shareS b u d st).2.2.2 = vl st.2.1 st.2.2 + vl u d
  | .mk k s l, u, d, st, hu, hg, hc, h0 => by
    rw [shareS] at h0 ⊢
    rw [good] at hg
    by_cases c : k = 4
    · rw [if_pos c] at h0 ⊢
      have h1 := goodL_sum hg.2.2.2
      have h2 := List.length_pos_iff.2 (hg.2.2.1 c)
      obtain ⟨h3, h4⟩ := share_chainL l (sumSh l) u d st hu hg.2.2.2 (by omega) hc h0
      refine ⟨h3, h4.trans ?_⟩
      have h5 := ne_rat (show 0 < sumSh l by omega)
      unfold vl
      grind
    · rw [if_neg c] at h0 ⊢
      exact leaf_chain hc hu h0
theorem share_chainL : ∀ (l : List Beat) (all u d : Int) (st : StS), 1 ≤ u → goodL l → 1 ≤ all → Chain st.1 0 1 st.2.1 st.2.2 → (shareL l all u d st).1 = 0 →
    Chain (shareL l all u d st).2.1 0 1 (shareL l all u d st).2.2.1 (shareL l all u d st).2.2.2 ∧ vl (shareL l all u d st).2.2.1 (shareL l all u d st).2.2.2 = vl st.2.1 st.2.2 + vl (sumSh l) all * vl u d
  | [], all, u, d, st, hu, hg, ha, hc, h0 => by
    rw [shareL]
    refine ⟨hc, ?_⟩
    have h5 := ne_rat (show 0 < all by omega)
    show vl st.2.1 st.2.2 = _
    rw [show sumSh [] = 0 from rfl]
    unfold vl
    grind
  | b :: l, all, u, d, st, hu, hg, ha, hc, h0 => by
    rw [shareL] at h0 ⊢
    rw [goodL] at hg
    have hb := (good_eq b).1 hg.1
    by_cases c1 : (make (sh b) all).2.2 = 0
    · rw [if_pos c1] at h0 ⊢
      by_cases c2 : (times (make (sh b) all).1 (make (sh b) all).2.1 u d).2.2 = 0
      · rw [if_pos c2] at h0 ⊢
        dsimp only at h0 ⊢
        by_cases c3 : (shareS b (times (make (sh b) all).1 (make (sh b) all).2.1 u d).1 (times (make (sh b) all).1 (make (sh b) all).2.1 u d).2.1 st).1 = 0
        · rw [if_pos c3] at h0 ⊢
          obtain ⟨h1, h2⟩ := share_chain b _ _ st (times_pos c2 (make_pos c1 hb.1) hu) hg.1 hc c3
          obtain ⟨h3, h4⟩ := share_chainL l all u d _ hu hg.2 ha h1 h0
          refine ⟨h3, h4.trans ?_⟩
          rw [h2, times_vl c2, make_vl c1]
          have h5 := ne_rat (show 0 < all by omega)
          have h6 : ((sumSh (b :: l) : Int) : Rat) = (sh b : Rat) + (sumSh l : Rat) := by
            rw [show sumSh (b :: l) = sh b + sumSh l from by simp [sumSh]]
            exact_mod_cast rfl
          unfold vl
          rw [h6]
          grind
        · rw [if_neg c3] at h0
          exact absurd h0 c3
      · rw [if_neg c2] at h0
        exact absurd h0 c2
    · rw [if_neg c1] at h0
      exact absurd h0 c1
end
/-- What Spans tells, if it tells, is whole. -/
theorem spans_whole {b : Beat} {u d : Int} (h : spansE b u d = 0) : Chain (spansL b u d) 0 1 u d := by
  unfold spansE at h
  by_cases hw : wrongE b = 0
  · rw [if_pos hw] at h
    by_cases hr : rightB u d = true
    · rw [if_pos hr] at h
      by_cases hu : u < 1
      · rw [if_pos hu] at h; cases h
      · rw [if_neg hu] at h
        obtain ⟨h1, h2⟩ := share_chain b u d ([], 0, 1) (by omega) (wrong_good hw).1 ⟨rfl, rfl⟩ h
        have h3 := share_st b u d ([], 0, 1) hr st0_ok h
        have h4 : vl (shareS b u d ([], 0, 1)).2.2.1 (shareS b u d ([], 0, 1)).2.2.2 = vl u d := by
          rw [h2]
          show vl 0 1 + _ = _
          unfold vl
          grind
        obtain ⟨e1, e2⟩ := vl_eq h3.1 hr h4
        rw [e1, e2] at h1
        exact h1
    · rw [if_neg hr] at h; cases h
  · rw [if_neg hw] at h
    exact absurd h hw

/-! ### greater shares -/
mutual
def scB (n : Int) : Beat → Beat
  | .mk k s l => .mk k (s * n) (scL n l)
def scL (n : Int) : List Beat → List Beat
  | [] => []
  | b :: l => scB n b :: scL n l
end
def scT (n : Int) (b : Beat) : Beat := .mk (kd b) (sh b) (scL n (kids b))
theorem scB_eq (n : Int) (b : Beat) : scB n b = .mk (kd b) (sh b * n) (scL n (kids b)) := by cases b with | mk k s l => rw [scB]; rfl
theorem scL_len (n : Int) : ∀ l : List Beat, (scL n l).length = l.length
  | [] => by simp [scL]
  | b :: l => by rw [scL, List.length_cons, List.length_cons, scL_len n l]
theorem scL_sum (n : Int) : ∀ l : List Beat, sumSh (scL n l) = sumSh l * n
  | [] => by simp [scL, sumSh]
  | b :: l => by
    have ih := scL_sum n l
    rw [scL]
    simp only [sumSh, List.map_cons, List.sum_cons] at ih ⊢
    rw [ih, scB_eq, show sh (.mk (kd b) (sh b * n) (scL n (kids b))) = sh b * n from rfl, Int.add_mul]
mutual
theorem look_scB (n : Int) (hn : 1 ≤ n) : ∀ (b : Beat) (lv m s2 : Int), 1 ≤ s2 → (lookS b lv m).1 = 0 → lookS (.mk (kd b) s2 (scL n (kids b))) lv m = lookS b lv m ∨ (lookS (.mk (kd b) s2 (scL n (kids b))) lv m).1 = 3
  | .mk k s l, lv, m, s2, hs, h => by
    rw [show kd (.mk k s l) = k from rfl, show kids (.mk k s l) = l from rfl]
    rw [lookS] at h ⊢
    rw [lookS]
    by_cases c1 : 32 < lv
    · rw [if_pos c1] at h; cases h
    rw [if_neg c1] at h
    rw [if_neg c1, if_neg c1]
    by_cases c2 : 4096 < m + 1
    · rw [if_pos c2] at h; cases h
    rw [if_neg c2] at h
    rw [if_neg c2, if_neg c2]
    by_cases c3 : s < 1 ∨ 65536 < s
    · rw [if_pos c3] at h; cases h
    rw [if_neg c3] at h
    rw [if_neg c3]
    by_cases c4 : s2 < 1 ∨ 65536 < s2
    · rw [if_pos c4]; exact .inr rfl
    rw [if_neg c4, scL_len]
    by_cases c5 : k = 1 ∨ k = 2 ∨ k = 3
    · rw [if_pos c5, if_pos c5]; exact .inl rfl
    rw [if_neg c5] at h
    rw [if_neg c5, if_neg c5]
    by_cases c6 : k = 4
    · rw [if_pos c6] at h
      rw [if_pos c6, if_pos c6]
      by_cases c7 : l.length = 0
      · rw [if_pos c7, if_pos c7]; exact .inl rfl
      · rw [if_neg c7] at h
        rw [if_neg c7, if_neg c7]
        exact look_scL n hn l (lv + 1) (m + 1) h
    · rw [if_neg c6] at h; cases h
theorem look_scL (n : Int) (hn : 1 ≤ n) : ∀ (l : List Beat) (lv m : Int), (lookL l lv m).1 = 0 → lookL (scL n l) lv m = lookL l lv m ∨ (lookL (scL n l) lv m).1 = 3
  | [], lv, m, h => .inl (by simp [scL])
  | b :: l, lv, m, h => by
    rw [lookL] at h
    rw [scL, lookL, lookL]
    by_cases c : (lookS b lv m).1 = 0
    · rw [if_pos c] at h
      have hb : 1 ≤ sh b := by
        rw [lookS_eq] at c
        by_cases c1 : 32 < lv
        · rw [if_pos c1] at c; cases c
        rw [if_neg c1] at c
        by_cases c2 : 4096 < m + 1
        · rw [if_pos c2] at c; cases c
        rw [if_neg c2] at c
        by_cases c3 : sh b < 1 ∨ 65536 < sh b
        · rw [if_pos c3] at c; cases c
        omega
      have h1 := look_scB n hn b lv m (sh b * n) (mul_one_le hb hn) c
      rw [← scB_eq] at h1
      rcases h1 with h1 | h1
      · rw [h1, if_pos c, if_pos c]
        exact look_scL n hn l lv _ h
      · rw [if_neg (by rw [h1]; decide)]
        exact .inr h1
    · rw [if_neg c] at h
      exact absurd h c
end
theorem make_scale {u d n : Int} (hd : 1 ≤ d) (hn : 1 ≤ n) : make (u * n) (d * n) = make u d :=
  make_congr (mul_one_le hd hn) hd (by rw [Int.mul_assoc, Int.mul_comm n d])
mutual
theorem share_scB (n : Int) (hn : 1 ≤ n) : ∀ (b : Beat) (s2 u d : Int) (st : StS), good b → shareS (.mk (kd b) s2 (scL n (kids b))) u d st = shareS b u d st
  | .mk k s l, s2, u, d, st, hg => by
    rw [show kd (.mk k s l) = k from rfl, show kids (.mk k s l) = l from rfl, shareS, shareS]
    rw [good] at hg
    by_cases c : k = 4
    · rw [if_pos c, if_pos c, scL_sum]
      have h1 := goodL_sum hg.2.2.2
      have h2 := List.length_pos_iff.2 (hg.2.2.1 c)
      exact share_scL n hn l (sumSh l) u d st hg.2.2.2 (by omega)
    · rw [if_neg c, if_neg c]
theorem share_scL (n : Int) (hn : 1 ≤ n) : ∀ (l : List Beat) (all u d : Int) (st : StS), goodL l → 1 ≤ all → shareL (scL n l) (all * n) u d st = shareL l all u d st
  | [], all, u, d, st, hg, ha => by simp [scL, shareL]
  | b :: l, all, u, d, st, hg, ha => by
    rw [goodL] at hg
    have h1 := fun u d st => share_scB n hn b (sh b * n) u d st hg.1
    simp only [← scB_eq] at h1
    have h2 := fun st => share_scL n hn l all u d st hg.2 ha
    have h3 : sh (scB n b) = sh b * n := by rw [scB_eq]; rfl
    rw [scL, shareL, shareL, h3, make_scale ha hn]
    simp only [h1, h2]
end
theorem scaled_spans {b : Beat} {u d n : Int} (hn : 1 ≤ n) (h : spansE b u d = 0) : spansE (scT n b) u d = 3 ∨ (spansE (scT n b) u d = 0 ∧ spansL (scT n b) u d = spansL b u d) := by
  by_cases hw : wrongE b = 0
  · have hb := (good_eq b).1 (wrong_good hw).1
    rcases look_scB n hn b 1 0 (sh b) hb.1 hw with h1 | h1
    · have hw2 : wrongE (scT n b) = 0 := by unfold wrongE scT; rw [h1]; exact hw
      have h2 := share_scB n hn b (sh b) u d ([], 0, 1) (wrong_good hw).1
      refine .inr ⟨?_, by unfold spansL scT; rw [h2]⟩
      unfold spansE at h ⊢
      rw [if_pos hw] at h
      rw [if_pos hw2]
      unfold scT
      rw [h2]
      exact h
    · refine .inl ?_
      have hw2 : wrongE (scT n b) = 3 := h1
      unfold spansE
      rw [if_neg (by rw [hw2]; decide), hw2]
  · unfold spansE at h
    rw [if_neg hw] at h
    exact absurd h hw
end Go.Proofs.Ytccpefbfjahfnaa.Pm
namespace Go.Proofs.Ytccpefbfjahfnaa.Pm
open Go Fr

theorem bit_pc (n : Nat) (k : Int) (hk : k ≤ 60) : PC Try.prog 25 [(iv k), (.opt 0 0)] [some (3, [(iv ((n : Nat) : Int))])] (bv (bitB n k)) [some (3, [(iv ((n : Nat) : Int))])] := by
  refine pc_intro Try.func25 rfl (by kernel_rfl) (Nat.le_of_ble_eq_true rfl) (by kernel_rfl) (l0 := [ps 0 (iv k), ps 1 (.opt 0 0), pb 0 3 [(iv ((n : Nat) : Int))]]) rfl (fun c0 Bor hc0 => ?_)
  refine T_seq ?_
  refine T_region [] [ks 0, ks 1, kb 0] (fun _ => mixed) (l' := [ps 0 (iv k), ps 1 (.opt 0 0), pb 0 3 [(iv ((n : Nat) : Int))]]) (obs := []) (by kernel_rfl) (obs_nil) ?_
  refine T_seq ?_
  by_cases h1 : 0 ≤ k
  · refine T_region [(3, .gd true (.no)), (4, .gd true (.no)), (5, .gd true (.no)), (6, .gd true (.no)), (7, .gd true (.no)), (8, .yes true)] [ks 3, kb 0] (fun _ => mixed) (l' := [ps 3 (bv (decide ((IntKind.wrap .i64 (BitVec.ofInt (IntKind.bits .i64) ((((n : Nat) : Int)).fdiv (2 ^ (k : Int).toNat)) &&& BitVec.ofInt (IntKind.bits .i64) 1).toNat) = 1))), pb 0 3 [(iv ((n : Nat) : Int))]]) (obs := [(decide (0 ≤ k)) = true, (decide (0 ≤ k)) = true, (decide (0 ≤ k)) = true, (0 : Int) ≤ k ∧ k ≤ ((IntKind.bits .i64 : Nat) : Int), (decide (0 ≤ k)) = true, (decide (0 ≤ k)) = true, (decide (0 ≤ k)) = true]) (by kernel_rfl) (obs_cons (p := (decide (0 ≤ k)) = true) (decide_eq_true h1) (obs_cons (p := (decide (0 ≤ k)) = true) (decide_eq_true h1) (obs_cons (p := (decide (0 ≤ k)) = true) (decide_eq_true h1) (obs_cons (p := (0 : Int) ≤ k ∧ k ≤ ((IntKind.bits .i64 : Nat) : Int)) (by simp only [IntKind.bits]; omega) (obs_cons (p := (decide (0 ≤ k)) = true) (decide_eq_true h1) (obs_cons (p := (decide (0 ≤ k)) = true) (decide_eq_true h1) (obs_cons (p := (decide (0 ≤ k)) = true) (decide_eq_true h1) (obs_nil)))))))) ?_
    rw [bitB_yes h1]
    exact T_ret fun cx_ a_ hI_ => ret_ok (H' := [some (3, [(iv ((n : Nat) : Int))])]) (.inr rfl) (Wk.ren2 [ps 3 (bv (decide ((IntKind.wrap .i64 (BitVec.ofInt (IntKind.bits .i64) ((((n : Nat) : Int)).fdiv (2 ^ (k : Int).toNat)) &&& BitVec.ofInt (IntKind.bits .i64) 1).toNat) = 1))), pb 0 3 [(iv ((n : Nat) : Int))]] 1 hc0 [0] rfl rfl (by kernel_rfl) (by kernel_rfl)) rfl (obs_cons rfl (obs_nil)) (fun cx_ a_ hI_ => ret_res (l' := [ps 3 (bv (decide ((IntKind.wrap .i64 (BitVec.ofInt (IntKind.bits .i64) ((((n : Nat) : Int)).fdiv (2 ^ (k : Int).toNat)) &&& BitVec.ofInt (IntKind.bits .i64) 1).toNat) = 1))), pb 0 3 [(iv ((n : Nat) : Int))]]) (by kernel_rfl) cx_ a_ hI_) hI_
  · refine T_region [(3, .gd false .no), (4, .gd false .no), (5, .gd false .no), (6, .gd false .no), (7, .gd false .no), (8, .yes false)] [ks 3, kb 0] (fun _ => mixed) (l' := [ps 3 (bv false), pb 0 3 [(iv ((n : Nat) : Int))]]) (obs := [(decide (0 ≤ k)) = false, (decide (0 ≤ k)) = false, (decide (0 ≤ k)) = false, (decide (0 ≤ k)) = false, (decide (0 ≤ k)) = false, (decide (0 ≤ k)) = false]) (by kernel_rfl) (obs_cons (p := (decide (0 ≤ k)) = false) (decide_eq_false h1) (obs_cons (p := (decide (0 ≤ k)) = false) (decide_eq_false h1) (obs_cons (p := (decide (0 ≤ k)) = false) (decide_eq_false h1) (obs_cons (p := (decide (0 ≤ k)) = false) (decide_eq_false h1) (obs_cons (p := (decide (0 ≤ k)) = false) (decide_eq_false h1) (obs_cons (p := (decide (0 ≤ k)) = false) (decide_eq_false h1) (obs_nil))))))) ?_
    rw [bitB_no h1]
    exact T_ret fun cx_ a_ hI_ => ret_ok (H' := [some (3, [(iv ((n : Nat) : Int))])]) (.inr rfl) (Wk.ren2 [ps 3 (bv false), pb 0 3 [(iv ((n : Nat) : Int))]] 1 hc0 [0] rfl rfl (by kernel_rfl) (by kernel_rfl)) rfl (obs_cons rfl (obs_nil)) (fun cx_ a_ hI_ => ret_res (l' := [ps 3 (bv false), pb 0 3 [(iv ((n : Nat) : Int))]]) (by kernel_rfl) cx_ a_ hI_) hI_
set_option maxRecDepth 100000 in
set_option maxHeartbeats 4000000 in
theorem write_pc (u d : Int) (hu : I64 u) (hd : I64 d) : PC Try.prog 9 [(.agg [(iv u), (iv d)])] [] (writeP u d) [] := by
  refine pc_intro Try.func9 rfl (by kernel_rfl) (Nat.le_of_ble_eq_true rfl) (by kernel_rfl) (l0 := [ps 0 (.agg [(iv u), (iv d)])]) rfl (fun c0 Bor hc0 => ?_)
  refine T_seq ?_
  refine T_region [] [ks 1, kb 0] (fun _ => mixed) (l' := [ps 1 (.opt 0 0), pb 0 25 [(iv u), (iv d)]]) (obs := []) (by kernel_rfl) (obs_nil) ?_
  refine T_seq ?_
  refine T_seq ?_
  refine T_region [(1, .call [] [(.agg [(iv u), (iv d)])] [] (bv (Fr.rightB u d)) [])] [ks 1, ks 12, kb 0] (fun _ => mixed) (l' := [ps 1 (.opt 0 0), ps 12 (bv (!(Fr.rightB u d))), pb 0 25 [(iv u), (iv d)]]) (obs := [PC Try.prog 23 [(.agg [(iv u), (iv d)])] [] (bv (Fr.rightB u d)) [], [(.agg [(iv u), (iv d)])] = renL (sigi [] 32) [(.agg [(iv u), (iv d)])]]) (by kernel_rfl) (obs_cons (p := PC Try.prog 23 [(.agg [(iv u), (iv d)])] [] (bv (Fr.rightB u d)) []) (right_pc u d (by unfold Fr.I64 at *; omega) (by unfold Fr.I64 at *; omega)) (obs_cons (p := [(.agg [(iv u), (iv d)])] = renL (sigi [] 32) [(.agg [(iv u), (iv d)])]) rfl (obs_nil))) ?_
  by_cases h1 : (Fr.rightB u d) = true
  · refine T_else (b := (!(Fr.rightB u d))) rfl (congrArg Bool.not h1) ?_
    refine T_skip ?_
    refine T_seq ?_
    refine T_seq ?_
    have hR := rightB_iff.1 h1
    by_cases h2 : u < 1
    · refine T_region [(4, .gd true .no), (5, .gd true .no), (6, .gd true .no), (7, .gd true .no), (8, .gd true .no), (9, .gd true .no), (10, .yes true)] [ks 1, ks 23, kb 0] (fun _ => mixed) (l' := [ps 1 (.opt 0 0), ps 23 (bv true), pb 0 25 [(iv u), (iv d)]]) (obs := [(decide (u < 1)) = true, (decide (u < 1)) = true, (decide (u < 1)) = true, (decide (u < 1)) = true, (decide (u < 1)) = true, (decide (u < 1)) = true, (decide (u < 1)) = true]) (by kernel_rfl) (obs_cons (p := (decide (u < 1)) = true) (decide_eq_true h2) (obs_cons (p := (decide (u < 1)) = true) (decide_eq_true h2) (obs_cons (p := (decide (u < 1)) = true) (decide_eq_true h2) (obs_cons (p := (decide (u < 1)) = true) (decide_eq_true h2) (obs_cons (p := (decide (u < 1)) = true) (decide_eq_true h2) (obs_cons (p := (decide (u < 1)) = true) (decide_eq_true h2) (obs_cons (p := (decide (u < 1)) = true) (decide_eq_true h2) (obs_nil)))))))) ?_
      refine T_then (b := true) rfl rfl ?_
      refine T_seq ?_
      refine T_region [] [ks 2, ks 3] (fun _ => mixed) (l' := [ps 2 (.av (.slice none 0 0)), ps 3 (iv 3)]) (obs := []) (by kernel_rfl) (obs_nil) ?_
      rw [writeP_no (e := 3) (by unfold writeE; rw [if_neg (by rw [h1]; decide), if_pos (by omega)]) (by decide)]
      exact T_ret fun cx_ a_ hI_ => ret_ok (H' := []) (.inr rfl) (Wk.ren2 [ps 2 (.av (.slice none 0 0)), ps 3 (iv 3)] 0 hc0 [] rfl rfl (by kernel_rfl) (by kernel_rfl)) rfl (obs_nil) (fun cx_ a_ hI_ => ret_res (l' := [ps 2 (.av (.slice none 0 0)), ps 3 (iv 3)]) (by kernel_rfl) cx_ a_ hI_) hI_
    · refine T_region [(4, .gd false (.no)), (5, .gd false (.no)), (6, .gd false (.no)), (7, .gd false (.no)), (8, .gd false (.no)), (9, .gd false (.no)), (10, .yes false)] [ks 1, ks 23, kb 0] (fun _ => mixed) (l' := [ps 1 (.opt 0 0), ps 23 (bv (decide ((65536 * d) < u))), pb 0 25 [(iv u), (iv d)]]) (obs := [(decide (u < 1)) = false, (decide (u < 1)) = false, (decide (u < 1)) = false, (decide (u < 1)) = false, (decide (u < 1)) = false, InK .i64 (65536 * d), (decide (u < 1)) = false, (decide (u < 1)) = false]) (by kernel_rfl) (obs_cons (p := (decide (u < 1)) = false) (decide_eq_false h2) (obs_cons (p := (decide (u < 1)) = false) (decide_eq_false h2) (obs_cons (p := (decide (u < 1)) = false) (decide_eq_false h2) (obs_cons (p := (decide (u < 1)) = false) (decide_eq_false h2) (obs_cons (p := (decide (u < 1)) = false) (decide_eq_false h2) (obs_cons (p := InK .i64 (65536 * d)) (by simp only [InK]; omega) (obs_cons (p := (decide (u < 1)) = false) (decide_eq_false h2) (obs_cons (p := (decide (u < 1)) = false) (decide_eq_false h2) (obs_nil))))))))) ?_
      by_cases h3 : (65536 * d) < u
      · refine T_then (b := (decide ((65536 * d) < u))) rfl (decide_eq_true h3) ?_
        refine T_seq ?_
        refine T_region [] [ks 2, ks 3] (fun _ => mixed) (l' := [ps 2 (.av (.slice none 0 0)), ps 3 (iv 3)]) (obs := []) (by kernel_rfl) (obs_nil) ?_
        rw [writeP_no (e := 3) (by unfold writeE; rw [if_neg (by rw [h1]; decide), if_pos (by omega)]) (by decide)]
        exact T_ret fun cx_ a_ hI_ => ret_ok (H' := []) (.inr rfl) (Wk.ren2 [ps 2 (.av (.slice none 0 0)), ps 3 (iv 3)] 0 hc0 [] rfl rfl (by kernel_rfl) (by kernel_rfl)) rfl (obs_nil) (fun cx_ a_ hI_ => ret_res (l' := [ps 2 (.av (.slice none 0 0)), ps 3 (iv 3)]) (by kernel_rfl) cx_ a_ hI_) hI_
      · refine T_else (b := (decide ((65536 * d) < u))) rfl (decide_eq_false h3) ?_
        refine T_skip ?_
        refine T_seq ?_
        refine T_seq ?_
        by_cases h4 : (IntKind.wrap .i64 (BitVec.ofInt (IntKind.bits .i64) d &&& BitVec.ofInt (IntKind.bits .i64) (d - 1)).toNat) = 0
        · refine T_region [(8, .gd false (.no)), (9, .gd false (.no)), (10, .gd false (.no)), (11, .yes false)] [ks 1, ks 35, kb 0] (fun _ => mixed) (l' := [ps 1 (.opt 0 0), ps 35 (bv (decide (1024 < d))), pb 0 25 [(iv u), (iv d)]]) (obs := [InK .i64 (d - 1), (!(decide ((IntKind.wrap .i64 (BitVec.ofInt (IntKind.bits .i64) d &&& BitVec.ofInt (IntKind.bits .i64) (d - 1)).toNat) = 0))) = false, (!(decide ((IntKind.wrap .i64 (BitVec.ofInt (IntKind.bits .i64) d &&& BitVec.ofInt (IntKind.bits .i64) (d - 1)).toNat) = 0))) = false, (!(decide ((IntKind.wrap .i64 (BitVec.ofInt (IntKind.bits .i64) d &&& BitVec.ofInt (IntKind.bits .i64) (d - 1)).toNat) = 0))) = false, (!(decide ((IntKind.wrap .i64 (BitVec.ofInt (IntKind.bits .i64) d &&& BitVec.ofInt (IntKind.bits .i64) (d - 1)).toNat) = 0))) = false]) (by kernel_rfl) (obs_cons (p := InK .i64 (d - 1)) (by simp only [InK]; omega) (obs_cons (p := (!(decide ((IntKind.wrap .i64 (BitVec.ofInt (IntKind.bits .i64) d &&& BitVec.ofInt (IntKind.bits .i64) (d - 1)).toNat) = 0))) = false) (congrArg Bool.not (decide_eq_true h4)) (obs_cons (p := (!(decide ((IntKind.wrap .i64 (BitVec.ofInt (IntKind.bits .i64) d &&& BitVec.ofInt (IntKind.bits .i64) (d - 1)).toNat) = 0))) = false) (congrArg Bool.not (decide_eq_true h4)) (obs_cons (p := (!(decide ((IntKind.wrap .i64 (BitVec.ofInt (IntKind.bits .i64) d &&& BitVec.ofInt (IntKind.bits .i64) (d - 1)).toNat) = 0))) = false) (congrArg Bool.not (decide_eq_true h4)) (obs_cons (p := (!(decide ((IntKind.wrap .i64 (BitVec.ofInt (IntKind.bits .i64) d &&& BitVec.ofInt (IntKind.bits .i64) (d - 1)).toNat) = 0))) = false) (congrArg Bool.not (decide_eq_true h4)) (obs_nil)))))) ?_
          by_cases h5 : 1024 < d
          · refine T_then (b := (decide (1024 < d))) rfl (decide_eq_true h5) ?_
            refine T_seq ?_
            refine T_region [] [ks 2, ks 3] (fun _ => mixed) (l' := [ps 2 (.av (.slice none 0 0)), ps 3 (iv 6)]) (obs := []) (by kernel_rfl) (obs_nil) ?_
            have hm : ¬ (1024 : Int) % d = 0 := by
              by_cases hd4 : d ≤ 1024
              · omega
              · rw [Int.emod_eq_of_lt (by decide) (by omega)]; decide
            rw [writeP_no (e := 6) (by unfold writeE; rw [if_neg (by rw [h1]; decide), if_neg (by omega), if_pos hm]) (by decide)]
            exact T_ret fun cx_ a_ hI_ => ret_ok (H' := []) (.inr rfl) (Wk.ren2 [ps 2 (.av (.slice none 0 0)), ps 3 (iv 6)] 0 hc0 [] rfl rfl (by kernel_rfl) (by kernel_rfl)) rfl (obs_nil) (fun cx_ a_ hI_ => ret_res (l' := [ps 2 (.av (.slice none 0 0)), ps 3 (iv 6)]) (by kernel_rfl) cx_ a_ hI_) hI_
          · refine T_else (b := (decide (1024 < d))) rfl (decide_eq_false h5) ?_
            refine T_skip ?_
            refine T_seq ?_
            obtain ⟨dn, hdn⟩ : ∃ n : Nat, d = (n : Int) := ⟨d.toNat, by omega⟩
            have hm : (1024 : Int) % d = 0 := by have := (and_two dn (by omega) (by omega)).1 (by rw [← hdn]; exact h4); rw [← hdn] at this; exact this
            have hE : writeE u d = 0 := by unfold writeE; rw [if_neg (by rw [h1]; decide), if_neg (by omega), if_neg (by omega)]
            obtain ⟨hq, hn, hN⟩ := write_num hE
            refine T_region [] [ks 4, kb 280] (fun _ => mixed) (l' := [ps 4 (.opt 280 0), pb 280 3 [(iv (u * (((1024 : Int)).tdiv d)))]]) (obs := [d ≠ (0 : Int), InK .i64 (((1024 : Int)).tdiv d), InK .i64 (u * (((1024 : Int)).tdiv d))]) (by kernel_rfl) (obs_cons (p := d ≠ (0 : Int)) (by omega) (obs_cons (p := InK .i64 (((1024 : Int)).tdiv d)) (by simp only [InK]; omega) (obs_cons (p := InK .i64 (u * (((1024 : Int)).tdiv d))) (by simp only [InK]; omega) (obs_nil)))) ?_
            refine T_seq ?_
            refine T_wk (Wk.eq (show [ps 4 (.opt 280 0), pb 280 3 [(iv (u * (((1024 : Int)).tdiv d)))]] = [ps 4 (.opt 280 0), pb 280 3 [(iv ((writeN u d : Nat) : Int))]] from by rw [hn])) ?_
            refine T_region [(4, .call [304] [(.osl 0 0 1), (iv ((writeN u d / 1024 : Nat) : Int))] [some (23, [(iv 0), (iv 0)])] (.osl 1 0 (writeN u d / 1024)) [some (23, [(iv 0), (iv 0)]), some (23, (vals (List.replicate (writeN u d / 1024) (0, 0))))])] [ks 4, ks 5, kb 280, kb 328] (fun _ => mixed) (l' := [ps 4 (.opt 280 0), ps 5 (.osl 328 0 (writeN u d / 1024)), pb 280 3 [(iv ((writeN u d : Nat) : Int))], pb 328 23 (renL (sigo [304] 328) (vals (List.replicate (writeN u d / 1024) (0, 0))))]) (obs := [(0 : Int) ≤ 10 ∧ 10 ≤ ((IntKind.bits .i64 : Nat) : Int), PC Try.prog 24 [(.osl 0 0 1), (iv ((writeN u d / 1024 : Nat) : Int))] [some (23, [(iv 0), (iv 0)])] (.osl 1 0 (writeN u d / 1024)) [some (23, [(iv 0), (iv 0)]), some (23, (vals (List.replicate (writeN u d / 1024) (0, 0))))], [(.osl 304 0 1), (iv ((((writeN u d : Nat) : Int)).fdiv (2 ^ (10 : Int).toNat)))] = renL (sigi [304] 328) [(.osl 0 0 1), (iv ((writeN u d / 1024 : Nat) : Int))], [(iv 0), (iv 0)] = renL (sigi [304] 328) [(iv 0), (iv 0)]]) (by kernel_rfl) (obs_cons (p := (0 : Int) ≤ 10 ∧ 10 ≤ ((IntKind.bits .i64 : Nat) : Int)) (by simp only [IntKind.bits]; omega) (obs_cons (p := PC Try.prog 24 [(.osl 0 0 1), (iv ((writeN u d / 1024 : Nat) : Int))] [some (23, [(iv 0), (iv 0)])] (.osl 1 0 (writeN u d / 1024)) [some (23, [(iv 0), (iv 0)]), some (23, (vals (List.replicate (writeN u d / 1024) (0, 0))))]) (repeat_pc (writeN u d / 1024) (by omega)) (obs_cons (p := [(.osl 304 0 1), (iv ((((writeN u d : Nat) : Int)).fdiv (2 ^ (10 : Int).toNat)))] = renL (sigi [304] 328) [(.osl 0 0 1), (iv ((writeN u d / 1024 : Nat) : Int))]) (by rw [count_eq]; rfl) (obs_cons (p := [(iv 0), (iv 0)] = renL (sigi [304] 328) [(iv 0), (iv 0)]) rfl (obs_nil))))) ?_
            refine T_wk (Wk.eq (show [ps 4 (.opt 280 0), ps 5 (.osl 328 0 (writeN u d / 1024)), pb 280 3 [(iv ((writeN u d : Nat) : Int))], pb 328 23 (renL (sigo [304] 328) (vals (List.replicate (writeN u d / 1024) (0, 0))))] = [ps 4 (.opt 280 0), ps 5 (.osl 328 0 (writeN u d / 1024)), pb 280 3 [(iv ((writeN u d : Nat) : Int))], pb 328 23 (vals (List.replicate (writeN u d / 1024) (0, 0)))] from by simp only [renL_shd (flat_shd valC (fun _ => rfl) _)])) ?_
            refine T_seq ?_
            refine T_seq ?_
            refine T_region [] [ks 4, ks 5, ks 6, kb 280, kb 328] (fun _ => mixed) (l' := [ps 4 (.opt 280 0), ps 5 (.osl 328 0 (writeN u d / 1024)), ps 6 (iv 1), pb 280 3 [(iv ((writeN u d : Nat) : Int))], pb 328 23 (vals (List.replicate (writeN u d / 1024) (0, 0)))]) (obs := []) (by kernel_rfl) (obs_nil) ?_
            refine T_block ?_
            refine T_wk (Wk.eq (show [ps 4 (.opt 280 0), ps 5 (.osl 328 0 (writeN u d / 1024)), ps 6 (iv 1), pb 280 3 [(iv ((writeN u d : Nat) : Int))], pb 328 23 (vals (List.replicate (writeN u d / 1024) (0, 0)))] = [ps 4 (.opt 280 0), ps 5 (.osl 328 0 ((List.replicate (writeN u d / 1024) ((0, 0) : Int × Int)).length)), ps 6 (iv 1), pb 280 3 [(iv ((writeN u d : Nat) : Int))], pb 328 23 (vals (List.replicate (writeN u d / 1024) (0, 0)))] from by rw [List.length_replicate])) ?_
            refine T_loop (α := {x : Nat × List (Int × Int) // 1 ≤ x.1 ∧ x.1 ≤ 11 ∧ x.2 ++ pt (writeN u d) (11 - x.1) 0 = valsS (writeN u d) ∧ x.2.length ≤ 65536 + x.1}) (fun x => [ps 4 (.opt 0 0), ps 5 (.osl 1 0 x.1.2.length), ps 6 (iv ((x.1.1 : Nat) : Int)), pb 0 3 [(iv ((writeN u d : Nat) : Int))], pb 1 23 (vals x.1.2)]) (fun x => 11 - x.1.1) 2 ⟨(1, List.replicate (writeN u d / 1024) (0, 0)), ⟨by omega, by omega, rfl, by simp only [List.length_replicate]; omega⟩⟩ (Wk.ren3 [ps 4 (.opt 0 0), ps 5 (.osl 1 0 (List.replicate (writeN u d / 1024) ((0, 0) : Int × Int)).length), ps 6 (iv ((1 : Nat) : Int)), pb 0 3 [(iv ((writeN u d : Nat) : Int))], pb 1 23 (vals (List.replicate (writeN u d / 1024) ((0, 0) : Int × Int)))] 0 hc0 [280, 328] [(kb 1, (vals (List.replicate (writeN u d / 1024) ((0, 0) : Int × Int))))] (obs_cons (flat_shd valC (fun _ => rfl) _) (obs_nil)) (by kernel_rfl) rfl rfl (by kernel_rfl) (by kernel_rfl)) ?_
            rintro ⟨⟨h, L⟩, ⟨h1, h11, hL, hLl⟩⟩
            dsimp only at h1 h11 hL hLl
            refine T_seq ?_
            refine T_seq ?_
            refine T_region [] [ks 4, ks 5, ks 6, ks 48, kb 0, kb 1] (fun _ => mixed) (l' := [ps 4 (.opt 0 0), ps 5 (.osl 1 0 L.length), ps 6 (iv ((h : Nat) : Int)), ps 48 (bv (decide (((h : Nat) : Int) ≤ 10))), pb 0 3 [(iv ((writeN u d : Nat) : Int))], pb 1 23 (vals L)]) (obs := []) (by kernel_rfl) (obs_nil) ?_
            by_cases h6 : ((h : Nat) : Int) ≤ 10
            · refine T_then (b := (decide (((h : Nat) : Int) ≤ 10))) rfl (decide_eq_true h6) ?_
              refine T_skip ?_
              refine T_seq ?_
              refine T_block ?_
              refine T_seq ?_
              refine T_region [] [ks 4, ks 5, ks 6, ks 7, kb 0, kb 1] (fun _ => mixed) (l' := [ps 4 (.opt 0 0), ps 5 (.osl 1 0 L.length), ps 6 (iv ((h : Nat) : Int)), ps 7 (.fn (.func 25) [] [(.opt 0 0)]), pb 0 3 [(iv ((writeN u d : Nat) : Int))], pb 1 23 (vals L)]) (obs := []) (by kernel_rfl) (obs_nil) ?_
              refine T_seq ?_
              refine T_region [] [ks 4, ks 5, ks 6, ks 7, ks 8, kb 0, kb 1] (fun _ => mixed) (l' := [ps 4 (.opt 0 0), ps 5 (.osl 1 0 L.length), ps 6 (iv ((h : Nat) : Int)), ps 7 (.fn (.func 25) [] [(.opt 0 0)]), ps 8 (iv (10 - ((h : Nat) : Int))), pb 0 3 [(iv ((writeN u d : Nat) : Int))], pb 1 23 (vals L)]) (obs := [InK .i64 (10 - ((h : Nat) : Int))]) (by kernel_rfl) (obs_cons (p := InK .i64 (10 - ((h : Nat) : Int))) (by simp only [InK]; omega) (obs_nil)) ?_
              refine T_seq ?_
              refine T_seq ?_
              refine T_wk (Wk.eq (show [ps 4 (.opt 0 0), ps 5 (.osl 1 0 L.length), ps 6 (iv ((h : Nat) : Int)), ps 7 (.fn (.func 25) [] [(.opt 0 0)]), ps 8 (iv (10 - ((h : Nat) : Int))), pb 0 3 [(iv ((writeN u d : Nat) : Int))], pb 1 23 (vals L)] = [ps 4 (.opt 0 0), ps 5 (.osl 1 0 L.length), ps 6 (iv ((h : Nat) : Int)), ps 7 (.fn (.func 25) [] [(.opt 0 0)]), ps 8 (iv ((10 - h : Nat) : Int)), pb 0 3 [(iv ((writeN u d : Nat) : Int))], pb 1 23 (vals L)] from by rw [show (10 : Int) - ((h : Nat) : Int) = ((10 - h : Nat) : Int) from by omega])) ?_
              refine T_region [(2, .call [0] [(iv ((10 - h : Nat) : Int)), (.opt 0 0)] [some (3, [(iv ((writeN u d : Nat) : Int))])] (bv (bitB (writeN u d) ((10 - h : Nat) : Int))) [some (3, [(iv ((writeN u d : Nat) : Int))])])] [ks 4, ks 5, ks 6, ks 7, ks 8, ks 57, kb 0, kb 1] (fun _ => mixed) (l' := [ps 4 (.opt 0 0), ps 5 (.osl 1 0 L.length), ps 6 (iv ((h : Nat) : Int)), ps 7 (.fn (.func 25) [] [(.opt 0 0)]), ps 8 (iv ((10 - h : Nat) : Int)), ps 57 (bv (!(bitB (writeN u d) ((10 - h : Nat) : Int)))), pb 0 3 [(iv ((writeN u d : Nat) : Int))], pb 1 23 (vals L)]) (obs := [PC Try.prog 25 [(iv ((10 - h : Nat) : Int)), (.opt 0 0)] [some (3, [(iv ((writeN u d : Nat) : Int))])] (bv (bitB (writeN u d) ((10 - h : Nat) : Int))) [some (3, [(iv ((writeN u d : Nat) : Int))])], [(iv ((10 - h : Nat) : Int)), (.opt 0 0)] = renL (sigi [0] 74) [(iv ((10 - h : Nat) : Int)), (.opt 0 0)], [(iv ((writeN u d : Nat) : Int))] = renL (sigi [0] 74) [(iv ((writeN u d : Nat) : Int))]]) (by kernel_rfl) (obs_cons (p := PC Try.prog 25 [(iv ((10 - h : Nat) : Int)), (.opt 0 0)] [some (3, [(iv ((writeN u d : Nat) : Int))])] (bv (bitB (writeN u d) ((10 - h : Nat) : Int))) [some (3, [(iv ((writeN u d : Nat) : Int))])]) (bit_pc (writeN u d) ((10 - h : Nat) : Int) (by omega)) (obs_cons (p := [(iv ((10 - h : Nat) : Int)), (.opt 0 0)] = renL (sigi [0] 74) [(iv ((10 - h : Nat) : Int)), (.opt 0 0)]) rfl (obs_cons (p := [(iv ((writeN u d : Nat) : Int))] = renL (sigi [0] 74) [(iv ((writeN u d : Nat) : Int))]) rfl (obs_nil)))) ?_
              by_cases h7 : (bitB (writeN u d) ((10 - h : Nat) : Int)) = true
              · refine T_else (b := (!(bitB (writeN u d) ((10 - h : Nat) : Int)))) rfl (congrArg Bool.not h7) ?_
                refine T_skip ?_
                refine T_seq ?_
                refine T_region [] [ks 4, ks 5, ks 6, ks 7, ks 8, ks 9, kb 0, kb 1, kb 106] (fun _ => mixed) (l' := [ps 4 (.opt 0 0), ps 5 (.osl 1 0 L.length), ps 6 (iv ((h : Nat) : Int)), ps 7 (.fn (.func 25) [] [(.opt 0 0)]), ps 8 (iv ((10 - h : Nat) : Int)), ps 9 (.opt 106 0), pb 0 3 [(iv ((writeN u d : Nat) : Int))], pb 1 23 (vals L), pb 106 23 [(iv ((h : Nat) : Int)), (iv 0)]]) (obs := []) (by kernel_rfl) (obs_nil) ?_
                refine T_seq ?_
                refine T_block ?_
                refine T_loop (α := {x : Nat // x ≤ dotsN (writeN u d) (10 - h)}) (fun x => [ps 4 (.opt 0 0), ps 5 (.osl 1 0 L.length), ps 6 (iv (((h : Nat) : Int) + ((x.1 : Nat) : Int))), ps 7 (.fn (.func 25) [] [(.opt 0 0)]), ps 8 (iv ((10 - h : Nat) : Int)), ps 9 (.opt 2 0), pb 0 3 [(iv ((writeN u d : Nat) : Int))], pb 1 23 (vals L), pb 2 23 [(iv ((h : Nat) : Int)), (iv ((x.1 : Nat) : Int))]]) (fun x => dotsN (writeN u d) (10 - h) - x.1) 3 ⟨0, Nat.zero_le _⟩ (Wk.ren3 [ps 4 (.opt 0 0), ps 5 (.osl 1 0 L.length), ps 6 (iv (((h : Nat) : Int) + ((0 : Nat) : Int))), ps 7 (.fn (.func 25) [] [(.opt 0 0)]), ps 8 (iv ((10 - h : Nat) : Int)), ps 9 (.opt 2 0), pb 0 3 [(iv ((writeN u d : Nat) : Int))], pb 1 23 (vals L), pb 2 23 [(iv ((h : Nat) : Int)), (iv ((0 : Nat) : Int))]] 0 hc0 [0, 1, 106] [(kb 1, (vals L))] (obs_cons (flat_shd valC (fun _ => rfl) _) (obs_nil)) (by kernel_rfl) rfl rfl (by kernel_rfl) (by kernel_rfl)) ?_
                rintro ⟨j, hj⟩
                refine T_seq ?_
                refine T_seq ?_
                by_cases h8 : ((j : Nat) : Int) < 3
                · refine T_region [(4, .gd true (.no)), (5, .gd true (.no)), (6, .gd true (.no)), (7, .gd true (.no)), (8, .gd true (.no)), (9, .gd true (.no)), (10, .gd true (.call [0] [(iv ((((10 - h : Nat) : Int) - 1) - ((j : Nat) : Int))), (.opt 0 0)] [some (3, [(iv ((writeN u d : Nat) : Int))])] (bv (bitB (writeN u d) ((((10 - h : Nat) : Int) - 1) - ((j : Nat) : Int)))) [some (3, [(iv ((writeN u d : Nat) : Int))])])), (11, .yes true)] [ks 4, ks 5, ks 6, ks 7, ks 8, ks 9, ks 71, kb 0, kb 1, kb 2] (fun _ => mixed) (l' := [ps 4 (.opt 0 0), ps 5 (.osl 1 0 L.length), ps 6 (iv (((h : Nat) : Int) + ((j : Nat) : Int))), ps 7 (.fn (.func 25) [] [(.opt 0 0)]), ps 8 (iv ((10 - h : Nat) : Int)), ps 9 (.opt 2 0), ps 71 (bv (bitB (writeN u d) ((((10 - h : Nat) : Int) - 1) - ((j : Nat) : Int)))), pb 0 3 [(iv ((writeN u d : Nat) : Int))], pb 1 23 (vals L), pb 2 23 [(iv ((h : Nat) : Int)), (iv ((j : Nat) : Int))]]) (obs := [(decide (((j : Nat) : Int) < 3)) = true, (decide (((j : Nat) : Int) < 3)) = true, (decide (((j : Nat) : Int) < 3)) = true, InK .i64 (((10 - h : Nat) : Int) - 1), (decide (((j : Nat) : Int) < 3)) = true, (decide (((j : Nat) : Int) < 3)) = true, (decide (((j : Nat) : Int) < 3)) = true, InK .i64 ((((10 - h : Nat) : Int) - 1) - ((j : Nat) : Int)), (decide (((j : Nat) : Int) < 3)) = true, PC Try.prog 25 [(iv ((((10 - h : Nat) : Int) - 1) - ((j : Nat) : Int))), (.opt 0 0)] [some (3, [(iv ((writeN u d : Nat) : Int))])] (bv (bitB (writeN u d) ((((10 - h : Nat) : Int) - 1) - ((j : Nat) : Int)))) [some (3, [(iv ((writeN u d : Nat) : Int))])], [(iv ((((10 - h : Nat) : Int) - 1) - ((j : Nat) : Int))), (.opt 0 0)] = renL (sigi [0] 83) [(iv ((((10 - h : Nat) : Int) - 1) - ((j : Nat) : Int))), (.opt 0 0)], [(iv ((writeN u d : Nat) : Int))] = renL (sigi [0] 83) [(iv ((writeN u d : Nat) : Int))], (decide (((j : Nat) : Int) < 3)) = true]) (by kernel_rfl) (obs_cons (p := (decide (((j : Nat) : Int) < 3)) = true) (decide_eq_true h8) (obs_cons (p := (decide (((j : Nat) : Int) < 3)) = true) (decide_eq_true h8) (obs_cons (p := (decide (((j : Nat) : Int) < 3)) = true) (decide_eq_true h8) (obs_cons (p := InK .i64 (((10 - h : Nat) : Int) - 1)) (by simp only [InK]; omega) (obs_cons (p := (decide (((j : Nat) : Int) < 3)) = true) (decide_eq_true h8) (obs_cons (p := (decide (((j : Nat) : Int) < 3)) = true) (decide_eq_true h8) (obs_cons (p := (decide (((j : Nat) : Int) < 3)) = true) (decide_eq_true h8) (obs_cons (p := InK .i64 ((((10 - h : Nat) : Int) - 1) - ((j : Nat) : Int))) (by simp only [InK]; omega) (obs_cons (p := (decide (((j : Nat) : Int) < 3)) = true) (decide_eq_true h8) (obs_cons (p := PC Try.prog 25 [(iv ((((10 - h : Nat) : Int) - 1) - ((j : Nat) : Int))), (.opt 0 0)] [some (3, [(iv ((writeN u d : Nat) : Int))])] (bv (bitB (writeN u d) ((((10 - h : Nat) : Int) - 1) - ((j : Nat) : Int)))) [some (3, [(iv ((writeN u d : Nat) : Int))])]) (bit_pc (writeN u d) ((((10 - h : Nat) : Int) - 1) - ((j : Nat) : Int)) (by omega)) (obs_cons (p := [(iv ((((10 - h : Nat) : Int) - 1) - ((j : Nat) : Int))), (.opt 0 0)] = renL (sigi [0] 83) [(iv ((((10 - h : Nat) : Int) - 1) - ((j : Nat) : Int))), (.opt 0 0)]) rfl (obs_cons (p := [(iv ((writeN u d : Nat) : Int))] = renL (sigi [0] 83) [(iv ((writeN u d : Nat) : Int))]) rfl (obs_cons (p := (decide (((j : Nat) : Int) < 3)) = true) (decide_eq_true h8) (obs_nil)))))))))))))) ?_
                  by_cases h9 : (bitB (writeN u d) ((((10 - h : Nat) : Int) - 1) - ((j : Nat) : Int))) = true
                  · refine T_then (b := (bitB (writeN u d) ((((10 - h : Nat) : Int) - 1) - ((j : Nat) : Int)))) rfl h9 ?_
                    refine T_skip ?_
                    refine T_block ?_
                    refine T_seq ?_
                    refine T_region [] [ks 4, ks 5, ks 6, ks 7, ks 8, ks 9, kb 0, kb 1, kb 2] (fun _ => mixed) (l' := [ps 4 (.opt 0 0), ps 5 (.osl 1 0 L.length), ps 6 (iv (((h : Nat) : Int) + ((j : Nat) : Int))), ps 7 (.fn (.func 25) [] [(.opt 0 0)]), ps 8 (iv ((10 - h : Nat) : Int)), ps 9 (.opt 2 0), pb 0 3 [(iv ((writeN u d : Nat) : Int))], pb 1 23 (vals L), pb 2 23 [(iv ((h : Nat) : Int)), (iv (((j : Nat) : Int) + 1))]]) (obs := [InK .i64 (((j : Nat) : Int) + 1)]) (by kernel_rfl) (obs_cons (p := InK .i64 (((j : Nat) : Int) + 1)) (by simp only [InK]; omega) (obs_nil)) ?_
                    refine T_region [] [ks 4, ks 5, ks 6, ks 7, ks 8, ks 9, kb 0, kb 1, kb 2] (fun _ => mixed) (l' := [ps 4 (.opt 0 0), ps 5 (.osl 1 0 L.length), ps 6 (iv ((((h : Nat) : Int) + ((j : Nat) : Int)) + 1)), ps 7 (.fn (.func 25) [] [(.opt 0 0)]), ps 8 (iv ((10 - h : Nat) : Int)), ps 9 (.opt 2 0), pb 0 3 [(iv ((writeN u d : Nat) : Int))], pb 1 23 (vals L), pb 2 23 [(iv ((h : Nat) : Int)), (iv (((j : Nat) : Int) + 1))]]) (obs := [InK .i64 ((((h : Nat) : Int) + ((j : Nat) : Int)) + 1)]) (by kernel_rfl) (obs_cons (p := InK .i64 ((((h : Nat) : Int) + ((j : Nat) : Int)) + 1)) (by simp only [InK]; omega) (obs_nil)) ?_
                    refine T_blk ?_
                    exact T_back ⟨j + 1, dots_more hj (by omega) (by rw [show ((10 - h : Nat) : Int) - 1 - ((j : Nat) : Int) = ((10 - h : Nat) : Int) - 1 - (j : Int) from rfl] at *; exact h9)⟩ (Wk.ren3 [ps 4 (.opt 0 0), ps 5 (.osl 1 0 L.length), ps 6 (iv (((h : Nat) : Int) + (((j + 1) : Nat) : Int))), ps 7 (.fn (.func 25) [] [(.opt 0 0)]), ps 8 (iv ((10 - h : Nat) : Int)), ps 9 (.opt 2 0), pb 0 3 [(iv ((writeN u d : Nat) : Int))], pb 1 23 (vals L), pb 2 23 [(iv ((h : Nat) : Int)), (iv (((j + 1) : Nat) : Int))]] 0 hc0 [0, 1, 2] [(kb 1, (vals L))] (obs_cons (flat_shd valC (fun _ => rfl) _) (obs_nil)) (by kernel_rfl) rfl rfl (by kernel_rfl) (by kernel_rfl)) (show dotsN (writeN u d) (10 - h) - (j + 1) < dotsN (writeN u d) (10 - h) - j from by have := dots_more hj (by omega) h9; omega)
                  · refine T_else (b := (bitB (writeN u d) ((((10 - h : Nat) : Int) - 1) - ((j : Nat) : Int)))) rfl (Bool.eq_false_iff.2 h9) ?_
                    refine T_break rfl rfl ?_
                    have hjd : j = dotsN (writeN u d) (10 - h) := dots_end hj h9
                    have hdl := (dots_le (writeN u d) (10 - h)).1
                    refine T_region [(3, .app none (some (vals (L ++ [(((h : Nat) : Int), ((j : Nat) : Int))]))))] [ks 4, ks 5, ks 6, kb 0, kb 123] (fun _ => mixed) (l' := [ps 4 (.opt 0 0), ps 5 (.osl 123 0 (L.length + 1)), ps 6 (iv (((h : Nat) : Int) + ((j : Nat) : Int))), pb 0 3 [(iv ((writeN u d : Nat) : Int))], pb 123 23 (vals (L ++ [(((h : Nat) : Int), ((j : Nat) : Int))]))]) (obs := [((vals L)).length = L.length * 2, (L.length + 1) * 16 ≤ 140737488355328 ∧ L.length + 1 ≤ 9223372036854775807, (vals L) ++ [(iv ((h : Nat) : Int)), (iv ((j : Nat) : Int))] = (vals (L ++ [(((h : Nat) : Int), ((j : Nat) : Int))]))]) (by kernel_rfl) (obs_cons (p := ((vals L)).length = L.length * 2) (vals_len _) (obs_cons (p := (L.length + 1) * 16 ≤ 140737488355328 ∧ L.length + 1 ≤ 9223372036854775807) (by omega) (obs_cons (p := (vals L) ++ [(iv ((h : Nat) : Int)), (iv ((j : Nat) : Int))] = (vals (L ++ [(((h : Nat) : Int), ((j : Nat) : Int))]))) (flat_app valC L [(((h : Nat) : Int), ((j : Nat) : Int))]).symm (obs_nil)))) ?_
                    refine T_blk ?_
                    refine T_region [] [ks 4, ks 5, ks 6, kb 0, kb 123] (fun _ => mixed) (l' := [ps 4 (.opt 0 0), ps 5 (.osl 123 0 (L.length + 1)), ps 6 (iv ((((h : Nat) : Int) + ((j : Nat) : Int)) + 1)), pb 0 3 [(iv ((writeN u d : Nat) : Int))], pb 123 23 (vals (L ++ [(((h : Nat) : Int), ((j : Nat) : Int))]))]) (obs := [InK .i64 ((((h : Nat) : Int) + ((j : Nat) : Int)) + 1)]) (by kernel_rfl) (obs_cons (p := InK .i64 ((((h : Nat) : Int) + ((j : Nat) : Int)) + 1)) (by simp only [InK]; omega) (obs_nil)) ?_
                    exact T_back ⟨(h + j + 1, L ++ [(((h : Nat) : Int), ((j : Nat) : Int))]), ⟨by omega, by omega, by rw [List.append_assoc, List.singleton_append, hjd, show 11 - (h + dotsN (writeN u d) (10 - h) + 1) = 10 - h - dotsN (writeN u d) (10 - h) from by omega, ← hL, show 11 - h = 10 - h + 1 from by omega, pt_yes h7, show 10 - (10 - h) = h from by omega], by rw [snoc_len]; omega⟩⟩ (Wk.trans (Wk.eq (show [ps 4 (.opt 0 0), ps 5 (.osl 123 0 (L.length + 1)), ps 6 (iv ((((h : Nat) : Int) + ((j : Nat) : Int)) + 1)), pb 0 3 [(iv ((writeN u d : Nat) : Int))], pb 123 23 (vals (L ++ [(((h : Nat) : Int), ((j : Nat) : Int))]))] = [ps 4 (.opt 0 0), ps 5 (.osl 123 0 ((L ++ [(((h : Nat) : Int), ((j : Nat) : Int))]).length)), ps 6 (iv ((((h : Nat) : Int) + ((j : Nat) : Int)) + 1)), pb 0 3 [(iv ((writeN u d : Nat) : Int))], pb 123 23 (vals (L ++ [(((h : Nat) : Int), ((j : Nat) : Int))]))] from by rw [snoc_len])) (Wk.ren3 [ps 4 (.opt 0 0), ps 5 (.osl 1 0 (L ++ [(((h : Nat) : Int), ((j : Nat) : Int))]).length), ps 6 (iv (((h + j + 1) : Nat) : Int)), pb 0 3 [(iv ((writeN u d : Nat) : Int))], pb 1 23 (vals (L ++ [(((h : Nat) : Int), ((j : Nat) : Int))]))] 0 hc0 [0, 123] [(kb 1, (vals (L ++ [(((h : Nat) : Int), ((j : Nat) : Int))])))] (obs_cons (flat_shd valC (fun _ => rfl) _) (obs_nil)) (by kernel_rfl) rfl rfl (by kernel_rfl) (by kernel_rfl))) (show 11 - (h + j + 1) < 11 - h from by omega)
                · refine T_region [(4, .gd false .no), (5, .gd false .no), (6, .gd false .no), (7, .gd false .no), (8, .gd false .no), (9, .gd false .no), (10, .gd false .no), (11, .yes false)] [ks 4, ks 5, ks 6, ks 7, ks 8, ks 9, ks 71, kb 0, kb 1, kb 2] (fun _ => mixed) (l' := [ps 4 (.opt 0 0), ps 5 (.osl 1 0 L.length), ps 6 (iv (((h : Nat) : Int) + ((j : Nat) : Int))), ps 7 (.fn (.func 25) [] [(.opt 0 0)]), ps 8 (iv ((10 - h : Nat) : Int)), ps 9 (.opt 2 0), ps 71 (bv false), pb 0 3 [(iv ((writeN u d : Nat) : Int))], pb 1 23 (vals L), pb 2 23 [(iv ((h : Nat) : Int)), (iv ((j : Nat) : Int))]]) (obs := [(decide (((j : Nat) : Int) < 3)) = false, (decide (((j : Nat) : Int) < 3)) = false, (decide (((j : Nat) : Int) < 3)) = false, (decide (((j : Nat) : Int) < 3)) = false, (decide (((j : Nat) : Int) < 3)) = false, (decide (((j : Nat) : Int) < 3)) = false, (decide (((j : Nat) : Int) < 3)) = false, (decide (((j : Nat) : Int) < 3)) = false]) (by kernel_rfl) (obs_cons (p := (decide (((j : Nat) : Int) < 3)) = false) (decide_eq_false h8) (obs_cons (p := (decide (((j : Nat) : Int) < 3)) = false) (decide_eq_false h8) (obs_cons (p := (decide (((j : Nat) : Int) < 3)) = false) (decide_eq_false h8) (obs_cons (p := (decide (((j : Nat) : Int) < 3)) = false) (decide_eq_false h8) (obs_cons (p := (decide (((j : Nat) : Int) < 3)) = false) (decide_eq_false h8) (obs_cons (p := (decide (((j : Nat) : Int) < 3)) = false) (decide_eq_false h8) (obs_cons (p := (decide (((j : Nat) : Int) < 3)) = false) (decide_eq_false h8) (obs_cons (p := (decide (((j : Nat) : Int) < 3)) = false) (decide_eq_false h8) (obs_nil))))))))) ?_
                  refine T_else (b := false) rfl rfl ?_
                  refine T_break rfl rfl ?_
                  have hjd : j = dotsN (writeN u d) (10 - h) := dots_three hj h8
                  have hdl := (dots_le (writeN u d) (10 - h)).1
                  refine T_region [(3, .app none (some (vals (L ++ [(((h : Nat) : Int), ((j : Nat) : Int))]))))] [ks 4, ks 5, ks 6, kb 0, kb 123] (fun _ => mixed) (l' := [ps 4 (.opt 0 0), ps 5 (.osl 123 0 (L.length + 1)), ps 6 (iv (((h : Nat) : Int) + ((j : Nat) : Int))), pb 0 3 [(iv ((writeN u d : Nat) : Int))], pb 123 23 (vals (L ++ [(((h : Nat) : Int), ((j : Nat) : Int))]))]) (obs := [((vals L)).length = L.length * 2, (L.length + 1) * 16 ≤ 140737488355328 ∧ L.length + 1 ≤ 9223372036854775807, (vals L) ++ [(iv ((h : Nat) : Int)), (iv ((j : Nat) : Int))] = (vals (L ++ [(((h : Nat) : Int), ((j : Nat) : Int))]))]) (by kernel_rfl) (obs_cons (p := ((vals L)).length = L.length * 2) (vals_len _) (obs_cons (p := (L.length + 1) * 16 ≤ 140737488355328 ∧ L.length + 1 ≤ 9223372036854775807) (by omega) (obs_cons (p := (vals L) ++ [(iv ((h : Nat) : Int)), (iv ((j : Nat) : Int))] = (vals (L ++ [(((h : Nat) : Int), ((j : Nat) : Int))]))) (flat_app valC L [(((h : Nat) : Int), ((j : Nat) : Int))]).symm (obs_nil)))) ?_
                  refine T_blk ?_
                  refine T_region [] [ks 4, ks 5, ks 6, kb 0, kb 123] (fun _ => mixed) (l' := [ps 4 (.opt 0 0), ps 5 (.osl 123 0 (L.length + 1)), ps 6 (iv ((((h : Nat) : Int) + ((j : Nat) : Int)) + 1)), pb 0 3 [(iv ((writeN u d : Nat) : Int))], pb 123 23 (vals (L ++ [(((h : Nat) : Int), ((j : Nat) : Int))]))]) (obs := [InK .i64 ((((h : Nat) : Int) + ((j : Nat) : Int)) + 1)]) (by kernel_rfl) (obs_cons (p := InK .i64 ((((h : Nat) : Int) + ((j : Nat) : Int)) + 1)) (by simp only [InK]; omega) (obs_nil)) ?_
                  exact T_back ⟨(h + j + 1, L ++ [(((h : Nat) : Int), ((j : Nat) : Int))]), ⟨by omega, by omega, by rw [List.append_assoc, List.singleton_append, hjd, show 11 - (h + dotsN (writeN u d) (10 - h) + 1) = 10 - h - dotsN (writeN u d) (10 - h) from by omega, ← hL, show 11 - h = 10 - h + 1 from by omega, pt_yes h7, show 10 - (10 - h) = h from by omega], by rw [snoc_len]; omega⟩⟩ (Wk.trans (Wk.eq (show [ps 4 (.opt 0 0), ps 5 (.osl 123 0 (L.length + 1)), ps 6 (iv ((((h : Nat) : Int) + ((j : Nat) : Int)) + 1)), pb 0 3 [(iv ((writeN u d : Nat) : Int))], pb 123 23 (vals (L ++ [(((h : Nat) : Int), ((j : Nat) : Int))]))] = [ps 4 (.opt 0 0), ps 5 (.osl 123 0 ((L ++ [(((h : Nat) : Int), ((j : Nat) : Int))]).length)), ps 6 (iv ((((h : Nat) : Int) + ((j : Nat) : Int)) + 1)), pb 0 3 [(iv ((writeN u d : Nat) : Int))], pb 123 23 (vals (L ++ [(((h : Nat) : Int), ((j : Nat) : Int))]))] from by rw [snoc_len])) (Wk.ren3 [ps 4 (.opt 0 0), ps 5 (.osl 1 0 (L ++ [(((h : Nat) : Int), ((j : Nat) : Int))]).length), ps 6 (iv (((h + j + 1) : Nat) : Int)), pb 0 3 [(iv ((writeN u d : Nat) : Int))], pb 1 23 (vals (L ++ [(((h : Nat) : Int), ((j : Nat) : Int))]))] 0 hc0 [0, 123] [(kb 1, (vals (L ++ [(((h : Nat) : Int), ((j : Nat) : Int))])))] (obs_cons (flat_shd valC (fun _ => rfl) _) (obs_nil)) (by kernel_rfl) rfl rfl (by kernel_rfl) (by kernel_rfl))) (show 11 - (h + j + 1) < 11 - h from by omega)
              · refine T_then (b := (!(bitB (writeN u d) ((10 - h : Nat) : Int)))) rfl (congrArg Bool.not (Bool.eq_false_iff.2 h7)) ?_
                refine T_exit rfl ?_
                refine T_region [] [ks 4, ks 5, ks 6, kb 0, kb 1] (fun _ => mixed) (l' := [ps 4 (.opt 0 0), ps 5 (.osl 1 0 L.length), ps 6 (iv (((h : Nat) : Int) + 1)), pb 0 3 [(iv ((writeN u d : Nat) : Int))], pb 1 23 (vals L)]) (obs := [InK .i64 (((h : Nat) : Int) + 1)]) (by kernel_rfl) (obs_cons (p := InK .i64 (((h : Nat) : Int) + 1)) (by simp only [InK]; omega) (obs_nil)) ?_
                exact T_back ⟨(h + 1, L), ⟨by omega, by omega, by rw [← hL, show 11 - h = 10 - h + 1 from by omega, pt_no h7, show 11 - (h + 1) = 10 - h from by omega], by show L.length ≤ 65536 + (h + 1); omega⟩⟩ (Wk.ren3 [ps 4 (.opt 0 0), ps 5 (.osl 1 0 L.length), ps 6 (iv (((h + 1) : Nat) : Int)), pb 0 3 [(iv ((writeN u d : Nat) : Int))], pb 1 23 (vals L)] 0 hc0 [0, 1] [(kb 1, (vals L))] (obs_cons (flat_shd valC (fun _ => rfl) _) (obs_nil)) (by kernel_rfl) rfl rfl (by kernel_rfl) (by kernel_rfl)) (show 11 - (h + 1) < 11 - h from by omega)
            · refine T_else (b := (decide (((h : Nat) : Int) ≤ 10))) rfl (decide_eq_false h6) ?_
              refine T_break rfl rfl ?_
              refine T_seq ?_
              refine T_region [] [ks 2, ks 3, kb 1] (fun _ => mixed) (l' := [ps 2 (.osl 1 0 L.length), ps 3 (iv 0), pb 1 23 (vals L)]) (obs := []) (by kernel_rfl) (obs_nil) ?_
              obtain rfl : h = 11 := by omega
              obtain rfl : L = valsS (writeN u d) := by rw [← hL]; simp [pt]
              refine T_wk (Wk.frz (l' := [ps 2 (.ssl (vals (valsS (writeN u d))) 0 ((valsS (writeN u d)).length)), ps 3 (iv 0), (kb 1, none)]) 1 (T := 23) (cs := (vals (valsS (writeN u d)))) (by kernel_rfl) (flat_shd valC (fun _ => rfl) _) (by kernel_rfl)) ?_
              refine T_wk (Wk.less (l' := [ps 2 (.ssl (vals (valsS (writeN u d))) 0 ((valsS (writeN u d)).length)), ps 3 (iv 0)]) 42 (by kernel_rfl) (by kernel_rfl)) ?_
              rw [writeP_yes hE]
              exact T_ret fun cx_ a_ hI_ => ret_ok (H' := []) (.inr rfl) (Wk.ren2 [ps 2 (.ssl (vals (valsS (writeN u d))) 0 ((valsS (writeN u d)).length)), ps 3 (iv 0)] 0 hc0 [] rfl rfl (by kernel_rfl) (by kernel_rfl)) rfl (obs_nil) (fun cx_ a_ hI_ => ret_res (l' := [ps 2 (.ssl (vals (valsS (writeN u d))) 0 ((valsS (writeN u d)).length)), ps 3 (iv 0)]) (by kernel_rfl) cx_ a_ hI_) hI_
        · refine T_region [(8, .gd true .no), (9, .gd true .no), (10, .gd true .no), (11, .yes true)] [ks 1, ks 35, kb 0] (fun _ => mixed) (l' := [ps 1 (.opt 0 0), ps 35 (bv true), pb 0 25 [(iv u), (iv d)]]) (obs := [InK .i64 (d - 1), (!(decide ((IntKind.wrap .i64 (BitVec.ofInt (IntKind.bits .i64) d &&& BitVec.ofInt (IntKind.bits .i64) (d - 1)).toNat) = 0))) = true, (!(decide ((IntKind.wrap .i64 (BitVec.ofInt (IntKind.bits .i64) d &&& BitVec.ofInt (IntKind.bits .i64) (d - 1)).toNat) = 0))) = true, (!(decide ((IntKind.wrap .i64 (BitVec.ofInt (IntKind.bits .i64) d &&& BitVec.ofInt (IntKind.bits .i64) (d - 1)).toNat) = 0))) = true, (!(decide ((IntKind.wrap .i64 (BitVec.ofInt (IntKind.bits .i64) d &&& BitVec.ofInt (IntKind.bits .i64) (d - 1)).toNat) = 0))) = true]) (by kernel_rfl) (obs_cons (p := InK .i64 (d - 1)) (by simp only [InK]; omega) (obs_cons (p := (!(decide ((IntKind.wrap .i64 (BitVec.ofInt (IntKind.bits .i64) d &&& BitVec.ofInt (IntKind.bits .i64) (d - 1)).toNat) = 0))) = true) (congrArg Bool.not (decide_eq_false h4)) (obs_cons (p := (!(decide ((IntKind.wrap .i64 (BitVec.ofInt (IntKind.bits .i64) d &&& BitVec.ofInt (IntKind.bits .i64) (d - 1)).toNat) = 0))) = true) (congrArg Bool.not (decide_eq_false h4)) (obs_cons (p := (!(decide ((IntKind.wrap .i64 (BitVec.ofInt (IntKind.bits .i64) d &&& BitVec.ofInt (IntKind.bits .i64) (d - 1)).toNat) = 0))) = true) (congrArg Bool.not (decide_eq_false h4)) (obs_cons (p := (!(decide ((IntKind.wrap .i64 (BitVec.ofInt (IntKind.bits .i64) d &&& BitVec.ofInt (IntKind.bits .i64) (d - 1)).toNat) = 0))) = true) (congrArg Bool.not (decide_eq_false h4)) (obs_nil)))))) ?_
          refine T_then (b := true) rfl rfl ?_
          refine T_seq ?_
          refine T_region [] [ks 2, ks 3] (fun _ => mixed) (l' := [ps 2 (.av (.slice none 0 0)), ps 3 (iv 6)]) (obs := []) (by kernel_rfl) (obs_nil) ?_
          have hm : ¬ (1024 : Int) % d = 0 := by
            by_cases hd4 : d ≤ 1024
            · obtain ⟨dn, rfl⟩ : ∃ n : Nat, d = (n : Int) := ⟨d.toNat, by omega⟩
              exact fun hm => h4 ((and_two dn (by omega) (by omega)).2 hm)
            · rw [Int.emod_eq_of_lt (by decide) (by omega)]; decide
          rw [writeP_no (e := 6) (by unfold writeE; rw [if_neg (by rw [h1]; decide), if_neg (by omega), if_pos hm]) (by decide)]
          exact T_ret fun cx_ a_ hI_ => ret_ok (H' := []) (.inr rfl) (Wk.ren2 [ps 2 (.av (.slice none 0 0)), ps 3 (iv 6)] 0 hc0 [] rfl rfl (by kernel_rfl) (by kernel_rfl)) rfl (obs_nil) (fun cx_ a_ hI_ => ret_res (l' := [ps 2 (.av (.slice none 0 0)), ps 3 (iv 6)]) (by kernel_rfl) cx_ a_ hI_) hI_
  · refine T_then (b := (!(Fr.rightB u d))) rfl (congrArg Bool.not (Bool.eq_false_iff.2 h1)) ?_
    refine T_seq ?_
    refine T_region [] [ks 2, ks 3] (fun _ => mixed) (l' := [ps 2 (.av (.slice none 0 0)), ps 3 (iv 2)]) (obs := []) (by kernel_rfl) (obs_nil) ?_
    rw [writeP_no (e := 2) (by unfold writeE; rw [if_pos (Bool.eq_false_iff.2 h1)]) (by decide)]
    exact T_ret fun cx_ a_ hI_ => ret_ok (H' := []) (.inr rfl) (Wk.ren2 [ps 2 (.av (.slice none 0 0)), ps 3 (iv 2)] 0 hc0 [] rfl rfl (by kernel_rfl) (by kernel_rfl)) rfl (obs_nil) (fun cx_ a_ hI_ => ret_res (l' := [ps 2 (.av (.slice none 0 0)), ps 3 (iv 2)]) (by kernel_rfl) cx_ a_ hI_) hI_
end Go.Proofs.Ytccpefbfjahfnaa.Pm
namespace Go.Proofs.Ytccpefbfjahfnaa.Pm
open Go Fr

/-- Of what is left: the halves, the dots, the part and what is left behind so many dots. -/
def hM (m : Nat) : Nat := 10 - Nat.log2 m
def dM (m : Nat) : Nat := dotsN m (10 - hM m)
def partM (m j : Nat) : Nat := 2 ^ (10 - hM m - j)
def leftM (m j : Nat) : Nat := m - (2 ^ (11 - hM m) - 2 ^ (10 - hM m - j))
theorem pt_left : ∀ m : Nat, m < 1024 → 0 < m → pt m 10 0 = (((hM m : Nat) : Int), ((dM m : Nat) : Int)) :: pt (leftM m (dM m)) 10 0 ∧ leftM m (dM m) < m ∧ 1 ≤ hM m ∧ hM m ≤ 10 ∧ dM m ≤ 3 ∧ leftM m 0 = m - partM m 0 ∧ partM m 0 ≤ m := by decide +kernel
theorem half_more : ∀ m : Nat, m < 1024 → ∀ h : Nat, h < 11 → (0 < m ∧ 1 ≤ h ∧ h ≤ hM m) → (m < 2 ^ (10 - h) ↔ h < hM m) := by decide +kernel
theorem dot_iff : ∀ m : Nat, m < 1024 → ∀ j : Nat, j < 4 → (0 < m ∧ j ≤ dM m) → ((j < 3 ∧ 1 < partM m j ∧ partM m j / 2 ≤ leftM m j) ↔ j < dM m) := by decide +kernel
theorem dot_step : ∀ m : Nat, m < 1024 → ∀ j : Nat, j < 4 → (0 < m ∧ j < dM m) → (partM m j / 2 = partM m (j + 1) ∧ leftM m j - partM m (j + 1) = leftM m (j + 1) ∧ partM m (j + 1) ≤ leftM m j) := by decide +kernel
theorem part_bd (m j : Nat) : 1 ≤ partM m j ∧ partM m j ≤ 1024 := ⟨Nat.one_le_two_pow, Nat.pow_le_pow_right (n := 2) (by decide) (show 10 - hM m - j ≤ 10 by omega)⟩
theorem left_bd (m j : Nat) : leftM m j ≤ m := Nat.sub_le _ _
theorem rep_snoc (i : Nat) : vals (List.replicate i (0, 0)) ++ [iv 0, iv 0] = vals (List.replicate (i + 1) (0, 0)) := by
  rw [List.replicate_succ', vals, vals, flat_app]; rfl
theorem pow_nat (n : Nat) : (2 : Int) ^ n = ((2 ^ n : Nat) : Int) := by simp
end Go.Proofs.Ytccpefbfjahfnaa.Pm
