/-
  SPANS: plain: beats as trees, what is wrong with them, how time is shared out.
-/
import Derived.Test.YtccpefbfjahfnaaPmFrac
import Derived.Test.YtccpefbfjahfnaaPmU
namespace Go.Proofs.Ytccpefbfjahfnaa.Pm
open Go Fr Gcd

inductive Beat where
  | mk (k s : Int) (l : List Beat)
def kd : Beat → Int | .mk k _ _ => k
def sh : Beat → Int | .mk _ s _ => s
def kids : Beat → List Beat | .mk _ _ l => l
abbrev dB : Beat := .mk 0 0 []
mutual
def kc : Beat → List PV
  | .mk _ _ l => kcs l
def kcs : List Beat → List PV
  | [] => []
  | b :: l => iv (kd b) :: iv (sh b) :: .ssl (kc b) 0 (kids b).length :: kcs l
end
/-- A beat's cells. -/
def gB (b : Beat) : List PV := [iv (kd b), iv (sh b), .ssl (kc b) 0 (kids b).length]
theorem kcs_flat : ∀ l : List Beat, kcs l = l.flatMap gB
  | [] => by simp [kcs]
  | b :: l => by rw [kcs, kcs_flat l, List.flatMap_cons]; rfl
theorem kc_eq (b : Beat) : kc b = (kids b).flatMap gB := by
  cases b with | mk k s l => rw [kc, kcs_flat]; rfl
theorem kc_at (b : Beat) (k j m : Nat) (hk : k < (kids b).length) (hj : j + m ≤ 3) : k * 3 + j + m ≤ (kc b).length ∧ ((kc b).drop (k * 3 + j)).take m = ((gB ((kids b).getD k dB)).drop j).take m := by
  rw [kc_eq]
  exact flat_at gB 3 (fun _ => rfl) dB (kids b) k j m hk hj
theorem kc_shd (b : Beat) : shds (kc b) := by
  rw [kc_eq]
  exact flat_shd gB (fun _ => rfl) _
theorem kids_lt {b : Beat} {i : Nat} (h : i < (kids b).length) : SizeOf.sizeOf ((kids b).getD i dB) < SizeOf.sizeOf b := by
  cases b with
  | mk k s l =>
    simp only [kids] at h ⊢
    rw [List.getD_eq_getElem?_getD, List.getElem?_eq_getElem h]
    have := List.sizeOf_lt_of_mem (List.getElem_mem h)
    simp only [Option.getD_some, Beat.mk.sizeOf_spec]
    omega

/-! ### what is wrong -/
mutual
def lookS : Beat → Int → Int → Int × Int
  | .mk k s l, lv, n => if 32 < lv then (4, n) else if 4096 < n + 1 then (4, n + 1) else if s < 1 ∨ 65536 < s then (3, n + 1) else
    if k = 1 ∨ k = 2 ∨ k = 3 then (if l.length = 0 then (0, n + 1) else (5, n + 1)) else if k = 4 then (if l.length = 0 then (5, n + 1) else lookL l (lv + 1) (n + 1)) else (1, n + 1)
def lookL : List Beat → Int → Int → Int × Int
  | [], _, n => (0, n)
  | b :: l, lv, n => if (lookS b lv n).1 = 0 then lookL l lv (lookS b lv n).2 else lookS b lv n
end
theorem lookS_eq (b : Beat) (lv n : Int) : lookS b lv n = if 32 < lv then (4, n) else if 4096 < n + 1 then (4, n + 1) else if sh b < 1 ∨ 65536 < sh b then (3, n + 1) else
    if kd b = 1 ∨ kd b = 2 ∨ kd b = 3 then (if (kids b).length = 0 then (0, n + 1) else (5, n + 1)) else if kd b = 4 then (if (kids b).length = 0 then (5, n + 1) else lookL (kids b) (lv + 1) (n + 1)) else (1, n + 1) := by
  cases b with | mk k s l => rw [lookS]; rfl
theorem drop_cons {l : List Beat} {i : Nat} (h : i < l.length) : l.drop i = l.getD i dB :: l.drop (i + 1) := by
  rw [List.drop_eq_getElem_cons h, List.getD_eq_getElem?_getD, List.getElem?_eq_getElem h]
  rfl
theorem lookL_next {l : List Beat} {i : Nat} {lv n : Int} (h : i < l.length) (h0 : (lookS (l.getD i dB) lv n).1 = 0) : lookL (l.drop (i + 1)) lv (lookS (l.getD i dB) lv n).2 = lookL (l.drop i) lv n := by
  rw [drop_cons h, lookL, if_pos h0]
theorem lookL_stop {l : List Beat} {i : Nat} {lv n : Int} (h : i < l.length) (h0 : ¬ (lookS (l.getD i dB) lv n).1 = 0) : lookL (l.drop i) lv n = lookS (l.getD i dB) lv n := by
  rw [drop_cons h, lookL, if_neg h0]
mutual
def cnt : Beat → Nat
  | .mk _ _ l => cntL l + 1
def cntL : List Beat → Nat
  | [] => 0
  | b :: l => cnt b + cntL l
end
mutual
/-- What is right with a beat that nothing is wrong with. -/
def good : Beat → Prop
  | .mk k s l => 1 ≤ s ∧ s ≤ 65536 ∧ (k = 4 → l ≠ []) ∧ goodL l
def goodL : List Beat → Prop
  | [] => True
  | b :: l => good b ∧ goodL l
end
theorem cnt_eq (b : Beat) : cnt b = cntL (kids b) + 1 := by cases b with | mk k s l => rw [cnt]; rfl
theorem good_eq (b : Beat) : good b ↔ 1 ≤ sh b ∧ sh b ≤ 65536 ∧ (kd b = 4 → kids b ≠ []) ∧ goodL (kids b) := by cases b with | mk k s l => rw [good]; rfl
theorem cnt_pos (b : Beat) : 1 ≤ cnt b := by rw [cnt_eq]; omega
mutual
theorem look_ok : ∀ (b : Beat) (lv n : Int), 0 ≤ n → n ≤ 4096 → n ≤ (lookS b lv n).2 ∧ (lookS b lv n).2 ≤ 4097 ∧ ((lookS b lv n).1 = 0 → (lookS b lv n).2 ≤ 4096 ∧ n + ((cnt b : Nat) : Int) = (lookS b lv n).2 ∧ good b)
  | .mk k s l, lv, n, h0, h1 => by
    rw [lookS]
    by_cases c1 : 32 < lv
    · rw [if_pos c1]; simp; omega
    rw [if_neg c1]
    by_cases c2 : 4096 < n + 1
    · rw [if_pos c2]; simp; omega
    rw [if_neg c2]
    by_cases c3 : s < 1 ∨ 65536 < s
    · rw [if_pos c3]; simp; omega
    rw [if_neg c3]
    by_cases c4 : k = 1 ∨ k = 2 ∨ k = 3
    · rw [if_pos c4]
      by_cases c5 : l.length = 0
      · rw [if_pos c5]
        have := List.eq_nil_of_length_eq_zero c5
        subst this
        simp [cnt, cntL, good, goodL]
        omega
      · rw [if_neg c5]; simp; omega
    rw [if_neg c4]
    by_cases c6 : k = 4
    · rw [if_pos c6]
      by_cases c5 : l.length = 0
      · rw [if_pos c5]; simp; omega
      · rw [if_neg c5]
        obtain ⟨h2, h3, h4⟩ := look_okL l (lv + 1) (n + 1) (by omega) (by omega)
        refine ⟨by omega, h3, fun h5 => ?_⟩
        obtain ⟨h6, h7, h8⟩ := h4 h5
        refine ⟨h6, by rw [cnt]; omega, ?_⟩
        rw [good]
        exact ⟨by omega, by omega, fun _ e => c5 (by rw [e]; rfl), h8⟩
    · rw [if_neg c6]; simp; omega
theorem look_okL : ∀ (l : List Beat) (lv n : Int), 0 ≤ n → n ≤ 4096 → n ≤ (lookL l lv n).2 ∧ (lookL l lv n).2 ≤ 4097 ∧ ((lookL l lv n).1 = 0 → (lookL l lv n).2 ≤ 4096 ∧ n + ((cntL l : Nat) : Int) = (lookL l lv n).2 ∧ goodL l)
  | [], lv, n, h0, h1 => by simp [lookL, cntL, goodL]; omega
  | b :: l, lv, n, h0, h1 => by
    obtain ⟨h2, h3, h4⟩ := look_ok b lv n h0 h1
    rw [lookL]
    by_cases c : (lookS b lv n).1 = 0
    · rw [if_pos c]
      obtain ⟨h5, h6, h7⟩ := h4 c
      obtain ⟨k2, k3, k4⟩ := look_okL l lv (lookS b lv n).2 (by omega) h5
      refine ⟨by omega, k3, fun h8 => ?_⟩
      obtain ⟨k5, k6, k7⟩ := k4 h8
      exact ⟨k5, by rw [cntL]; omega, by rw [goodL]; exact ⟨h7, k7⟩⟩
    · rw [if_neg c]
      exact ⟨h2, h3, fun h => absurd h c⟩
end
mutual
def wrongS : Beat → Int → Int → Int × Int
  | .mk k s l, lv, n => if 32 < lv ∨ n < 1 then (4, n) else if s < 1 ∨ 65536 < s then (3, n - 1) else
    if k < 1 ∨ 4 < k then (1, n - 1) else if (k = 4 ∧ l.length = 0) ∨ (k ≠ 4 ∧ 0 < l.length) then (5, n - 1) else wrongL l (lv + 1) (n - 1)
def wrongL : List Beat → Int → Int → Int × Int
  | [], _, n => (0, n)
  | b :: l, lv, n => if (wrongS b lv n).1 = 0 then wrongL l lv (wrongS b lv n).2 else wrongS b lv n
end
theorem wrongS_eq (b : Beat) (lv n : Int) : wrongS b lv n = if 32 < lv ∨ n < 1 then (4, n) else if sh b < 1 ∨ 65536 < sh b then (3, n - 1) else
    if kd b < 1 ∨ 4 < kd b then (1, n - 1) else if (kd b = 4 ∧ (kids b).length = 0) ∨ (kd b ≠ 4 ∧ 0 < (kids b).length) then (5, n - 1) else wrongL (kids b) (lv + 1) (n - 1) := by
  cases b with | mk k s l => rw [wrongS]; rfl
theorem wrongL_next {l : List Beat} {i : Nat} {lv n : Int} (h : i < l.length) (h0 : (wrongS (l.getD i dB) lv n).1 = 0) : wrongL (l.drop (i + 1)) lv (wrongS (l.getD i dB) lv n).2 = wrongL (l.drop i) lv n := by
  rw [drop_cons h, wrongL, if_pos h0]
theorem wrongL_stop {l : List Beat} {i : Nat} {lv n : Int} (h : i < l.length) (h0 : ¬ (wrongS (l.getD i dB) lv n).1 = 0) : wrongL (l.drop i) lv n = wrongS (l.getD i dB) lv n := by
  rw [drop_cons h, wrongL, if_neg h0]
mutual
theorem wrong_look : ∀ (b : Beat) (lv n : Int), 0 ≤ n → n ≤ 4096 → (wrongS b lv (4096 - n)).1 = (lookS b lv n).1 ∧ ((lookS b lv n).1 = 0 → (wrongS b lv (4096 - n)).2 = 4096 - (lookS b lv n).2)
  | .mk k s l, lv, n, h0, h1 => by
    rw [lookS, wrongS]
    by_cases c1 : 32 < lv
    · rw [if_pos c1, if_pos (by omega)]; simp
    rw [if_neg c1]
    by_cases c2 : 4096 < n + 1
    · rw [if_pos c2, if_pos (by omega)]; simp
    rw [if_neg c2, if_neg (by omega)]
    by_cases c3 : s < 1 ∨ 65536 < s
    · rw [if_pos c3, if_pos c3]; simp
    rw [if_neg c3, if_neg c3]
    have e : 4096 - n - 1 = 4096 - (n + 1) := by omega
    by_cases c4 : k = 1 ∨ k = 2 ∨ k = 3
    · rw [if_pos c4, if_neg (show ¬ (k < 1 ∨ 4 < k) by omega)]
      by_cases c5 : l.length = 0
      · rw [if_pos c5, if_neg (by omega)]
        have := List.eq_nil_of_length_eq_zero c5
        subst this
        simp [wrongL]
        omega
      · rw [if_neg c5, if_pos (by omega)]; simp
    rw [if_neg c4]
    by_cases c6 : k = 4
    · rw [if_pos c6, if_neg (show ¬ (k < 1 ∨ 4 < k) by omega)]
      by_cases c5 : l.length = 0
      · rw [if_pos c5, if_pos (by omega)]; simp
      · rw [if_neg c5, if_neg (by omega), e]
        exact wrong_lookL l (lv + 1) (n + 1) (by omega) (by omega)
    · rw [if_neg c6, if_pos (show (k < 1 ∨ 4 < k) by omega)]; simp
theorem wrong_lookL : ∀ (l : List Beat) (lv n : Int), 0 ≤ n → n ≤ 4096 → (wrongL l lv (4096 - n)).1 = (lookL l lv n).1 ∧ ((lookL l lv n).1 = 0 → (wrongL l lv (4096 - n)).2 = 4096 - (lookL l lv n).2)
  | [], lv, n, h0, h1 => by simp [lookL, wrongL]
  | b :: l, lv, n, h0, h1 => by
    obtain ⟨h2, h3⟩ := wrong_look b lv n h0 h1
    obtain ⟨h4, h5, h6⟩ := look_ok b lv n h0 h1
    rw [lookL, wrongL, h2]
    by_cases c : (lookS b lv n).1 = 0
    · rw [if_pos c, if_pos c, h3 c]
      exact wrong_lookL l lv _ (by omega) (h6 c).1
    · rw [if_neg c, if_neg c]
      exact ⟨h2, h3⟩
end
theorem wrong_ok (b : Beat) (lv n : Int) (h0 : 0 ≤ n) (h1 : n ≤ 4096) (c : (wrongS b lv n).1 = 0) : 0 ≤ (wrongS b lv n).2 ∧ (wrongS b lv n).2 + 1 ≤ n := by
    obtain ⟨h2, h3⟩ := wrong_look b lv (4096 - n) (by omega) (by omega)
    rw [show 4096 - (4096 - n) = n by omega] at h2 h3
    obtain ⟨h4, h5, h6⟩ := look_ok b lv (4096 - n) (by omega) (by omega)
    have := h3 (by rw [← h2]; exact c)
    have h7 := h6 (by rw [← h2]; exact c)
    have := cnt_pos b
    omega
/-- What is wrong with a beat, told as a number. -/
def wrongE (b : Beat) : Int := (lookS b 1 0).1
theorem wrongE_ref (b : Beat) : (wrongS b 1 4096).1 = wrongE b := by
  have := (wrong_look b 1 0 (by decide) (by decide)).1
  exact this

/-! ### spans -/
abbrev Sp := Int × Int × Int × Int × Bool
def spC (x : Sp) : List PV := [iv x.1, iv x.2.1, iv x.2.2.1, iv x.2.2.2.1, bv x.2.2.2.2]
def spans (l : List Sp) : List PV := l.flatMap spC
abbrev StS := List Sp × Int × Int
abbrev dS : Sp := (0, 0, 0, 0, false)
theorem spans_shd (l : List Sp) : shds (spans l) := flat_shd spC (fun _ => rfl) l
theorem spans_len (l : List Sp) : (spans l).length = l.length * 5 := flat_len spC 5 (fun _ => rfl) l
def longer (L : List Sp) (u d : Int) : List Sp := L.set (L.length - 1) ((L.getD (L.length - 1) dS).1, (L.getD (L.length - 1) dS).2.1, u, d, (L.getD (L.length - 1) dS).2.2.2.2)
def leafS (k u d : Int) (L : List Sp) (a b : Int) : Int × StS :=
  if (plus a b u d).2.2 = 0 then
    if k = 3 ∧ 0 < L.length then
      let s := plus (L.getD (L.length - 1) dS).2.2.1 (L.getD (L.length - 1) dS).2.2.2.1 u d
      if s.2.2 = 0 then (0, longer L s.1 s.2.1, (plus a b u d).1, (plus a b u d).2.1) else (s.2.2, longer L s.1 s.2.1, a, b)
    else (0, L ++ [(a, b, u, d, decide (k = 1))], (plus a b u d).1, (plus a b u d).2.1)
  else ((plus a b u d).2.2, L, a, b)
def sumSh (l : List Beat) : Int := (l.map sh).sum
mutual
def shareS : Beat → Int → Int → StS → Int × StS
  | .mk k _ l, u, d, st => if k = 4 then shareL l (sumSh l) u d st else leafS k u d st.1 st.2.1 st.2.2
def shareL : List Beat → Int → Int → Int → StS → Int × StS
  | [], _, _, _, st => (0, st)
  | b :: l, all, u, d, st =>
    if (make (sh b) all).2.2 = 0 then
      if (times (make (sh b) all).1 (make (sh b) all).2.1 u d).2.2 = 0 then
        let q := times (make (sh b) all).1 (make (sh b) all).2.1 u d
        if (shareS b q.1 q.2.1 st).1 = 0 then shareL l all u d (shareS b q.1 q.2.1 st).2 else shareS b q.1 q.2.1 st
      else ((times (make (sh b) all).1 (make (sh b) all).2.1 u d).2.2, st)
    else ((make (sh b) all).2.2, st)
end
theorem shareS_eq (b : Beat) (u d : Int) (st : StS) : shareS b u d st = if kd b = 4 then shareL (kids b) (sumSh (kids b)) u d st else leafS (kd b) u d st.1 st.2.1 st.2.2 := by
  cases b with | mk k s l => rw [shareS]; rfl
theorem sumSh_next {l : List Beat} {i : Nat} (h : i < l.length) : sumSh (l.take (i + 1)) = sumSh (l.take i) + sh (l.getD i dB) := by
  unfold sumSh
  rw [List.take_add_one, List.map_append, List.sum_append, List.getD_eq_getElem?_getD, List.getElem?_eq_getElem h]
  simp
theorem goodL_at : ∀ {l : List Beat} {i : Nat}, goodL l → i < l.length → good (l.getD i dB)
  | b :: l, 0, h, _ => by rw [goodL] at h; exact h.1
  | b :: l, i + 1, h, hi => by rw [goodL] at h; exact goodL_at (l := l) (i := i) h.2 (by simpa using hi)
theorem goodL_sum : ∀ {l : List Beat}, goodL l → ((l.length : Nat) : Int) ≤ sumSh l ∧ sumSh l ≤ 65536 * ((l.length : Nat) : Int)
  | [], _ => by simp [sumSh]
  | b :: l, h => by
    rw [goodL] at h
    have := goodL_sum h.2
    have h1 := (good_eq b).1 h.1
    simp only [sumSh, List.map_cons, List.sum_cons, List.length_cons] at this ⊢
    omega
theorem goodL_take : ∀ {l : List Beat} (i : Nat), goodL l → goodL (l.take i)
  | [], i, _ => by simp [goodL]
  | b :: l, 0, _ => by simp [goodL]
  | b :: l, i + 1, h => by rw [goodL] at h; rw [List.take_succ_cons, goodL]; exact ⟨h.1, goodL_take i h.2⟩
theorem cntL_len : ∀ l : List Beat, l.length ≤ cntL l
  | [] => Nat.zero_le _
  | b :: l => by rw [cntL, List.length_cons]; have := cntL_len l; have := cnt_pos b; omega
theorem sumSh_bd {l : List Beat} (h : goodL l) (i : Nat) (hc : cntL l ≤ 4096) : 0 ≤ sumSh (l.take i) ∧ sumSh (l.take i) ≤ 268435456 := by
  have h1 := goodL_sum (goodL_take i h)
  have h2 := cntL_len l
  have h3 : (l.take i).length ≤ l.length := by rw [List.length_take]; exact Nat.min_le_right _ _
  omega
theorem cntL_at {l : List Beat} {i : Nat} (h : i < l.length) : cntL (l.drop i) = cnt (l.getD i dB) + cntL (l.drop (i + 1)) := by
  rw [drop_cons h, cntL]
theorem longer_len (L : List Sp) (u d : Int) : (longer L u d).length = L.length := by unfold longer; exact List.length_set ..
theorem leaf_len (k u d : Int) (L : List Sp) (a b : Int) : L.length ≤ (leafS k u d L a b).2.1.length ∧ (leafS k u d L a b).2.1.length ≤ L.length + 1 := by
  unfold leafS
  split
  · split
    · dsimp only
      split <;> simp only [longer_len] <;> omega
    · simp
  · simp
mutual
theorem share_len : ∀ (b : Beat) (u d : Int) (st : StS), (shareS b u d st).2.1.length ≤ st.1.length + cnt b
  | .mk k s l, u, d, st => by
    rw [shareS, cnt]
    split
    · have := share_lenL l (sumSh l) u d st; omega
    · have := (leaf_len k u d st.1 st.2.1 st.2.2).2; omega
theorem share_lenL : ∀ (l : List Beat) (all u d : Int) (st : StS), (shareL l all u d st).2.1.length ≤ st.1.length + cntL l
  | [], _, _, _, st => by simp [shareL, cntL]
  | b :: l, all, u, d, st => by
    rw [shareL, cntL]
    split
    · split
      · dsimp only
        have h1 := share_len b (times (make (sh b) all).1 (make (sh b) all).2.1 u d).1 (times (make (sh b) all).1 (make (sh b) all).2.1 u d).2.1 st
        split
        · have := share_lenL l all u d (shareS b (times (make (sh b) all).1 (make (sh b) all).2.1 u d).1 (times (make (sh b) all).1 (make (sh b) all).2.1 u d).2.1 st).2
          omega
        · omega
      · simp only; omega
    · simp only; omega
end
end Go.Proofs.Ytccpefbfjahfnaa.Pm
