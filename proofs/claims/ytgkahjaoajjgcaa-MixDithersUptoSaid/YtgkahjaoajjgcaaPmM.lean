/-
  THE VALUE MACHINE (M): a walk by values: what is left to run, states said anew, loops, whole functions. No program in sight.
-/
import Derived.Test.YtgkahjaoajjgcaaPmL
namespace Go.Proofs.Ytgkahjaoajjgcaa.Pm
open Go

inductive Item where
  | code (c : Code)
  | blk (id : Nat)
abbrev Post := Exit → Cx → Act → Prop
/-- What is asked where what runs ends so: the rest still to run, then Q. -/
def WS (E : Env) (Q : Post) : List Item → Post
  | [] => Q
  | .code c :: rs => fun e cx a => match e with
    | .normal => c.wp E.P (fun e a' w' => ∃ cx', cx'.w = w' ∧ WS E Q rs e cx' a') a cx.w
    | e => WS E Q rs e cx a
  | .blk id :: rs => fun e cx a => match e with
    | .exit j => if j = id then WS E Q rs .normal cx a else WS E Q rs (.exit j) cx a
    | e => WS E Q rs e cx a
/-- From any frame and world of which the state tells. -/
def T (P : Program) (n : Nat) (c0 : Cx) (Bor : Nat → Prop) (Q : Post) (n0 : Nat) (l : L) (rs : List Item) : Prop :=
  ∀ cx a, Inv ⟨P, n, c0, Bor⟩ (· < n0) cx (get l) a → WS ⟨P, n, c0, Bor⟩ Q rs .normal cx a

section
variable {P : Program} {n : Nat} {c0 : Cx} {Bor : Nat → Prop} {Q : Post} {n0 : Nat} {l : L} {rs : List Item}
theorem T_end (h : ∀ cx a, Inv ⟨P, n, c0, Bor⟩ (· < n0) cx (get l) a → Q .normal cx a) : T P n c0 Bor Q n0 l [] := h
theorem T_blk {id : Nat} (h : T P n c0 Bor Q n0 l rs) : T P n c0 Bor Q n0 l (.blk id :: rs) := fun cx a hI => h cx a hI
theorem T_seq {x y : Code} (h : T P n c0 Bor Q n0 l (.code x :: .code y :: rs)) : T P n c0 Bor Q n0 l (.code (.seq x y) :: rs) := fun cx a hI => by
  refine wp_seq (wp_mono (h cx a hI) fun e a' w' h1 => ?_)
  obtain ⟨cx', rfl, h2⟩ := h1
  cases e <;> first | exact h2 | exact ⟨cx', rfl, h2⟩
theorem T_skip (h : T P n c0 Bor Q n0 l rs) : T P n c0 Bor Q n0 l (.code .skip :: rs) := fun cx a hI => wp_skip ⟨cx, rfl, h cx a hI⟩
theorem T_label {k : Nat} (h : T P n c0 Bor Q n0 l rs) : T P n c0 Bor Q n0 l (.code (.label k) :: rs) := fun cx a hI => wp_label ⟨cx, rfl, h cx a hI⟩
theorem T_block {id : Nat} {c : Code} (h : T P n c0 Bor Q n0 l (.code c :: .blk id :: rs)) : T P n c0 Bor Q n0 l (.code (.block id c) :: rs) := fun cx a hI => by
  refine wp_block (wp_mono (h cx a hI) fun e a' w' h1 => ?_)
  obtain ⟨cx', rfl, h2⟩ := h1
  cases e with
  | exit j =>
    simp only [WS, Exit.inBlock] at h2 ⊢
    split at h2
    · rename_i e; rw [if_pos e]; exact ⟨cx', rfl, h2⟩
    · rename_i e; rw [if_neg e]; exact ⟨cx', rfl, h2⟩
  | normal => exact ⟨cx', rfl, h2⟩
  | goto l => exact ⟨cx', rfl, h2⟩
  | ret => exact ⟨cx', rfl, h2⟩
  | panic c => exact ⟨cx', rfl, h2⟩
  | outgrown => exact ⟨cx', rfl, h2⟩
/-- Out of a block. -/
def out (id : Nat) : List Item → Option (List Item)
  | [] => none
  | .code _ :: rs => out id rs
  | .blk j :: rs => match Nat.beq id j with | true => some rs | false => out id rs
theorem ws_out {E : Env} {id : Nat} {cx : Cx} {a : Act} : ∀ {rs rs' : List Item}, out id rs = some rs' → WS E Q rs' .normal cx a → WS E Q rs (.exit id) cx a
  | .code _ :: rs, rs', h, k => by
    simp only [out] at h
    exact ws_out (rs := rs) h k
  | .blk j :: rs, rs', h, k => by
    simp only [out] at h
    show if id = j then _ else _
    split at h
    · rename_i e
      cases h
      rw [if_pos (Nat.eq_of_beq_eq_true e)]
      exact k
    · rename_i e
      rw [if_neg fun h => by rw [h, Nat.beq_refl] at e; cases e]
      exact ws_out (rs := rs) h k
theorem T_exit {id : Nat} {rs' : List Item} (ho : out id rs = some rs') (h : T P n c0 Bor Q n0 l rs') : T P n c0 Bor Q n0 l (.code (.exit id) :: rs) := fun cx a hI =>
  wp_exit ⟨cx, rfl, ws_out ho (h cx a hI)⟩
theorem ws_out_none {E : Env} {id : Nat} {cx : Cx} {a : Act} : ∀ {rs : List Item}, out id rs = none → Q (.exit id) cx a → WS E Q rs (.exit id) cx a
  | [], _, k => k
  | .code _ :: rs, h, k => by
    simp only [out] at h
    exact ws_out_none (rs := rs) h k
  | .blk j :: rs, h, k => by
    simp only [out] at h
    show if id = j then _ else _
    split at h
    · cases h
    · rename_i e
      rw [if_neg fun h => by rw [h, Nat.beq_refl] at e; cases e]
      exact ws_out_none (rs := rs) h k
theorem T_leave {id : Nat} (ho : out id rs = none) (h : ∀ cx a, Inv ⟨P, n, c0, Bor⟩ (· < n0) cx (get l) a → Q (.exit id) cx a) : T P n c0 Bor Q n0 l (.code (.exit id) :: rs) := fun cx a hI =>
  wp_exit ⟨cx, rfl, ws_out_none ho (h cx a hI)⟩
theorem ws_ret {E : Env} {cx : Cx} {a : Act} : ∀ {rs : List Item}, Q .ret cx a → WS E Q rs .ret cx a
  | [], k => k
  | .code _ :: rs, k => ws_ret (rs := rs) k
  | .blk _ :: rs, k => ws_ret (rs := rs) k
theorem T_ret (h : ∀ cx a, Inv ⟨P, n, c0, Bor⟩ (· < n0) cx (get l) a → Q .ret cx a) : T P n c0 Bor Q n0 l (.code .ret :: rs) := fun cx a hI => wp_ret ⟨cx, rfl, ws_ret (h cx a hI)⟩
theorem T_cond {t : Nat} {x y : Code} {b : Bool} (hb : get l (Pm.ks t) = some (.pv (.av (.bool b)))) (h1 : b = true → T P n c0 Bor Q n0 l (.code x :: rs)) (h2 : b = false → T P n c0 Bor Q n0 l (.code y :: rs)) :
    T P n c0 Bor Q n0 l (.code (.cond (.tmp t) x y) :: rs) := fun cx a hI => by
  have hv := rep_av (hI.slot t _ hb)
  cases b with
  | true => exact wp_cond_true hv (h1 rfl cx a hI)
  | false => exact wp_cond_false hv (h2 rfl cx a hI)
theorem T_region {id : Nat} {ops : Array Oper} {draw : Bool} (ans : List (Nat × Ans)) (live : List Nat) {l' : L} {obs : List Prop} (hm : draw = true → P.follows .mixedOrders = true) (h : evr P n ops.toList n0 ans draw live l = some (l', obs)) (hob : ∀ p ∈ obs, p)
    (hT : T P n c0 Bor Q (n0 + 8 * ops.size) l' rs) : T P n c0 Bor Q n0 l (.code (.region id ops draw) :: rs) := fun cx a hI =>
  region_ok (E := ⟨P, n, c0, Bor⟩) hm h hob (fun c a h => ⟨c, rfl, hT c a h⟩) hI

/-! ### states said anew -/
/-- One state tells no more than another one. -/
def Wk (P : Program) (n : Nat) (c0 : Cx) (Bor : Nat → Prop) (n0 : Nat) (l : L) (n1 : Nat) (l' : L) : Prop := ∀ cx a, Inv ⟨P, n, c0, Bor⟩ (· < n0) cx (get l) a → ∃ cx', cx'.w = cx.w ∧ Inv ⟨P, n, c0, Bor⟩ (· < n1) cx' (get l') a
theorem ws_world {E : Env} {cx cx' : Cx} {a : Act} {c : Code} (hw : cx'.w = cx.w) (h : WS E Q (.code c :: rs) .normal cx' a) : WS E Q (.code c :: rs) .normal cx a := by
  show c.wp E.P _ a cx.w
  rw [← hw]
  exact h
theorem T_wk {c : Code} {n1 : Nat} {l' : L} (hw : Wk P n c0 Bor n0 l n1 l') (h : T P n c0 Bor Q n1 l' (.code c :: rs)) : T P n c0 Bor Q n0 l (.code c :: rs) := fun cx a hI => by
  obtain ⟨cx', h1, h2⟩ := hw cx a hI
  exact ws_world h1 (h cx' a h2)
theorem Wk.refl : Wk P n c0 Bor n0 l n0 l := fun cx _ h => ⟨cx, rfl, h⟩
theorem Wk.trans {n1 n2 : Nat} {l1 l2 : L} (h : Wk P n c0 Bor n0 l n1 l1) (k : Wk P n c0 Bor n1 l1 n2 l2) : Wk P n c0 Bor n0 l n2 l2 := fun cx a hI => by
  obtain ⟨c1, e1, h1⟩ := h cx a hI
  obtain ⟨c2, e2, h2⟩ := k c1 a h1
  exact ⟨c2, e2.trans e1, h2⟩
/-- Fewer keys. -/
theorem Wk.less {l' : L} (n1 : Nat) (hn : Nat.ble n0 n1 = true) (h : l'.map (fun x => get l x.1) = l'.map (·.2)) : Wk P n c0 Bor n0 l n1 l' := fun cx a hI => by
  refine ⟨cx, rfl, (hI.more fun i hi => Nat.lt_of_lt_of_le hi (Nat.le_of_ble_eq_true hn)).less fun k v hk => ?_⟩
  have : ∀ (m : L), m.map (fun x => get l x.1) = m.map (·.2) → ∀ k v, get m k = some v → get l k = some v := by
    intro m
    induction m with
    | nil => intro _ k v hk; simp [get, lk] at hk
    | cons x m ih =>
      intro hm k v hk
      simp only [List.map_cons, List.cons.injEq] at hm
      simp only [get, lk] at hk ih
      by_cases e : Nat.beq k x.1 = true
      · rw [if_pos e] at hk
        rw [Nat.eq_of_beq_eq_true e, hm.1]
        simpa using hk
      · rw [if_neg e] at hk
        exact ih hm.2 k v hk
  exact this l' h k v hk
/-- Other numbers for own blocks: number i is what number σ i was. -/
def reSt (σ : Nat → Nat) (n1 : Nat) (l' : L) (g : St) : List Prop := l'.map fun x => match x.2 with
  | some (.pv p) => g x.1 = some (.pv (ren σ p))
  | some (.blk T cs) => x.1 % 2 = 1 ∧ x.1 / 2 < n1 ∧ g (kb (σ (x.1 / 2))) = some (.blk T (renL σ cs))
  | none => True
theorem reSt_spec {σ : Nat → Nat} {n1 : Nat} {g : St} : ∀ {l' : L}, (∀ p ∈ reSt σ n1 l' g, p) → ∀ k v, get l' k = some v → match v with
    | .pv p => g k = some (.pv (ren σ p))
    | .blk T cs => k % 2 = 1 ∧ k / 2 < n1 ∧ g (kb (σ (k / 2))) = some (.blk T (renL σ cs))
  | [], _, k, v, h => by simp [get, lk] at h
  | x :: l', hp, k, v, h => by
    simp only [reSt, List.map_cons, List.mem_cons, forall_eq_or_imp] at hp
    simp only [get, lk] at h
    by_cases e : Nat.beq k x.1 = true
    · rw [if_pos e] at h
      have e' := Nat.eq_of_beq_eq_true e
      subst e'
      have h2 : x.2 = some v := by simpa using h
      have h1 := hp.1
      rw [h2] at h1
      cases v <;> exact h1
    · rw [if_neg e] at h
      exact reSt_spec (l' := l') hp.2 k v h
theorem renL_nil {σ : Nat → Nat} {cs : List PV} (h : renL σ cs = []) : cs = [] := by
  have := congrArg List.length h
  rw [renL_length] at this
  exact List.eq_nil_of_length_eq_zero this
def sgm (n0 : Nat) (σl : List Nat) (i : Nat) : Nat := match Nat.blt i σl.length with | true => σl.getD i 0 | false => n0 + i
/-- m: how many numbers were lent (they stay as they are). -/
theorem Wk.ren {l' : L} (m : Nat) (hc0 : ∀ i x, c0.own i = some x → i < m) (σl : List Nat) (hσ : σl.take m = List.range m) (hnd : nodupB σl = true) (h : ∀ p ∈ reSt (sgm n0 σl) σl.length l' (get l), p) : Wk P n c0 Bor n0 l σl.length l' := fun cx a hI => by
  have hsp := reSt_spec h
  have hs1 : ∀ i, i < σl.length → sgm n0 σl i = σl.getD i 0 := fun i hi => by
    unfold sgm
    rw [show Nat.blt i σl.length = true from by simpa [Nat.blt_eq] using hi]
  have hs2 : ∀ i, σl.length ≤ i → cx.own (sgm n0 σl i) = none := fun i hi => by
    unfold sgm
    rw [show Nat.blt i σl.length = false from by rw [Bool.eq_false_iff, Ne, Nat.blt_eq]; omega]
    cases ho : cx.own (n0 + i) with
    | none => rfl
    | some x => have : n0 + i < n0 := hI.ids _ x ho; omega
  have hlv : ∀ i, Live (get l') i → i < σl.length ∧ Live (get l) (sgm n0 σl i) := fun i ⟨T, cs, hx⟩ => by
    have h1 := hsp _ _ hx
    simp only at h1
    rw [show kb i / 2 = i by simp only [kb]; omega] at h1
    exact ⟨h1.2.1, T, _, h1.2.2⟩
  refine ⟨cx.via (sgm n0 σl), rfl, { ids := fun i x hx => ?_, blk := fun i T cs hx => ?_, inj := fun i j b T T' l1 l2 h3 h4 => ?_, apart := fun i b T l1 h2 => hI.apart _ b T (hlv i l1).2 h2, bnd := fun i b T h1 => hI.bnd _ b T h1, sok := hI.sok, os := hI.os, tape := hI.tape, output := hI.output, size := hI.size, same := hI.same, s0 := hI.s0, s1 := hI.s1, keep := ⟨hI.keep.S, fun i x hx => ?_, hI.keep.shape⟩, tmps := hI.tmps, dfr := hI.dfr, slot := fun s p hp => ?_, isv := fun s x hx => ?_ }⟩
  · show i < σl.length
    rcases Nat.lt_or_ge i σl.length with h1 | h1
    · exact h1
    · have : cx.own (sgm n0 σl i) = some x := hx
      rw [hs2 i h1] at this
      cases this
  · have h1 := hsp _ _ hx
    simp only at h1
    rw [show kb i / 2 = i by simp only [kb]; omega] at h1
    obtain ⟨ob, h5, h6, h7⟩ := hI.blk _ _ _ h1.2.2
    refine ⟨ob, h5, ones_renL.1 h6, ?_⟩
    rcases h7 with ⟨h7, h8⟩ | ⟨b, arr, h7, h8, h9, h10⟩
    · exact .inl ⟨h7, renL_nil h8⟩
    · rw [renL_length] at h9 h10
      exact .inr ⟨b, arr, h7, h8, h9, fun j hj => rep_via (h10 j hj) _ (renL_get _ _ j hj)⟩
  · obtain ⟨e1, l1'⟩ := hlv i l1
    obtain ⟨e2, l2'⟩ := hlv j l2
    have := hI.inj _ _ b T T' l1' l2' h3 h4
    rw [hs1 i e1, hs1 j e2] at this
    exact nodup_inj hnd i j e1 e2 this
  · have h1 := hc0 i x hx
    have h2 : i < σl.length := by
      have := congrArg List.length hσ
      simp at this
      omega
    have h3 : σl.getD i 0 = i := by
      have h4 := List.getElem?_take_of_lt (l := σl) h1
      rw [hσ] at h4
      rw [List.getD_eq_getElem?_getD, ← h4]
      simp [h1]
    show cx.own (sgm n0 σl i) = some x
    rw [hs1 i h2, h3]
    exact hI.keep.own i x hx
  · have h1 := hsp _ _ hp
    exact rep_via (hI.slot s _ h1) _ rfl
  · cases x with
    | pv p => exact ⟨p, rfl⟩
    | blk T cs =>
      have h1 := hsp _ _ hx
      simp only [Pm.ks] at h1
      omega
/-- A slot that holds nil: an own row that has not been made. -/
theorem Wk.nil {s : Nat} (T : TypeId) (hs : get l (Pm.ks s) = some (.pv (.av (.slice none 0 0)))) : Wk P n c0 Bor n0 l (n0 + 1) ([(ks s, some (.pv (.osl n0 0 0))), (kb n0, some (.blk T []))] ++ l) := fun cx a hI => by
  obtain ⟨hk, hh⟩ := heap_virtual hI.toHeap (id := n0) (fun h => absurd h (Nat.lt_irrefl _)) T
  refine ⟨⟨cx.w, cx.S, setOwn cx.own n0 (none, T)⟩, rfl, ?_⟩
  have hge : ∀ k, get ([(ks s, some (.pv (.osl n0 0 0))), (kb n0, some (.blk T []))] ++ l) k = if Nat.beq k (Pm.ks s) then some (.pv (.osl n0 0 0)) else over [(kb n0, some (.blk T []))] (get l) k := fun k => by
    rw [get_append]
    simp only [over, lk]
    by_cases h1 : Nat.beq k (Pm.ks s) = true
    · simp [h1]
    · simp only [h1]; rfl
  have hb : ∀ i, get ([(ks s, some (.pv (.osl n0 0 0))), (kb n0, some (.blk T []))] ++ l) (kb i) = over [(kb n0, some (.blk T []))] (get l) (kb i) := fun i => by
    rw [hge, beq_kbs]; rfl
  have hl : ∀ i, Live (get ([(ks s, some (.pv (.osl n0 0 0))), (kb n0, some (.blk T []))] ++ l)) i → Live (over [(kb n0, some (.blk T []))] (get l)) i := fun i ⟨T', cs, hx⟩ => ⟨T', cs, by rw [← hb]; exact hx⟩
  exact { ids := fun i x hx => by
            rcases hh.ids i x hx with h | h
            · exact Nat.lt_succ_of_lt h
            · subst h; exact Nat.lt_succ_self _
          blk := fun i T' cs hx => hh.blk i T' cs (by rw [← hb]; exact hx), inj := fun i j b T T' l1 l2 => hh.inj i j b T T' (hl i l1) (hl j l2), apart := fun i b T l1 => hh.apart i b T (hl i l1), bnd := hh.bnd, sok := hh.sok,
          os := hh.os, tape := hh.tape, output := hh.output, size := hh.size, same := hh.same, s0 := hh.s0, s1 := hh.s1, keep := hh.keep, tmps := hI.tmps, dfr := hI.dfr
          slot := fun s' p hp => by
            rw [hge, beq_ks] at hp
            by_cases e : s' = s
            · subst e
              rw [decide_eq_true rfl, if_pos rfl] at hp
              cases hp
              have := rep_av (hI.slot s' _ hs)
              rw [this]
              exact .osl setOwn_same (.inl ⟨_, rfl, rfl⟩)
            · rw [decide_eq_false e, if_neg (by simp), over_s] at hp
              exact (hI.slot s' p hp).mono hk
          isv := fun s' x hx => by
            rw [hge, beq_ks] at hx
            by_cases e : s' = s
            · subst e
              rw [decide_eq_true rfl, if_pos rfl] at hx
              cases hx
              exact ⟨_, rfl⟩
            · rw [decide_eq_false e, if_neg (by simp), over_s] at hx
              exact hI.isv s' x hx }
end
end Go.Proofs.Ytgkahjaoajjgcaa.Pm
