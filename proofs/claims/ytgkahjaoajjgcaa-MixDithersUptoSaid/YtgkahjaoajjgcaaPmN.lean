/-
  THE VALUE MACHINE (N): rows laid down for good, loops, whole functions. No program in sight.
-/
import Derived.Test.YtgkahjaoajjgcaaPmM
namespace Go.Proofs.Ytgkahjaoajjgcaa.Pm
open Go

/-! ### an own row, laid down for good -/
def PV.shd : PV → Bool
  | .av _ => true
  | .ssl _ _ _ => true
  | .spt _ _ => true
  | _ => false
def shds (cs : List PV) : Prop := ∀ p ∈ cs, PV.shd p = true
theorem shd_rep {P : Program} {c : Cx} {p : PV} {v : Value} (h : Rep P c p v) (hs : p.shd = true) : SRep c.w c.S p v := by
  cases h with
  | sh h => exact h
  | agg => cases hs
  | tup => cases hs
  | osl => cases hs
  | opt => cases hs
  | fn => cases hs
mutual
def frz (id : Nat) (cs : List PV) : PV → PV
  | .osl i off len => match Nat.beq i id with | true => .ssl cs off len | false => .osl i off len
  | .opt i off => match Nat.beq i id with | true => .spt cs off | false => .opt i off
  | .agg l => .agg (frzL id cs l)
  | .tup l => .tup (frzL id cs l)
  | .fn f l m => .fn f (frzL id cs l) (frzL id cs m)
  | .av v => .av v
  | .ssl l off len => .ssl l off len
  | .spt l off => .spt l off
def frzL (id : Nat) (cs : List PV) : List PV → List PV
  | [] => []
  | p :: l => frz id cs p :: frzL id cs l
end
theorem frzL_length (id : Nat) (cs : List PV) : ∀ l, (frzL id cs l).length = l.length
  | [] => rfl
  | _ :: l => by simp [frzL, frzL_length id cs l]
theorem frzL_get (id : Nat) (cs : List PV) : ∀ (l : List PV) (i : Nat), i < l.length → (frzL id cs l).getD i P0 = frz id cs (l.getD i P0)
  | p :: l, 0, _ => rfl
  | p :: l, i + 1, h => by
    have := frzL_get id cs l i (by simpa using h)
    simpa [frzL, List.getD_eq_getElem?_getD] using this
theorem one_frz (id : Nat) (cs : List PV) (p : PV) : (frz id cs p).one = p.one := by
  cases p <;> simp only [frz] <;> first | rfl | (split <;> rfl)
theorem ones_frzL {id : Nat} {cs : List PV} : ∀ {l : List PV}, ones l → ones (frzL id cs l)
  | [], _ => fun p hp => by cases hp
  | p :: l, h => by
    intro q hq
    simp only [frzL, List.mem_cons] at hq
    rcases hq with rfl | hq
    · rw [one_frz]; exact h p (by simp)
    · exact ones_frzL (fun p hp => h p (by simp [hp])) q hq
theorem srep_frz {w : World} {S : Nat → Prop} {id : Nat} {cs : List PV} {p : PV} {v : Value} (h : SRep w S p v) : SRep w S (frz id cs p) v := by
  induction h with
  | av v => exact .av _
  | agg hn _ ih => exact .agg (by rw [frzL_length]; exact hn) fun i hi => by rw [frzL_length] at hi; rw [frzL_get _ _ _ i hi]; exact ih i hi
  | tup hn _ ih => exact .tup (by rw [frzL_length]; exact hn) fun i hi => by rw [frzL_length] at hi; rw [frzL_get _ _ _ i hi]; exact ih i hi
  | emp => exact .emp
  | ssl hS hc h ho hl _ => exact .ssl hS hc h ho hl
  | spt hS hc h ho _ => exact .spt hS hc h ho
  | fn hn _ hm _ ih ik => exact .fn (by rw [frzL_length]; exact hn) (fun i hi => by rw [frzL_length] at hi; rw [frzL_get _ _ _ i hi]; exact ih i hi) (by rw [frzL_length]; exact hm) (fun i hi => by rw [frzL_length] at hi; rw [frzL_get _ _ _ i hi]; exact ik i hi)
theorem rep_frz {P : Program} {c c' : Cx} {id : Nat} {cs : List PV} {ob : Option Nat} {T : TypeId} (hw : c'.w = c.w) (hS : ∀ b, c.S b → c'.S b) (hown : c'.own = c.own) (ho : c.own id = some (ob, T)) (hone : ones cs)
    (hb : ∀ b, ob = some b → c'.S b ∧ ∃ arr : Array Value, c.w.heap[b]? = some (.cells arr T (0, 0)) ∧ cs.length ≤ arr.size ∧ ∀ j, j < cs.length → SRep c'.w c'.S (cs.getD j P0) (arr.getD j undef)) {p : PV} {v : Value} (h : Rep P c p v) : Rep P c' (frz id cs p) v := by
  induction h with
  | sh h => exact .sh (srep_frz (h.mono fun b hb => ⟨hS b hb, by rw [hw]⟩))
  | agg hn _ ih => exact .agg (by rw [frzL_length]; exact hn) fun i hi => by rw [frzL_length] at hi; rw [frzL_get _ _ _ i hi]; exact ih i hi
  | tup hn _ ih => exact .tup (by rw [frzL_length]; exact hn) fun i hi => by rw [frzL_length] at hi; rw [frzL_get _ _ _ i hi]; exact ih i hi
  | osl h1 h2 =>
    rename_i i off len v ob' T'
    simp only [frz]
    split
    · rename_i e
      have e := Nat.eq_of_beq_eq_true e
      subst e
      rw [ho] at h1
      cases h1
      rcases h2 with ⟨a, rfl, rfl⟩ | ⟨b, cap, arr', rfl, rfl, h3, h4, h5⟩
      · exact .sh .emp
      · obtain ⟨q1, arr, q2, q3, q4⟩ := hb b rfl
        have := SRep.ssl (w := c'.w) (S := c'.S) (cs := cs) (off := off) (len := len) (b := b) (a := 0) (cap := cap) (vf := fun j => arr.getD j undef) q1 (fun j hj => by
          have : j < arr.size := by omega
          rw [hw, Nat.zero_add, cell_of_row c.w _ _ arr _ _ q2]
          simp [Array.getD_eq_getD_getElem?, this]) q4 hone h4
        rw [Nat.zero_add] at this
        exact .sh this
    · exact .osl (by rw [hown]; exact h1) (by rw [hw]; exact h2)
  | opt h1 =>
    rename_i i off b T'
    simp only [frz]
    split
    · rename_i e
      have e := Nat.eq_of_beq_eq_true e
      subst e
      rw [ho] at h1
      cases h1
      obtain ⟨q1, arr, q2, q3, q4⟩ := hb b rfl
      have := SRep.spt (w := c'.w) (S := c'.S) (cs := cs) (off := off) (b := b) (a := 0) (vf := fun j => arr.getD j undef) q1 (fun j hj => by
        have : j < arr.size := by omega
        rw [hw, Nat.zero_add, cell_of_row c.w _ _ arr _ _ q2]
        simp [Array.getD_eq_getD_getElem?, this]) q4 hone
      rw [Nat.zero_add] at this
      exact .sh this
    · exact .opt (by rw [hown]; exact h1)
  | fn hn _ hm _ ih ik => exact .fn (by rw [frzL_length]; exact hn) (fun i hi => by rw [frzL_length] at hi; rw [frzL_get _ _ _ i hi]; exact ih i hi) (by rw [frzL_length]; exact hm) (fun i hi => by rw [frzL_length] at hi; rw [frzL_get _ _ _ i hi]; exact ik i hi)
/-- The state behind it. -/
def frzS (id : Nat) (cs : List PV) : L → L
  | [] => []
  | (k, x) :: l => (k, match x with
    | some (.pv p) => some (.pv (frz id cs p))
    | some (.blk T ds) => match Nat.beq k (kb id) with | true => none | false => some (.blk T (frzL id cs ds))
    | none => none) :: frzS id cs l
theorem get_frzS {id : Nat} {cs : List PV} : ∀ {l : L} (k : Nat), get (frzS id cs l) k = match get l k with
    | some (.pv p) => some (.pv (frz id cs p))
    | some (.blk T ds) => if k = kb id then none else some (.blk T (frzL id cs ds))
    | none => none
  | [], k => rfl
  | (j, x) :: l, k => by
    have ih := get_frzS (id := id) (cs := cs) (l := l) k
    simp only [get, frzS, lk] at ih ⊢
    by_cases e : Nat.beq k j = true
    · have e' := Nat.eq_of_beq_eq_true e
      subst e'
      rw [if_pos e, if_pos e]
      cases x with
      | none => rfl
      | some v =>
        cases v with
        | pv p => rfl
        | blk T ds =>
          simp only [Option.join_some]
          by_cases e2 : k = kb id
          · subst e2; simp [Nat.beq_refl]
          · rw [show Nat.beq k (kb id) = false from by rw [Bool.eq_false_iff]; exact fun h => e2 (Nat.eq_of_beq_eq_true h), if_neg e2]
    · rw [if_neg e, if_neg e]
      exact ih
section
variable {P : Program} {n : Nat} {c0 : Cx} {Bor : Nat → Prop} {Q : Post} {n0 : Nat} {l : L} {rs : List Item}
theorem Wk.frz {l' : L} (id : Nat) {T : TypeId} {cs : List PV} (hg : get l (kb id) = some (.blk T cs)) (hs : shds cs) (he : frzS id cs l = l') : Wk P n c0 Bor n0 l n0 l' := fun cx a hI => by
  subst he
  obtain ⟨ob, ho, hone, hbk⟩ := hI.blk id T cs hg
  let cx' : Cx := ⟨cx.w, fun b => cx.S b ∨ ob = some b, cx.own⟩
  have hlive : Live (get l) id := ⟨T, cs, hg⟩
  have hblk : ∀ b, ob = some b → cx'.S b ∧ ∃ arr : Array Value, cx.w.heap[b]? = some (.cells arr T (0, 0)) ∧ cs.length ≤ arr.size ∧ ∀ j, j < cs.length → SRep cx'.w cx'.S (cs.getD j P0) (arr.getD j undef) := by
    intro b hb
    rcases hbk with ⟨h1, _⟩ | ⟨b', arr, h1, h2, h3, h4⟩
    · rw [hb] at h1; cases h1
    · obtain rfl : b' = b := by rw [hb] at h1; simpa using h1.symm
      refine ⟨.inr hb, arr, h2, h3, fun j hj => ?_⟩
      have hm : cs.getD j P0 ∈ cs := by simp [List.getD_eq_getElem?_getD, hj]
      exact (shd_rep (h4 j hj) (hs _ hm)).mono fun b hb => ⟨.inl hb, rfl⟩
  have hrep : ∀ {p : PV} {v : Value}, Rep P cx p v → Rep P cx' (Pm.frz id cs p) v := fun h => rep_frz (c := cx) (c' := cx') rfl (fun _ h => Or.inl h) rfl ho hone hblk h
  have hgb : ∀ i T' ds, get (frzS id cs l) (kb i) = some (.blk T' ds) → i ≠ id ∧ ∃ ds', get l (kb i) = some (.blk T' ds') ∧ ds = frzL id cs ds' := by
    intro i T' ds h
    rw [get_frzS] at h
    cases hx : get l (kb i) with
    | none => rw [hx] at h; cases h
    | some v =>
      rw [hx] at h
      cases v with
      | pv p => cases h
      | blk T2 ds2 =>
        simp only at h
        by_cases e : kb i = kb id
        · rw [if_pos e] at h; cases h
        · rw [if_neg e] at h
          simp only [Option.some.injEq, Val.blk.injEq] at h
          obtain ⟨rfl, rfl⟩ := h
          exact ⟨fun e2 => e (by rw [e2]), _, rfl, rfl⟩
  have hl : ∀ i, Live (get (frzS id cs l)) i → i ≠ id ∧ Live (get l) i := fun i ⟨T', ds, h⟩ => by
    obtain ⟨h1, ds', h2, _⟩ := hgb i T' ds h
    exact ⟨h1, T', ds', h2⟩
  refine ⟨cx', rfl, { ids := hI.ids, blk := fun i T' ds h => ?_, inj := fun i j b T1 T2 l1 l2 => hI.inj i j b T1 T2 (hl i l1).2 (hl j l2).2, apart := fun i b T1 l1 h2 => ?_, bnd := hI.bnd, sok := fun b hb => ?_, os := hI.os, tape := hI.tape, output := hI.output, size := hI.size, same := hI.same, s0 := fun b hb => .inl (hI.s0 b hb), s1 := fun b hb => ?_, keep := ⟨fun b hb => ⟨.inl (hI.keep.S b hb).1, (hI.keep.S b hb).2⟩, hI.keep.own, hI.keep.shape⟩, tmps := hI.tmps, dfr := hI.dfr, slot := fun s p hp => ?_, isv := fun s x hx => ?_ }⟩
  · obtain ⟨h1, ds', h2, rfl⟩ := hgb i T' ds h
    obtain ⟨ob', h3, h4, h5⟩ := hI.blk i T' ds' h2
    refine ⟨ob', h3, ones_frzL h4, ?_⟩
    rcases h5 with ⟨h5, rfl⟩ | ⟨b, arr, h5, h6, h7, h8⟩
    · exact .inl ⟨h5, rfl⟩
    · refine .inr ⟨b, arr, h5, h6, by rw [frzL_length]; exact h7, fun j hj => ?_⟩
      rw [frzL_length] at hj
      rw [frzL_get _ _ _ j hj]
      exact hrep (h8 j hj)
  · obtain ⟨h1, h3⟩ := hl i l1
    have hap := hI.apart i b T1 h3 h2
    refine ⟨fun hb => ?_, hap.2⟩
    rcases hb with hb | hb
    · exact hap.1 hb
    · subst hb
      exact h1 (hI.inj i id b T1 T h3 hlive h2 ho)
  · rcases hb with hb | hb
    · exact hI.sok b hb
    · subst hb; exact hI.bnd id b T ho
  · rcases hb with hb | hb
    · exact hI.s1 b hb
    · subst hb; exact .inr (hI.apart id b T hlive ho).2
  · rw [get_frzS] at hp
    cases hx : get l (ks s) with
    | none => rw [hx] at hp; cases hp
    | some v =>
      rw [hx] at hp
      cases v with
      | pv q =>
        simp only [Option.some.injEq, Val.pv.injEq] at hp
        subst hp
        exact hrep (hI.slot s q hx)
      | blk T2 ds2 => obtain ⟨q, hq⟩ := hI.isv s _ hx; cases hq
  · rw [get_frzS] at hx
    cases hy : get l (ks s) with
    | none => rw [hy] at hx; cases hx
    | some v =>
      rw [hy] at hx
      cases v with
      | pv q => exact ⟨_, by simpa using hx.symm⟩
      | blk T2 ds2 => obtain ⟨q, hq⟩ := hI.isv s _ hy; cases hq

/-! ### loops -/
def leastP (p : Nat → Prop) (m : Nat) : Prop := p m ∧ ∀ k, k < m → ¬ p k
theorem least_of {p : Nat → Prop} : ∀ m, p m → ∃ k, leastP p k := by
  intro m
  induction m using Nat.strongRecOn with
  | ind m ih =>
    intro h
    by_cases e : ∃ k, k < m ∧ p k
    · obtain ⟨k, h1, h2⟩ := e
      exact ih k h1 h2
    · exact ⟨m, h, fun k h1 h2 => e ⟨k, h1, h2⟩⟩
/-- What a round must end in: the loop's states again, with less to do; or out. -/
def loopQ {α : Type} (P : Program) (n : Nat) (c0 : Cx) (Bor : Nat → Prop) (Q : Post) (rs : List Item) (n1 : Nat) (I : α → L) (μ : α → Nat) (x : α) : Post := fun e cx a => match e with
  | .normal => ∃ y cx', cx'.w = cx.w ∧ Inv ⟨P, n, c0, Bor⟩ (· < n1) cx' (get (I y)) a ∧ μ y < μ x
  | e => WS ⟨P, n, c0, Bor⟩ Q rs e cx a
theorem T_loop {α : Type} {body : Code} (I : α → L) (μ : α → Nat) (n1 : Nat) (x0 : α) (h0 : Wk P n c0 Bor n0 l n1 (I x0)) (h : ∀ x, T P n c0 Bor (loopQ P n c0 Bor Q rs n1 I μ x) n1 (I x) [.code body]) : T P n c0 Bor Q n0 l (.code (.loop body) :: rs) := fun cx a hI => by
  obtain ⟨cx0, hw0, hI0⟩ := h0 cx a hI
  let p : Act → World → Nat → Prop := fun a w m => ∃ x cx, cx.w = w ∧ Inv ⟨P, n, c0, Bor⟩ (· < n1) cx (get (I x)) a ∧ μ x = m
  have key := wp_loop (P := P) (Q := fun e a' w' => ∃ cx', cx'.w = w' ∧ WS ⟨P, n, c0, Bor⟩ Q rs e cx' a') (c := body) (a := a) (w := cx.w) (fun a w => ∃ m, leastP (p a w) m) (fun a w => Classical.epsilon (leastP (p a w)))
    (least_of (μ x0) ⟨x0, cx0, hw0, hI0, rfl⟩) ?_
  · exact key
  · intro a w hm
    have hsp := Classical.epsilon_spec hm
    obtain ⟨⟨x, cx1, rfl, h1, h2⟩, hleast⟩ := hsp
    refine wp_mono (h x cx1 a h1) ?_
    rintro e a' w' ⟨cx', rfl, h3⟩
    cases e with
    | normal =>
      obtain ⟨y, cx2, h4, h5, h6⟩ := h3
      have hex := least_of (p := p a' cx'.w) (μ y) ⟨y, cx2, h4, h5, rfl⟩
      refine ⟨hex, ?_⟩
      have hsp2 := Classical.epsilon_spec hex
      have hle : Classical.epsilon (leastP (p a' cx'.w)) ≤ μ y := by
        rcases Nat.lt_or_ge (μ y) (Classical.epsilon (leastP (p a' cx'.w))) with h7 | h7
        · exact absurd ⟨y, cx2, h4, h5, rfl⟩ (hsp2.2 _ h7)
        · exact h7
      show Classical.epsilon (leastP (p a' cx'.w)) < Classical.epsilon (leastP (p a cx1.w))
      rw [← h2]
      omega
    | exit id => exact ⟨cx', rfl, h3⟩
    | goto l => exact ⟨cx', rfl, h3⟩
    | ret => exact ⟨cx', rfl, h3⟩
    | panic c => exact ⟨cx', rfl, h3⟩
    | outgrown => exact ⟨cx', rfl, h3⟩
theorem T_back {α : Type} {I : α → L} {μ : α → Nat} {n1 : Nat} {x : α} (y : α) (hw : Wk P n c0 Bor n0 l n1 (I y)) (hm : μ y < μ x) : T P n c0 Bor (loopQ P n c0 Bor Q rs n1 I μ x) n0 l [] := fun cx a hI => by
  obtain ⟨cx', h1, h2⟩ := hw cx a hI
  exact ⟨y, cx', h1, h2, hm⟩
theorem T_break {α : Type} {I : α → L} {μ : α → Nat} {n1 : Nat} {x : α} {id : Nat} {ks rs' : List Item} (h1 : out id ks = none) (h2 : out id rs = some rs') (h : T P n c0 Bor Q n0 l rs') : T P n c0 Bor (loopQ P n c0 Bor Q rs n1 I μ x) n0 l (.code (.exit id) :: ks) :=
  T_leave h1 fun cx a hI => ws_out h2 (h cx a hI)
theorem loop_ret {α : Type} {I : α → L} {μ : α → Nat} {n1 : Nat} {x : α} {cx : Cx} {a : Act} (h : Q .ret cx a) : loopQ P n c0 Bor Q rs n1 I μ x .ret cx a := ws_ret h

/-! ### whole functions -/
def resPV : List PV → PV
  | [p] => cz p
  | ps => .tup (ps.map cz)
def retQ (P : Program) (fn : Func) (c0 : Cx) (Bor : Nat → Prop) (r : PV) (H' : Hp) : Post := fun e cx a => (e = .normal ∨ e = .ret) ∧ a.defers = [] ∧ ∃ v cx', cx'.w = cx.w ∧ (results fn a.tmps).run P cx.w = .ok v cx.w ∧ Rep P cx' r v ∧ Heap ⟨P, 0, c0, Bor⟩ (· < H'.length) cx' (hSt H')
theorem Heap.env {nx : Nat → Prop} {m : Nat} {c : Cx} {g : St} (h : Heap ⟨P, n, c0, Bor⟩ nx c g) : Heap ⟨P, m, c0, Bor⟩ nx c g :=
  { ids := h.ids, blk := h.blk, inj := h.inj, apart := h.apart, bnd := h.bnd, sok := h.sok, os := h.os, tape := h.tape, output := h.output, size := h.size, same := h.same, s0 := h.s0, s1 := h.s1, keep := h.keep }
theorem Heap.less {E : Env} {nx : Nat → Prop} {c : Cx} {g g' : St} (h : Heap E nx c g) (hs : ∀ i T cs, g' (kb i) = some (.blk T cs) → g (kb i) = some (.blk T cs)) : Heap E nx c g' := by
  have hl : ∀ i, Live g' i → Live g i := fun i ⟨T, cs, hx⟩ => ⟨T, cs, hs _ _ _ hx⟩
  exact { h with blk := fun i T cs hx => h.blk i T cs (hs _ _ _ hx), inj := fun i j b T T' l1 l2 => h.inj i j b T T' (hl i l1) (hl j l2), apart := fun i b T l1 => h.apart i b T (hl i l1) }
theorem run_res1 {fn : Func} {t : Nat} (hres : fn.results = #[.tmp t]) (tmps : Array Value) (w : World) : (results fn tmps).run P w = .ok (tmps.getD t undef) w := by simp [results, hres]
theorem run_res2 {fn : Func} {t u : Nat} (hres : fn.results = #[.tmp t, .tmp u]) (tmps : Array Value) (w : World) : (results fn tmps).run P w = .ok (.tuple #[tmps.getD t undef, tmps.getD u undef]) w := by simp [results, hres]
theorem run_res3 {fn : Func} {t u x : Nat} (hres : fn.results = #[.tmp t, .tmp u, .tmp x]) (tmps : Array Value) (w : World) : (results fn tmps).run P w = .ok (.tuple #[tmps.getD t undef, tmps.getD u undef, tmps.getD x undef]) w := by simp [results, hres]
theorem run_res0 {fn : Func} (hres : fn.results = #[]) (tmps : Array Value) (w : World) : (results fn tmps).run P w = .ok (.tuple #[]) w := by simp [results, hres]
/-- What is left of the blocks. -/
def blksB (l : L) : Nat → Hp → List Prop
  | _, [] => []
  | i, some (T, cs) :: H => (get l (kb i) = some (.blk T cs)) :: blksB l (i + 1) H
  | i, none :: H => blksB l (i + 1) H
theorem blksB_spec {l : L} : ∀ {H : Hp} {n : Nat}, (∀ p ∈ blksB l n H, p) → ∀ i x, H.getD i none = some x → get l (kb (n + i)) = some (.blk x.1 x.2)
  | [], n, _, i, x, h => by simp at h
  | none :: H, n, hp, 0, x, h => by simp at h
  | none :: H, n, hp, i + 1, x, h => by
    have := blksB_spec (H := H) (n := n + 1) hp i x (by simpa using h)
    rwa [show n + 1 + i = n + (i + 1) by omega] at this
  | some y :: H, n, hp, 0, x, h => by
    obtain ⟨T, cs⟩ := y
    have : (T, cs) = x := by simpa using h
    subst this
    exact hp _ (by simp [blksB])
  | some y :: H, n, hp, i + 1, x, h => by
    obtain ⟨T, cs⟩ := y
    have := blksB_spec (l := l) (H := H) (n := n + 1) (fun p hp' => hp p (by simp [blksB, hp'])) i x (by simpa using h)
    rwa [show n + 1 + i = n + (i + 1) by omega] at this
theorem ret_ok {fn : Func} {r : PV} {H' : Hp} {n1 : Nat} {l' : L} {e : Exit} (he : e = .normal ∨ e = .ret) (hw : Wk P n c0 Bor n0 l n1 l') (hn : n1 = H'.length) (hb : ∀ p ∈ blksB l' 0 H', p)
    (hr : ∀ (cx : Cx) (a : Act), Inv ⟨P, n, c0, Bor⟩ (· < n1) cx (get l') a → ∃ v, (results fn a.tmps).run P cx.w = .ok v cx.w ∧ Rep P cx r v) {cx : Cx} {a : Act} (hI : Inv ⟨P, n, c0, Bor⟩ (· < n0) cx (get l) a) : retQ P fn c0 Bor r H' e cx a := by
  obtain ⟨cx', h1, h2⟩ := hw cx a hI
  obtain ⟨v, h3, h4⟩ := hr cx' a h2
  refine ⟨he, hI.dfr, v, cx', h1, by rw [← h1]; exact h3, h4, ?_⟩
  subst hn
  refine (h2.toHeap.env).less fun i T cs hx => ?_
  rw [hSt_b] at hx
  cases hy : H'.getD i none with
  | none => rw [hy] at hx; cases hx
  | some y =>
    rw [hy] at hx
    simp only [Option.some.injEq, Val.blk.injEq] at hx
    obtain ⟨rfl, rfl⟩ := hx
    have := blksB_spec hb i y hy
    rwa [Nat.zero_add] at this
theorem ret0 {fn : Func} {l' : L} (hres : fn.results = #[]) (cx : Cx) (a : Act) (_ : Inv ⟨P, n, c0, Bor⟩ (· < n0) cx (get l') a) : ∃ v, (results fn a.tmps).run P cx.w = .ok v cx.w ∧ Rep P cx (.tup []) v :=
  ⟨_, run_res0 hres _ _, .tup rfl fun i hi => by simp at hi⟩
theorem ret1 {fn : Func} {l' : L} {t : Nat} {p r : PV} (hres : fn.results = #[.tmp t]) (hp : get l' (ks t) = some (.pv p)) (hr : cz p = r) (cx : Cx) (a : Act) (hI : Inv ⟨P, n, c0, Bor⟩ (· < n0) cx (get l') a) : ∃ v, (results fn a.tmps).run P cx.w = .ok v cx.w ∧ Rep P cx r v :=
  ⟨_, run_res1 hres _ _, hr ▸ rep_cz (hI.slot t p hp)⟩
theorem ret2 {fn : Func} {l' : L} {t u : Nat} {p q r s : PV} (hres : fn.results = #[.tmp t, .tmp u]) (hp : get l' (ks t) = some (.pv p)) (hq : get l' (ks u) = some (.pv q)) (hr : cz p = r) (hs : cz q = s) (cx : Cx) (a : Act)
    (hI : Inv ⟨P, n, c0, Bor⟩ (· < n0) cx (get l') a) : ∃ v, (results fn a.tmps).run P cx.w = .ok v cx.w ∧ Rep P cx (.tup [r, s]) v := by
  subst hr; subst hs
  refine ⟨_, run_res2 hres _ _, .tup rfl fun i hi => ?_⟩
  match i, hi with
  | 0, _ => exact rep_cz (hI.slot t p hp)
  | 1, _ => exact rep_cz (hI.slot u q hq)
theorem ret3 {fn : Func} {l' : L} {t u x : Nat} {p q z r s y : PV} (hres : fn.results = #[.tmp t, .tmp u, .tmp x]) (hp : get l' (ks t) = some (.pv p)) (hq : get l' (ks u) = some (.pv q)) (hz : get l' (ks x) = some (.pv z)) (hr : cz p = r) (hs : cz q = s) (hy : cz z = y) (cx : Cx) (a : Act)
    (hI : Inv ⟨P, n, c0, Bor⟩ (· < n0) cx (get l') a) : ∃ v, (results fn a.tmps).run P cx.w = .ok v cx.w ∧ Rep P cx (.tup [r, s, y]) v := by
  subst hr; subst hs; subst hy
  refine ⟨_, run_res3 hres _ _, .tup rfl fun i hi => ?_⟩
  match i, hi with
  | 0, _ => exact rep_cz (hI.slot t p hp)
  | 1, _ => exact rep_cz (hI.slot u q hq)
  | 2, _ => exact rep_cz (hI.slot x z hz)
/-- The state that a call begins in. -/
def initA : Nat → List PV → L
  | _, [] => []
  | i, p :: ps => (ks i, some (.pv p)) :: initA (i + 1) ps
def initB : Nat → Hp → L
  | _, [] => []
  | i, x :: H => (kb i, match x with | some y => some (.blk y.1 y.2) | none => none) :: initB (i + 1) H
theorem get_initA_b (i : Nat) : ∀ (ps : List PV) (n : Nat), lk (kb i) (initA n ps) = none
  | [], _ => rfl
  | p :: ps, n => by simp only [initA, lk, beq_kbs]; exact get_initA_b i ps (n + 1)
theorem get_initB_s (s : Nat) : ∀ (H : Hp) (n : Nat), lk (ks s) (initB n H) = none
  | [], _ => rfl
  | x :: H, n => by simp only [initB, lk, beq_ksb]; exact get_initB_s s H (n + 1)
theorem lk_initA : ∀ (ps : List PV) (n s : Nat) (x : Option Val), lk (ks s) (initA n ps) = some x → n ≤ s ∧ s < n + ps.length ∧ x = some (.pv (ps.getD (s - n) P0))
  | p :: ps, n, s, x, h => by
    simp only [initA, lk, beq_ks] at h
    by_cases e : s = n
    · subst e
      rw [decide_eq_true rfl, if_pos rfl] at h
      cases h
      exact ⟨Nat.le_refl _, by simp, by rw [Nat.sub_self]; rfl⟩
    · rw [decide_eq_false e, if_neg (by simp)] at h
      obtain ⟨h1, h2, h3⟩ := lk_initA ps (n + 1) s x h
      refine ⟨by omega, by simp; omega, ?_⟩
      rw [h3, show s - n = (s - (n + 1)) + 1 by omega]
      rfl
theorem lk_initB : ∀ (H : Hp) (n i : Nat) (T : TypeId) (cs : List PV), lk (kb i) (initB n H) = some (some (.blk T cs)) → n ≤ i ∧ H.getD (i - n) none = some (T, cs)
  | x :: H, n, i, T, cs, h => by
    simp only [initB, lk, beq_kb] at h
    by_cases e : i = n
    · subst e
      rw [decide_eq_true rfl, if_pos rfl] at h
      cases x with
      | none => cases h
      | some y =>
        simp only [Option.some.injEq, Val.blk.injEq] at h
        obtain ⟨rfl, rfl⟩ := h
        exact ⟨Nat.le_refl _, by rw [Nat.sub_self]; rfl⟩
    · rw [decide_eq_false e, if_neg (by simp)] at h
      obtain ⟨h1, h2⟩ := lk_initB H (n + 1) i T cs h
      refine ⟨by omega, ?_⟩
      rw [show i - n = (i - (n + 1)) + 1 by omega]
      exact h2
theorem pc_intro {f : FuncId} {fn : Func} {code : Code} {args : List PV} {H H' : Hp} {r : PV} {l0 : L} (hf : P.funcs[f]? = some fn) (hb : fn.body = some code) (hname : (fn.name == "runtime.NumGoroutine") = false) (hlen : H.length ≤ H'.length)
    (hn : Nat.ble args.length fn.ntmps = true) (hl0 : initA 0 args ++ initB 0 H = l0) (h : ∀ c0 Bor, (∀ i x, c0.own i = some x → i < H.length) → T P fn.ntmps c0 Bor (retQ P fn c0 Bor r H') H.length l0 [.code code]) : PC P f args H r H' := by
  refine ⟨⟨fn, hf, by rw [hb]; rfl, hname⟩, hlen, fun c vs hh hrl => ?_⟩
  have hn := Nat.le_of_ble_eq_true hn
  have hvs := hrl.1
  refine calls_of_wp hf hb ?_
  have hI : Inv ⟨P, fn.ntmps, c, (cEnv P c H).Bor⟩ (· < H.length) c (get l0) { tmps := vs ++ Array.replicate (fn.ntmps - vs.size) undef, defers := [] } := by
    subst hl0
    have hgb : ∀ i T cs, get (initA 0 args ++ initB 0 H) (kb i) = some (.blk T cs) → hSt H (kb i) = some (.blk T cs) := by
      intro i T cs hx
      rw [get_append] at hx
      simp only [over, get_initA_b, get] at hx
      have h2 : lk (kb i) (initB 0 H) = some (some (.blk T cs)) := by
        cases hy : lk (kb i) (initB 0 H) with
        | none => rw [hy] at hx; cases hx
        | some y => rw [hy] at hx; simpa using hx
      obtain ⟨_, h3⟩ := lk_initB H 0 i T cs h2
      rw [Nat.sub_zero] at h3
      rw [hSt_b, h3]
    have hgs : ∀ s x, get (initA 0 args ++ initB 0 H) (ks s) = some x → s < args.length ∧ x = .pv (args.getD s P0) := by
      intro s x hx
      rw [get_append] at hx
      simp only [over, get, get_initB_s] at hx
      cases hy : lk (ks s) (initA 0 args) with
      | none => rw [hy] at hx; cases hx
      | some y =>
        rw [hy] at hx
        obtain ⟨_, h2, h3⟩ := lk_initA args 0 s y hy
        simp only [Nat.sub_zero] at h3
        rw [h3] at hx
        exact ⟨by omega, by simpa using hx.symm⟩
    have hh1 : Heap ⟨P, fn.ntmps, c, (cEnv P c H).Bor⟩ (· < H.length) c (hSt H) := hh.env
    exact { hh1.less hgb with
      tmps := by simp; omega
      dfr := rfl
      slot := fun s p hp => by
        obtain ⟨h1, h2⟩ := hgs s _ hp
        cases h2
        have h3 := hrl.2 s h1
        have h4 : s < vs.size := by omega
        have e : (vs ++ Array.replicate (fn.ntmps - vs.size) undef).getD s undef = vs.getD s undef := by
          rw [Array.getD_eq_getD_getElem?, Array.getElem?_append_left h4, Array.getD_eq_getD_getElem?]
        show Rep P c _ ((vs ++ Array.replicate (fn.ntmps - vs.size) undef).getD s undef)
        rw [e]
        exact h3
      isv := fun s x hx => ⟨_, (hgs s x hx).2⟩ }
  have key := h c (cEnv P c H).Bor (fun i x hx => hh.ids i x hx) c _ hI
  refine wp_mono key ?_
  rintro e a' w' ⟨cx', rfl, he, hd, v, cx2, h1, h2, h3, h4⟩
  rcases he with rfl | rfl
  · exact ⟨hd, v, h2, v, cx2, rfl, h1, h4, h3⟩
  · exact ⟨hd, v, h2, v, cx2, rfl, h1, h4, h3⟩
/-- A function that is lent nothing and hands back one plain value: as the walks of the kit say it. -/
theorem pc_calls {f : FuncId} {args : List PV} {v : Value} {w : World} {vs : Array Value} (h : PC P f args [] (.av v) []) (hn : vs.size = args.length) (hr : ∀ i, i < args.length → SRep w (fun b => b < w.heap.size) (args.getD i P0) (vs.getD i undef)) :
    Calls P f vs w fun e w' => e = .returned v ∧ RowKit.Below w.heap.size w w' := by
  obtain ⟨_, _, h⟩ := h
  let c : Cx := ⟨w, fun b => b < w.heap.size, fun _ => none⟩
  have hh : Heap (cEnv P c []) (· < ([] : Hp).length) c (hSt []) := by
    refine { ids := fun i x hx => (by cases hx), blk := fun i T cs hx => (by rw [hSt_b] at hx; simp at hx), inj := fun i j b T T' l1 => ?_, apart := fun i b T l1 => ?_, bnd := fun i b T hx => (by cases hx), sok := fun b hb => hb, os := rfl, tape := rfl, output := rfl, size := Nat.le_refl _, same := fun _ _ _ => rfl, s0 := fun _ h => h, s1 := fun _ h => .inl h, keep := Keep.refl _ }
    · obtain ⟨T, cs, hx⟩ := l1
      rw [hSt_b] at hx; simp at hx
    · obtain ⟨T, cs, hx⟩ := l1
      rw [hSt_b] at hx; simp at hx
  refine (h c vs hh ⟨hn, fun i hi => .sh (hr i hi)⟩).mono ?_
  rintro e w' ⟨u, c', rfl, rfl, h1, h2⟩
  rw [rep_av h2]
  refine ⟨rfl, h1.os, h1.tape, h1.output, h1.size, fun k hk => h1.same k hk ?_⟩
  rintro ⟨i, T, ⟨T', cs, hx⟩, _⟩
  rw [hSt_b] at hx
  simp at hx
end
end Go.Proofs.Ytgkahjaoajjgcaa.Pm
