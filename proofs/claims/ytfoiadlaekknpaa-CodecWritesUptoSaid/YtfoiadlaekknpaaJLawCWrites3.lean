/-
  THE VALUE MACHINE (N): rows laid down for good, loops, whole functions. No program in sight. | THE VALUE MACHINE (O): what a function hands back; contracts of the kit's kind as contracts by values; small words for written walks. No program in sight. | THE VALUE MACHINE (R): contracts of the kit's kind over plain values, as contracts by values; small lemmas. No program in sight. | THE VALUE MACHINE (S): open rows of shared cells keep their cells under other numbers. No program in sight. | What every law's row of this seat needs: the arguments read behind the call as before it, whatever their types, if the call has turned nothing that was there. | THE VALUE MACHINE (Row): a law's arguments, opened to values. | Encode and alive, as contracts by values. | THE VALUE MACHINE (U): states said anew: numbers that take another one's place; a cell that holds nil. No program in sight. | THE VALUE MACHINE (Y): regions that draw, with the keys told: what each operation reads and writes. No program in sight. | THE VALUE MACHINE (Open): whatever came in, by its type: numbers, truth values, floats, strings, slices and structs of such, as deep as they are. | What came in, at its types: lists of numbers, lists of such; how much they hold. | Reading bits: walks. (Printed by wip/pm.) | Reading numbers: walks. (Printed by wip/pm.) | Reading frames, in plain Lean. | Reading frames: walks. (Printed by wip/pm.)
-/
import Derived.Test.YtfoiadlaekknpaaJLawCWrites2
import Derived.Test.YtfoiadlaekknpaaRows
import Derived.WalkKit
import Derived.ProofKit
import Derived.OpenShut
import Derived.Lib.SmallJoins
import Derived.Below
import Derived.ChangeSame
import Derived.SizedLaws
import Derived.Deep.Matrix
import Derived.Test.YtfoiadlaekknpaaJLawCWrites1
namespace Go.Proofs.Ytfoiadlaekknpaa.Pm
open Go

/-- The state behind it. -/
def frzS (id : Nat) (cs : List PV) : L → L
  | [] => []
  | (k, x) :: l => (k, match x with
    | some (.pv p) => some (.pv (frz id cs p))
    | some (.blk T ds) => match Nat.beq k (kb id) with | true => none | false => some (.blk T (frzL id cs ds))
    | none => none) :: frzS id cs l
theorem get_frzS {id : Nat} {cs : List PV} : ∀ {l : L} (k : Nat), get (frzS id cs l) k = match get l k with
    | some (.pv p) => some (.pv (frz id cs p))
    | some (.blk T ds) => if k = kb id then none else some (.blk T (frzL id cs ds))
    | none => none
  | [], k => rfl
  | (j, x) :: l, k => by
    have ih := get_frzS (id := id) (cs := cs) (l := l) k
    simp only [get, frzS, lk] at ih ⊢
    by_cases e : Nat.beq k j = true
    · have e' := Nat.eq_of_beq_eq_true e
      subst e'
      rw [if_pos e, if_pos e]
      cases x with
      | none => rfl
      | some v =>
        cases v with
        | pv p => rfl
        | blk T ds =>
          simp only [Option.join_some]
          by_cases e2 : k = kb id
          · subst e2; simp [Nat.beq_refl]
          · rw [show Nat.beq k (kb id) = false from by rw [Bool.eq_false_iff]; exact fun h => e2 (Nat.eq_of_beq_eq_true h), if_neg e2]
    · rw [if_neg e, if_neg e]
      exact ih
section
variable {P : Program} {n : Nat} {c0 : Cx} {Bor : Nat → Prop} {Q : Post} {n0 : Nat} {l : L} {rs : List Item}
theorem Wk.frz {l' : L} (id : Nat) {T : TypeId} {cs : List PV} (hg : get l (kb id) = some (.blk T cs)) (hs : shds cs) (he : frzS id cs l = l') : Wk P n c0 Bor n0 l n0 l' := fun cx a hI => by
  subst he
  obtain ⟨ob, ho, hone, hbk⟩ := hI.blk id T cs hg
  let cx' : Cx := ⟨cx.w, fun b => cx.S b ∨ ob = some b, cx.own⟩
  have hlive : Live (get l) id := ⟨T, cs, hg⟩
  have hblk : ∀ b, ob = some b → cx'.S b ∧ ∃ arr : Array Value, cx.w.heap[b]? = some (.cells arr T (0, 0)) ∧ cs.length ≤ arr.size ∧ ∀ j, j < cs.length → SRep cx'.w cx'.S (cs.getD j P0) (arr.getD j undef) := by
    intro b hb
    rcases hbk with ⟨h1, _⟩ | ⟨b', arr, h1, h2, h3, h4⟩
    · rw [hb] at h1; cases h1
    · obtain rfl : b' = b := by rw [hb] at h1; simpa using h1.symm
      refine ⟨.inr hb, arr, h2, h3, fun j hj => ?_⟩
      have hm : cs.getD j P0 ∈ cs := by simp [List.getD_eq_getElem?_getD, hj]
      exact (shd_rep (h4 j hj) (hs _ hm)).mono fun b hb => ⟨.inl hb, rfl⟩
  have hrep : ∀ {p : PV} {v : Value}, Rep P cx p v → Rep P cx' (Pm.frz id cs p) v := fun h => rep_frz (c := cx) (c' := cx') rfl (fun _ h => Or.inl h) rfl ho hone hblk h
  have hgb : ∀ i T' ds, get (frzS id cs l) (kb i) = some (.blk T' ds) → i ≠ id ∧ ∃ ds', get l (kb i) = some (.blk T' ds') ∧ ds = frzL id cs ds' := by
    intro i T' ds h
    rw [get_frzS] at h
    cases hx : get l (kb i) with
    | none => rw [hx] at h; cases h
    | some v =>
      rw [hx] at h
      cases v with
      | pv p => cases h
      | blk T2 ds2 =>
        simp only at h
        by_cases e : kb i = kb id
        · rw [if_pos e] at h; cases h
        · rw [if_neg e] at h
          simp only [Option.some.injEq, Val.blk.injEq] at h
          obtain ⟨rfl, rfl⟩ := h
          exact ⟨fun e2 => e (by rw [e2]), _, rfl, rfl⟩
  have hl : ∀ i, Live (get (frzS id cs l)) i → i ≠ id ∧ Live (get l) i := fun i ⟨T', ds, h⟩ => by
    obtain ⟨h1, ds', h2, _⟩ := hgb i T' ds h
    exact ⟨h1, T', ds', h2⟩
  refine ⟨cx', rfl, { ids := hI.ids, blk := fun i T' ds h => ?_, inj := fun i j b T1 T2 l1 l2 => hI.inj i j b T1 T2 (hl i l1).2 (hl j l2).2, apart := fun i b T1 l1 h2 => ?_, bnd := hI.bnd, sok := fun b hb => ?_, os := hI.os, tape := hI.tape, output := hI.output, size := hI.size, same := hI.same, s0 := fun b hb => .inl (hI.s0 b hb), s1 := fun b hb => ?_, keep := ⟨fun b hb => ⟨.inl (hI.keep.S b hb).1, (hI.keep.S b hb).2⟩, hI.keep.own, hI.keep.shape⟩, tmps := hI.tmps, dfr := hI.dfr, slot := fun s p hp => ?_, isv := fun s x hx => ?_ }⟩
  · obtain ⟨h1, ds', h2, rfl⟩ := hgb i T' ds h
    obtain ⟨ob', h3, h4, h5⟩ := hI.blk i T' ds' h2
    refine ⟨ob', h3, ones_frzL h4, ?_⟩
    rcases h5 with ⟨h5, rfl⟩ | ⟨b, arr, h5, h6, h7, h8⟩
    · exact .inl ⟨h5, rfl⟩
    · refine .inr ⟨b, arr, h5, h6, by rw [frzL_length]; exact h7, fun j hj => ?_⟩
      rw [frzL_length] at hj
      rw [frzL_get _ _ _ j hj]
      exact hrep (h8 j hj)
  · obtain ⟨h1, h3⟩ := hl i l1
    have hap := hI.apart i b T1 h3 h2
    refine ⟨fun hb => ?_, hap.2⟩
    rcases hb with hb | hb
    · exact hap.1 hb
    · subst hb
      exact h1 (hI.inj i id b T1 T h3 hlive h2 ho)
  · rcases hb with hb | hb
    · exact hI.sok b hb
    · subst hb; exact hI.bnd id b T ho
  · rcases hb with hb | hb
    · exact hI.s1 b hb
    · subst hb; exact .inr (hI.apart id b T hlive ho).2
  · rw [get_frzS] at hp
    cases hx : get l (ks s) with
    | none => rw [hx] at hp; cases hp
    | some v =>
      rw [hx] at hp
      cases v with
      | pv q =>
        simp only [Option.some.injEq, Val.pv.injEq] at hp
        subst hp
        exact hrep (hI.slot s q hx)
      | blk T2 ds2 => obtain ⟨q, hq⟩ := hI.isv s _ hx; cases hq
  · rw [get_frzS] at hx
    cases hy : get l (ks s) with
    | none => rw [hy] at hx; cases hx
    | some v =>
      rw [hy] at hx
      cases v with
      | pv q => exact ⟨_, by simpa using hx.symm⟩
      | blk T2 ds2 => obtain ⟨q, hq⟩ := hI.isv s _ hy; cases hq

/-! ### loops -/
def leastP (p : Nat → Prop) (m : Nat) : Prop := p m ∧ ∀ k, k < m → ¬ p k
theorem least_of {p : Nat → Prop} : ∀ m, p m → ∃ k, leastP p k := by
  intro m
  induction m using Nat.strongRecOn with
  | ind m ih =>
    intro h
    by_cases e : ∃ k, k < m ∧ p k
    · obtain ⟨k, h1, h2⟩ := e
      exact ih k h1 h2
    · exact ⟨m, h, fun k h1 h2 => e ⟨k, h1, h2⟩⟩
/-- What a round must end in: the loop's states again, with less to do; or out. -/
def loopQ {α : Type} (P : Program) (n : Nat) (c0 : Cx) (Bor : Nat → Prop) (Q : Post) (rs : List Item) (n1 : Nat) (I : α → L) (μ : α → Nat) (x : α) : Post := fun e cx a => match e with
  | .normal => ∃ y cx', cx'.w = cx.w ∧ Inv ⟨P, n, c0, Bor⟩ (· < n1) cx' (get (I y)) a ∧ μ y < μ x
  | e => WS ⟨P, n, c0, Bor⟩ Q rs e cx a
theorem T_loop {α : Type} {body : Code} (I : α → L) (μ : α → Nat) (n1 : Nat) (x0 : α) (h0 : Wk P n c0 Bor n0 l n1 (I x0)) (h : ∀ x, T P n c0 Bor (loopQ P n c0 Bor Q rs n1 I μ x) n1 (I x) [.code body]) : T P n c0 Bor Q n0 l (.code (.loop body) :: rs) := fun cx a hI => by
  obtain ⟨cx0, hw0, hI0⟩ := h0 cx a hI
  let p : Act → World → Nat → Prop := fun a w m => ∃ x cx, cx.w = w ∧ Inv ⟨P, n, c0, Bor⟩ (· < n1) cx (get (I x)) a ∧ μ x = m
  have key := wp_loop (P := P) (Q := fun e a' w' => ∃ cx', cx'.w = w' ∧ WS ⟨P, n, c0, Bor⟩ Q rs e cx' a') (c := body) (a := a) (w := cx.w) (fun a w => ∃ m, leastP (p a w) m) (fun a w => Classical.epsilon (leastP (p a w)))
    (least_of (μ x0) ⟨x0, cx0, hw0, hI0, rfl⟩) ?_
  · exact key
  · intro a w hm
    have hsp := Classical.epsilon_spec hm
    obtain ⟨⟨x, cx1, rfl, h1, h2⟩, hleast⟩ := hsp
    refine wp_mono (h x cx1 a h1) ?_
    rintro e a' w' ⟨cx', rfl, h3⟩
    cases e with
    | normal =>
      obtain ⟨y, cx2, h4, h5, h6⟩ := h3
      have hex := least_of (p := p a' cx'.w) (μ y) ⟨y, cx2, h4, h5, rfl⟩
      refine ⟨hex, ?_⟩
      have hsp2 := Classical.epsilon_spec hex
      have hle : Classical.epsilon (leastP (p a' cx'.w)) ≤ μ y := by
        rcases Nat.lt_or_ge (μ y) (Classical.epsilon (leastP (p a' cx'.w))) with h7 | h7
        · exact absurd ⟨y, cx2, h4, h5, rfl⟩ (hsp2.2 _ h7)
        · exact h7
      show Classical.epsilon (leastP (p a' cx'.w)) < Classical.epsilon (leastP (p a cx1.w))
      rw [← h2]
      omega
    | exit id => exact ⟨cx', rfl, h3⟩
    | goto l => exact ⟨cx', rfl, h3⟩
    | ret => exact ⟨cx', rfl, h3⟩
    | panic c => exact ⟨cx', rfl, h3⟩
    | outgrown => exact ⟨cx', rfl, h3⟩
theorem T_back {α : Type} {I : α → L} {μ : α → Nat} {n1 : Nat} {x : α} (y : α) (hw : Wk P n c0 Bor n0 l n1 (I y)) (hm : μ y < μ x) : T P n c0 Bor (loopQ P n c0 Bor Q rs n1 I μ x) n0 l [] := fun cx a hI => by
  obtain ⟨cx', h1, h2⟩ := hw cx a hI
  exact ⟨y, cx', h1, h2, hm⟩
theorem T_break {α : Type} {I : α → L} {μ : α → Nat} {n1 : Nat} {x : α} {id : Nat} {ks rs' : List Item} (h1 : out id ks = none) (h2 : out id rs = some rs') (h : T P n c0 Bor Q n0 l rs') : T P n c0 Bor (loopQ P n c0 Bor Q rs n1 I μ x) n0 l (.code (.exit id) :: ks) :=
  T_leave h1 fun cx a hI => ws_out h2 (h cx a hI)
theorem loop_ret {α : Type} {I : α → L} {μ : α → Nat} {n1 : Nat} {x : α} {cx : Cx} {a : Act} (h : Q .ret cx a) : loopQ P n c0 Bor Q rs n1 I μ x .ret cx a := ws_ret h

/-! ### whole functions -/
def resPV : List PV → PV
  | [p] => cz p
  | ps => .tup (ps.map cz)
def retQ (P : Program) (fn : Func) (c0 : Cx) (Bor : Nat → Prop) (r : PV) (H' : Hp) : Post := fun e cx a => (e = .normal ∨ e = .ret) ∧ a.defers = [] ∧ ∃ v cx', cx'.w = cx.w ∧ (results fn a.tmps).run P cx.w = .ok v cx.w ∧ Rep P cx' r v ∧ Heap ⟨P, 0, c0, Bor⟩ (· < H'.length) cx' (hSt H')
theorem Heap.env {nx : Nat → Prop} {m : Nat} {c : Cx} {g : St} (h : Heap ⟨P, n, c0, Bor⟩ nx c g) : Heap ⟨P, m, c0, Bor⟩ nx c g :=
  { ids := h.ids, blk := h.blk, inj := h.inj, apart := h.apart, bnd := h.bnd, sok := h.sok, os := h.os, tape := h.tape, output := h.output, size := h.size, same := h.same, s0 := h.s0, s1 := h.s1, keep := h.keep }
theorem Heap.less {E : Env} {nx : Nat → Prop} {c : Cx} {g g' : St} (h : Heap E nx c g) (hs : ∀ i T cs, g' (kb i) = some (.blk T cs) → g (kb i) = some (.blk T cs)) : Heap E nx c g' := by
  have hl : ∀ i, Live g' i → Live g i := fun i ⟨T, cs, hx⟩ => ⟨T, cs, hs _ _ _ hx⟩
  exact { h with blk := fun i T cs hx => h.blk i T cs (hs _ _ _ hx), inj := fun i j b T T' l1 l2 => h.inj i j b T T' (hl i l1) (hl j l2), apart := fun i b T l1 => h.apart i b T (hl i l1) }
theorem run_res1 {fn : Func} {t : Nat} (hres : fn.results = #[.tmp t]) (tmps : Array Value) (w : World) : (results fn tmps).run P w = .ok (tmps.getD t undef) w := by simp [results, hres]
theorem run_res2 {fn : Func} {t u : Nat} (hres : fn.results = #[.tmp t, .tmp u]) (tmps : Array Value) (w : World) : (results fn tmps).run P w = .ok (.tuple #[tmps.getD t undef, tmps.getD u undef]) w := by simp [results, hres]
theorem run_res3 {fn : Func} {t u x : Nat} (hres : fn.results = #[.tmp t, .tmp u, .tmp x]) (tmps : Array Value) (w : World) : (results fn tmps).run P w = .ok (.tuple #[tmps.getD t undef, tmps.getD u undef, tmps.getD x undef]) w := by simp [results, hres]
theorem run_res0 {fn : Func} (hres : fn.results = #[]) (tmps : Array Value) (w : World) : (results fn tmps).run P w = .ok (.tuple #[]) w := by simp [results, hres]
/-- What is left of the blocks. -/
def blksB (l : L) : Nat → Hp → List Prop
  | _, [] => []
  | i, some (T, cs) :: H => (get l (kb i) = some (.blk T cs)) :: blksB l (i + 1) H
  | i, none :: H => blksB l (i + 1) H
theorem blksB_spec {l : L} : ∀ {H : Hp} {n : Nat}, (∀ p ∈ blksB l n H, p) → ∀ i x, H.getD i none = some x → get l (kb (n + i)) = some (.blk x.1 x.2)
  | [], n, _, i, x, h => by simp at h
  | none :: H, n, hp, 0, x, h => by simp at h
  | none :: H, n, hp, i + 1, x, h => by
    have := blksB_spec (H := H) (n := n + 1) hp i x (by simpa using h)
    rwa [show n + 1 + i = n + (i + 1) by omega] at this
  | some y :: H, n, hp, 0, x, h => by
    obtain ⟨T, cs⟩ := y
    have : (T, cs) = x := by simpa using h
    subst this
    exact hp _ (by simp [blksB])
  | some y :: H, n, hp, i + 1, x, h => by
    obtain ⟨T, cs⟩ := y
    have := blksB_spec (l := l) (H := H) (n := n + 1) (fun p hp' => hp p (by simp [blksB, hp'])) i x (by simpa using h)
    rwa [show n + 1 + i = n + (i + 1) by omega] at this
theorem ret_ok {fn : Func} {r : PV} {H' : Hp} {n1 : Nat} {l' : L} {e : Exit} (he : e = .normal ∨ e = .ret) (hw : Wk P n c0 Bor n0 l n1 l') (hn : n1 = H'.length) (hb : ∀ p ∈ blksB l' 0 H', p)
    (hr : ∀ (cx : Cx) (a : Act), Inv ⟨P, n, c0, Bor⟩ (· < n1) cx (get l') a → ∃ v, (results fn a.tmps).run P cx.w = .ok v cx.w ∧ Rep P cx r v) {cx : Cx} {a : Act} (hI : Inv ⟨P, n, c0, Bor⟩ (· < n0) cx (get l) a) : retQ P fn c0 Bor r H' e cx a := by
  obtain ⟨cx', h1, h2⟩ := hw cx a hI
  obtain ⟨v, h3, h4⟩ := hr cx' a h2
  refine ⟨he, hI.dfr, v, cx', h1, by rw [← h1]; exact h3, h4, ?_⟩
  subst hn
  refine (h2.toHeap.env).less fun i T cs hx => ?_
  rw [hSt_b] at hx
  cases hy : H'.getD i none with
  | none => rw [hy] at hx; cases hx
  | some y =>
    rw [hy] at hx
    simp only [Option.some.injEq, Val.blk.injEq] at hx
    obtain ⟨rfl, rfl⟩ := hx
    have := blksB_spec hb i y hy
    rwa [Nat.zero_add] at this
theorem ret0 {fn : Func} {l' : L} (hres : fn.results = #[]) (cx : Cx) (a : Act) (_ : Inv ⟨P, n, c0, Bor⟩ (· < n0) cx (get l') a) : ∃ v, (results fn a.tmps).run P cx.w = .ok v cx.w ∧ Rep P cx (.tup []) v :=
  ⟨_, run_res0 hres _ _, .tup rfl fun i hi => by simp at hi⟩
theorem ret1 {fn : Func} {l' : L} {t : Nat} {p r : PV} (hres : fn.results = #[.tmp t]) (hp : get l' (ks t) = some (.pv p)) (hr : cz p = r) (cx : Cx) (a : Act) (hI : Inv ⟨P, n, c0, Bor⟩ (· < n0) cx (get l') a) : ∃ v, (results fn a.tmps).run P cx.w = .ok v cx.w ∧ Rep P cx r v :=
  ⟨_, run_res1 hres _ _, hr ▸ rep_cz (hI.slot t p hp)⟩
theorem ret2 {fn : Func} {l' : L} {t u : Nat} {p q r s : PV} (hres : fn.results = #[.tmp t, .tmp u]) (hp : get l' (ks t) = some (.pv p)) (hq : get l' (ks u) = some (.pv q)) (hr : cz p = r) (hs : cz q = s) (cx : Cx) (a : Act)
    (hI : Inv ⟨P, n, c0, Bor⟩ (· < n0) cx (get l') a) : ∃ v, (results fn a.tmps).run P cx.w = .ok v cx.w ∧ Rep P cx (.tup [r, s]) v := by
  subst hr; subst hs
  refine ⟨_, run_res2 hres _ _, .tup rfl fun i hi => ?_⟩
  match i, hi with
  | 0, _ => exact rep_cz (hI.slot t p hp)
  | 1, _ => exact rep_cz (hI.slot u q hq)
theorem ret3 {fn : Func} {l' : L} {t u x : Nat} {p q z r s y : PV} (hres : fn.results = #[.tmp t, .tmp u, .tmp x]) (hp : get l' (ks t) = some (.pv p)) (hq : get l' (ks u) = some (.pv q)) (hz : get l' (ks x) = some (.pv z)) (hr : cz p = r) (hs : cz q = s) (hy : cz z = y) (cx : Cx) (a : Act)
    (hI : Inv ⟨P, n, c0, Bor⟩ (· < n0) cx (get l') a) : ∃ v, (results fn a.tmps).run P cx.w = .ok v cx.w ∧ Rep P cx (.tup [r, s, y]) v := by
  subst hr; subst hs; subst hy
  refine ⟨_, run_res3 hres _ _, .tup rfl fun i hi => ?_⟩
  match i, hi with
  | 0, _ => exact rep_cz (hI.slot t p hp)
  | 1, _ => exact rep_cz (hI.slot u q hq)
  | 2, _ => exact rep_cz (hI.slot x z hz)
/-- The state that a call begins in. -/
def initA : Nat → List PV → L
  | _, [] => []
  | i, p :: ps => (ks i, some (.pv p)) :: initA (i + 1) ps
def initB : Nat → Hp → L
  | _, [] => []
  | i, x :: H => (kb i, match x with | some y => some (.blk y.1 y.2) | none => none) :: initB (i + 1) H
theorem get_initA_b (i : Nat) : ∀ (ps : List PV) (n : Nat), lk (kb i) (initA n ps) = none
  | [], _ => rfl
  | p :: ps, n => by simp only [initA, lk, beq_kbs]; exact get_initA_b i ps (n + 1)
theorem get_initB_s (s : Nat) : ∀ (H : Hp) (n : Nat), lk (ks s) (initB n H) = none
  | [], _ => rfl
  | x :: H, n => by simp only [initB, lk, beq_ksb]; exact get_initB_s s H (n + 1)
theorem lk_initA : ∀ (ps : List PV) (n s : Nat) (x : Option Val), lk (ks s) (initA n ps) = some x → n ≤ s ∧ s < n + ps.length ∧ x = some (.pv (ps.getD (s - n) P0))
  | p :: ps, n, s, x, h => by
    simp only [initA, lk, beq_ks] at h
    by_cases e : s = n
    · subst e
      rw [decide_eq_true rfl, if_pos rfl] at h
      cases h
      exact ⟨Nat.le_refl _, by simp, by rw [Nat.sub_self]; rfl⟩
    · rw [decide_eq_false e, if_neg (by simp)] at h
      obtain ⟨h1, h2, h3⟩ := lk_initA ps (n + 1) s x h
      refine ⟨by omega, by simp; omega, ?_⟩
      rw [h3, show s - n = (s - (n + 1)) + 1 by omega]
      rfl
theorem lk_initB : ∀ (H : Hp) (n i : Nat) (T : TypeId) (cs : List PV), lk (kb i) (initB n H) = some (some (.blk T cs)) → n ≤ i ∧ H.getD (i - n) none = some (T, cs)
  | x :: H, n, i, T, cs, h => by
    simp only [initB, lk, beq_kb] at h
    by_cases e : i = n
    · subst e
      rw [decide_eq_true rfl, if_pos rfl] at h
      cases x with
      | none => cases h
      | some y =>
        simp only [Option.some.injEq, Val.blk.injEq] at h
        obtain ⟨rfl, rfl⟩ := h
        exact ⟨Nat.le_refl _, by rw [Nat.sub_self]; rfl⟩
    · rw [decide_eq_false e, if_neg (by simp)] at h
      obtain ⟨h1, h2⟩ := lk_initB H (n + 1) i T cs h
      refine ⟨by omega, ?_⟩
      rw [show i - n = (i - (n + 1)) + 1 by omega]
      exact h2
theorem pc_intro {f : FuncId} {fn : Func} {code : Code} {args : List PV} {H H' : Hp} {r : PV} {l0 : L} (hf : P.funcs[f]? = some fn) (hb : fn.body = some code) (hname : (fn.name == "runtime.NumGoroutine") = false) (hlen : H.length ≤ H'.length)
    (hn : Nat.ble args.length fn.ntmps = true) (hl0 : initA 0 args ++ initB 0 H = l0) (h : ∀ c0 Bor, (∀ i x, c0.own i = some x → i < H.length) → T P fn.ntmps c0 Bor (retQ P fn c0 Bor r H') H.length l0 [.code code]) : PC P f args H r H' := by
  refine ⟨⟨fn, hf, by rw [hb]; rfl, hname⟩, hlen, fun c vs hh hrl => ?_⟩
  have hn := Nat.le_of_ble_eq_true hn
  have hvs := hrl.1
  refine calls_of_wp hf hb ?_
  have hI : Inv ⟨P, fn.ntmps, c, (cEnv P c H).Bor⟩ (· < H.length) c (get l0) { tmps := vs ++ Array.replicate (fn.ntmps - vs.size) undef, defers := [] } := by
    subst hl0
    have hgb : ∀ i T cs, get (initA 0 args ++ initB 0 H) (kb i) = some (.blk T cs) → hSt H (kb i) = some (.blk T cs) := by
      intro i T cs hx
      rw [get_append] at hx
      simp only [over, get_initA_b, get] at hx
      have h2 : lk (kb i) (initB 0 H) = some (some (.blk T cs)) := by
        cases hy : lk (kb i) (initB 0 H) with
        | none => rw [hy] at hx; cases hx
        | some y => rw [hy] at hx; simpa using hx
      obtain ⟨_, h3⟩ := lk_initB H 0 i T cs h2
      rw [Nat.sub_zero] at h3
      rw [hSt_b, h3]
    have hgs : ∀ s x, get (initA 0 args ++ initB 0 H) (ks s) = some x → s < args.length ∧ x = .pv (args.getD s P0) := by
      intro s x hx
      rw [get_append] at hx
      simp only [over, get, get_initB_s] at hx
      cases hy : lk (ks s) (initA 0 args) with
      | none => rw [hy] at hx; cases hx
      | some y =>
        rw [hy] at hx
        obtain ⟨_, h2, h3⟩ := lk_initA args 0 s y hy
        simp only [Nat.sub_zero] at h3
        rw [h3] at hx
        exact ⟨by omega, by simpa using hx.symm⟩
    have hh1 : Heap ⟨P, fn.ntmps, c, (cEnv P c H).Bor⟩ (· < H.length) c (hSt H) := hh.env
    exact { hh1.less hgb with
      tmps := by simp; omega
      dfr := rfl
      slot := fun s p hp => by
        obtain ⟨h1, h2⟩ := hgs s _ hp
        cases h2
        have h3 := hrl.2 s h1
        have h4 : s < vs.size := by omega
        have e : (vs ++ Array.replicate (fn.ntmps - vs.size) undef).getD s undef = vs.getD s undef := by
          rw [Array.getD_eq_getD_getElem?, Array.getElem?_append_left h4, Array.getD_eq_getD_getElem?]
        show Rep P c _ ((vs ++ Array.replicate (fn.ntmps - vs.size) undef).getD s undef)
        rw [e]
        exact h3
      isv := fun s x hx => ⟨_, (hgs s x hx).2⟩ }
  have key := h c (cEnv P c H).Bor (fun i x hx => hh.ids i x hx) c _ hI
  refine wp_mono key ?_
  rintro e a' w' ⟨cx', rfl, he, hd, v, cx2, h1, h2, h3, h4⟩
  rcases he with rfl | rfl
  · exact ⟨hd, v, h2, v, cx2, rfl, h1, h4, h3⟩
  · exact ⟨hd, v, h2, v, cx2, rfl, h1, h4, h3⟩
/-- A function that is lent nothing and hands back one plain value: as the walks of the kit say it. -/
theorem pc_calls {f : FuncId} {args : List PV} {v : Value} {w : World} {vs : Array Value} (h : PC P f args [] (.av v) []) (hn : vs.size = args.length) (hr : ∀ i, i < args.length → SRep w (fun b => b < w.heap.size) (args.getD i P0) (vs.getD i undef)) :
    Calls P f vs w fun e w' => e = .returned v ∧ RowKit.Below w.heap.size w w' := by
  obtain ⟨_, _, h⟩ := h
  let c : Cx := ⟨w, fun b => b < w.heap.size, fun _ => none⟩
  have hh : Heap (cEnv P c []) (· < ([] : Hp).length) c (hSt []) := by
    refine { ids := fun i x hx => (by cases hx), blk := fun i T cs hx => (by rw [hSt_b] at hx; simp at hx), inj := fun i j b T T' l1 => ?_, apart := fun i b T l1 => ?_, bnd := fun i b T hx => (by cases hx), sok := fun b hb => hb, os := rfl, tape := rfl, output := rfl, size := Nat.le_refl _, same := fun _ _ _ => rfl, s0 := fun _ h => h, s1 := fun _ h => .inl h, keep := Keep.refl _ }
    · obtain ⟨T, cs, hx⟩ := l1
      rw [hSt_b] at hx; simp at hx
    · obtain ⟨T, cs, hx⟩ := l1
      rw [hSt_b] at hx; simp at hx
  refine (h c vs hh ⟨hn, fun i hi => .sh (hr i hi)⟩).mono ?_
  rintro e w' ⟨u, c', rfl, rfl, h1, h2⟩
  rw [rep_av h2]
  refine ⟨rfl, h1.os, h1.tape, h1.output, h1.size, fun k hk => h1.same k hk ?_⟩
  rintro ⟨i, T, ⟨T', cs, hx⟩, _⟩
  rw [hSt_b] at hx
  simp at hx
end
end Go.Proofs.Ytfoiadlaekknpaa.Pm
namespace Go.Proofs.Ytfoiadlaekknpaa.Pm
open Go

/-- What is handed back: slots, or what stands in a box. -/
def resP (P : Program) : List ResultVar → (List PV → Plan) → Plan
  | [], k => k []
  | .tmp t :: rs, k => .look (ks t) fun v => match v with | .pv p => resP P rs fun ps => k (p :: ps) | .blk _ _ => .fail
  | .cell t T :: rs, k => .look (ks t) fun v => match v with
    | .pv (.opt id off) => .look (kb id) fun v => match v with
      | .blk _ cs => match isAggD (P.underlying T), P.info? T with
        | some true, some ti => seg cs off ti.size .no fun l => resP P rs fun ps => k (.agg l :: ps)
        | some false, some _ => seg cs off 1 .no fun l => one1 l fun p => resP P rs fun ps => k (p :: ps)
        | _, _ => .fail
      | .pv _ => .fail
    | _ => .fail
abbrev resF (tmps : Array Value) : ResultVar → Sem Value := fun x => match x with
  | .tmp t => pure (tmps.getD t undef)
  | .cell a t => do loadVar t (← asAddr (tmps.getD a undef))
theorem resP_ok {E : Env} {nx : Nat → Prop} {c : Cx} {g : St} {a : Act} (hI : Inv E nx c g a) : ∀ {rs : List ResultVar} {k : List PV → Plan} {p : PV} {wb : L}, Res g (resP E.P rs k) p wb →
    ∃ ps vs, RL E.P c ps (List.toArray vs) ∧ (rs.mapM (resF a.tmps)).run E.P c.w = .ok vs c.w ∧ Res g (k ps) p wb
  | [], k, p, wb, h => ⟨[], [], ⟨rfl, fun i hi => by simp at hi⟩, by simp, h⟩
  | .tmp t :: rs, k, p, wb, h => by
    obtain ⟨v, h1, h2⟩ := Res.look h
    cases v with
    | blk T cs => exact (Res.fail h2).elim
    | pv q =>
      obtain ⟨ps, vs, h3, h4, h5⟩ := resP_ok hI h2
      refine ⟨q :: ps, a.tmps.getD t undef :: vs, ?_, ?_, h5⟩
      · have := (one_rl (hI.slot t q h1)).append h3
        simpa using this
      · simp [List.mapM_cons, h4, resF]
  | .cell t T :: rs, k, p, wb, h => by
    obtain ⟨v, h1, h2⟩ := Res.look h
    split at h2
    case h_2 => exact (Res.fail h2).elim
    rename_i id off
    obtain ⟨bv, hg, h3⟩ := Res.look h2
    cases bv with
    | pv _ => exact (Res.fail h3).elim
    | blk T' cs =>
      simp only at h3
      obtain ⟨b, T2, hown, hv⟩ := rep_opt (hI.slot t _ h1)
      obtain ⟨ob', hown', hone, hb⟩ := hI.blk id T' cs hg
      rw [hown] at hown'
      cases hown'
      rcases hb with ⟨hb, _⟩ | ⟨b', arr, hb1, hb2, hb3, hb4⟩
      · cases hb
      obtain rfl : b' = b := by simpa using hb1.symm
      have hcell : ∀ j, j < cs.length → c.w.cell? ⟨b', 0 + j, none⟩ = some (arr.getD j undef) := fun j hj => by
        have : j < arr.size := by omega
        rw [Nat.zero_add, cell_of_row c.w _ _ arr _ _ hb2]
        simp [Array.getD_eq_getD_getElem?, this]
      -- one value loaded, the rest behind it
      have key : ∀ {q : PV} {u : Value} {r : Plan}, Rep E.P c q u → (loadVar T ⟨b', 0 + off, none⟩).run E.P c.w = .ok u c.w → Res g (resP E.P rs fun ps => k (q :: ps)) p wb →
          ∃ ps vs, RL E.P c ps (List.toArray vs) ∧ ((ResultVar.cell t T :: rs).mapM (resF a.tmps)).run E.P c.w = .ok vs c.w ∧ Res g (k ps) p wb := by
        intro q u r hq hu hr
        obtain ⟨ps, vs, h5, h6, h7⟩ := resP_ok hI hr
        refine ⟨q :: ps, u :: vs, ?_, ?_, h7⟩
        · have := (one_rl hq).append h5
          simpa using this
        · rw [Nat.zero_add] at hu
          have e : (resF a.tmps (.cell t T)).run E.P c.w = .ok u c.w := by
            have hv2 : a.tmps.getD t undef = .pointer (some ⟨b', off, none⟩) := hv
            simp only [resF, Sem.run_bind, hv2, asAddr, Sem.run_pure, Result.andThen_ok, hu]
          rw [List.mapM_cons]
          simp only [Sem.run_bind, e, h6, Result.andThen_ok, Sem.run_pure]
      split at h3
      · rename_i ti hag hin
        have h4 : Res g (loadCs cs off ti.size true .no) (.agg ((cs.drop off).take ti.size)) [] ∧ Res g (resP E.P rs fun ps => k (.agg ((cs.drop off).take ti.size) :: ps)) p wb := by
          unfold seg at h3
          simp only at h3
          split at h3
          · rename_i hb5
            refine ⟨?_, h3⟩
            simp only [loadCs, seg, hb5]
            exact ⟨_, rfl, rfl, rfl, fun q hq => by cases hq⟩
          · exact (Res.fail h3).elim
        obtain ⟨_, u, h5, h6⟩ := load_run (c := c) (a := 0) hag hin h4.1 hcell hb4
        exact key (r := .fail) h5 h6 h4.2
      · rename_i ti hag hin
        unfold seg at h3
        simp only at h3
        split at h3
        · rename_i hb5
          unfold one1 at h3
          split at h3
          · rename_i q heq
            have h4 : Res g (loadCs cs off ti.size false .no) q [] := by
              simp only [loadCs, seg, hb5, heq, one1]
              exact ⟨_, rfl, rfl, rfl, fun q hq => by cases hq⟩
            obtain ⟨_, u, h5, h6⟩ := load_run (c := c) (a := 0) hag hin h4 hcell hb4
            exact key (r := .fail) h5 h6 h3
          · exact (Res.fail h3).elim
        · exact (Res.fail h3).elim
      · exact (Res.fail h3).elim
def runv (g : St) (p : Plan) : Option (PV × List Prop) := match run g p with | some o => some (o.pv, o.obs) | none => none
theorem ret_res {P : Program} {n : Nat} {c0 : Cx} {Bor : Nat → Prop} {n0 : Nat} {fn : Func} {l' : L} {r : PV} (h : runv (get l') (resP P fn.results.toList fun ps => .done (resPV ps) []) = some (r, [])) (cx : Cx) (a : Act)
    (hI : Inv ⟨P, n, c0, Bor⟩ (· < n0) cx (get l') a) : ∃ v, (results fn a.tmps).run P cx.w = .ok v cx.w ∧ Rep P cx r v := by
  unfold runv at h
  split at h
  case h_2 => cases h
  rename_i o h0
  simp only [Option.some.injEq, Prod.mk.injEq] at h
  obtain ⟨hr, ho⟩ := h
  obtain ⟨ps, vs, h1, h2, h3⟩ := resP_ok hI (p := r) (wb := o.wb) ⟨o, h0, hr, rfl, fun q hq => by rw [ho] at hq; cases hq⟩
  obtain ⟨rfl, _⟩ := Res.done h3
  have e : (results fn a.tmps).run P cx.w = .ok (if hs : vs.toArray.size = 1 then vs.toArray[0] else .tuple vs.toArray) cx.w := by
    have e0 : results fn a.tmps = (do let vs ← fn.results.mapM (resF a.tmps); pure (if h : vs.size = 1 then vs[0] else .tuple vs)) := rfl
    rw [e0, Array.mapM_eq_mapM_toList]
    simp only [Sem.run_bind, Sem.run_map, h2, Result.andThen_ok]
    rfl
  refine ⟨_, e, ?_⟩
  have hlen : vs.length = ps.length := by simpa using h1.1
  unfold resPV
  split
  · rename_i p
    have h5 : vs.toArray.size = 1 := by simpa using hlen
    rw [dif_pos h5]
    have := h1.2 0 (by simp)
    have h6 : (0 : Nat) < vs.length := by simpa using hlen ▸ Nat.one_pos
    simp [Array.getD_eq_getD_getElem?, h6] at this
    exact rep_cz (by simpa using this)
  · rename_i hne
    have h5 : ¬ vs.toArray.size = 1 := fun e => by
      have : ps.length = 1 := by simp at e; omega
      obtain ⟨q, rfl⟩ := List.length_eq_one_iff.1 this
      exact hne q rfl
    rw [dif_neg h5]
    refine .tup (by simp [hlen]) fun i hi => ?_
    have hi' : i < ps.length := by simpa using hi
    have := rep_cz (h1.2 i hi')
    simpa [List.getD_eq_getElem?_getD, hi'] using this

/-! ### contracts of the kit's kind -/
/-- A callee that is lent nothing, tells its result by plain values, and at most makes blocks. -/
theorem pc_of {P : Program} {f : FuncId} {args : List PV} {r : PV} (hf : FnOk P f) (hr : ∀ w vs, RL P ⟨w, fun b => b < w.heap.size, fun _ => none⟩ args vs → Calls P f vs w fun e w' => ∃ v, e = .returned v ∧ RowKit.Below w.heap.size w w' ∧ ∀ c, Rep P c r v)
    (hargs : ∀ c vs, RL P c args vs → RL P ⟨c.w, fun b => b < c.w.heap.size, fun _ => none⟩ args vs) : PC P f args [] r [] := by
  refine ⟨hf, Nat.le_refl _, fun c vs hh hrl => (hr c.w vs (hargs c vs hrl)).mono ?_⟩
  rintro e w' ⟨v, rfl, hb, hv⟩
  have hbl : ∀ b, b < c.w.heap.size → w'.heap[b]? = c.w.heap[b]? := hb.block
  have hno : ∀ i, ¬ Live (hSt []) i := fun i ⟨T, cs, hx⟩ => by rw [hSt_b] at hx; simp at hx
  have hk : Keep c ⟨w', c.S, c.own⟩ := ⟨fun b hb => ⟨hb, hbl b (hh.sok b hb)⟩, fun _ _ h => h, fun b cs T h => ⟨cs, by rw [hbl b (some_lt h)]; exact h, rfl⟩⟩
  exact ⟨v, ⟨w', c.S, c.own⟩, rfl, rfl, { ids := hh.ids, blk := fun i T cs hx => absurd ⟨T, cs, hx⟩ (hno i), inj := fun i j b T T' l1 => absurd l1 (hno i), apart := fun i b T l1 => absurd l1 (hno i), bnd := fun i b T hx => Nat.lt_of_lt_of_le (hh.bnd i b T hx) hb.size, sok := fun b hS => Nat.lt_of_lt_of_le (hh.sok b hS) hb.size, os := hb.os, tape := hb.tape, output := hb.output, size := hb.size, same := fun b hb' _ => hbl b hb', s0 := fun _ h => h, s1 := fun _ h => .inl h, keep := hk }, hv _⟩

/-! ### small words -/
section
variable {P : Program} {n : Nat} {c0 : Cx} {Bor : Nat → Prop} {Q : Post} {n0 : Nat} {l : L} {rs : List Item}
theorem T_then {t : Nat} {x y : Code} {b : Bool} (hb : get l (ks t) = some (.pv (.av (.bool b)))) (hv : b = true) (h : T P n c0 Bor Q n0 l (.code x :: rs)) : T P n c0 Bor Q n0 l (.code (.cond (.tmp t) x y) :: rs) :=
  T_cond hb (fun _ => h) fun e => by rw [hv] at e; cases e
theorem T_else {t : Nat} {x y : Code} {b : Bool} (hb : get l (ks t) = some (.pv (.av (.bool b)))) (hv : b = false) (h : T P n c0 Bor Q n0 l (.code y :: rs)) : T P n c0 Bor Q n0 l (.code (.cond (.tmp t) x y) :: rs) :=
  T_cond hb (fun e => by rw [hv] at e; cases e) fun _ => h
end
theorem obs_nil : ∀ p ∈ ([] : List Prop), p := fun p hp => by cases hp
theorem obs_cons {p : Prop} {l : List Prop} (h : p) (k : ∀ q ∈ l, q) : ∀ q ∈ p :: l, q := fun q hq => by
  rcases List.mem_cons.1 hq with rfl | hq
  · exact h
  · exact k q hq
theorem Wk.eq {P : Program} {n : Nat} {c0 : Cx} {Bor : Nat → Prop} {n0 : Nat} {l l' : L} (h : l = l') : Wk P n c0 Bor n0 l n0 l' := h ▸ Wk.refl
abbrev iv (n : Int) : PV := .av (.int .i64 n)
abbrev bv (b : Bool) : PV := .av (.bool b)
abbrev sv (s : ByteArray) : PV := .av (.string s)
abbrev ps (s : Nat) (p : PV) : Nat × Option Val := (ks s, some (.pv p))
abbrev pb (i : Nat) (T : TypeId) (cs : List PV) : Nat × Option Val := (kb i, some (.blk T cs))
/-- Numbers, as cells. -/
def ints (l : List Int) : List PV := l.flatMap fun n => [iv n]
theorem flat_len {α : Type} (f : α → List PV) (s : Nat) (hf : ∀ x, (f x).length = s) : ∀ l : List α, (l.flatMap f).length = l.length * s
  | [] => by simp
  | x :: l => by rw [List.flatMap_cons, List.length_append, hf, flat_len f s hf l, List.length_cons, Nat.succ_mul]; omega
theorem flat_at {α : Type} (f : α → List PV) (s : Nat) (hf : ∀ x, (f x).length = s) (d : α) : ∀ (l : List α) (k j m : Nat), k < l.length → j + m ≤ s →
    k * s + j + m ≤ (l.flatMap f).length ∧ ((l.flatMap f).drop (k * s + j)).take m = ((f (l.getD k d)).drop j).take m
  | x :: l, 0, j, m, _, hj => by
    refine ⟨by rw [flat_len f s hf, List.length_cons, Nat.succ_mul]; omega, ?_⟩
    rw [Nat.zero_mul, Nat.zero_add, List.flatMap_cons, List.drop_append_of_le_length (by rw [hf]; omega), List.take_append_of_le_length (by rw [List.length_drop, hf]; omega)]
    rfl
  | x :: l, k + 1, j, m, hk, hj => by
    have hk' : k < l.length := by simpa using hk
    obtain ⟨h1, h2⟩ := flat_at f s hf d l k j m hk' hj
    refine ⟨by rw [List.flatMap_cons, List.length_append, hf, Nat.succ_mul]; omega, ?_⟩
    have e : (k + 1) * s + j = s + (k * s + j) := by rw [Nat.succ_mul]; omega
    rw [List.flatMap_cons, e, ← List.drop_drop, show s = (f x).length from (hf x).symm, List.drop_left, hf x, h2]
    rfl
theorem ints_at {l : List Int} {k : Nat} (h : k < l.length) : k + 1 ≤ (ints l).length ∧ ((ints l).drop k).take 1 = [iv (l.getD k 0)] := by
  have := flat_at (fun n => [iv n]) 1 (fun _ => rfl) 0 l k 0 1 h (by omega)
  simpa [ints] using this
theorem ints_len (l : List Int) : (ints l).length = l.length := by rw [ints, flat_len _ 1 (fun _ => rfl), Nat.mul_one]
end Go.Proofs.Ytfoiadlaekknpaa.Pm
namespace Go.Proofs.Ytfoiadlaekknpaa.Pm
open Go

def flat1 : PV → Option Value
  | .av v => some v
  | _ => none
def flat1s : List PV → Option (List Value)
  | [] => some []
  | p :: l => match flat1 p, flat1s l with | some v, some r => some (v :: r) | _, _ => none
def flat2 : PV → Option Value
  | .agg cs => match flat1s cs with | some l => some (.agg l.toArray) | none => none
  | p => flat1 p
def flat2s : List PV → Option (List Value)
  | [] => some []
  | p :: l => match flat2 p, flat2s l with | some v, some r => some (v :: r) | _, _ => none
def flat3 : PV → Option Value
  | .tup cs => match flat2s cs with | some l => some (.tuple l.toArray) | none => none
  | p => flat2 p
theorem flat1_to {P : Program} {c : Cx} {p : PV} {v u : Value} (h : flat1 p = some u) (hr : Rep P c p v) : v = u := by
  cases p <;> simp [flat1] at h
  subst h
  exact rep_av hr
theorem flat1_of {w : World} {S : Nat → Prop} {p : PV} {u : Value} (h : flat1 p = some u) : SRep w S p u := by
  cases p <;> simp [flat1] at h
  subst h
  exact .av _
theorem flats_to {P : Program} {c : Cx} {f : PV → Option Value} {fs : List PV → Option (List Value)} (h0 : fs [] = some []) (hc : ∀ p l, fs (p :: l) = match f p, fs l with | some v, some r => some (v :: r) | _, _ => none)
    (hf : ∀ p v u, f p = some u → Rep P c p v → v = u) : ∀ {l : List PV} {us : List Value} {vs : Array Value}, fs l = some us → RL P c l vs → vs = us.toArray
  | [], us, vs, h, hr => by
    rw [h0] at h
    cases h
    exact Array.eq_empty_of_size_eq_zero hr.1
  | p :: l, us, vs, h, hr => by
    rw [hc] at h
    split at h
    case h_2 => cases h
    rename_i v r h1 h2
    cases h
    have hs := hr.1
    simp only [List.length_cons] at hs
    have e0 : vs.getD 0 undef = v := hf p _ _ h1 (by simpa using hr.2 0 (by simp))
    have ht : RL P c l (vs.toList.tail).toArray := by
      refine ⟨by simp [hs], fun i hi => ?_⟩
      have := hr.2 (i + 1) (by simp; omega)
      have e : ((vs.toList.tail).toArray).getD i undef = vs.getD (i + 1) undef := by
        simp only [Array.getD_eq_getD_getElem?, List.getElem?_toArray, List.getElem?_tail, Array.getElem?_toList]
      rw [e]
      simpa using this
    have ih := flats_to h0 hc hf h2 ht
    have h3 : vs.toList.tail = r := by simpa using ih
    apply Array.ext'
    cases hv : vs.toList with
    | nil =>
      have : vs.size = 0 := by rw [← Array.length_toList, hv]; rfl
      omega
    | cons a b =>
      rw [hv] at h3
      have : vs.getD 0 undef = a := by
        rw [Array.getD_eq_getD_getElem?, ← Array.getElem?_toList, hv]
        rfl
      rw [← e0, this]
      simpa using h3
theorem flats_of {w : World} {S : Nat → Prop} {f : PV → Option Value} {fs : List PV → Option (List Value)} (h0 : fs [] = some []) (hc : ∀ p l, fs (p :: l) = match f p, fs l with | some v, some r => some (v :: r) | _, _ => none)
    (hf : ∀ p u, f p = some u → SRep w S p u) : ∀ {l : List PV} {us : List Value}, fs l = some us → us.length = l.length ∧ ∀ i, i < l.length → SRep w S (l.getD i P0) (us.getD i undef)
  | [], us, h => by
    rw [h0] at h
    cases h
    exact ⟨rfl, fun i hi => by simp at hi⟩
  | p :: l, us, h => by
    rw [hc] at h
    split at h
    case h_2 => cases h
    rename_i v r h1 h2
    cases h
    obtain ⟨h3, h4⟩ := flats_of h0 hc hf h2
    refine ⟨by simp [h3], fun i hi => ?_⟩
    cases i with
    | zero => exact hf p v h1
    | succ i => simpa using h4 i (by simpa using hi)
theorem arr_getD (us : List Value) (i : Nat) : us.toArray.getD i undef = us.getD i undef := by simp [Array.getD_eq_getD_getElem?, List.getD_eq_getElem?_getD]
theorem flat2_to {P : Program} {c : Cx} {p : PV} {v u : Value} (h : flat2 p = some u) (hr : Rep P c p v) : v = u := by
  unfold flat2 at h
  split at h
  · split at h
    case h_2 => cases h
    rename_i cs l hl
    cases h
    obtain ⟨vs, rfl, h1, h2⟩ := rep_agg hr
    rw [flats_to (f := flat1) (fs := flat1s) rfl (fun _ _ => rfl) (fun _ _ _ h k => flat1_to h k) hl ⟨h1, h2⟩]
  · exact flat1_to h hr
theorem flat2_of {w : World} {S : Nat → Prop} {p : PV} {u : Value} (h : flat2 p = some u) : SRep w S p u := by
  unfold flat2 at h
  split at h
  · split at h
    case h_2 => cases h
    rename_i cs l hl
    cases h
    obtain ⟨h1, h2⟩ := flats_of (w := w) (S := S) (f := flat1) (fs := flat1s) rfl (fun _ _ => rfl) (fun _ _ h => flat1_of h) hl
    exact .agg (by simpa using h1) fun i hi => by rw [arr_getD]; exact h2 i hi
  · exact flat1_of h
theorem flat3_of {w : World} {S : Nat → Prop} {p : PV} {u : Value} (h : flat3 p = some u) : SRep w S p u := by
  unfold flat3 at h
  split at h
  · split at h
    case h_2 => cases h
    rename_i cs l hl
    cases h
    obtain ⟨h1, h2⟩ := flats_of (w := w) (S := S) (f := flat2) (fs := flat2s) rfl (fun _ _ => rfl) (fun _ _ h => flat2_of h) hl
    exact .tup (by simpa using h1) fun i hi => by rw [arr_getD]; exact h2 i hi
  · exact flat2_of h
/-- A contract of the kit's kind: plain values in, plain values out, blocks made at most. -/
theorem pc_flat {P : Program} {f : FuncId} {args : List PV} {r : PV} {us : List Value} {v : Value} (hf : FnOk P f) (ha : flat2s args = some us) (hr : flat3 r = some v)
    (h : ∀ w, Calls P f us.toArray w fun e w' => e = .returned v ∧ RowKit.Below w.heap.size w w') : PC P f args [] r [] := by
  refine pc_of hf (fun w vs hrl => ?_) fun c vs hrl => ?_
  · rw [flats_to (f := flat2) (fs := flat2s) rfl (fun _ _ => rfl) (fun _ _ _ h k => flat2_to h k) ha hrl]
    exact (h w).mono fun e w' ⟨he, hb⟩ => ⟨v, he, hb, fun c => .sh (flat3_of hr)⟩
  · rw [flats_to (f := flat2) (fs := flat2s) rfl (fun _ _ => rfl) (fun _ _ _ h k => flat2_to h k) ha hrl]
    obtain ⟨h1, h2⟩ := flats_of (w := c.w) (S := fun b => b < c.w.heap.size) (f := flat2) (fs := flat2s) rfl (fun _ _ => rfl) (fun _ _ h => flat2_of h) ha
    exact ⟨by simpa using h1, fun i hi => by rw [arr_getD]; exact .sh (h2 i hi)⟩
theorem fn_ok {P : Program} {f : FuncId} {fn : Func} (hf : P.funcs[f]? = some fn) (hb : fn.body.isNone = false) (hn : (fn.name == "runtime.NumGoroutine") = false) : FnOk P f := ⟨fn, hf, hb, hn⟩
theorem flat_app {α : Type} (f : α → List PV) (l m : List α) : (l ++ m).flatMap f = l.flatMap f ++ m.flatMap f := List.flatMap_append
def rkey (σ : Nat → Nat) (k : Nat) : Nat := match Nat.beq (k % 2) 1 with | true => kb (σ (k / 2)) | false => k
def rval (σ : Nat → Nat) : Option Val → Option Val
  | some (.pv p) => some (.pv (ren σ p))
  | some (.blk T cs) => some (.blk T (renL σ cs))
  | none => none
def shapeB (n1 : Nat) (l : L) : Bool := l.all fun x => match x.2 with | some (.blk _ _) => Nat.beq (x.1 % 2) 1 && Nat.blt (x.1 / 2) n1 | some (.pv _) => Nat.beq (x.1 % 2) 0 | none => true
theorem reSt_of {σ : Nat → Nat} {n1 : Nat} {g : St} : ∀ {l : L}, l.map (fun x => g (rkey σ x.1)) = l.map (fun x => rval σ x.2) → shapeB n1 l = true → ∀ p ∈ reSt σ n1 l g, p
  | [], _, _, p, hp => by cases hp
  | x :: l, h, hb, p, hp => by
    simp only [List.map_cons, List.cons.injEq] at h
    simp only [shapeB, List.all_cons, Bool.and_eq_true] at hb
    simp only [reSt, List.map_cons, List.mem_cons] at hp
    rcases hp with rfl | hp
    · obtain ⟨k, v⟩ := x
      cases v with
      | none => trivial
      | some v =>
        cases v with
        | pv p =>
          have h0 : k % 2 = 0 := Nat.eq_of_beq_eq_true hb.1
          have h1 := h.1
          simp only [rkey, rval, h0] at h1
          exact h1
        | blk T cs =>
          have hb1 := hb.1
          simp only [Bool.and_eq_true, Nat.blt_eq] at hb1
          have h0 : k % 2 = 1 := Nat.eq_of_beq_eq_true hb1.1
          have h1 := h.1
          simp only [rkey, rval, h0, Nat.beq_refl] at h1
          exact ⟨h0, hb1.2, h1⟩
    · exact reSt_of h.2 hb.2 p hp
theorem Wk.ren2 {P : Program} {n : Nat} {c0 : Cx} {Bor : Nat → Prop} {n0 : Nat} {l : L} (l' : L) (m : Nat) (hc0 : ∀ i x, c0.own i = some x → i < m) (σl : List Nat) (hσ : σl.take m = List.range m) (hnd : nodupB σl = true) (hb : shapeB σl.length l' = true)
    (h : l'.map (fun x => get l (rkey (sgm n0 σl) x.1)) = l'.map (fun x => rval (sgm n0 σl) x.2)) : Wk P n c0 Bor n0 l σl.length l' := Wk.ren m hc0 σl hσ hnd (reSt_of h hb)
theorem flat_at1 {α : Type} (f : α → List PV) (hf : ∀ x, (f x).length = 1) (d : α) (l : List α) (k : Nat) (h : k < l.length) : k + 1 ≤ (l.flatMap f).length ∧ ((l.flatMap f).drop k).take 1 = f (l.getD k d) := by
  have := flat_at f 1 hf d l k 0 1 h (by omega)
  simp only [Nat.mul_one, Nat.add_zero, List.drop_zero] at this
  refine ⟨this.1, this.2.trans ?_⟩
  rw [← hf (l.getD k d), List.take_length]
theorem ints_shd (l : List Int) : shds (ints l) := fun p hp => by
  obtain ⟨x, _, hx⟩ := List.mem_flatMap.1 hp
  simp only [List.mem_singleton] at hx
  subst hx
  rfl
theorem zeros_ints : ∀ n, zeros [iv 0] n = ints (List.replicate n 0)
  | 0 => rfl
  | n + 1 => by rw [zeros, zeros_ints n, List.replicate_succ]; rfl
theorem ints_splice {l : List Int} {k : Nat} {v : Int} (h : k < l.length) : k + 1 ≤ (ints l).length ∧ splice (ints l) k [iv v] = ints (l.set k v) := by
  refine ⟨by rw [ints_len]; omega, ?_⟩
  unfold splice
  have e : ∀ (l : List Int), ints l = l.map iv := fun l => by
    unfold ints
    induction l with
    | nil => rfl
    | cons a l ih => rw [List.flatMap_cons, ih]; rfl
  rw [e, e, List.set_eq_take_append_cons_drop, if_pos h, List.map_append, List.map_cons, List.map_take, List.map_drop]
  simp
/-- Trailing dead numbers, dropped. -/
theorem pc_trim {P : Program} {f : FuncId} {args : List PV} {r : PV} {v : Value} (H' : Hp) (hr : flat3 r = some v) (_hd : ∀ i, H'.getD i none = none) (h : PC P f args [] r H') : PC P f args [] r [] := by
  obtain ⟨h1, _, h2⟩ := h
  refine ⟨h1, Nat.le_refl _, fun c vs hh hrl => (h2 c vs hh hrl).mono ?_⟩
  rintro e w' ⟨u, c', rfl, rfl, h3, h4⟩
  have hno : ∀ (H : Hp), (∀ i, H.getD i none = none) → ∀ i, ¬ Live (hSt H) i := fun H hH i ⟨T, cs, hx⟩ => by rw [hSt_b, hH] at hx; cases hx
  have hno0 := hno [] (fun i => by simp)
  have hown : ∀ i x, c.own i = some x → False := fun i x hx => by have : i < 0 := hh.ids i x hx; omega
  have hk := h3.keep
  refine ⟨u, ⟨c'.w, c'.S, fun _ => none⟩, rfl, rfl, { ids := fun i x hx => (by cases hx), blk := fun i T cs hx => absurd ⟨T, cs, hx⟩ (hno0 i), inj := fun i j b T T' l1 => absurd l1 (hno0 i), apart := fun i b T l1 => absurd l1 (hno0 i), bnd := fun i b T hx => (by cases hx), sok := h3.sok, os := h3.os, tape := h3.tape, output := h3.output, size := h3.size, same := h3.same, s0 := h3.s0, s1 := h3.s1, keep := ⟨hk.S, fun i x hx => (hown i x hx).elim, hk.shape⟩ }, ?_⟩
  have e : u = v := by
    unfold flat3 at hr
    split at hr
    · split at hr
      case h_2 => cases hr
      rename_i cs l hl
      cases hr
      obtain ⟨vs2, rfl, q1, q2⟩ := rep_tup h4
      rw [flats_to (f := flat2) (fs := flat2s) rfl (fun _ _ => rfl) (fun _ _ _ h k => flat2_to h k) hl ⟨q1, q2⟩]
    · exact flat2_to hr h4
  rw [e]
  exact .sh (flat3_of hr)
end Go.Proofs.Ytfoiadlaekknpaa.Pm
namespace Go.Proofs.Ytfoiadlaekknpaa.Pm
open Go

abbrev rowC (l : List Int) : List PV := [.ssl (ints l) 0 l.length]
abbrev rows (T : List (List Int)) : List PV := T.flatMap rowC
theorem ren_shd {σ : Nat → Nat} {p : PV} (h : p.shd = true) : ren σ p = p := by
  cases p <;> first | rfl | cases h
theorem renL_shd {σ : Nat → Nat} : ∀ {cs : List PV}, shds cs → renL σ cs = cs
  | [], _ => rfl
  | p :: l, h => by
    rw [renL, ren_shd (h p (by simp)), renL_shd (fun q hq => h q (by simp [hq]))]
theorem flat_shd {α : Type} (f : α → List PV) (hf : ∀ x, (f x).all PV.shd = true) (l : List α) : shds (l.flatMap f) := fun p hp => by
  obtain ⟨x, _, hx⟩ := List.mem_flatMap.1 hp
  exact List.all_eq_true.1 (hf x) p hx
theorem flat_splice {α : Type} (f : α → List PV) (s : Nat) (hf : ∀ x, (f x).length = s) {l : List α} {k : Nat} {v : α} (h : k < l.length) : k * s + s ≤ (l.flatMap f).length ∧ splice (l.flatMap f) (k * s) (f v) = (l.set k v).flatMap f := by
  have hl : ∀ l : List α, (l.flatMap f).length = l.length * s := flat_len f s hf
  have h1 : k * s + s ≤ l.length * s := by
    have := Nat.mul_le_mul_right s (show k + 1 ≤ l.length from h)
    rw [Nat.add_mul, Nat.one_mul] at this
    exact this
  refine ⟨by rw [hl]; exact h1, ?_⟩
  have he : l.flatMap f = (l.take k).flatMap f ++ (f (l[k]) ++ (l.drop (k + 1)).flatMap f) := by
    rw [← List.flatMap_cons, ← flat_app, ← List.drop_eq_getElem_cons h, List.take_append_drop]
  have hk : ((l.take k).flatMap f).length = k * s := by rw [hl, List.length_take, Nat.min_eq_left (by omega)]
  rw [List.set_eq_take_append_cons_drop, if_pos h, flat_app, List.flatMap_cons, he]
  unfold splice
  rw [List.take_append_of_le_length (by omega), List.take_of_length_le (by omega), hf, List.drop_append, List.drop_of_length_le (by omega), hk, List.nil_append, Nat.add_sub_cancel_left, List.drop_append, List.drop_of_length_le (by rw [hf]; exact Nat.le_refl _), hf, Nat.sub_self, List.nil_append, List.drop_zero, List.append_assoc]
theorem flat_splice1 {α : Type} (f : α → List PV) (hf : ∀ x, (f x).length = 1) {l : List α} {k : Nat} {v : α} (h : k < l.length) : k + 1 ≤ (l.flatMap f).length ∧ splice (l.flatMap f) k (f v) = (l.set k v).flatMap f := by
  have := flat_splice f 1 hf (v := v) h
  rw [Nat.mul_one] at this
  exact this
def lf (k : Nat) : List (Nat × List PV) → Option (List PV)
  | [] => none
  | x :: F => match Nat.beq k x.1 with | true => some x.2 | false => lf k F
def fixF (F : List (Nat × List PV)) (x : Nat × Option Val) : Option Val := match x.2 with
  | some (.blk T cs) => match lf x.1 F with | some ds => some (.blk T ds) | none => some (.blk T cs)
  | some (.pv p) => some (.pv p)
  | none => none
def rvalF (σ : Nat → Nat) (F : List (Nat × List PV)) (x : Nat × Option Val) : Option Val := match x.2 with
  | some (.blk T cs) => match lf x.1 F with | some ds => some (.blk T ds) | none => some (.blk T (renL σ cs))
  | some (.pv p) => some (.pv (ren σ p))
  | none => none
theorem lf_shd {k : Nat} {cs : List PV} : ∀ {F : List (Nat × List PV)}, (∀ q ∈ F.map (fun x => shds x.2), q) → lf k F = some cs → shds cs
  | [], _, h => by cases h
  | x :: F, hF, h => by
    simp only [lf] at h
    split at h
    · cases h
      exact hF _ (by simp)
    · exact lf_shd (F := F) (fun q hq => hF q (by simp only [List.map_cons, List.mem_cons]; exact .inr hq)) h
theorem Wk.ren3 {P : Program} {n : Nat} {c0 : Cx} {Bor : Nat → Prop} {n0 : Nat} {l : L} (l' : L) (m : Nat) (hc0 : ∀ i x, c0.own i = some x → i < m) (σl : List Nat) (F : List (Nat × List PV)) (hF : ∀ q ∈ F.map (fun x => shds x.2), q) (hx : l'.map (fixF F) = l'.map (fun x => x.2)) (hσ : σl.take m = List.range m) (hnd : nodupB σl = true) (hb : shapeB σl.length l' = true)
    (h : l'.map (fun x => get l (rkey (sgm n0 σl) x.1)) = l'.map (rvalF (sgm n0 σl) F)) : Wk P n c0 Bor n0 l σl.length l' :=
  Wk.ren2 l' m hc0 σl hσ hnd hb (h.trans (List.map_congr_left fun x hxl => by
    have h1 := List.map_inj_left.1 hx x hxl
    obtain ⟨k, v⟩ := x
    cases v with
    | none => rfl
    | some v =>
      cases v with
      | pv p => rfl
      | blk T cs =>
        simp only [fixF, rvalF, rval] at h1 ⊢
        cases hl : lf k F with
        | none => rfl
        | some ds =>
          rw [hl] at h1
          simp only [Option.some.injEq, Val.blk.injEq] at h1
          simp only [Option.some.injEq, Val.blk.injEq, true_and]
          rw [← h1.2, renL_shd (lf_shd hF hl)]))
theorem frz_shd {id : Nat} {cs : List PV} {p : PV} (h : p.shd = true) : frz id cs p = p := by
  cases p <;> first | rfl | cases h
theorem frzL_shd {id : Nat} {cs : List PV} : ∀ {ds : List PV}, shds ds → frzL id cs ds = ds
  | [], _ => rfl
  | p :: l, h => by
    rw [frzL, frz_shd (h p (by simp)), frzL_shd (fun q hq => h q (by simp [hq]))]
def frzF (id : Nat) (cs : List PV) (F : List (Nat × List PV)) : L → L
  | [] => []
  | (k, x) :: l => (k, match x with
    | some (.pv p) => some (.pv (frz id cs p))
    | some (.blk T ds) => match Nat.beq k (kb id) with | true => none | false => match lf k F with | some es => some (.blk T es) | none => some (.blk T (frzL id cs ds))
    | none => none) :: frzF id cs F l
theorem frzF_eq {id : Nat} {cs : List PV} {F : List (Nat × List PV)} (hF : ∀ q ∈ F.map (fun x => shds x.2), q) : ∀ {l : L}, l.map (fixF F) = l.map (fun x => x.2) → frzS id cs l = frzF id cs F l
  | [], _ => rfl
  | (k, x) :: l, h => by
    simp only [List.map_cons, List.cons.injEq] at h
    simp only [frzS, frzF, List.cons.injEq, Prod.mk.injEq, true_and]
    refine ⟨?_, frzF_eq hF h.2⟩
    cases x with
    | none => rfl
    | some v =>
      cases v with
      | pv p => rfl
      | blk T ds =>
        have h1 := h.1
        simp only [fixF] at h1 ⊢
        cases hl : lf k F with
        | none => rfl
        | some es =>
          rw [hl] at h1
          simp only [Option.some.injEq, Val.blk.injEq, true_and] at h1
          have hs := lf_shd hF hl
          subst h1
          cases Nat.beq k (kb id) <;> simp [frzL_shd hs]
theorem Wk.frz2 {P : Program} {n : Nat} {c0 : Cx} {Bor : Nat → Prop} {n0 : Nat} {l l' : L} (id : Nat) {T : TypeId} {cs : List PV} (F : List (Nat × List PV)) (hF : ∀ q ∈ F.map (fun x => shds x.2), q) (hx : l.map (fixF F) = l.map (fun x => x.2)) (hg : get l (kb id) = some (.blk T cs)) (hs : shds cs) (he : frzF id cs F l = l') : Wk P n c0 Bor n0 l n0 l' :=
  Wk.frz id hg hs ((frzF_eq hF hx).trans he)
/-- What a slot holds, told otherwise. -/
theorem Wk.slot {P : Program} {n : Nat} {c0 : Cx} {Bor : Nat → Prop} {n0 : Nat} {l : L} (s : Nat) (p q : PV) (hs : get l (Pm.ks s) = some (.pv p)) (hpq : ∀ c v, Rep P c p v → Rep P c q v) : Wk P n c0 Bor n0 l n0 ([(ks s, some (.pv q))] ++ l) := fun cx a hI => by
  have hge : ∀ k, get ([(Pm.ks s, some (.pv q))] ++ l) k = if Nat.beq k (Pm.ks s) then some (.pv q) else get l k := fun k => by
    rw [get_append]
    simp only [over, lk]
    by_cases h1 : Nat.beq k (Pm.ks s) = true
    · simp [h1]
    · simp only [h1]; rfl
  have hb : ∀ i, get ([(Pm.ks s, some (.pv q))] ++ l) (kb i) = get l (kb i) := fun i => by
    rw [hge, beq_kbs]; rfl
  have hl : ∀ i, Live (get ([(Pm.ks s, some (.pv q))] ++ l)) i → Live (get l) i := fun i ⟨T', cs, hx⟩ => ⟨T', cs, by rw [← hb]; exact hx⟩
  refine ⟨cx, rfl, { ids := hI.ids, blk := fun i T' cs hx => hI.blk i T' cs (by rw [← hb]; exact hx), inj := fun i j b T T' l1 l2 => hI.inj i j b T T' (hl i l1) (hl j l2), apart := fun i b T l1 => hI.apart i b T (hl i l1), bnd := hI.bnd, sok := hI.sok, os := hI.os, tape := hI.tape, output := hI.output, size := hI.size, same := hI.same, s0 := hI.s0, s1 := hI.s1, keep := hI.keep, tmps := hI.tmps, dfr := hI.dfr, slot := fun s' p' hp => ?_, isv := fun s' x hx => ?_ }⟩
  · rw [hge, beq_ks] at hp
    by_cases e : s' = s
    · subst e
      rw [decide_eq_true rfl, if_pos rfl] at hp
      cases hp
      exact hpq _ _ (hI.slot s' _ hs)
    · rw [decide_eq_false e, if_neg (by simp)] at hp
      exact hI.slot s' p' hp
  · rw [hge, beq_ks] at hx
    by_cases e : s' = s
    · subst e
      rw [decide_eq_true rfl, if_pos rfl] at hx
      cases hx
      exact ⟨_, rfl⟩
    · rw [decide_eq_false e, if_neg (by simp)] at hx
      exact hI.isv s' x hx
/-- A slice of given cells is a slice of the fewer cells. -/
theorem ssl_cut {P : Program} {cs ds : List PV} {off len m : Nat} (h1 : off + m ≤ cs.length) (h2 : (cs.drop off).take m = ds) (c : Cx) (v : Value) (h : Rep P c (.ssl cs off len) v) : Rep P c (.ssl ds 0 len) v := by
  obtain ⟨h6, h7⟩ := getD_seg h1 h2
  rcases rep_ssl h with ⟨a, cap, hv, hn⟩ | ⟨b, a, cap, vf, hv, hS, hc, hr, ho, hl⟩
  · subst hv; subst hn; exact .sh .emp
  · subst hv
    refine .sh (SRep.ssl (a := a + off) (vf := fun j => vf (off + j)) hS (fun j hj => ?_) (fun j hj => ?_) (seg_ones ho h2) hl)
    · rw [Nat.add_assoc]; exact hc _ (by omega)
    · rw [h7 j (by omega)]; exact hr _ (by omega)
theorem T_elsec {P : Program} {n : Nat} {c0 : Cx} {Bor : Nat → Prop} {Q : Post} {n0 : Nat} {l : L} {rs : List Item} {x y : Code} (h : T P n c0 Bor Q n0 l (.code y :: rs)) : T P n c0 Bor Q n0 l (.code (.cond (.const (.bool false)) x y) :: rs) := fun cx a hI => wp_cond_false rfl (h cx a hI)
theorem T_thenc {P : Program} {n : Nat} {c0 : Cx} {Bor : Nat → Prop} {Q : Post} {n0 : Nat} {l : L} {rs : List Item} {x y : Code} (h : T P n c0 Bor Q n0 l (.code x :: rs)) : T P n c0 Bor Q n0 l (.code (.cond (.const (.bool true)) x y) :: rs) := fun cx a hI => wp_cond_true rfl (h cx a hI)
theorem and_bits (k : IntKind) (a b : Int) : IntKind.wrap k ((BitVec.ofInt (IntKind.bits k) a) &&& (BitVec.ofInt (IntKind.bits k) b)).toNat = Go.bits .and k a b := rfl
end Go.Proofs.Ytfoiadlaekknpaa.Pm
namespace Go.Proofs.Ytfoiadlaekknpaa
open Go.ChangeShapes Go.WideShapes Go.ChangeAt Go.RowKit

theorem Try.own : ownKnob Try.prog.godebug = none := by kernel_rfl
theorem Try.laidOut : laidOutB Try.prog = true := by kernel_rfl

section
variable {H : Type} {enc : TypeId × Value → H} {P : Program}
/-- All arguments at once. -/
theorem trodAll_stays (hl : laidOutB P = true) {W W' : World} {sp : Nat → Bool} (hb : Below W.heap.size W W') :
    ∀ {ts : List TypeId} {vs : List Value} {ds : List (DataW H)} {ps : List MemPlace}, (ts.all fun t => P.readableRec t && decide (t < P.types.size)) = true →
      DataW.TrodAll enc P W 0 (fun _ => true) true ts vs ds ps → (∀ x ∈ ps, x.block < W.heap.size) → (∀ x ∈ ps, sp x.block = true) → DataW.TrodAll enc P W' 0 sp true ts vs ds ps
  | [], _, _, _, _, h, _, _ => by obtain ⟨rfl, rfl, rfl⟩ := trodAll_nil h; exact trodAll_mk0
  | t :: ts, _, _, _, hr, h, hlt, hsp => by
    obtain ⟨v, vs, d, ds, p, q, rfl, rfl, rfl, h0, h1⟩ := trodAll_cons h
    simp only [List.all_cons, Bool.and_eq_true, decide_eq_true_eq] at hr
    exact trodAll_cons_mk (WideElems.Trod_stays hl hr.1.1 hr.1.2 h0 (fun x hx => hb.same (hlt x (by simp [hx]))) (fun x hx => hsp x (by simp [hx])))
      (trodAll_stays hl hb hr.2 h1 (fun x hx => hlt x (by simp [hx])) (fun x hx => hsp x (by simp [hx])))

/-- A law's post: true, and each argument reads as it did. -/
theorem law_post {f : Func} {s : ChangeSpec} {apart fresh handsOn again : Bool} {W W' : World} {args : Array Value} {ds : List (DataW H)} {before : List MemPlace} {tb : TypeId}
    (hW : DataW.Whole enc P f.params.toList s.vars apart W args.toList ds [] before) (hl : laidOutB P = true)
    (hv : s.vars = []) (hr : (f.params.toList.all fun t => P.readableRec t && decide (t < P.types.size)) = true) (hrt : f.resultTypes = #[tb]) (htb : P.underlying tb = some .bool)
    (hs : s.fn H (ds ++ []) = { results := [.lit (.bool true)], args := ds }) (hb : Below W.heap.size W W') :
    s.post enc P f apart fresh handsOn again W args (.bool true) W' := by
  have hlt : ∀ p ∈ before, p.block < W.heap.size := fun p hp => hW.lt p hp
  have hold : ∀ p ∈ before, (fun b => decide (b < W.heap.size)) p.block = true := fun p hp => by simpa using hlt p hp
  have hW0 := hW
  obtain ⟨p, q, hA, hV, hpq, hz, hn⟩ := hW
  have hq : q = [] := by rw [hv] at hV; exact (trodVars_none hV).2
  have hpq' : before = p := by rw [hpq, hq, List.append_nil]
  subst hpq'
  have hargs : ∀ sp : Nat → Bool, (∀ x ∈ before, sp x.block = true) → DataW.TrodAll enc P W' 0 sp true f.params.toList args.toList (s.fn H (ds ++ [])).args before := fun sp hsp => by
    rw [hs]; exact trodAll_stays hl hb hr hA hlt hsp
  have hvars : ∀ sp : Nat → Bool, DataW.TrodVars enc P W' sp s.vars (s.fn H (ds ++ [])).vars [] := fun sp => by rw [hs, hv]; rfl
  have hres : ∀ (b : Nat) (sp : Nat → Bool) (hd : Bool), DataW.TrodAll enc P W' b sp hd f.resultTypes.toList (Value.resultList f.resultTypes.size (.bool true)) (s.fn H (ds ++ [])).results [] := fun b sp hd => by
    rw [hrt, hs]; exact trodAll_mk1 (shut_bool htb true)
  have hok : ∀ (j : Nat) (t : TypeId) (r : Value), f.resultTypes[j]? = some t → (Value.resultList f.resultTypes.size (.bool true))[j]? = some r → Value.okWide P W' .any 0 t r := by
    exact ok_one (t := tb) hrt rfl (okWide_bool_mk htb true)
  refine ⟨ds, [], before, [], before, [], hW0, hres _ _ _, hargs _ hold, hvars _, World.keptBut_mono (fun p hp => ⟨hp, ?_⟩) (hb.frame (· ∈ before)), fun _ => ?_⟩
  · exact Or.inr (Or.inl hp)
  · refine ⟨hok, _, _, ([] ++ before) ++ [], ⟨[] ++ before, [], trodAll_append (hargs _ (fun _ _ => rfl)) (hres _ _ _), hvars _, rfl, ?_, ?_⟩, ?_⟩
    · intro b off hp
      have hin : MemPlace.cell b off ∈ before := by simpa using hp
      rw [hb.frozen (hlt _ hin)]
      exact hz b off hin
    · intro ha
      have := hn ha
      simpa using this
    · intro p hp _
      simpa using hp
end
end Go.Proofs.Ytfoiadlaekknpaa
namespace Go.Proofs.Ytfoiadlaekknpaa.Pm
open Go Go.Deep Go.ChangeShapes Go.WideShapes Go.ChangeAt Go.RowKit

theorem cells_from {w : World} {a : Addr} {n : Nat} {f : Nat → Value} (h : ∀ c, c < n → w.cell? (a.add c) = some (f c)) (hn : 0 < n) : ∃ b o, a = ⟨b, o, none⟩ ∧ b < w.heap.size ∧ ∀ c, c < n → w.cell? ⟨b, o + c, none⟩ = some (f c) := by
  obtain ⟨b, o, s⟩ := a
  have h0 := h 0 hn
  have hs : s = none := by
    simp only [Addr.add, if_true, World.cell?] at h0
    cases s with
    | none => rfl
    | some s =>
      exfalso
      split at h0
      · simp at h0
      · cases h0
  subst hs
  refine ⟨b, o, rfl, ?_, fun c hc => ?_⟩
  · simp only [Addr.add, if_true, World.cell?] at h0
    rcases Nat.lt_or_ge b w.heap.size with hb | hb
    · exact hb
    · rw [Array.getElem?_eq_none hb] at h0; cases h0
  · rw [← h c hc]
    unfold Addr.add
    by_cases e : c = 0
    · subst e; rfl
    · rw [if_neg e]
theorem ints_map (l : List Int) : ints l = l.map iv := by
  unfold ints
  induction l with
  | nil => rfl
  | cons a l ih => rw [List.flatMap_cons, ih]; rfl
theorem ints_ones (l : List Int) : ones (ints l) := fun p hp => by
  rw [ints_map] at hp
  obtain ⟨x, _, rfl⟩ := List.mem_map.1 hp
  rfl
theorem srep_ints {w : World} {A : Option Addr} {L C : Nat} {Z : List Int} (hl : L ≤ C) (hz : Z.length = C) (hn : A = none → C = 0) (hc : ∀ a, A = some a → ∀ c, c < C → w.cell? (a.add c) = some (.int .i64 (Z.getD c 0))) :
    SRep w (fun b => b < w.heap.size) (.ssl (ints (Z.take L)) 0 (Z.take L).length) (.slice A L C) := by
  have hL : (Z.take L).length = L := by rw [List.length_take]; omega
  rw [hL]
  rcases Nat.eq_zero_or_pos L with h | h
  · subst h; exact .emp
  · cases A with
    | none => have := hn rfl; omega
    | some a =>
      obtain ⟨b, o, rfl, hb, hcell⟩ := cells_from (hc a rfl) (by omega)
      refine SRep.ssl (a := o) (off := 0) (vf := fun j => .int .i64 (Z.getD j 0)) hb (fun j hj => ?_) (fun j hj => ?_) (ints_ones _) hl
      · rw [ints_len, hL] at hj; exact hcell j (by omega)
      · rw [ints_len, hL] at hj
        have : (ints (Z.take L)).getD j P0 = iv (Z.getD j 0) := by
          rw [ints_map]
          have h1 : j < Z.length := by omega
          simp [List.getD_eq_getElem?_getD, hj, h1]
        rw [this]
        exact .av _
theorem rows_map (T : List (List Int)) : rows T = T.map fun l => .ssl (ints l) 0 l.length := by
  induction T with
  | nil => rfl
  | cons a l ih => unfold rows at ih ⊢; rw [List.flatMap_cons, ih]; rfl
theorem srep_rows {w : World} {a : Addr} {len cap : Nat} {A : Nat → Option Addr} {L C : Nat → Nat} {Z : Nat → List Int} (hl : len ≤ cap)
    (h : ∀ r, r < cap → w.cell? (a.add r) = some (.slice (A r) (L r) (C r)) ∧ L r ≤ C r ∧ (Z r).length = C r ∧ (A r = none → C r = 0) ∧ ∀ a', A r = some a' → ∀ c, c < C r → w.cell? (a'.add c) = some (.int .i64 ((Z r).getD c 0))) :
    SRep w (fun b => b < w.heap.size) (.ssl (rows ((List.range len).map fun r => (Z r).take (L r))) 0 len) (.slice (some a) len cap) := by
  rcases Nat.eq_zero_or_pos len with h0 | h0
  · subst h0; exact .emp
  · obtain ⟨b, o, rfl, hb, hcell⟩ := cells_from (fun c hc => (h c hc).1) (by omega)
    have hlen : (rows ((List.range len).map fun r => (Z r).take (L r))).length = len := by rw [rows_map]; simp
    refine SRep.ssl (a := o) (off := 0) (vf := fun j => .slice (A j) (L j) (C j)) hb (fun j hj => ?_) (fun j hj => ?_) (fun p hp => ?_) hl
    · rw [hlen] at hj; exact hcell j (by omega)
    · rw [hlen] at hj
      have : (rows ((List.range len).map fun r => (Z r).take (L r))).getD j P0 = .ssl (ints ((Z j).take (L j))) 0 ((Z j).take (L j)).length := by
        rw [rows_map]
        simp [List.getD_eq_getElem?_getD, hj]
      rw [this]
      obtain ⟨_, h2, h3, h4, h5⟩ := h j (by omega)
      exact srep_ints h2 h3 h4 h5
    · rw [rows_map] at hp
      obtain ⟨x, _, rfl⟩ := List.mem_map.1 hp
      rfl
/-- A list of numbers that came in. -/
theorem arg_ints {H : Type} {enc : TypeId × Value → H} {P : Program} {w : World} {base : Nat} {t e : TypeId} {v : Value} {d : DataW H} {pl : List MemPlace} {r : Reach} {b0 : Nat} {held : Bool}
    (ht : P.underlying t = some (.slice e)) (he : P.underlying e = some (.int .i64)) (hc : P.cellsOf e = 1) (hv : Value.okWide P w r b0 t v) (h : DataW.Trod enc P w base (fun _ => true) held t v d pl) :
    ∃ l : List Int, SRep w (fun b => b < w.heap.size) (.ssl (ints l) 0 l.length) v ∧ (∀ n ∈ l, (Lit.int .i64 n).wf = true) ∧ (l = [] ∨ ∃ es sp, d = .slice es sp ∧ es.length = l.length) := by
  obtain ⟨a0, len0, cap0, rfl⟩ := okWide_slice ht hv
  obtain ⟨fuel, hf⟩ := h
  rcases open_ints ht he hc hf with ⟨hcs, _⟩ | ⟨a, len, cap, zs, hcs, hb, hl, hm, hz, hx, hcell, hwz⟩
  · simp only [Value.cells, List.cons.injEq, Value.slice.injEq, and_true] at hcs
    obtain ⟨rfl, rfl, rfl⟩ := hcs
    exact ⟨[], .emp, (by simp), .inl rfl⟩
  · simp only [Value.cells, List.cons.injEq, Value.slice.injEq, and_true] at hcs
    obtain ⟨rfl, rfl, rfl⟩ := hcs
    simp only [if_true] at hz
    simp only [Prod.mk.injEq] at hx
    refine ⟨zs.take len0, srep_ints hl hz (fun h => by cases h) (fun a' ha c hc => ?_), fun n hn => hwz n (List.mem_of_mem_take hn), .inr ⟨_, _, hx.1, by simp [lits]⟩⟩
    cases ha
    exact hcell c (by omega)
theorem weights_all_mem {H : Type} {P : Program} {e : TypeId} : ∀ {l : List (DataW H)} {d : DataW H}, d ∈ l → ∀ n ∈ d.weights P e, n ∈ DataW.weightsAll P e l
  | d' :: r, d, hd, n, hn => by
    simp only [DataW.weightsAll, List.mem_append]
    rcases List.mem_cons.1 hd with rfl | h
    · exact Or.inl hn
    · exact Or.inr (weights_all_mem h n hn)
/-- The reach, of a row inside a slice of slices. -/
theorem row_sized {H : Type} {P : Program} {ts : List TypeId} {ds : List (DataW H)} (h : (DataW.weightsEach P ts ds).all (· ≤ reachBytes) = true) {j : Nat} {t e q : TypeId} {elems spare e' sp' : List (DataW H)}
    (ht : ts[j]? = some t) (hd : ds[j]? = some (.slice elems spare)) (hu : P.underlying t = some (.slice e)) (hu2 : P.underlying e = some (.slice q)) (hx : DataW.slice e' sp' ∈ elems) : (e'.length + sp'.length) * P.bytesOf q ≤ reachBytes := by
  refine of_decide_eq_true (List.all_eq_true.1 h _ (DataW.weights_mem_each ht hd _ ?_))
  simp only [DataW.weights, hu, List.mem_cons, List.mem_append]
  exact Or.inr (Or.inl (weights_all_mem hx _ (by simp [DataW.weights, hu2])))
/-- The sizes of a list of numbers. -/
theorem ints_sized {H : Type} {P : Program} {ts : List TypeId} {ds : List (DataW H)} (h : (DataW.weightsEach P ts ds).all (· ≤ reachBytes) = true) {j : Nat} {t e : TypeId} {d : DataW H} {l : List Int} {k : Nat}
    (ht : ts[j]? = some t) (hd : ds[j]? = some d) (hu : P.underlying t = some (.slice e)) (hk : P.bytesOf e = k) (hx : l = [] ∨ ∃ es sp, d = .slice es sp ∧ es.length = l.length) : l.length * k ≤ 140737488351232 := by
  rcases hx with rfl | ⟨es, sp, rfl, he⟩
  · simp
  · have := sized_slice h ht hd hu
    rw [hk] at this
    rw [← he]
    exact Nat.le_trans (Nat.mul_le_mul_right k (Nat.le_add_right _ _)) this
/-- A list of lists of numbers that came in. -/
theorem arg_rows {H : Type} {enc : TypeId × Value → H} {P : Program} {w : World} {base : Nat} {t e q : TypeId} {v : Value} {d : DataW H} {pl : List MemPlace} {r : Reach} {b0 : Nat} {held : Bool}
    (ht : P.underlying t = some (.slice e)) (he : P.underlying e = some (.slice q)) (hq : P.underlying q = some (.int .i64)) (ce : P.cellsOf e = 1) (cq : P.cellsOf q = 1) (bq : P.bytesOf q = 8) (hv : Value.okWide P w r b0 t v) (h : DataW.Trod enc P w base (fun _ => true) held t v d pl)
    {ts : List TypeId} {ds : List (DataW H)} (hs : (DataW.weightsEach P ts ds).all (· ≤ reachBytes) = true) {j : Nat} (hj : ts[j]? = some t) (hd : ds[j]? = some d) :
    ∃ T : List (List Int), SRep w (fun b => b < w.heap.size) (.ssl (rows T) 0 T.length) v ∧ T.length ≤ 9223372036854775807 ∧ (∀ i, (T.getD i []).length * 8 ≤ 140737488351232) ∧ ∀ i, ∀ n ∈ T.getD i [], (Lit.int .i64 n).wf = true := by
  obtain ⟨a0, len0, cap0, rfl⟩ := okWide_slice ht hv
  obtain ⟨fuel, hf⟩ := h
  rcases open_int_rows ht he hq ce cq hf with ⟨hcs, _⟩ | ⟨a, len, cap, A, L, C, Z, hcs, _, hl, hm, hx, hrows⟩
  · simp only [Value.cells, List.cons.injEq, Value.slice.injEq, and_true] at hcs
    obtain ⟨rfl, rfl, rfl⟩ := hcs
    exact ⟨[], .emp, by simp, by simp, by simp⟩
  · simp only [Value.cells, List.cons.injEq, Value.slice.injEq, and_true] at hcs
    obtain ⟨rfl, rfl, rfl⟩ := hcs
    simp only [Prod.mk.injEq] at hx
    have hT : ((List.range len0).map fun r => (Z r).take (L r)).length = len0 := by simp
    have hg : ∀ i, i < len0 → ((List.range len0).map fun r => (Z r).take (L r)).getD i [] = (Z i).take (L i) := fun i hi => by simp [List.getD_eq_getElem?_getD, hi]
    have hg0 : ∀ i, ¬ i < len0 → ((List.range len0).map fun r => (Z r).take (L r)).getD i [] = [] := fun i hi => by rw [List.getD_eq_getElem?_getD, List.getElem?_eq_none (by simpa using hi)]; rfl
    refine ⟨(List.range len0).map fun r => (Z r).take (L r), ?_, ?_, fun i => ?_, fun i n hn => ?_⟩
    · rw [hT]
      exact srep_rows hl fun r hr => by
        obtain ⟨h1, h2, h3, h4, h5, h6, h7⟩ := hrows r hr
        exact ⟨h1, h2, h4, h6, fun a' ha => (h7 a' ha).2⟩
    · rw [hT]; unfold maxLen at hm; omega
    · by_cases hi : i < len0
      · rw [hg i hi]
        obtain ⟨h1, h2, h3, h4, h5, h6, h7⟩ := hrows i (by omega)
        cases hA : A i with
        | none => have := h6 hA; rw [List.length_take]; omega
        | some a' =>
          have hin := row_sized hs hj (by rw [hd, hx.1]) ht he (e' := lits .i64 ((Z i).take (L i))) (sp' := lits .i64 ((Z i).drop (L i))) (List.mem_map.2 ⟨i, List.mem_range.2 hi, by simp [intRow, hA]⟩)
          rw [bq] at hin
          simp only [lits, List.length_map, reachBytes] at hin
          omega
      · rw [hg0 i hi]; simp
    · by_cases hi : i < len0
      · rw [hg i hi] at hn
        exact (hrows i (by omega)).2.2.2.2.1 n (List.mem_of_mem_take hn)
      · rw [hg0 i hi] at hn; cases hn
end Go.Proofs.Ytfoiadlaekknpaa.Pm
namespace Go.Proofs.Ytfoiadlaekknpaa.Pm
open Go Co

theorem mixed : Try.prog.follows .mixedOrders = true := by kernel_rfl
theorem pc_ofS {P : Program} {f : FuncId} {args : List PV} {r : PV} (hf : FnOk P f) (hr : ∀ w vs, RL P ⟨w, fun b => b < w.heap.size, fun _ => none⟩ args vs → Calls P f vs w fun e w' => ∃ v, e = .returned v ∧ RowKit.Below w.heap.size w w' ∧ ∀ c, Rep P c r v)
    (hargs : ∀ c vs, (∀ b, c.S b → b < c.w.heap.size) → RL P c args vs → RL P ⟨c.w, fun b => b < c.w.heap.size, fun _ => none⟩ args vs) : PC P f args [] r [] := by
  refine ⟨hf, Nat.le_refl _, fun c vs hh hrl => (hr c.w vs (hargs c vs hh.sok hrl)).mono ?_⟩
  rintro e w' ⟨v, rfl, hb, hv⟩
  have hbl : ∀ b, b < c.w.heap.size → w'.heap[b]? = c.w.heap[b]? := hb.block
  have hno : ∀ i, ¬ Live (hSt []) i := fun i ⟨T, cs, hx⟩ => by rw [hSt_b] at hx; simp at hx
  have hk : Keep c ⟨w', c.S, c.own⟩ := ⟨fun b hb => ⟨hb, hbl b (hh.sok b hb)⟩, fun _ _ h => h, fun b cs T h => ⟨cs, by rw [hbl b (some_lt h)]; exact h, rfl⟩⟩
  exact ⟨v, ⟨w', c.S, c.own⟩, rfl, rfl, { ids := hh.ids, blk := fun i T cs hx => absurd ⟨T, cs, hx⟩ (hno i), inj := fun i j b T T' l1 => absurd l1 (hno i), apart := fun i b T l1 => absurd l1 (hno i), bnd := fun i b T hx => Nat.lt_of_lt_of_le (hh.bnd i b T hx) hb.size, sok := fun b hS => Nat.lt_of_lt_of_le (hh.sok b hS) hb.size, os := hb.os, tape := hb.tape, output := hb.output, size := hb.size, same := fun b hb' _ => hbl b hb', s0 := fun _ h => h, s1 := fun _ h => .inl h, keep := hk }, hv _⟩

theorem ints_X (l : List Int) (j : Nat) (h : j < l.length) : (ints l).getD j P0 = iv (X l j) := by
  rw [ints_map, List.getD_eq_getElem?_getD, List.getElem?_map]
  unfold X
  rw [List.getD_eq_getElem?_getD, List.getElem?_eq_getElem h]; rfl
theorem srep_av {w : World} {S : Nat → Prop} {v u : Value} (h : SRep w S (.av v) u) : u = v := by cases h; rfl
theorem ssl_cells {w : World} {S : Nat → Prop} {l : List Int} {v : Value} (h : SRep w S (.ssl (ints l) 0 l.length) v) : ∃ p cap, v = .slice p l.length cap ∧ l.length ≤ cap ∧ Cells w p l := by
  generalize hn : l.length = n at h
  cases h with
  | emp => exact ⟨_, _, rfl, Nat.zero_le _, fun h => absurd h (by omega)⟩
  | ssl hS hc hr ho hl =>
    refine ⟨_, _, rfl, hl, fun h0 => ⟨_, _, rfl, fun i hi => ?_⟩⟩
    have hi' : i < (ints l).length := by rw [ints_len]; omega
    have h1 := hr i hi'
    rw [ints_X l i hi] at h1
    rw [Nat.add_zero, ← srep_av h1]; exact hc i hi'
theorem encode_pc (l : List Int) (hl : l.length ≤ 9223372036854775807) : PC Try.prog 7 [.ssl (ints l) 0 l.length] [] (.tup [.av (.string (enc l).1), iv (enc l).2]) [] := by
  refine pc_ofS (fn_ok Try.func7 (by kernel_rfl) (by kernel_rfl)) (fun w vs hrl => ?_) fun c vs hS hrl => ?_
  · obtain ⟨h1, h2⟩ := hrl
    have h3 := h2 0 (Nat.zero_lt_one)
    cases h3 with
    | sh h3 =>
      obtain ⟨p, cap, hv, hcap, hc⟩ := ssl_cells h3
      have hvs : vs = #[.slice p l.length cap] := by
        rcases vs with ⟨_ | ⟨a, _ | ⟨_, _⟩⟩⟩
        · simp at h1
        · exact congrArg _ (congrArg (· :: []) hv)
        · simp at h1
      rw [hvs]
      refine (encode_any p l cap w hcap hl hc).mono ?_
      rintro e w' ⟨rfl, hb⟩
      refine ⟨_, rfl, hb, fun c => .tup rfl fun i hi => ?_⟩
      match i, hi with
      | 0, _ => exact .sh (.av _)
      | 1, _ => exact .sh (.av _)
  · obtain ⟨h1, h2⟩ := hrl
    refine ⟨h1, fun i hi => ?_⟩
    match i, hi with
    | 0, _ =>
      have h3 := h2 0 Nat.zero_lt_one
      cases h3 with
      | sh h3 => exact .sh (h3.mono fun b hb => ⟨hS b hb, rfl⟩)

theorem enc_nil : enc [] = (packS (encBits []), 0) := by unfold enc; rw [if_neg (by simp), if_pos (by rfl)]
theorem nil_size : (packS (encBits [])).size = 3 := by rw [packS_size]; rfl
theorem encode_as (p : Option Addr) (l : List Int) (N cap : Nat) (hN : l.length = N) (w : World) (hcap : l.length ≤ cap) (hcm : l.length ≤ 9223372036854775807) (hc : Cells w p l) {s : ByteArray} {c : Int} (k : enc l = (s, c)) :
    Calls Try.prog 7 #[.slice p N cap] w fun e w' => e = .returned (.tuple #[.string s, .int .i64 c]) ∧ RowKit.Below w.heap.size w w' := by
  subst hN
  refine (encode_any p l cap w hcap hcm hc).mono ?_
  rintro e w' ⟨rfl, hb⟩
  exact ⟨by rw [k], hb⟩

set_option maxHeartbeats 1000000 in
theorem alive_any (w : World) : Calls Try.prog 6 #[] w fun e w' => e = .returned (.bool true) ∧ RowKit.Below w.heap.size w w' := by
  obtain ⟨s, hs⟩ : ∃ s, packS (encBits []) = s := ⟨_, rfl⟩
  have H := Lib.hid (show enc [] = (s, 0) by rw [enc_nil, hs])
  have hz : s.size = 3 := by rw [← hs]; exact nil_size
  have hcn : ∀ w, Cells w none [] := fun w h => absurd h (by simp)
  have hn : ([] : List Int).length = 0 := rfl
  have hn1 : ([] : List Int).length ≤ 0 := by simp
  have hn2 : ([] : List Int).length ≤ 9223372036854775807 := by simp
  have HN := Lib.hid hn
  clear hs hn
  go_enter Try.func6, Try.ntmps6
  go_wp2_with (go_at_call 7; (with_reducible refine (encode_as none [] 0 0 HN.out _ hn1 hn2 (hcn _) H.out).mono ?_); rintro e w1 ⟨rfl, hb1⟩)
  go_ret
  exact ⟨rfl, hb1⟩
theorem alive_pc : PC Try.prog 6 [] [] (bv true) [] :=
  pc_flat (fn_ok Try.func6 (by kernel_rfl) (by kernel_rfl)) rfl rfl fun w => alive_any w
end Go.Proofs.Ytfoiadlaekknpaa.Pm
namespace Go.Proofs.Ytfoiadlaekknpaa.Pm
open Go

def liveK (σl : List Nat) (l : L) : List Nat := l.filterMap fun x => match x.2 with | some (.blk _ _) => some (σl.getD (x.1 / 2) 0) | _ => none
theorem liveK_mem {l : L} {k : Nat} {T : TypeId} {cs : List PV} (h : get l k = some (.blk T cs)) : ∃ i, ∃ h : i < l.length, (l[i]).1 = k ∧ ∃ T cs, (l[i]).2 = some (.blk T cs) := by
  induction l with
  | nil => simp [get, lk] at h
  | cons x l ih =>
    simp only [get, lk] at h ih
    by_cases e : Nat.beq k x.1 = true
    · rw [if_pos e] at h
      exact ⟨0, by simp, (Nat.eq_of_beq_eq_true e).symm, T, cs, by simpa using h⟩
    · rw [if_neg e] at h
      obtain ⟨i, hi, h1, h2⟩ := ih h
      exact ⟨i + 1, by simp; omega, h1, h2⟩
theorem liveK_inj {σl : List Nat} : ∀ {l : L}, nodupB (liveK σl l) = true → ∀ i j (hi : i < l.length) (hj : j < l.length), (∃ T cs, (l[i]).2 = some (.blk T cs)) → (∃ T cs, (l[j]).2 = some (.blk T cs)) → σl.getD ((l[i]).1 / 2) 0 = σl.getD ((l[j]).1 / 2) 0 → i = j
  | [], _, i, _, hi, _, _, _, _ => absurd hi (Nat.not_lt_zero _)
  | x :: l, h, i, j, hi, hj, ⟨T1, c1, h1⟩, ⟨T2, c2, h2⟩, he => by
    have mem : ∀ q (hq : q < l.length), (∃ T cs, (l[q]).2 = some (.blk T cs)) → σl.getD ((l[q]).1 / 2) 0 ∈ liveK σl l := fun q hq ⟨T, cs, hh⟩ =>
      List.mem_filterMap.2 ⟨l[q], List.getElem_mem hq, by rw [hh]⟩
    cases i with
    | zero =>
      cases j with
      | zero => rfl
      | succ j =>
        exfalso
        simp only [List.getElem_cons_zero, List.getElem_cons_succ] at h1 h2 he
        have hm := mem j (by simpa using hj) ⟨T2, c2, h2⟩
        simp only [liveK, List.filterMap_cons, h1] at h
        rw [← he] at hm
        simp only [nodupB, Bool.and_eq_true] at h
        have := List.all_eq_true.1 h.1 _ hm
        rw [Nat.beq_refl] at this
        cases this
    | succ i =>
      have hl : nodupB (liveK σl l) = true := by
        simp only [liveK, List.filterMap_cons] at h
        split at h
        · exact h
        · simp only [nodupB, Bool.and_eq_true] at h
          exact h.2
      cases j with
      | zero =>
        exfalso
        simp only [List.getElem_cons_zero, List.getElem_cons_succ] at h1 h2 he
        have hm := mem i (by simpa using hi) ⟨T1, c1, h1⟩
        simp only [liveK, List.filterMap_cons, h2] at h
        rw [he] at hm
        simp only [nodupB, Bool.and_eq_true] at h
        have := List.all_eq_true.1 h.1 _ hm
        rw [Nat.beq_refl] at this
        cases this
      | succ j =>
        have := liveK_inj hl i j (by simpa using hi) (by simpa using hj) ⟨T1, c1, h1⟩ ⟨T2, c2, h2⟩ he
        omega
section
variable {P : Program} {n : Nat} {c0 : Cx} {Bor : Nat → Prop} {n0 : Nat} {l : L}
/-- As Wk.ren; only numbers that live must be apart. -/
theorem Wk.renD {l' : L} (m : Nat) (hc0 : ∀ i x, c0.own i = some x → i < m) (σl : List Nat) (hσ : σl.take m = List.range m) (hnd : nodupB (liveK σl l') = true) (h : ∀ p ∈ reSt (sgm n0 σl) σl.length l' (get l), p) : Wk P n c0 Bor n0 l σl.length l' := fun cx a hI => by
  have hsp := reSt_spec h
  have hs1 : ∀ i, i < σl.length → sgm n0 σl i = σl.getD i 0 := fun i hi => by
    unfold sgm
    rw [show Nat.blt i σl.length = true from by simpa [Nat.blt_eq] using hi]
  have hs2 : ∀ i, σl.length ≤ i → cx.own (sgm n0 σl i) = none := fun i hi => by
    unfold sgm
    rw [show Nat.blt i σl.length = false from by rw [Bool.eq_false_iff, Ne, Nat.blt_eq]; omega]
    cases ho : cx.own (n0 + i) with
    | none => rfl
    | some x => have : n0 + i < n0 := hI.ids _ x ho; omega
  have hlv : ∀ i, Live (get l') i → i < σl.length ∧ Live (get l) (sgm n0 σl i) := fun i ⟨T, cs, hx⟩ => by
    have h1 := hsp _ _ hx
    simp only at h1
    rw [show kb i / 2 = i by simp only [kb]; omega] at h1
    exact ⟨h1.2.1, T, _, h1.2.2⟩
  refine ⟨cx.via (sgm n0 σl), rfl, { ids := fun i x hx => ?_, blk := fun i T cs hx => ?_, inj := fun i j b T T' l1 l2 h3 h4 => ?_, apart := fun i b T l1 h2 => hI.apart _ b T (hlv i l1).2 h2, bnd := fun i b T h1 => hI.bnd _ b T h1, sok := hI.sok, os := hI.os, tape := hI.tape, output := hI.output, size := hI.size, same := hI.same, s0 := hI.s0, s1 := hI.s1, keep := ⟨hI.keep.S, fun i x hx => ?_, hI.keep.shape⟩, tmps := hI.tmps, dfr := hI.dfr, slot := fun s p hp => ?_, isv := fun s x hx => ?_ }⟩
  · show i < σl.length
    rcases Nat.lt_or_ge i σl.length with h1 | h1
    · exact h1
    · have : cx.own (sgm n0 σl i) = some x := hx
      rw [hs2 i h1] at this
      cases this
  · have h1 := hsp _ _ hx
    simp only at h1
    rw [show kb i / 2 = i by simp only [kb]; omega] at h1
    obtain ⟨ob, h5, h6, h7⟩ := hI.blk _ _ _ h1.2.2
    refine ⟨ob, h5, ones_renL.1 h6, ?_⟩
    rcases h7 with ⟨h7, h8⟩ | ⟨b, arr, h7, h8, h9, h10⟩
    · exact .inl ⟨h7, renL_nil h8⟩
    · rw [renL_length] at h9 h10
      exact .inr ⟨b, arr, h7, h8, h9, fun j hj => rep_via (h10 j hj) _ (renL_get _ _ j hj)⟩
  · obtain ⟨e1, l1'⟩ := hlv i l1
    obtain ⟨e2, l2'⟩ := hlv j l2
    have h5 := hI.inj _ _ b T T' l1' l2' h3 h4
    rw [hs1 i e1, hs1 j e2] at h5
    obtain ⟨_, _, hx1⟩ := l1
    obtain ⟨_, _, hx2⟩ := l2
    obtain ⟨p, hp, h6, h7⟩ := liveK_mem hx1
    obtain ⟨q, hq, h8, h9⟩ := liveK_mem hx2
    have h10 := liveK_inj hnd p q hp hq h7 h9 (by rw [h6, h8, show kb i / 2 = i by simp only [kb]; omega, show kb j / 2 = j by simp only [kb]; omega]; exact h5)
    subst h10
    rw [h6] at h8
    simp only [kb] at h8
    omega
  · have h1 := hc0 i x hx
    have h2 : i < σl.length := by
      have := congrArg List.length hσ
      simp at this
      omega
    have h3 : σl.getD i 0 = i := by
      have h4 := List.getElem?_take_of_lt (l := σl) h1
      rw [hσ] at h4
      rw [List.getD_eq_getElem?_getD, ← h4]
      simp [h1]
    show cx.own (sgm n0 σl i) = some x
    rw [hs1 i h2, h3]
    exact hI.keep.own i x hx
  · have h1 := hsp _ _ hp
    exact rep_via (hI.slot s _ h1) _ rfl
  · cases x with
    | pv p => exact ⟨p, rfl⟩
    | blk T cs =>
      have h1 := hsp _ _ hx
      simp only [Pm.ks] at h1
      omega
theorem Wk.ren2D (l' : L) (m : Nat) (hc0 : ∀ i x, c0.own i = some x → i < m) (σl : List Nat) (hσ : σl.take m = List.range m) (hnd : nodupB (liveK σl l') = true) (hb : shapeB σl.length l' = true)
    (h : l'.map (fun x => get l (rkey (sgm n0 σl) x.1)) = l'.map (fun x => rval (sgm n0 σl) x.2)) : Wk P n c0 Bor n0 l σl.length l' := Wk.renD m hc0 σl hσ hnd (reSt_of h hb)
theorem Wk.ren3D (l' : L) (m : Nat) (hc0 : ∀ i x, c0.own i = some x → i < m) (σl : List Nat) (F : List (Nat × List PV)) (hF : ∀ q ∈ F.map (fun x => shds x.2), q) (hx : l'.map (fixF F) = l'.map (fun x => x.2)) (hσ : σl.take m = List.range m) (hnd : nodupB (liveK σl l') = true) (hb : shapeB σl.length l' = true)
    (h : l'.map (fun x => get l (rkey (sgm n0 σl) x.1)) = l'.map (rvalF (sgm n0 σl) F)) : Wk P n c0 Bor n0 l σl.length l' :=
  Wk.ren2D l' m hc0 σl hσ hnd hb (h.trans (List.map_congr_left fun x hxl => by
    have h1 := List.map_inj_left.1 hx x hxl
    obtain ⟨k, v⟩ := x
    cases v with
    | none => rfl
    | some v =>
      cases v with
      | pv p => rfl
      | blk T cs =>
        simp only [fixF, rvalF, rval] at h1 ⊢
        cases hl : lf k F with
        | none => rfl
        | some ds =>
          rw [hl] at h1
          simp only [Option.some.injEq, Val.blk.injEq] at h1
          simp only [Option.some.injEq, Val.blk.injEq, true_and]
          rw [← h1.2, renL_shd (lf_shd hF hl)]))
/-- A cell that holds nil: an own row that has not been made. -/
theorem Wk.nilc (id j : Nat) (T : TypeId) {B : TypeId} {cells : List PV} (hs : get l (kb id) = some (.blk B cells)) (hj : cells[j]? = some (.av (.slice none 0 0))) : Wk P n c0 Bor n0 l (n0 + 1) ([(kb id, some (.blk B (cells.set j (.osl n0 0 0)))), (kb n0, some (.blk T []))] ++ l) := fun cx a hI => by
  obtain ⟨hk, hh⟩ := heap_virtual hI.toHeap (id := n0) (fun h => absurd h (Nat.lt_irrefl _)) T
  obtain ⟨ob0, ho0, _⟩ := hI.blk id B cells hs
  have hid : id < n0 := hI.ids id _ ho0
  have hg : over [(kb n0, some (.blk T []))] (get l) (kb id) = some (.blk B cells) := by rw [over_b, if_neg (by omega)]; exact hs
  refine ⟨⟨cx.w, cx.S, setOwn cx.own n0 (none, T)⟩, rfl, ?_⟩
  have hge : ∀ k, get ([(kb id, some (.blk B (cells.set j (.osl n0 0 0)))), (kb n0, some (.blk T []))] ++ l) k = if Nat.beq k (kb id) then some (.blk B (cells.set j (.osl n0 0 0))) else over [(kb n0, some (.blk T []))] (get l) k := fun k => by
    rw [get_append]
    simp only [over, lk]
    by_cases h1 : Nat.beq k (kb id) = true
    · simp [h1]
    · simp only [h1]; rfl
  have hb : ∀ i, get ([(kb id, some (.blk B (cells.set j (.osl n0 0 0)))), (kb n0, some (.blk T []))] ++ l) (kb i) = if i = id then some (.blk B (cells.set j (.osl n0 0 0))) else over [(kb n0, some (.blk T []))] (get l) (kb i) := fun i => by
    rw [hge, beq_kb]; by_cases e : i = id <;> simp [e]
  have hsl : ∀ s, get ([(kb id, some (.blk B (cells.set j (.osl n0 0 0)))), (kb n0, some (.blk T []))] ++ l) (Pm.ks s) = get l (Pm.ks s) := fun s => by
    rw [hge, beq_ksb, if_neg (by simp), over_s]
  have hl : ∀ i, Live (get ([(kb id, some (.blk B (cells.set j (.osl n0 0 0)))), (kb n0, some (.blk T []))] ++ l)) i → Live (over [(kb n0, some (.blk T []))] (get l)) i := fun i ⟨T', cs, hx⟩ => by
    rw [hb] at hx
    by_cases e : i = id
    · subst e; exact ⟨B, cells, hg⟩
    · rw [if_neg e] at hx; exact ⟨T', cs, hx⟩
  exact { ids := fun i x hx => by
            rcases hh.ids i x hx with h | h
            · exact Nat.lt_succ_of_lt h
            · subst h; exact Nat.lt_succ_self _
          blk := fun i T' cs hx => by
            rw [hb] at hx
            by_cases e : i = id
            · subst e
              rw [if_pos rfl] at hx
              cases hx
              obtain ⟨ob, h1, h2, h3⟩ := hh.blk i B cells hg
              refine ⟨ob, h1, fun p hp => ?_, ?_⟩
              · rcases List.mem_or_eq_of_mem_set hp with h | h
                · exact h2 p h
                · rw [h]; rfl
              · rcases h3 with ⟨_, h4⟩ | ⟨b, arr, h4, h5, h6, h7⟩
                · rw [h4] at hj; simp at hj
                · refine .inr ⟨b, arr, h4, h5, by rw [List.length_set]; exact h6, fun q hq => ?_⟩
                  rw [List.length_set] at hq
                  by_cases e : q = j
                  · subst e
                    have h8 := h7 q hq
                    have e2 : cells.getD q P0 = .av (.slice none 0 0) := by rw [List.getD_eq_getElem?_getD, hj]; rfl
                    rw [e2] at h8
                    rw [show (cells.set q (.osl n0 0 0)).getD q P0 = .osl n0 0 0 from by rw [List.getD_eq_getElem?_getD, List.getElem?_set_self hq]; rfl, rep_av h8]
                    exact .osl setOwn_same (.inl ⟨_, rfl, rfl⟩)
                  · rw [show (cells.set j (.osl n0 0 0)).getD q P0 = cells.getD q P0 from by rw [List.getD_eq_getElem?_getD, List.getD_eq_getElem?_getD, List.getElem?_set_ne (Ne.symm e)]]
                    exact h7 q hq
            · rw [if_neg e] at hx
              exact hh.blk i T' cs hx
          inj := fun i j b T T' l1 l2 => hh.inj i j b T T' (hl i l1) (hl j l2), apart := fun i b T l1 => hh.apart i b T (hl i l1), bnd := hh.bnd, sok := hh.sok,
          os := hh.os, tape := hh.tape, output := hh.output, size := hh.size, same := hh.same, s0 := hh.s0, s1 := hh.s1, keep := hh.keep, tmps := hI.tmps, dfr := hI.dfr
          slot := fun s' p hp => by
            rw [hsl] at hp
            exact (hI.slot s' p hp).mono hk
          isv := fun s' x hx => by
            rw [hsl] at hx
            exact hI.isv s' x hx }
end
end Go.Proofs.Ytfoiadlaekknpaa.Pm
namespace Go.Proofs.Ytfoiadlaekknpaa.Pm
open Go

def apartK (ws : Nat → List Nat) (rd : Nat → List Nat) (bf : List (List Nat)) (n : Nat) : Bool :=
  (List.range n).all fun j => (List.range j).all fun i => (bf.getD j []).contains i ||
    (((ws i).all fun k => !(ws j).contains k && !(rd j).contains k) && (ws j).all fun k => !(rd i).contains k)
theorem hits_mem {l : L} {k : Nat} : hits l k = true → k ∈ l.map (·.1) := fun h => by
  obtain ⟨x, hx, rfl⟩ := mem_of_hits h
  exact List.mem_map.2 ⟨x, hx, rfl⟩
theorem apart_of {W : Nat → L} {rd : Nat → List Nat} {ws rs : Nat → List Nat} {bf : List (List Nat)} {n : Nat} (hw : ∀ i, i < n → ∀ x ∈ W i, x.1 ∈ ws i) (hr : ∀ i, i < n → ∀ k ∈ rd i, k ∈ rs i) (h : apartK ws rs bf n = true) : apartB W rd bf n = true := by
  simp only [apartK, apartB, List.all_eq_true, List.mem_range, Bool.or_eq_true, Bool.and_eq_true, Bool.not_eq_true'] at h ⊢
  intro j hj i hi
  rcases h j hj i hi with h1 | ⟨h1, h2⟩
  · exact .inl h1
  · refine .inr ⟨fun x hx => ?_, fun x hx => ?_⟩
    · obtain ⟨h3, h4⟩ := h1 x.1 (hw i (by omega) x hx)
      refine ⟨?_, ?_⟩
      · cases hh : hits (W j) x.1 with
        | false => rfl
        | true =>
          obtain ⟨y, hy, e⟩ := List.mem_map.1 (hits_mem hh)
          have := hw j hj y hy
          rw [e] at this
          rw [List.contains_iff_mem.2 this] at h3
          cases h3
      · cases hh : (rd j).contains x.1 with
        | false => rfl
        | true =>
          have := hr j hj x.1 (List.contains_iff_mem.1 hh)
          rw [List.contains_iff_mem.2 this] at h4
          cases h4
    · have h3 := h2 x.1 (hw j hj x hx)
      cases hh : (rd i).contains x.1 with
      | false => rfl
      | true =>
        have := hr i (by omega) x.1 (List.contains_iff_mem.1 hh)
        rw [List.contains_iff_mem.2 this] at h3
        cases h3
def subK (l m : List Nat) : Bool := l.all fun k => m.contains k
def keysB : List Oper → List Out → List (List Nat × List Nat) → Bool
  | [], [], [] => true
  | o :: os, x :: xs, k :: ks => match subK ((wr o.dst x).map (·.1)) k.1, subK x.reads k.2 with
    | true, true => keysB os xs ks
    | _, _ => false
  | _, _, _ => false
theorem keysB_spec : ∀ {os : List Oper} {xs : List Out} {ks : List (List Nat × List Nat)}, keysB os xs ks = true → ∀ i o x, os[i]? = some o → xs[i]? = some x →
    (∀ y ∈ wr o.dst x, y.1 ∈ (ks.getD i ([], [])).1) ∧ ∀ k ∈ x.reads, k ∈ (ks.getD i ([], [])).2
  | o :: os, x :: xs, k :: ks, h, 0, o', x', ho, hx => by
    simp only [keysB] at h
    split at h
    · rename_i h1 h2
      simp only [List.getElem?_cons_zero, Option.some.injEq] at ho hx
      subst ho; subst hx
      refine ⟨fun y hy => ?_, fun q hq => ?_⟩
      · exact List.contains_iff_mem.1 (List.all_eq_true.1 h1 y.1 (List.mem_map.2 ⟨y, hy, rfl⟩))
      · exact List.contains_iff_mem.1 (List.all_eq_true.1 h2 q hq)
    · cases h
  | o :: os, x :: xs, k :: ks, h, i + 1, o', x', ho, hx => by
    simp only [keysB] at h
    split at h
    · exact keysB_spec h i o' x' (by simpa using ho) (by simpa using hx)
    · cases h
  | [], _, _, _, i, _, _, ho, _ => by simp at ho
  | _ :: _, [], _, _, i, _, _, _, hx => by simp at hx
def evrK (P : Program) (n : Nat) (ops : List Oper) (n0 : Nat) (ans : List (Nat × Ans)) (ks : List (List Nat × List Nat)) (live : List Nat) (l : L) : Option (L × List Prop) :=
  match evs P n ops n0 ans ops 0 l with
  | some (l', obs, outs) => match keysB ops outs ks with
    | true => some (live.map fun k => (k, get l' k), obs)
    | false => none
  | none => none
def drawB (ops : List Oper) (bf : List (List Nat)) (ks : List (List Nat × List Nat)) : Bool := befB ops bf && apartK (fun i => (ks.getD i ([], [])).1) (fun i => (ks.getD i ([], [])).2) bf ops.length
theorem evs_len {P : Program} {n : Nat} {ops : List Oper} {n0 : Nat} {ans : List (Nat × Ans)} : ∀ {r : List Oper} {i : Nat} {l l' : L} {obs : List Prop} {outs : List Out}, evs P n ops n0 ans r i l = some (l', obs, outs) → outs.length = r.length
  | [], i, l, l', obs, outs, h => by
    simp only [evs, Option.some.injEq, Prod.mk.injEq] at h
    obtain ⟨_, _, rfl⟩ := h
    rfl
  | o :: r, i, l, l', obs, outs, h => by
    simp only [evs] at h
    split at h
    case h_2 => cases h
    split at h
    case h_2 => cases h
    rename_i l1 obs1 outs1 he
    simp only [Option.some.injEq, Prod.mk.injEq] at h
    obtain ⟨_, _, rfl⟩ := h
    simp [evs_len he]
theorem regionK_ok {E : Env} {n0 : Nat} {l l' : L} {id : Nat} {ops : Array Oper} {ans : List (Nat × Ans)} {bf : List (List Nat)} {ks : List (List Nat × List Nat)} {live : List Nat} {obs : List Prop} (hm : E.P.follows .mixedOrders = true) (h : evrK E.P E.n ops.toList n0 ans ks live l = some (l', obs)) (hd : drawB ops.toList bf ks = true) (hob : ∀ p ∈ obs, p)
    {Q : Exit → Act → World → Prop} (hQ : ∀ c a, Inv E (· < n0 + 8 * ops.size) c (get l') a → Q .normal a c.w) {c : Cx} {a : Act} (hI : Inv E (· < n0) c (get l) a) : (Code.region id ops true).wp E.P Q a c.w := by
  unfold evrK at h
  split at h
  case h_2 => cases h
  rename_i l1 obs1 outs he
  split at h
  case h_2 => cases h
  rename_i hk
  simp only [Option.some.injEq, Prod.mk.injEq] at h
  obtain ⟨rfl, rfl⟩ := h
  simp only [drawB, Bool.and_eq_true] at hd
  have hl := evs_len he
  have hap : apartB (Wt ops.toList.toArray fun i => outs.getD i out0) (fun i => (outs.getD i out0).reads) bf ops.toList.length = true := by
    refine apart_of (fun i hi x hx => ?_) (fun i hi k hk' => ?_) hd.2
    · have h1 : ops.toList[i]? = some ops.toList[i] := by simp only [List.getElem?_eq_getElem hi]
      have h2 : outs[i]? = some (outs.getD i out0) := by rw [List.getD_eq_getElem?_getD, List.getElem?_eq_getElem (by omega)]; rfl
      refine (keysB_spec hk i _ _ h1 h2).1 x ?_
      have : Wt ops.toList.toArray (fun i => outs.getD i out0) i = wr ops.toList[i].dst (outs.getD i out0) := by
        unfold Wt
        rw [List.getElem?_toArray, h1]
        rfl
      rw [this] at hx
      exact hx
    · have h1 : ops.toList[i]? = some ops.toList[i] := by simp only [List.getElem?_eq_getElem hi]
      have h2 : outs[i]? = some (outs.getD i out0) := by rw [List.getD_eq_getElem?_getD, List.getElem?_eq_getElem (by omega)]; rfl
      exact (keysB_spec hk i _ _ h1 h2).2 k hk'
  obtain ⟨h1, h2, h3⟩ := evs_spec (g0 := get l) (tab := fun i => outs.getD i out0) he (by simp) (fun j _ => by simp) (by
    funext k
    have : ∀ m, fold (get l) (Wt ops.toList.toArray fun i => outs.getD i out0) (fun j => decide (j < 0)) m = get l := fun m => by
      induction m with
      | zero => rfl
      | succ m ih => simp only [fold, Nat.not_lt_zero, decide_false, Bool.false_eq_true, if_false]; exact ih
    rw [this])
  have hops : ops.toList.toArray = ops := by simp
  have hlen : ops.toList.length = ops.size := by simp
  have hstep : ∀ i o, ops.toList[i]? = some o → ∀ g, (∀ k ∈ (outs.getD i out0).reads, g k = fold (get l) (Wt ops.toList.toArray fun i => outs.getD i out0) (fun j => decide (j < i)) ops.toList.length k) → StepOk E ops.toList.toArray i o (outs.getD i out0) (n0 + 8 * i) g := by
    intro i o ho g hg
    obtain ⟨h4, h5, h6⟩ := h3 i o (Nat.zero_le _) ho
    exact gplan_ok ho h6 (run_congr h4 hg) fun p hp => hob p (h5 p hp)
  have hfin : ∀ {c : Cx} {a : Act}, Inv E (fun id => id < n0 + 8 * ops.toList.length) c (fold (get l) (Wt ops.toList.toArray fun i => outs.getD i out0) (fun _ => true) ops.toList.length) a → Q .normal a c.w := by
    intro c a h
    rw [← h2, hlen] at h
    exact hQ c a (h.less fun k v hk => get_live k v hk)
  have hs := any_ops (E := E) (l := ops.toList) (g0 := get l) (tab := fun i => outs.getD i out0) (n0 := n0) hd.1 hap hstep (Q := Q) (fun c a h => hfin h)
      ops.toList.length (Array.replicate ops.toList.length false) ⟨{ c.w with drawn := c.w.drawn + 1 }, c.S, c.own⟩ a (by simp) (by
        rw [left_congr (g := fun _ => false) fun i _ => repl_false _ _]
        exact left_false _) (fun j o _ hj => by
        have hj' : (Array.replicate ops.toList.length false).getD j false = true := hj
        rw [repl_false] at hj'
        cases hj') (by
        have h0 : fold (get l) (Wt ops.toList.toArray fun i => outs.getD i out0) (fun j => (Array.replicate ops.toList.length false).getD j false) ops.toList.length = get l := by
          have e : (fun j => (Array.replicate ops.toList.length false).getD j false) = fun _ => false := funext fun j => repl_false _ j
          rw [e]
          have : ∀ m, fold (get l) (Wt ops.toList.toArray fun i => outs.getD i out0) (fun _ => false) m = get l := fun m => by
            induction m with
            | zero => rfl
            | succ m ih => simp only [fold, Bool.false_eq_true, if_false]; exact ih
          exact this _
        rw [h0]
        exact (hI.drawn _).more fun i hi => .inl hi)
  rw [hops] at hs
  refine wp_region_any hm ?_
  rw [hlen] at hs
  exact hs
theorem T_regionD {P : Program} {n : Nat} {c0 : Cx} {Bor : Nat → Prop} {Q : Post} {n0 : Nat} {l : L} {rs : List Item} {id : Nat} {ops : Array Oper} (ans : List (Nat × Ans)) (bf : List (List Nat)) (ks : List (List Nat × List Nat)) (live : List Nat) {l' : L} {obs : List Prop} (hm : P.follows .mixedOrders = true) (h : evrK P n ops.toList n0 ans ks live l = some (l', obs)) (hd : drawB ops.toList bf ks = true) (hob : ∀ p ∈ obs, p)
    (hT : T P n c0 Bor Q (n0 + 8 * ops.size) l' rs) : T P n c0 Bor Q n0 l (.code (.region id ops true) :: rs) := fun _ _ hI =>
  regionK_ok (E := ⟨P, n, c0, Bor⟩) hm h hd hob (fun c a h => ⟨c, rfl, hT c a h⟩) hI
end Go.Proofs.Ytfoiadlaekknpaa.Pm
namespace Go.Proofs.Ytfoiadlaekknpaa.Pm
open Go Go.Deep Go.ChangeShapes Go.WideShapes Go.ChangeAt Go.RowKit

/-- The parts of a struct, one behind the other. -/
def ShF (r : TypeId → List PV → Prop) : List Field → List PV → Prop
  | [], ps => ps = []
  | f :: fs, ps => ∃ a b, ps = a ++ b ∧ r f.type a ∧ ShF r fs b
/-- The tree's form, by the type. -/
def Sh (P : Program) : Nat → TypeId → List PV → Prop
  | 0, _, _ => False
  | n + 1, t, ps => match P.underlying t with
    | some .bool => ∃ b, ps = [.av (.bool b)]
    | some (.int k) => ∃ m, ps = [.av (.int k m)] ∧ (Lit.int k m).wf = true
    | some (.float k) => ∃ b, ps = [.av (.float k b)] ∧ (Lit.float k b).wf = true
    | some .string => ∃ s : ByteArray, ps = [.av (.string s)] ∧ s.size ≤ maxLen
    | some (.slice e) => ∃ ess : List (List PV), ps = [.ssl ess.flatten 0 ess.length] ∧ ess.length ≤ maxLen ∧ ess.length * P.bytesOf e ≤ reachBytes ∧ ∀ es ∈ ess, Sh P n e es
    | some (.struct fs) => ShF (Sh P n) fs.toList ps
    | _ => False
mutual
/-- How much a reading holds. -/
def bulkW {H : Type} : DataW H → Nat
  | .lit (.string bytes) => bytes.length + 1
  | .lit _ => 1
  | .nil => 1
  | .ptr d => bulkW d + 1
  | .slice elems spare => bulkAll elems + bulkAll spare + 1
  | .agg parts => bulkAll parts + 1
  | .iface _ d => bulkW d + 1
  | .map entries => bulkEntries entries + 1
  | .held _ => 1
def bulkAll {H : Type} : List (DataW H) → Nat
  | [] => 0
  | d :: r => bulkW d + bulkAll r
def bulkEntries {H : Type} : List (Lit × DataW H) → Nat
  | [] => 0
  | x :: r => bulkEntry x + bulkEntries r
def bulkEntry {H : Type} : Lit × DataW H → Nat
  | (.string bytes, d) => bytes.length + bulkW d + 1
  | (_, d) => bulkW d + 1
end
mutual
/-- How much a tree holds. -/
def pvw : PV → Nat
  | .av (.string s) => s.size + 1
  | .ssl cs _ _ => pvws cs + 1
  | .agg cs => pvws cs + 1
  | _ => 1
def pvws : List PV → Nat
  | [] => 0
  | p :: l => pvw p + pvws l
end
theorem pvws_app : ∀ a b : List PV, pvws (a ++ b) = pvws a + pvws b
  | [], b => by simp [pvws]
  | p :: a, b => by rw [List.cons_append, pvws, pvws, pvws_app a b]; omega
theorem pvws_flatten : ∀ l : List (List PV), pvws l.flatten = (l.map pvws).sum
  | [] => rfl
  | a :: l => by rw [List.flatten_cons, pvws_app, pvws_flatten l, List.map_cons, List.sum_cons]
theorem sum_le {H : Type} : ∀ (n : Nat) (f : Nat → Nat) (ds : List (DataW H)), ds.length = n → (∀ i (h : i < ds.length), f i ≤ bulkW ds[i]) → ((List.range n).map f).sum ≤ bulkAll ds
  | 0, f, ds, hl, h => by simp
  | n + 1, f, [], hl, h => by simp at hl
  | n + 1, f, d :: ds, hl, h => by
    rw [List.range_succ_eq_map, List.map_cons, List.sum_cons, List.map_map, bulkAll]
    have h0 := h 0 (by simp)
    have h1 := sum_le n (f ∘ Nat.succ) ds (by simpa using hl) fun i hi => by have := h (i + 1) (by simpa using hi); simpa using this
    simp only [List.getElem_cons_zero] at h0
    omega
def contig (P : Program) : List Field → Nat → Option Nat
  | [], o => some o
  | f :: fs, o => if f.offset = o then contig P fs (o + P.cellsOf f.type) else none
/-- These types can be opened, with all that is in them. -/
def openB (P : Program) (Ts : List TypeId) : Bool := Ts.all fun t => match P.underlying t with
  | some .bool | some (.int _) | some (.float _) | some .string => Nat.beq (P.cellsOf t) 1
  | some (.slice e) => Nat.beq (P.cellsOf t) 1 && Nat.ble 1 (P.cellsOf e) && Ts.contains e
  | some (.struct fs) => contig P fs.toList 0 == some (P.cellsOf t) && fs.toList.all fun f => Ts.contains f.type
  | _ => false
theorem List.getD_app {α : Type} {l m : List α} {i : Nat} {d : α} (h : i < l.length) : (l ++ m).getD i d = l.getD i d := by
  rw [List.getD_eq_getElem?_getD, List.getD_eq_getElem?_getD, List.getElem?_append_left h]
theorem List.getD_app_r {α : Type} {l m : List α} {i : Nat} {d : α} (h : l.length ≤ i) : (l ++ m).getD i d = m.getD (i - l.length) d := by
  rw [List.getD_eq_getElem?_getD, List.getD_eq_getElem?_getD, List.getElem?_append_right h]
theorem flatten_get {k : Nat} : ∀ {ess : List (List PV)}, (∀ es ∈ ess, es.length = k) → ess.flatten.length = ess.length * k ∧ ∀ i j, j < k → i < ess.length → ess.flatten.getD (i * k + j) P0 = (ess.getD i []).getD j P0
  | [], _ => ⟨by simp, fun i j _ h => absurd h (Nat.not_lt_zero _)⟩
  | es :: ess, h => by
    have h0 := h es (by simp)
    obtain ⟨h1, h2⟩ := flatten_get (ess := ess) fun x hx => h x (by simp [hx])
    refine ⟨by rw [List.flatten_cons, List.length_append, h0, h1, List.length_cons, Nat.succ_mul]; omega, fun i j hj hi => ?_⟩
    rw [List.flatten_cons]
    cases i with
    | zero => rw [Nat.zero_mul, Nat.zero_add, List.getD_app (by omega)]; rfl
    | succ i =>
      rw [List.getD_app_r (by rw [h0, Nat.succ_mul]; omega), h0, show (i + 1) * k + j - k = i * k + j from by rw [Nat.succ_mul]; omega, h2 i j hj (by simpa using hi)]
      rfl
section
variable {H : Type} {enc : TypeId × Value → H} {P : Program} {w : World} {base : Nat} {held : Bool}
abbrev Opened (w : World) (ps : List PV) (cs : List Value) : Prop := ones ps ∧ ps.length = cs.length ∧ ∀ i, i < ps.length → SRep w (fun b => b < w.heap.size) (ps.getD i P0) (cs.getD i undef)
theorem opened_one {p : PV} {v : Value} (h : p.one = true) (hr : SRep w (fun b => b < w.heap.size) p v) : Opened w [p] [v] :=
  ⟨fun q hq => by simp only [List.mem_singleton] at hq; rw [hq]; exact h, rfl, fun i hi => by
    have : i = 0 := by simp at hi; omega
    subst this; exact hr⟩
theorem open_fs {Ts : List TypeId} {n : Nat} (ih : ∀ (t : TypeId) (cs : List Value) (x : DataW H × List MemPlace), t ∈ Ts → DataW.trod enc P w base (fun _ => true) held n t cs = some x → (x.1.weights P t).all (· ≤ reachBytes) = true →
    ∃ ps, Sh P n t ps ∧ Opened w ps cs ∧ cs.length = P.cellsOf t ∧ pvws ps ≤ bulkW x.1) (cs : List Value) :
    ∀ (fs : List Field) (xs : List (DataW H × List MemPlace)) (o e : Nat), contig P fs o = some e → e ≤ cs.length → (∀ f ∈ fs, f.type ∈ Ts) → xs.length = fs.length →
      (∀ (i : Nat) (f : Field), fs[i]? = some f → DataW.trod enc P w base (fun _ => true) held n f.type ((cs.drop f.offset).take (P.cellsOf f.type)) = xs[i]?) →
      (DataW.weightsEach P (fs.map (·.type)) (xs.map (·.1))).all (· ≤ reachBytes) = true → ∃ ps, ShF (Sh P n) fs ps ∧ Opened w ps ((cs.drop o).take (e - o)) ∧ o ≤ e ∧ pvws ps ≤ bulkAll (xs.map (·.1))
  | [], xs, o, e, hc, he, _, _, _, _ => by
    simp only [contig, Option.some.injEq] at hc
    subst hc
    exact ⟨[], rfl, ⟨fun p hp => (by cases hp), by simp, fun i hi => by simp at hi⟩, Nat.le_refl _, Nat.zero_le _⟩
  | f :: fs, [], o, e, hc, he, hT, hx, hf, hw => by simp at hx
  | f :: fs, x :: xs, o, e, hc, he, hT, hx, hf, hw => by
    simp only [contig] at hc
    split at hc
    case isFalse => cases hc
    rename_i ho
    simp only [List.map_cons, DataW.weightsEach, List.all_append, Bool.and_eq_true] at hw
    obtain ⟨b, hb1, hb2, hb3, hb4⟩ := open_fs ih cs fs xs _ e hc he (fun g hg => hT g (by simp [hg])) (by simpa using hx) (fun i g hg => by have := hf (i + 1) g (by simpa using hg); simpa using this) hw.2
    obtain ⟨a, ha1, ha2, ha3, ha4⟩ := ih f.type _ x (hT f (by simp)) (by have := hf 0 f (by simp); simpa using this) hw.1
    rw [ho] at ha2 ha3
    have hla : (List.take (P.cellsOf f.type) (List.drop o cs)).length = P.cellsOf f.type := ha3
    have e1 : (cs.drop o).take (e - o) = (cs.drop o).take (P.cellsOf f.type) ++ (cs.drop (o + P.cellsOf f.type)).take (e - (o + P.cellsOf f.type)) := by
      rw [← List.drop_drop, show e - o = P.cellsOf f.type + (e - (o + P.cellsOf f.type)) from by omega, List.take_add]
    refine ⟨a ++ b, ⟨a, b, rfl, ha1, hb1⟩, ?_, by omega, by rw [pvws_app, List.map_cons, bulkAll]; omega⟩
    rw [e1]
    refine ⟨fun p hp => ?_, by rw [List.length_append, List.length_append, ha2.2.1, hb2.2.1], fun i hi => ?_⟩
    · rcases List.mem_append.1 hp with h | h
      · exact ha2.1 p h
      · exact hb2.1 p h
    · have hl := ha2.2.1
      rw [List.length_append] at hi
      by_cases h : i < a.length
      · rw [List.getD_app h, List.getD_app (by omega)]
        exact ha2.2.2 i h
      · rw [List.getD_app_r (by omega), List.getD_app_r (by omega), ← hl]
        exact hb2.2.2 _ (by omega)
theorem open_any {Ts : List TypeId} (hT : openB P Ts = true) : ∀ (n : Nat) (t : TypeId) (cs : List Value) (x : DataW H × List MemPlace), t ∈ Ts → DataW.trod enc P w base (fun _ => true) held n t cs = some x → (x.1.weights P t).all (· ≤ reachBytes) = true →
    ∃ ps, Sh P n t ps ∧ Opened w ps cs ∧ cs.length = P.cellsOf t ∧ pvws ps ≤ bulkW x.1
  | 0, _, _, _, _, h, _ => by simp [DataW.trod] at h
  | n + 1, t, cs, x, ht, h, hw => by
    have hB := List.all_eq_true.1 hT t ht
    split at hB
    · rename_i hu
      obtain ⟨b, rfl, rfl⟩ := DataW.trod_bool hu h
      exact ⟨[.av (.bool b)], by simp only [Sh, hu]; exact ⟨b, rfl⟩, opened_one rfl (.av _), (Nat.eq_of_beq_eq_true hB).symm, by simp [pvws, pvw, bulkW]⟩
    · rename_i k hu
      obtain ⟨b, rfl, rfl, hwf⟩ := DataW.trod_int hu h
      exact ⟨[.av (.int k b)], by simp only [Sh, hu]; exact ⟨b, rfl, hwf⟩, opened_one rfl (.av _), (Nat.eq_of_beq_eq_true hB).symm, by simp [pvws, pvw, bulkW]⟩
    · rename_i k hu
      have : ∃ b, cs = [.float k b] ∧ (Lit.float k b).wf = true ∧ x = (.lit (.float k b), []) := by
        unfold DataW.trod at h
        rw [hu] at h
        split at h <;> simp_all
      obtain ⟨b, rfl, hwf, rfl⟩ := this
      exact ⟨[.av (.float k b)], by simp only [Sh, hu]; exact ⟨b, rfl, hwf⟩, opened_one rfl (.av _), (Nat.eq_of_beq_eq_true hB).symm, by simp [pvws, pvw, bulkW]⟩
    · rename_i hu
      obtain ⟨s, rfl, rfl, hs⟩ := DataW.trod_string hu h
      exact ⟨[.av (.string s)], by simp only [Sh, hu]; exact ⟨s, rfl, hs⟩, opened_one rfl (.av _), (Nat.eq_of_beq_eq_true hB).symm, by simp [pvws, pvw, bulkW]⟩
    · rename_i e hu
      simp only [Bool.and_eq_true] at hB
      obtain ⟨⟨hB1, hB2⟩, hB3⟩ := hB
      have hB1 := Nat.eq_of_beq_eq_true hB1
      have hk := Nat.le_of_ble_eq_true hB2
      have he : e ∈ Ts := by simpa using hB3
      rcases DataW.trod_slice hu h with ⟨rfl, rfl⟩ | ⟨a, len, cap, elems, rest, m, hm, rfl, rfl, hb, hl, hcap, hel, hE, _, _⟩
      · refine ⟨[.ssl [] 0 0], ?_, opened_one rfl .emp, hB1.symm, by simp [pvws, pvw, bulkW]⟩
        simp only [Sh, hu]
        exact ⟨[], rfl, Nat.zero_le _, by simp, by simp⟩
      · obtain rfl : m = n := by omega
        simp only [DataW.weights, hu, List.length_map, List.all_cons, List.all_append, Bool.and_eq_true, decide_eq_true_eq] at hw
        have hwl : ∀ i (hi : i < elems.length), ((elems[i].1).weights P e).all (· ≤ reachBytes) = true := by
          intro i hi
          refine List.all_eq_true.2 fun z hz => ?_
          exact List.all_eq_true.1 hw.2.1 z (weights_all_mem (List.mem_map.2 ⟨elems[i], List.getElem_mem hi, rfl⟩) z hz)
        have each : ∀ i, i < len → ∃ q : List PV × List Value, Sh P m e q.1 ∧ Opened w q.1 q.2 ∧ q.2.length = P.cellsOf e ∧ (∀ j, j < P.cellsOf e → w.cell? (a.add (i * P.cellsOf e + j)) = some (q.2.getD j undef)) ∧ ∀ h : i < elems.length, pvws q.1 ≤ bulkW (elems[i]).1 := by
          intro i hi
          have h1 := hE i hi
          rw [List.getElem?_eq_getElem (by omega), Option.bind_eq_some_iff] at h1
          obtain ⟨cs', h2, h3⟩ := h1
          obtain ⟨ps, h4, h5, h6, h7⟩ := open_any hT m e cs' _ he h3 (hwl i (by omega))
          refine ⟨(ps, cs'), h4, h5, h6, fun j hj => ?_, fun _ => h7⟩
          rw [← Addr.add_add, (World.cells?_some h2).2.2 j hj]
          have : j < cs'.length := by omega
          simp [List.getD_eq_getElem?_getD, this]
        let Q : Nat → List PV × List Value := fun i => if hi : i < len then (each i hi).choose else ([], [])
        have hQ : ∀ i, i < len → Sh P m e (Q i).1 ∧ Opened w (Q i).1 (Q i).2 ∧ (Q i).2.length = P.cellsOf e ∧ (∀ j, j < P.cellsOf e → w.cell? (a.add (i * P.cellsOf e + j)) = some ((Q i).2.getD j undef)) ∧ ∀ h : i < elems.length, pvws (Q i).1 ≤ bulkW (elems[i]).1 := by
          intro i hi
          have e1 : Q i = (each i hi).choose := dif_pos hi
          rw [e1]
          exact (each i hi).choose_spec
        have hlen : ((List.range len).map fun i => (Q i).1).length = len := by simp
        refine ⟨[.ssl ((List.range len).map fun i => (Q i).1).flatten 0 ((List.range len).map fun i => (Q i).1).length], ?_, opened_one rfl ?_, hB1.symm, ?_⟩
        · simp only [Sh, hu]
          refine ⟨_, rfl, by rw [hlen]; omega, by rw [hlen]; exact Nat.le_trans (Nat.mul_le_mul_right _ (by omega)) hw.1, fun es hes => ?_⟩
          obtain ⟨i, hi, rfl⟩ := List.mem_map.1 hes
          exact (hQ i (List.mem_range.1 hi)).1
        · rw [hlen]
          rcases Nat.eq_zero_or_pos len with h0 | h0
          · subst h0; exact .emp
          · have hes : ∀ es ∈ (List.range len).map fun i => (Q i).1, es.length = P.cellsOf e := fun es hes => by
              obtain ⟨i, hi, rfl⟩ := List.mem_map.1 hes
              obtain ⟨_, h2, h3, _⟩ := hQ i (List.mem_range.1 hi)
              exact h2.2.1.trans h3
            obtain ⟨hf1, hf2⟩ := flatten_get hes
            rw [hlen] at hf1 hf2
            have hg : ∀ i, i < len → ((List.range len).map fun i => (Q i).1).getD i [] = (Q i).1 := fun i hi => by simp [List.getD_eq_getElem?_getD, hi]
            obtain ⟨b, o, rfl, hbs, hcell⟩ := cells_from (w := w) (a := a) (n := len * P.cellsOf e) (f := fun c => (Q (c / P.cellsOf e)).2.getD (c % P.cellsOf e) undef) (fun c hc => by
              have hd : c / P.cellsOf e < len := Nat.div_lt_of_lt_mul (by rw [Nat.mul_comm]; exact hc)
              have := (hQ _ hd).2.2.2.1 (c % P.cellsOf e) (Nat.mod_lt _ hk)
              rw [Nat.mul_comm, Nat.div_add_mod] at this
              exact this) (Nat.mul_pos h0 hk)
            refine SRep.ssl (a := o) (off := 0) (vf := fun c => (Q (c / P.cellsOf e)).2.getD (c % P.cellsOf e) undef) hbs (fun j hj => hcell j (by omega)) (fun j hj => ?_) (fun p hp => ?_) hl
            · rw [hf1] at hj
              have hd : j / P.cellsOf e < len := Nat.div_lt_of_lt_mul (by rw [Nat.mul_comm]; exact hj)
              have hm := Nat.mod_lt j hk
              have e1 := hf2 (j / P.cellsOf e) (j % P.cellsOf e) hm hd
              rw [Nat.mul_comm, Nat.div_add_mod, hg _ hd] at e1
              rw [e1]
              obtain ⟨_, h2, h3, _⟩ := hQ _ hd
              exact h2.2.2 _ (by rw [h2.2.1, h3]; exact hm)
            · obtain ⟨es, hes', hp'⟩ := List.mem_flatten.1 hp
              obtain ⟨i, hi, rfl⟩ := List.mem_map.1 hes'
              exact (hQ i (List.mem_range.1 hi)).2.1.1 p hp'
        · simp only [pvws, pvw, bulkW, pvws_flatten, List.map_map]
          have := sum_le len (pvws ∘ fun i => (Q i).1) (elems.map (·.1)) (by simpa using hel) fun i hi => by
            have hi' : i < elems.length := by simpa using hi
            have := (hQ i (by omega)).2.2.2.2 hi'
            simpa using this
          omega
    · rename_i fs hu
      simp only [Bool.and_eq_true, beq_iff_eq, List.all_eq_true] at hB
      obtain ⟨xs, m, hm, rfl, hl, hxl, hf⟩ := DataW.trod_struct hu h
      obtain rfl : m = n := by omega
      simp only [DataW.weights, hu] at hw
      obtain ⟨ps, h1, h2, _, h4⟩ := open_fs (open_any hT m) cs fs.toList xs 0 _ hB.1 (by omega) (fun f hf => by simpa using hB.2 f hf) (by simpa using hxl) (fun i f hif => hf i f (by simpa using hif)) hw
      rw [List.drop_zero, Nat.sub_zero, ← hl, List.take_length] at h2
      exact ⟨ps, by simp only [Sh, hu]; exact h1, h2, hl, by simp only [bulkW]; omega⟩
    · cases hB
end
theorem weights_at {H : Type} {P : Program} {ts : List TypeId} {ds : List (DataW H)} (h : (DataW.weightsEach P ts ds).all (· ≤ reachBytes) = true) {j : Nat} {t : TypeId} {d : DataW H} (ht : ts[j]? = some t) (hd : ds[j]? = some d) : (d.weights P t).all (· ≤ reachBytes) = true :=
  List.all_eq_true.2 fun n hn => List.all_eq_true.1 h n (DataW.weights_mem_each ht hd n hn)
/-- An argument, whatever its type. -/
theorem arg_any {H : Type} {enc : TypeId × Value → H} {P : Program} {w : World} {base : Nat} {t : TypeId} {v : Value} {d : DataW H} {pl : List MemPlace} {r : Reach} {b0 : Nat} {held : Bool} {Ts : List TypeId}
    (hT : openB P Ts = true) (ht : t ∈ Ts) (hv : Value.okWide P w r b0 t v) (h : DataW.Trod enc P w base (fun _ => true) held t v d pl)
    {ts : List TypeId} {ds : List (DataW H)} (hs : (DataW.weightsEach P ts ds).all (· ≤ reachBytes) = true) {j : Nat} (hj : ts[j]? = some t) (hd : ds[j]? = some d) :
    ∃ n ps, Sh P n t ps ∧ pvws ps ≤ bulkW d ∧ match isAggD (P.underlying t) with
      | some true => SRep w (fun b => b < w.heap.size) (.agg ps) v
      | _ => ∃ p, ps = [p] ∧ SRep w (fun b => b < w.heap.size) p v := by
  obtain ⟨n, hf⟩ := h
  obtain ⟨ps, h1, ⟨h2, h3, h4⟩, h5, h6⟩ := open_any hT n t _ _ ht hf (weights_at hs hj hd)
  refine ⟨n, ps, h1, h6, ?_⟩
  have hB := List.all_eq_true.1 hT t ht
  have one : v.cells = #[v] → ∃ p, ps = [p] ∧ SRep w (fun b => b < w.heap.size) p v := fun hc => by
    rw [hc] at h3 h4
    simp only [List.length_cons, List.length_nil] at h3
    obtain ⟨p, rfl⟩ := List.length_eq_one_iff.1 h3
    exact ⟨p, rfl, h4 0 (by simp)⟩
  split at hB
  · rename_i hu
    obtain ⟨b, rfl⟩ := okWide_bool hu hv
    simp only [hu, isAggD]
    exact one rfl
  · rename_i k hu
    obtain ⟨b, rfl⟩ := okWide_int hu hv
    simp only [hu, isAggD]
    exact one rfl
  · rename_i k hu
    have : ∃ b, v = .float k b := by
      simp only [Value.okWide, hu, Cell.okWide] at hv
      cases v <;> simp_all [Cell.ok]
    obtain ⟨b, rfl⟩ := this
    simp only [hu, isAggD]
    exact one rfl
  · rename_i hu
    obtain ⟨b, rfl⟩ := okWide_string hu hv
    simp only [hu, isAggD]
    exact one rfl
  · rename_i e hu
    obtain ⟨a, l, c, rfl⟩ := okWide_slice hu hv
    simp only [hu, isAggD]
    exact one rfl
  · rename_i fs hu
    obtain ⟨cs, rfl, hsz⟩ := okWide_struct hu hv
    simp only [hu, isAggD]
    simp only [Value.cells] at h3 h4
    refine .agg (by simpa using h3.symm) fun i hi => ?_
    have := h4 i hi
    rwa [show cs.toList.getD i undef = cs.getD i undef from by rw [List.getD_eq_getElem?_getD, Array.getElem?_toList, Array.getD_eq_getD_getElem?]] at this
  · cases hB
end Go.Proofs.Ytfoiadlaekknpaa.Pm
namespace Go.Proofs.Ytfoiadlaekknpaa.Pm
open Go Go.Deep Go.ChangeShapes Go.WideShapes Go.ChangeAt Go.RowKit

mutual
theorem bulk_eq {H : Type} : ∀ d : DataW H, Rows.uptoBulk d = bulkW d
  | .lit (.string b) => by simp [Rows.uptoBulk, bulkW]
  | .lit (.bool _) => by simp [Rows.uptoBulk, bulkW]
  | .lit (.int _ _) => by simp [Rows.uptoBulk, bulkW]
  | .lit (.float _ _) => by simp [Rows.uptoBulk, bulkW]
  | .lit .nil => by simp [Rows.uptoBulk, bulkW]
  | .nil => by simp [Rows.uptoBulk, bulkW]
  | .ptr d => by simp [Rows.uptoBulk, bulkW, bulk_eq d]
  | .slice e s => by simp [Rows.uptoBulk, bulkW, bulk_all e, bulk_all s]
  | .agg ps => by simp [Rows.uptoBulk, bulkW, bulk_all ps]
  | .iface _ d => by simp [Rows.uptoBulk, bulkW, bulk_eq d]
  | .map es => by simp [Rows.uptoBulk, bulkW, bulk_entries es]
  | .held _ => by simp [Rows.uptoBulk, bulkW]
theorem bulk_all {H : Type} : ∀ l : List (DataW H), Rows.uptoBulkAll l = bulkAll l
  | [] => by simp [Rows.uptoBulkAll, bulkAll]
  | d :: l => by simp [Rows.uptoBulkAll, bulkAll, bulk_eq d, bulk_all l]
theorem bulk_entries {H : Type} : ∀ l : List (Lit × DataW H), Rows.uptoBulkEntries l = bulkEntries l
  | [] => by simp [Rows.uptoBulkEntries, bulkEntries]
  | x :: l => by simp [Rows.uptoBulkEntries, bulkEntries, bulk_entry x, bulk_entries l]
theorem bulk_entry {H : Type} : ∀ x : Lit × DataW H, Rows.uptoBulkEntry x = bulkEntry x
  | (.string b, d) => by simp [Rows.uptoBulkEntry, bulkEntry, bulk_eq d]
  | (.bool _, d) => by simp [Rows.uptoBulkEntry, bulkEntry, bulk_eq d]
  | (.int _ _, d) => by simp [Rows.uptoBulkEntry, bulkEntry, bulk_eq d]
  | (.float _ _, d) => by simp [Rows.uptoBulkEntry, bulkEntry, bulk_eq d]
  | (.nil, d) => by simp [Rows.uptoBulkEntry, bulkEntry, bulk_eq d]
end
theorem small_bulk {H : Type} {l : List (DataW H)} (hk : Rows.uptoSmall H l = true) : bulkAll l ≤ 1048576 := by
  have h : Rows.uptoBulkAll l ≤ 1048576 := of_decide_eq_true hk
  rwa [bulk_all] at h
theorem bulk_mem {H : Type} {d : DataW H} : ∀ {l : List (DataW H)}, d ∈ l → bulkW d ≤ bulkAll l
  | x :: l, h => by
    rw [bulkAll]
    rcases List.mem_cons.1 h with rfl | h
    · omega
    · have := bulk_mem h; omega
theorem list_of {α : Type} {g : α → List PV} {q : α → Prop} : ∀ {ess : List (List PV)}, (∀ es ∈ ess, ∃ x, es = g x ∧ q x) → ∃ l : List α, ess = l.map g ∧ ∀ x ∈ l, q x
  | [], _ => ⟨[], rfl, by simp⟩
  | es :: ess, h => by
    obtain ⟨x, rfl, hx⟩ := h es (by simp)
    obtain ⟨l, rfl, hl⟩ := list_of (ess := ess) fun e he => h e (by simp [he])
    exact ⟨x :: l, rfl, fun y hy => by
      rcases List.mem_cons.1 hy with rfl | hy
      · exact hx
      · exact hl y hy⟩
theorem flat_of {α : Type} (g : α → List PV) (l : List α) : (l.map g).flatten = l.flatMap g := List.flatMap_def.symm
theorem getD_of {α : Type} {q : α → Prop} {l : List α} (h : ∀ x ∈ l, q x) (d : α) (hd : q d) (i : Nat) : q (l.getD i d) := by
  rcases Nat.lt_or_ge i l.length with h1 | h1
  · rw [List.getD_eq_getElem?_getD, List.getElem?_eq_getElem h1]
    exact h _ (List.getElem_mem h1)
  · rw [List.getD_eq_getElem?_getD, List.getElem?_eq_none h1]
    exact hd
/-- A number of a kind. -/
theorem sh_num {P : Program} {t : TypeId} {k : IntKind} (ht : P.underlying t = some (.int k)) {n : Nat} {ps : List PV} (h : Sh P n t ps) : ∃ m, ps = [.av (.int k m)] ∧ (Lit.int k m).wf = true := by
  cases n with
  | zero => exact h.elim
  | succ n => simpa only [Sh, ht] using h
theorem sh_bool {P : Program} {t : TypeId} (ht : P.underlying t = some .bool) {n : Nat} {ps : List PV} (h : Sh P n t ps) : ∃ b, ps = [bv b] := by
  cases n with
  | zero => exact h.elim
  | succ n => simpa only [Sh, ht] using h
theorem sh_str {P : Program} {t : TypeId} (ht : P.underlying t = some .string) {n : Nat} {ps : List PV} (h : Sh P n t ps) : ∃ s : ByteArray, ps = [.av (.string s)] ∧ s.size ≤ maxLen := by
  cases n with
  | zero => exact h.elim
  | succ n => simpa only [Sh, ht] using h
theorem sh_float {P : Program} {t : TypeId} {k : FloatKind} (ht : P.underlying t = some (.float k)) {n : Nat} {ps : List PV} (h : Sh P n t ps) : ∃ b, ps = [.av (.float k b)] ∧ (Lit.float k b).wf = true := by
  cases n with
  | zero => exact h.elim
  | succ n => simpa only [Sh, ht] using h
/-- A slice of elements that are told. -/
theorem sh_list {P : Program} {t e : TypeId} (ht : P.underlying t = some (.slice e)) {α : Type} {g : α → List PV} {q : α → Prop} {n : Nat} {ps : List PV} (h : Sh P n t ps) (hg : ∀ m es, m < n → Sh P m e es → ∃ x, es = g x ∧ q x) :
    ∃ l : List α, ps = [.ssl (l.flatMap g) 0 l.length] ∧ (∀ x ∈ l, q x) ∧ l.length ≤ maxLen ∧ l.length * P.bytesOf e ≤ reachBytes := by
  cases n with
  | zero => exact h.elim
  | succ n =>
    simp only [Sh, ht] at h
    obtain ⟨ess, rfl, h1, h2, h3⟩ := h
    obtain ⟨l, rfl, hl⟩ := list_of fun es hes => hg n es (Nat.lt_succ_self _) (h3 es hes)
    rw [List.length_map] at h1 h2
    refine ⟨l, by rw [flat_of, List.length_map], hl, h1, h2⟩
theorem sh_ints {P : Program} {t e : TypeId} (ht : P.underlying t = some (.slice e)) (he : P.underlying e = some (.int .i64)) {n : Nat} {ps : List PV} (h : Sh P n t ps) :
    ∃ l : List Int, ps = [.ssl (ints l) 0 l.length] ∧ (∀ m ∈ l, (Lit.int .i64 m).wf = true) ∧ l.length ≤ maxLen ∧ l.length * P.bytesOf e ≤ reachBytes := by
  obtain ⟨l, h1, h2, h3, h4⟩ := sh_list (g := fun m => [iv m]) (q := fun m => (Lit.int .i64 m).wf = true) ht h fun m es _ hs => by
    obtain ⟨x, h1, h2⟩ := sh_num he hs
    exact ⟨x, h1, h2⟩
  exact ⟨l, h1, h2, h3, h4⟩
theorem sh_rows {P : Program} {t e k : TypeId} (ht : P.underlying t = some (.slice e)) (he : P.underlying e = some (.slice k)) (hk : P.underlying k = some (.int .i64)) {n : Nat} {ps : List PV} (h : Sh P n t ps) :
    ∃ T : List (List Int), ps = [.ssl (rows T) 0 T.length] ∧ (∀ l ∈ T, (∀ m ∈ l, (Lit.int .i64 m).wf = true) ∧ l.length * P.bytesOf k ≤ reachBytes) ∧ T.length ≤ maxLen := by
  obtain ⟨l, h1, h2, h3, _⟩ := sh_list (g := fun l : List Int => [.ssl (ints l) 0 l.length]) (q := fun l => (∀ m ∈ l, (Lit.int .i64 m).wf = true) ∧ l.length * P.bytesOf k ≤ reachBytes) ht h fun m es _ hs => by
    obtain ⟨x, h1, h2, _, h3⟩ := sh_ints he hk hs
    exact ⟨x, h1, h2, h3⟩
  exact ⟨l, h1, h2, h3⟩
theorem pvws_ints (l : List Int) : pvws (ints l) = l.length := by
  induction l with
  | nil => rfl
  | cons a l ih =>
    rw [ints_map] at ih ⊢
    rw [List.map_cons, pvws, ih, List.length_cons, pvw]
    · omega
    all_goals intros; simp_all
theorem pvws_rows : ∀ T : List (List Int), pvws (rows T) = (T.map List.length).sum + T.length
  | [] => rfl
  | l :: T => by
    have ih := pvws_rows T
    rw [rows_map] at ih ⊢
    rw [List.map_cons, pvws, ih, pvw, pvws_ints, List.map_cons, List.sum_cons, List.length_cons]
    omega
end Go.Proofs.Ytfoiadlaekknpaa.Pm
namespace Go.Proofs.Ytfoiadlaekknpaa.Pm
open Go Co

theorem byteAt_bd (b : ByteArray) (i : Nat) : 0 ≤ byteAt b i ∧ byteAt b i ≤ 255 := by unfold byteAt; have := (b.data.toList.getD i 0).toNat_lt; omega
theorem bit_end (b : ByteArray) (f : Bool) (hb : b.size ≤ 140737488355328) (a : Int) (ha : a = ((8 * b.size : Nat) : Int)) : PC Try.prog 34 [(.opt 0 0)] [some (46, [(sv b), (iv a), (bv f)])] (iv 0) [some (46, [(sv b), (iv a), (bv true)])] := by
  refine pc_intro Try.func34 rfl (by kernel_rfl) (Nat.le_of_ble_eq_true rfl) (by kernel_rfl) (l0 := [ps 0 (.opt 0 0), pb 0 46 [(sv b), (iv a), (bv f)]]) rfl (fun c0 Bor hc0 => ?_)
  refine T_seq ?_
  refine T_region [] [ks 0, kb 0] (fun _ => mixed) (l' := [ps 0 (.opt 0 0), pb 0 46 [(sv b), (iv a), (bv f)]]) (obs := []) (by kernel_rfl) (obs_nil) ?_
  refine T_seq ?_
  refine T_seq ?_
  refine T_regionD [] [[], [0], [0, 1], [0, 1, 2], [], [4], [4, 5], [4, 5, 6], [4, 5, 6, 7], [4, 5, 6, 7, 8], [0, 1, 2, 3, 4, 5, 6, 7, 8, 9]] [([8], [0]), ([10], [8]), ([12], [10]), ([14], [1, 12]), ([16], [0]), ([18], [16]), ([20], [18]), ([22], [1, 20]), ([24], [22]), ([26], [24]), ([28], [14, 26])] [ks 0, ks 14, kb 0] (l' := [ps 0 (.opt 0 0), ps 14 (bv (decide (a = (8 * (((b).size : Nat) : Int))))), pb 0 46 [(sv b), (iv a), (bv f)]]) (obs := [InK .i64 (8 * (((b).size : Nat) : Int))]) mixed (by kernel_rfl) (by kernel_rfl) (obs_cons (p := InK .i64 (8 * (((b).size : Nat) : Int))) (by simp only [InK]; omega) (obs_nil)) ?_
  by_cases h1 : a = (8 * (((b).size : Nat) : Int))
  · refine T_then (b := (decide (a = (8 * (((b).size : Nat) : Int))))) rfl (decide_eq_true h1) ?_
    refine T_seq ?_
    refine T_region [] [kb 0] (fun _ => mixed) (l' := [pb 0 46 [(sv b), (iv a), (bv true)]]) (obs := []) (by kernel_rfl) (obs_nil) ?_
    refine T_seq ?_
    refine T_region [] [ks 2, kb 0] (fun _ => mixed) (l' := [ps 2 (iv 0), pb 0 46 [(sv b), (iv a), (bv true)]]) (obs := []) (by kernel_rfl) (obs_nil) ?_
    exact T_ret fun cx_ a_ hI_ => ret_ok (H' := [some (46, [(sv b), (iv a), (bv true)])]) (.inr rfl) (Wk.ren2 [ps 2 (iv 0), pb 0 46 [(sv b), (iv a), (bv true)]] 1 hc0 [0] rfl rfl (by kernel_rfl) (by kernel_rfl)) rfl (obs_cons rfl (obs_nil)) (fun cx_ a_ hI_ => ret_res (l' := [ps 2 (iv 0), pb 0 46 [(sv b), (iv a), (bv true)]]) (by kernel_rfl) cx_ a_ hI_) hI_
  · exfalso; omega
theorem bit_go (b : ByteArray) (f : Bool) (hb : b.size ≤ 140737488355328) (a : Int) (h0 : 0 ≤ a) (ha : a < ((8 * b.size : Nat) : Int)) (x : Int) (hx : IntKind.wrap .i64 (BitVec.ofInt (IntKind.bits .i64) ((byteAt b (a.tdiv 8).toNat).fdiv (2 ^ (7 - a.tmod 8).toNat)) &&& BitVec.ofInt (IntKind.bits .i64) 1).toNat = x) : PC Try.prog 34 [(.opt 0 0)] [some (46, [(sv b), (iv a), (bv f)])] (iv x) [some (46, [(sv b), (iv (a + 1)), (bv f)])] := by
  have q1 : a.tdiv 8 = a / 8 := Int.tdiv_eq_ediv_of_nonneg h0
  have q2 : a.tmod 8 = a % 8 := Int.tmod_eq_emod_of_nonneg h0
  have q3 := byteAt_bd b (a.tdiv 8).toNat
  refine pc_intro Try.func34 rfl (by kernel_rfl) (Nat.le_of_ble_eq_true rfl) (by kernel_rfl) (l0 := [ps 0 (.opt 0 0), pb 0 46 [(sv b), (iv a), (bv f)]]) rfl (fun c0 Bor hc0 => ?_)
  refine T_seq ?_
  refine T_region [] [ks 0, kb 0] (fun _ => mixed) (l' := [ps 0 (.opt 0 0), pb 0 46 [(sv b), (iv a), (bv f)]]) (obs := []) (by kernel_rfl) (obs_nil) ?_
  refine T_seq ?_
  refine T_seq ?_
  refine T_regionD [] [[], [0], [0, 1], [0, 1, 2], [], [4], [4, 5], [4, 5, 6], [4, 5, 6, 7], [4, 5, 6, 7, 8], [0, 1, 2, 3, 4, 5, 6, 7, 8, 9]] [([8], [0]), ([10], [8]), ([12], [10]), ([14], [1, 12]), ([16], [0]), ([18], [16]), ([20], [18]), ([22], [1, 20]), ([24], [22]), ([26], [24]), ([28], [14, 26])] [ks 0, ks 14, kb 0] (l' := [ps 0 (.opt 0 0), ps 14 (bv (decide (a = (8 * (((b).size : Nat) : Int))))), pb 0 46 [(sv b), (iv a), (bv f)]]) (obs := [InK .i64 (8 * (((b).size : Nat) : Int))]) mixed (by kernel_rfl) (by kernel_rfl) (obs_cons (p := InK .i64 (8 * (((b).size : Nat) : Int))) (by simp only [InK]; omega) (obs_nil)) ?_
  by_cases h1 : a = (8 * (((b).size : Nat) : Int))
  · exfalso; omega
  · refine T_else (b := (decide (a = (8 * (((b).size : Nat) : Int))))) rfl (decide_eq_false h1) ?_
    refine T_skip ?_
    refine T_seq ?_
    refine T_regionD [] [[], [0], [0, 1], [0, 1, 2], [], [4], [4, 5], [4, 5, 6], [4, 5, 6, 7], [0, 1, 2, 3, 4, 5, 6, 7, 8], [0, 1, 2, 3, 4, 5, 6, 7, 8, 9], [], [11], [11, 12], [11, 12, 13], [11, 12, 13, 14], [11, 12, 13, 14, 15], [0, 1, 2, 3, 4, 5, 6, 7, 8, 9, 10, 11, 12, 13, 14, 15, 16], [0, 1, 2, 3, 4, 5, 6, 7, 8, 9, 10, 11, 12, 13, 14, 15, 16, 17], [0, 1, 2, 3, 4, 5, 6, 7, 8, 9, 10, 11, 12, 13, 14, 15, 16, 17, 18]] [([36], [0]), ([38], [36]), ([40], [38]), ([42], [1, 40]), ([44], [0]), ([46], [44]), ([48], [46]), ([50], [1, 48]), ([52], [50]), ([54], [42, 52]), ([56], [54]), ([58], [0]), ([60], [58]), ([62], [60]), ([64], [1, 62]), ([66], [64]), ([68], [66]), ([70], [56, 68]), ([72], [70]), ([6], [72])] [ks 0, ks 3, kb 0] (l' := [ps 0 (.opt 0 0), ps 3 (iv (IntKind.wrap .i64 (BitVec.ofInt (IntKind.bits .i64) (((byteAt b (((a).tdiv 8) : Int).toNat)).fdiv (2 ^ ((7 - ((a).tmod 8)) : Int).toNat)) &&& BitVec.ofInt (IntKind.bits .i64) 1).toNat)), pb 0 46 [(sv b), (iv a), (bv f)]]) (obs := [8 ≠ (0 : Int), InK .i64 ((a).tdiv 8), (0 : Int) ≤ ((a).tdiv 8) ∧ ((a).tdiv 8) < (((b).size : Nat) : Int), InK .i64 (byteAt b (((a).tdiv 8) : Int).toNat), 8 ≠ (0 : Int), InK .i64 (7 - ((a).tmod 8)), (0 : Int) ≤ (7 - ((a).tmod 8)) ∧ (7 - ((a).tmod 8)) ≤ ((IntKind.bits .i64 : Nat) : Int)]) mixed (by kernel_rfl) (by kernel_rfl) (obs_cons (p := 8 ≠ (0 : Int)) (by decide) (obs_cons (p := InK .i64 ((a).tdiv 8)) (by simp only [InK]; omega) (obs_cons (p := (0 : Int) ≤ ((a).tdiv 8) ∧ ((a).tdiv 8) < (((b).size : Nat) : Int)) (by omega) (obs_cons (p := InK .i64 (byteAt b (((a).tdiv 8) : Int).toNat)) (by simp only [InK]; omega) (obs_cons (p := 8 ≠ (0 : Int)) (by decide) (obs_cons (p := InK .i64 (7 - ((a).tmod 8))) (by simp only [InK]; omega) (obs_cons (p := (0 : Int) ≤ (7 - ((a).tmod 8)) ∧ (7 - ((a).tmod 8)) ≤ ((IntKind.bits .i64 : Nat) : Int)) (by simp only [IntKind.bits]; omega) (obs_nil)))))))) ?_
    refine T_seq ?_
    refine T_region [] [ks 3, kb 0] (fun _ => mixed) (l' := [ps 3 (iv (IntKind.wrap .i64 (BitVec.ofInt (IntKind.bits .i64) (((byteAt b (((a).tdiv 8) : Int).toNat)).fdiv (2 ^ ((7 - ((a).tmod 8)) : Int).toNat)) &&& BitVec.ofInt (IntKind.bits .i64) 1).toNat)), pb 0 46 [(sv b), (iv (a + 1)), (bv f)]]) (obs := [InK .i64 (a + 1)]) (by kernel_rfl) (obs_cons (p := InK .i64 (a + 1)) (by simp only [InK]; omega) (obs_nil)) ?_
    refine T_seq ?_
    refine T_region [] [ks 2, kb 0] (fun _ => mixed) (l' := [ps 2 (iv (IntKind.wrap .i64 (BitVec.ofInt (IntKind.bits .i64) (((byteAt b (((a).tdiv 8) : Int).toNat)).fdiv (2 ^ ((7 - ((a).tmod 8)) : Int).toNat)) &&& BitVec.ofInt (IntKind.bits .i64) 1).toNat)), pb 0 46 [(sv b), (iv (a + 1)), (bv f)]]) (obs := []) (by kernel_rfl) (obs_nil) ?_
    rw [← hx]
    exact T_ret fun cx_ a_ hI_ => ret_ok (H' := [some (46, [(sv b), (iv (a + 1)), (bv f)])]) (.inr rfl) (Wk.ren2 [ps 2 (iv (IntKind.wrap .i64 (BitVec.ofInt (IntKind.bits .i64) (((byteAt b (((a).tdiv 8) : Int).toNat)).fdiv (2 ^ ((7 - ((a).tmod 8)) : Int).toNat)) &&& BitVec.ofInt (IntKind.bits .i64) 1).toNat)), pb 0 46 [(sv b), (iv (a + 1)), (bv f)]] 1 hc0 [0] rfl rfl (by kernel_rfl) (by kernel_rfl)) rfl (obs_cons rfl (obs_nil)) (fun cx_ a_ hI_ => ret_res (l' := [ps 2 (iv (IntKind.wrap .i64 (BitVec.ofInt (IntKind.bits .i64) (((byteAt b (((a).tdiv 8) : Int).toNat)).fdiv (2 ^ ((7 - ((a).tmod 8)) : Int).toNat)) &&& BitVec.ofInt (IntKind.bits .i64) 1).toNat)), pb 0 46 [(sv b), (iv (a + 1)), (bv f)]]) (by kernel_rfl) cx_ a_ hI_) hI_
abbrev RdH (b : ByteArray) (s : Rs) : Hp := [some (46, [.av (.string b), iv (posI b s.1), bv s.2])]
theorem bit_pc (b : ByteArray) (hb : b.size ≤ 140737488355328) (s : Rs) (hs : s.1 <:+ bitsB b) : PC Try.prog 34 [.opt 0 0] (RdH b s) (iv (rb s).1) (RdH b (rb s).2) := by
  rcases s with ⟨_ | ⟨x, D⟩, f⟩
  · exact bit_end b f hb _ (by unfold posI; simp)
  · have hl := suf_len hs
    have hp : posI b (x :: D) = ((8 * b.size : Nat) : Int) - ((D.length + 1 : Nat) : Int) := rfl
    have e : posI b D = posI b (x :: D) + 1 := by rw [hp]; unfold posI; omega
    have h1 := bit_go b f hb (posI b (x :: D)) (by rw [hp]; rw [List.length_cons] at hl; omega) (by rw [hp]; omega) (bi x) (bit_at hs)
    show PC Try.prog 34 [.opt 0 0] (RdH b (x :: D, f)) (iv (bi x)) [some (46, [.av (.string b), iv (posI b D), bv f])]
    rw [e]
    exact h1
end Go.Proofs.Ytfoiadlaekknpaa.Pm
namespace Go.Proofs.Ytfoiadlaekknpaa.Pm
open Go Co

theorem num_next {b : ByteArray} {k i : Nat} {a : Int} {t : Rs} {r : Int × Rs} (hk : k ≤ 24) (hi : i < k) (hs : t.1 <:+ bitsB b) (h0 : 0 ≤ a) (ha : a < 2 ^ i) (hr : rnum (k - i) a t = r) :
    i + 1 ≤ k ∧ (rb t).2.1 <:+ bitsB b ∧ 0 ≤ 2 * a + (rb t).1 ∧ 2 * a + (rb t).1 < 2 ^ (i + 1) ∧ 2 * a + (rb t).1 < 16777216 ∧ rnum (k - (i + 1)) (2 * a + (rb t).1) (rb t).2 = r := by
  have h1 := rb_01 t
  have h2 : (2 : Int) ^ (i + 1) = 2 * 2 ^ i := by rw [Int.pow_succ]; omega
  have h3 : (2 : Int) ^ (i + 1) ≤ 2 ^ 24 := by
    have := Nat.pow_le_pow_right (n := 2) (by omega) (show i + 1 ≤ 24 by omega)
    exact_mod_cast this
  refine ⟨by omega, rb_suf hs, by omega, by omega, by omega, ?_⟩
  rw [← hr, show k - i = (k - (i + 1)) + 1 by omega, rnum]
theorem number_pc (b : ByteArray) (hb : b.size ≤ 140737488355328) (k : Nat) (hk : k ≤ 24) (s : Rs) (hs : s.1 <:+ bitsB b) : PC Try.prog 20 [(.opt 0 0), (iv ((k : Nat) : Int))] [some (46, [(sv b), (iv (posI b s.1)), (bv s.2)])] (iv ((rnum k 0 s).1)) [some (46, [(sv b), (iv (posI b (rnum k 0 s).2.1)), (bv (rnum k 0 s).2.2)])] := by
  refine pc_intro Try.func20 rfl (by kernel_rfl) (Nat.le_of_ble_eq_true rfl) (by kernel_rfl) (l0 := [ps 0 (.opt 0 0), ps 1 (iv ((k : Nat) : Int)), pb 0 46 [(sv b), (iv (posI b s.1)), (bv s.2)]]) rfl (fun c0 Bor hc0 => ?_)
  refine T_seq ?_
  refine T_region [] [ks 0, ks 1, kb 0] (fun _ => mixed) (l' := [ps 0 (.opt 0 0), ps 1 (iv ((k : Nat) : Int)), pb 0 46 [(sv b), (iv (posI b s.1)), (bv s.2)]]) (obs := []) (by kernel_rfl) (obs_nil) ?_
  refine T_seq ?_
  refine T_region [] [ks 0, ks 1, ks 5, kb 0] (fun _ => mixed) (l' := [ps 0 (.opt 0 0), ps 1 (iv ((k : Nat) : Int)), ps 5 (iv 0), pb 0 46 [(sv b), (iv (posI b s.1)), (bv s.2)]]) (obs := []) (by kernel_rfl) (obs_nil) ?_
  refine T_seq ?_
  refine T_seq ?_
  refine T_region [] [ks 0, ks 5, ks 6, ks 7, kb 0] (fun _ => mixed) (l' := [ps 0 (.opt 0 0), ps 5 (iv 0), ps 6 (iv ((k : Nat) : Int)), ps 7 (iv 0), pb 0 46 [(sv b), (iv (posI b s.1)), (bv s.2)]]) (obs := []) (by kernel_rfl) (obs_nil) ?_
  refine T_block ?_
  refine T_loop (α := {x : Nat × Int × Rs // x.1 ≤ k ∧ x.2.2.1 <:+ bitsB b ∧ 0 ≤ x.2.1 ∧ x.2.1 < 2 ^ x.1 ∧ x.2.1 < 16777216 ∧ rnum (k - x.1) x.2.1 x.2.2 = rnum k 0 s}) (fun x => [ps 0 (.opt 0 0), ps 5 (iv x.1.2.1), ps 6 (iv ((k : Nat) : Int)), ps 7 (iv ((x.1.1 : Nat) : Int)), pb 0 46 [(sv b), (iv (posI b x.1.2.2.1)), (bv x.1.2.2.2)]]) (fun x => k - x.1.1) 1 ⟨(0, 0, s), ⟨Nat.zero_le _, hs, Int.le_refl _, by simp, by show (0 : Int) < 16777216; omega, rfl⟩⟩ (Wk.ren2 [ps 0 (.opt 0 0), ps 5 (iv (0 : Int)), ps 6 (iv ((k : Nat) : Int)), ps 7 (iv ((0 : Nat) : Int)), pb 0 46 [(sv b), (iv (posI b s.1)), (bv s.2)]] 1 hc0 [0] rfl rfl (by kernel_rfl) (by kernel_rfl)) ?_
  rintro ⟨⟨i, a, t⟩, ⟨hi, hs, h0, ha, hA, hr⟩⟩
  dsimp only at hi hs h0 ha hA hr
  refine T_seq ?_
  refine T_region [] [ks 0, ks 5, ks 6, ks 7, ks 8, kb 0] (fun _ => mixed) (l' := [ps 0 (.opt 0 0), ps 5 (iv a), ps 6 (iv ((k : Nat) : Int)), ps 7 (iv ((i : Nat) : Int)), ps 8 (bv (decide (((i : Nat) : Int) < ((k : Nat) : Int)))), pb 0 46 [(sv b), (iv (posI b t.1)), (bv t.2)]]) (obs := []) (by kernel_rfl) (obs_nil) ?_
  refine T_seq ?_
  by_cases h1 : ((i : Nat) : Int) < ((k : Nat) : Int)
  · refine T_then (b := (decide (((i : Nat) : Int) < ((k : Nat) : Int)))) rfl (decide_eq_true h1) ?_
    refine T_skip ?_
    refine T_seq ?_
    refine T_block ?_
    refine T_region [(3, .call [0] [(.opt 0 0)] [some (46, [(sv b), (iv (posI b t.1)), (bv t.2)])] (iv ((rb t).1)) [some (46, [(sv b), (iv (posI b (rb t).2.1)), (bv (rb t).2.2)])])] [ks 0, ks 5, ks 6, ks 7, kb 0] (fun _ => mixed) (l' := [ps 0 (.opt 0 0), ps 5 (iv (IntKind.wrap .i64 (BitVec.ofInt (IntKind.bits .i64) (a * 2 ^ (1 : Int).toNat) ||| BitVec.ofInt (IntKind.bits .i64) ((rb t).1)).toNat)), ps 6 (iv ((k : Nat) : Int)), ps 7 (iv ((i : Nat) : Int)), pb 0 46 [(sv b), (iv (posI b (rb t).2.1)), (bv (rb t).2.2)]]) (obs := [(0 : Int) ≤ 1 ∧ 1 ≤ ((IntKind.bits .i64 : Nat) : Int), InK .i64 (a * 2 ^ (1 : Int).toNat), PC Try.prog 34 [(.opt 0 0)] [some (46, [(sv b), (iv (posI b t.1)), (bv t.2)])] (iv ((rb t).1)) [some (46, [(sv b), (iv (posI b (rb t).2.1)), (bv (rb t).2.2)])], [(.opt 0 0)] = renL (sigi [0] 33) [(.opt 0 0)], [(sv b), (iv (posI b t.1)), (bv t.2)] = renL (sigi [0] 33) [(sv b), (iv (posI b t.1)), (bv t.2)]]) (by kernel_rfl) (obs_cons (p := (0 : Int) ≤ 1 ∧ 1 ≤ ((IntKind.bits .i64 : Nat) : Int)) (by simp only [IntKind.bits]; omega) (obs_cons (p := InK .i64 (a * 2 ^ (1 : Int).toNat)) (by rw [show (2 : Int) ^ (1 : Int).toNat = 2 from rfl]; simp only [InK]; omega) (obs_cons (p := PC Try.prog 34 [(.opt 0 0)] [some (46, [(sv b), (iv (posI b t.1)), (bv t.2)])] (iv ((rb t).1)) [some (46, [(sv b), (iv (posI b (rb t).2.1)), (bv (rb t).2.2)])]) (bit_pc b hb t hs) (obs_cons (p := [(.opt 0 0)] = renL (sigi [0] 33) [(.opt 0 0)]) rfl (obs_cons (p := [(sv b), (iv (posI b t.1)), (bv t.2)] = renL (sigi [0] 33) [(sv b), (iv (posI b t.1)), (bv t.2)]) rfl (obs_nil)))))) ?_
    refine T_blk ?_
    refine T_region [] [ks 0, ks 5, ks 6, ks 7, kb 0] (fun _ => mixed) (l' := [ps 0 (.opt 0 0), ps 5 (iv (IntKind.wrap .i64 (BitVec.ofInt (IntKind.bits .i64) (a * 2 ^ (1 : Int).toNat) ||| BitVec.ofInt (IntKind.bits .i64) ((rb t).1)).toNat)), ps 6 (iv ((k : Nat) : Int)), ps 7 (iv (((i : Nat) : Int) + 1)), pb 0 46 [(sv b), (iv (posI b (rb t).2.1)), (bv (rb t).2.2)]]) (obs := [InK .i64 (((i : Nat) : Int) + 1)]) (by kernel_rfl) (obs_cons (p := InK .i64 (((i : Nat) : Int) + 1)) (by simp only [InK]; omega) (obs_nil)) ?_
    exact T_back ⟨(i + 1, 2 * a + (rb t).1, (rb t).2), num_next hk (by omega) hs h0 ha hr⟩ (Wk.trans (Wk.eq (show [ps 0 (.opt 0 0), ps 5 (iv (IntKind.wrap .i64 (BitVec.ofInt (IntKind.bits .i64) (a * 2 ^ (1 : Int).toNat) ||| BitVec.ofInt (IntKind.bits .i64) ((rb t).1)).toNat)), ps 6 (iv ((k : Nat) : Int)), ps 7 (iv (((i : Nat) : Int) + 1)), pb 0 46 [(sv b), (iv (posI b (rb t).2.1)), (bv (rb t).2.2)]] = [ps 0 (.opt 0 0), ps 5 (iv (2 * a + (rb t).1)), ps 6 (iv ((k : Nat) : Int)), ps 7 (iv (((i : Nat) : Int) + 1)), pb 0 46 [(sv b), (iv (posI b (rb t).2.1)), (bv (rb t).2.2)]] from by rw [or_rb a t h0 (by omega)])) (Wk.ren2 [ps 0 (.opt 0 0), ps 5 (iv (2 * a + (rb t).1)), ps 6 (iv ((k : Nat) : Int)), ps 7 (iv (((i + 1) : Nat) : Int)), pb 0 46 [(sv b), (iv (posI b ((rb t).2).1)), (bv ((rb t).2).2)]] 1 hc0 [0] rfl rfl (by kernel_rfl) (by kernel_rfl))) (show k - (i + 1) < k - i from by show k - (i + 1) < k - i; omega)
  · refine T_else (b := (decide (((i : Nat) : Int) < ((k : Nat) : Int)))) rfl (decide_eq_false h1) ?_
    refine T_break rfl rfl ?_
    refine T_seq ?_
    refine T_region [] [ks 4, kb 0] (fun _ => mixed) (l' := [ps 4 (iv a), pb 0 46 [(sv b), (iv (posI b t.1)), (bv t.2)]]) (obs := []) (by kernel_rfl) (obs_nil) ?_
    obtain rfl : i = k := by omega
    rw [Nat.sub_self, rnum] at hr
    rw [← hr]
    exact T_ret fun cx_ a_ hI_ => ret_ok (H' := [some (46, [(sv b), (iv (posI b t.1)), (bv t.2)])]) (.inr rfl) (Wk.ren2 [ps 4 (iv a), pb 0 46 [(sv b), (iv (posI b t.1)), (bv t.2)]] 1 hc0 [0] rfl rfl (by kernel_rfl) (by kernel_rfl)) rfl (obs_cons rfl (obs_nil)) (fun cx_ a_ hI_ => ret_res (l' := [ps 4 (iv a), pb 0 46 [(sv b), (iv (posI b t.1)), (bv t.2)]]) (by kernel_rfl) cx_ a_ hI_) hI_
theorem rice_next {b : ByteArray} {n : Nat} {D E : List Bool} (h : (rb (E, false)).1 = 1) (hs : E <:+ bitsB b) (hr : rones D = (n + (rones E).1, (rones E).2)) (hn : n + E.length ≤ D.length) :
    (rb (E, false)).2.1 <:+ bitsB b ∧ rones D = (n + 1 + (rones (rb (E, false)).2.1).1, (rones (rb (E, false)).2.1).2) ∧ n + 1 + (rb (E, false)).2.1.length ≤ D.length ∧ (rb (E, false)).2.1.length < E.length := by
  have h1 := rones_go h
  rw [h1.2] at hr
  have h2 : (rb (E, false)).2.1.length + 1 = E.length := by
    rcases E with _ | ⟨x, E⟩
    · exact absurd h (by decide)
    · rfl
  refine ⟨rb_suf (s := (E, false)) hs, ?_, by omega, by omega⟩
  rw [hr]; simp only [Prod.mk.injEq, and_true]; omega
theorem rice_end {n key : Nat} {D E : List Bool} (h : ¬ (rb (E, false)).1 = 1) (hr : rones D = (n + (rones E).1, (rones E).2)) : rrice key D = (riceV n key (rnum key 0 (rb (E, false)).2).1, (rnum key 0 (rb (E, false)).2).2) := by
  rw [rones_stop h] at hr
  unfold rrice; rw [hr]; rfl
theorem rice_pc (b : ByteArray) (hb : b.size ≤ 140737488355328) (key : Nat) (hk : key ≤ 15) (D : List Bool) (hs : D <:+ bitsB b) : PC Try.prog 36 [(.opt 0 0), (iv ((key : Nat) : Int))] [some (46, [(sv b), (iv (posI b D)), (bv false)])] (iv ((rrice key D).1)) [some (46, [(sv b), (iv (posI b (rrice key D).2.1)), (bv (rrice key D).2.2)])] := by
  have hDl := suf_len hs
  refine pc_intro Try.func36 rfl (by kernel_rfl) (Nat.le_of_ble_eq_true rfl) (by kernel_rfl) (l0 := [ps 0 (.opt 0 0), ps 1 (iv ((key : Nat) : Int)), pb 0 46 [(sv b), (iv (posI b D)), (bv false)]]) rfl (fun c0 Bor hc0 => ?_)
  refine T_seq ?_
  refine T_region [] [ks 0, ks 1, kb 0] (fun _ => mixed) (l' := [ps 0 (.opt 0 0), ps 1 (iv ((key : Nat) : Int)), pb 0 46 [(sv b), (iv (posI b D)), (bv false)]]) (obs := []) (by kernel_rfl) (obs_nil) ?_
  refine T_seq ?_
  refine T_region [] [ks 0, ks 1, ks 5, kb 0] (fun _ => mixed) (l' := [ps 0 (.opt 0 0), ps 1 (iv ((key : Nat) : Int)), ps 5 (iv 0), pb 0 46 [(sv b), (iv (posI b D)), (bv false)]]) (obs := []) (by kernel_rfl) (obs_nil) ?_
  refine T_seq ?_
  refine T_block ?_
  refine T_loop (α := {x : Nat × List Bool // x.2 <:+ bitsB b ∧ rones D = (x.1 + (rones x.2).1, (rones x.2).2) ∧ x.1 + x.2.length ≤ D.length}) (fun x => [ps 0 (.opt 0 0), ps 1 (iv ((key : Nat) : Int)), ps 5 (iv ((x.1.1 : Nat) : Int)), pb 0 46 [(sv b), (iv (posI b x.1.2)), (bv false)]]) (fun x => x.1.2.length) 1 ⟨(0, D), ⟨hs, by show rones D = (0 + (rones D).1, (rones D).2); rw [Nat.zero_add], by show 0 + D.length ≤ D.length; omega⟩⟩ (Wk.ren2 [ps 0 (.opt 0 0), ps 1 (iv ((key : Nat) : Int)), ps 5 (iv ((0 : Nat) : Int)), pb 0 46 [(sv b), (iv (posI b D)), (bv false)]] 1 hc0 [0] rfl rfl (by kernel_rfl) (by kernel_rfl)) ?_
  rintro ⟨⟨n, E⟩, ⟨hs, hr, hn⟩⟩
  dsimp only at hs hr hn
  refine T_seq ?_
  refine T_seq ?_
  refine T_region [(6, .gd true (.no)), (7, .gd true (.call [0] [(.opt 0 0)] [some (46, [(sv b), (iv (posI b E)), (bv false)])] (iv ((rb (E, false)).1)) [some (46, [(sv b), (iv (posI b (rb (E, false)).2.1)), (bv (rb (E, false)).2.2)])])), (8, .gd true (.no))] [ks 0, ks 1, ks 5, ks 15, kb 0] (fun _ => mixed) (l' := [ps 0 (.opt 0 0), ps 1 (iv ((key : Nat) : Int)), ps 5 (iv ((n : Nat) : Int)), ps 15 (bv (decide (((rb (E, false)).1) = 1))), pb 0 46 [(sv b), (iv (posI b (rb (E, false)).2.1)), (bv (rb (E, false)).2.2)]]) (obs := [true = true, true = true, PC Try.prog 34 [(.opt 0 0)] [some (46, [(sv b), (iv (posI b E)), (bv false)])] (iv ((rb (E, false)).1)) [some (46, [(sv b), (iv (posI b (rb (E, false)).2.1)), (bv (rb (E, false)).2.2)])], [(.opt 0 0)] = renL (sigi [0] 57) [(.opt 0 0)], [(sv b), (iv (posI b E)), (bv false)] = renL (sigi [0] 57) [(sv b), (iv (posI b E)), (bv false)], true = true]) (by kernel_rfl) (obs_cons (p := true = true) rfl (obs_cons (p := true = true) rfl (obs_cons (p := PC Try.prog 34 [(.opt 0 0)] [some (46, [(sv b), (iv (posI b E)), (bv false)])] (iv ((rb (E, false)).1)) [some (46, [(sv b), (iv (posI b (rb (E, false)).2.1)), (bv (rb (E, false)).2.2)])]) (bit_pc b hb (E, false) hs) (obs_cons (p := [(.opt 0 0)] = renL (sigi [0] 57) [(.opt 0 0)]) rfl (obs_cons (p := [(sv b), (iv (posI b E)), (bv false)] = renL (sigi [0] 57) [(sv b), (iv (posI b E)), (bv false)]) rfl (obs_cons (p := true = true) rfl (obs_nil))))))) ?_
  by_cases h1 : ((rb (E, false)).1) = 1
  · refine T_then (b := (decide (((rb (E, false)).1) = 1))) rfl (decide_eq_true h1) ?_
    refine T_skip ?_
    refine T_block ?_
    refine T_region [] [ks 0, ks 1, ks 5, kb 0] (fun _ => mixed) (l' := [ps 0 (.opt 0 0), ps 1 (iv ((key : Nat) : Int)), ps 5 (iv (((n : Nat) : Int) + 1)), pb 0 46 [(sv b), (iv (posI b (rb (E, false)).2.1)), (bv (rb (E, false)).2.2)]]) (obs := [InK .i64 (((n : Nat) : Int) + 1)]) (by kernel_rfl) (obs_cons (p := InK .i64 (((n : Nat) : Int) + 1)) (by simp only [InK]; omega) (obs_nil)) ?_
    refine T_blk ?_
    have hq := rice_next h1 hs hr hn
    exact T_back ⟨(n + 1, (rb (E, false)).2.1), ⟨hq.1, hq.2.1, hq.2.2.1⟩⟩ (Wk.trans (Wk.eq (show [ps 0 (.opt 0 0), ps 1 (iv ((key : Nat) : Int)), ps 5 (iv (((n : Nat) : Int) + 1)), pb 0 46 [(sv b), (iv (posI b (rb (E, false)).2.1)), (bv (rb (E, false)).2.2)]] = [ps 0 (.opt 0 0), ps 1 (iv ((key : Nat) : Int)), ps 5 (iv (((n : Nat) : Int) + 1)), pb 0 46 [(sv b), (iv (posI b (rb (E, false)).2.1)), (bv false)]] from by rw [(rones_go h1).1])) (Wk.ren2 [ps 0 (.opt 0 0), ps 1 (iv ((key : Nat) : Int)), ps 5 (iv (((n + 1) : Nat) : Int)), pb 0 46 [(sv b), (iv (posI b ((rb (E, false)).2.1))), (bv false)]] 1 hc0 [0] rfl rfl (by kernel_rfl) (by kernel_rfl))) (show ((rb (E, false)).2.1).length < E.length from hq.2.2.2)
  · refine T_else (b := (decide (((rb (E, false)).1) = 1))) rfl (decide_eq_false h1) ?_
    refine T_break rfl rfl ?_
    refine T_seq ?_
    refine T_regionD [(2, .wrap), (5, .call [0] [(.opt 0 0), (iv ((key : Nat) : Int))] [some (46, [(sv b), (iv (posI b (rb (E, false)).2.1)), (bv (rb (E, false)).2.2)])] (iv ((rnum key 0 (rb (E, false)).2).1)) [some (46, [(sv b), (iv (posI b (rnum key 0 (rb (E, false)).2).2.1)), (bv (rnum key 0 (rb (E, false)).2).2.2)])])] [[], [], [0, 1], [], [], [3, 4], [0, 1, 2, 3, 4, 5], [0, 1, 2, 3, 4, 5, 6]] [([36], [10]), ([38], [2]), ([40], [36, 38]), ([42], [0]), ([44], [2]), ([46, 1], [1, 42, 44]), ([48], [40, 46]), ([8], [48])] [ks 4, kb 0] (l' := [ps 4 (iv (IntKind.wrap .i64 (BitVec.ofInt (IntKind.bits .i64) (IntKind.wrap .i64 (((n : Nat) : Int) * 2 ^ (((key : Nat) : Int) : Int).toNat)) ||| BitVec.ofInt (IntKind.bits .i64) ((rnum key 0 (rb (E, false)).2).1)).toNat)), pb 0 46 [(sv b), (iv (posI b (rnum key 0 (rb (E, false)).2).2.1)), (bv (rnum key 0 (rb (E, false)).2).2.2)]]) (obs := [(0 : Int) ≤ ((key : Nat) : Int) ∧ ((key : Nat) : Int) ≤ ((IntKind.bits .i64 : Nat) : Int), PC Try.prog 20 [(.opt 0 0), (iv ((key : Nat) : Int))] [some (46, [(sv b), (iv (posI b (rb (E, false)).2.1)), (bv (rb (E, false)).2.2)])] (iv ((rnum key 0 (rb (E, false)).2).1)) [some (46, [(sv b), (iv (posI b (rnum key 0 (rb (E, false)).2).2.1)), (bv (rnum key 0 (rb (E, false)).2).2.2)])], [(.opt 0 0), (iv ((key : Nat) : Int))] = renL (sigi [0] 121) [(.opt 0 0), (iv ((key : Nat) : Int))], [(sv b), (iv (posI b (rb (E, false)).2.1)), (bv (rb (E, false)).2.2)] = renL (sigi [0] 121) [(sv b), (iv (posI b (rb (E, false)).2.1)), (bv (rb (E, false)).2.2)]]) mixed (by kernel_rfl) (by kernel_rfl) (obs_cons (p := (0 : Int) ≤ ((key : Nat) : Int) ∧ ((key : Nat) : Int) ≤ ((IntKind.bits .i64 : Nat) : Int)) (by simp only [IntKind.bits]; omega) (obs_cons (p := PC Try.prog 20 [(.opt 0 0), (iv ((key : Nat) : Int))] [some (46, [(sv b), (iv (posI b (rb (E, false)).2.1)), (bv (rb (E, false)).2.2)])] (iv ((rnum key 0 (rb (E, false)).2).1)) [some (46, [(sv b), (iv (posI b (rnum key 0 (rb (E, false)).2).2.1)), (bv (rnum key 0 (rb (E, false)).2).2.2)])]) (number_pc b hb key (by omega) (rb (E, false)).2 (rb_suf (s := (E, false)) hs)) (obs_cons (p := [(.opt 0 0), (iv ((key : Nat) : Int))] = renL (sigi [0] 121) [(.opt 0 0), (iv ((key : Nat) : Int))]) rfl (obs_cons (p := [(sv b), (iv (posI b (rb (E, false)).2.1)), (bv (rb (E, false)).2.2)] = renL (sigi [0] 121) [(sv b), (iv (posI b (rb (E, false)).2.1)), (bv (rb (E, false)).2.2)]) rfl (obs_nil))))) ?_
    rw [rice_end h1 hr]
    exact T_ret fun cx_ a_ hI_ => ret_ok (H' := [some (46, [(sv b), (iv (posI b (rnum key 0 (rb (E, false)).2).2.1)), (bv (rnum key 0 (rb (E, false)).2).2.2)])]) (.inr rfl) (Wk.ren2 [ps 4 (iv (IntKind.wrap .i64 (BitVec.ofInt (IntKind.bits .i64) (IntKind.wrap .i64 (((n : Nat) : Int) * 2 ^ (((key : Nat) : Int) : Int).toNat)) ||| BitVec.ofInt (IntKind.bits .i64) ((rnum key 0 (rb (E, false)).2).1)).toNat)), pb 0 46 [(sv b), (iv (posI b (rnum key 0 (rb (E, false)).2).2.1)), (bv (rnum key 0 (rb (E, false)).2).2.2)]] 1 hc0 [0] rfl rfl (by kernel_rfl) (by kernel_rfl)) rfl (obs_cons rfl (obs_nil)) (fun cx_ a_ hI_ => ret_res (l' := [ps 4 (iv (IntKind.wrap .i64 (BitVec.ofInt (IntKind.bits .i64) (IntKind.wrap .i64 (((n : Nat) : Int) * 2 ^ (((key : Nat) : Int) : Int).toNat)) ||| BitVec.ofInt (IntKind.bits .i64) ((rnum key 0 (rb (E, false)).2).1)).toNat)), pb 0 46 [(sv b), (iv (posI b (rnum key 0 (rb (E, false)).2).2.1)), (bv (rnum key 0 (rb (E, false)).2).2.2)]]) (by kernel_rfl) cx_ a_ hI_) hI_
theorem unf_pc (n : Int) (hn1 : -9223372036854775808 ≤ n) (hn2 : n ≤ 9223372036854775807) : PC Try.prog 35 [(iv n)] [] (iv (unf n)) [] := by
  refine pc_intro Try.func35 rfl (by kernel_rfl) (Nat.le_of_ble_eq_true rfl) (by kernel_rfl) (l0 := [ps 0 (iv n)]) rfl (fun c0 Bor hc0 => ?_)
  refine T_seq ?_
  refine T_region [] [ks 0] (fun _ => mixed) (l' := [ps 0 (iv n)]) (obs := []) (by kernel_rfl) (obs_nil) ?_
  refine T_seq ?_
  refine T_seq ?_
  refine T_region [] [ks 0, ks 5] (fun _ => mixed) (l' := [ps 0 (iv n), ps 5 (bv (decide ((IntKind.wrap .i64 (BitVec.ofInt (IntKind.bits .i64) n &&& BitVec.ofInt (IntKind.bits .i64) 1).toNat) = 1)))]) (obs := []) (by kernel_rfl) (obs_nil) ?_
  by_cases h1 : (IntKind.wrap .i64 (BitVec.ofInt (IntKind.bits .i64) n &&& BitVec.ofInt (IntKind.bits .i64) 1).toNat) = 1
  · refine T_then (b := (decide ((IntKind.wrap .i64 (BitVec.ofInt (IntKind.bits .i64) n &&& BitVec.ofInt (IntKind.bits .i64) 1).toNat) = 1))) rfl (decide_eq_true h1) ?_
    refine T_seq ?_
    refine T_region [(1, .wrap), (2, .wrap), (3, .wrap)] [ks 2] (fun _ => mixed) (l' := [ps 2 (iv (IntKind.wrap .i64 (((IntKind.wrap .i64 (0 - (IntKind.wrap .i64 (n + 1))))).tdiv 2)))]) (obs := [2 ≠ (0 : Int)]) (by kernel_rfl) (obs_cons (p := 2 ≠ (0 : Int)) (by decide) (obs_nil)) ?_
    have hm := and_one n
    unfold unf; rw [if_pos (by rw [← hm]; exact h1)]
    exact T_ret fun cx_ a_ hI_ => ret_ok (H' := []) (.inr rfl) (Wk.ren2 [ps 2 (iv (IntKind.wrap .i64 (((IntKind.wrap .i64 (0 - (IntKind.wrap .i64 (n + 1))))).tdiv 2)))] 0 hc0 [] rfl rfl (by kernel_rfl) (by kernel_rfl)) rfl (obs_nil) (fun cx_ a_ hI_ => ret_res (l' := [ps 2 (iv (IntKind.wrap .i64 (((IntKind.wrap .i64 (0 - (IntKind.wrap .i64 (n + 1))))).tdiv 2)))]) (by kernel_rfl) cx_ a_ hI_) hI_
  · refine T_else (b := (decide ((IntKind.wrap .i64 (BitVec.ofInt (IntKind.bits .i64) n &&& BitVec.ofInt (IntKind.bits .i64) 1).toNat) = 1))) rfl (decide_eq_false h1) ?_
    refine T_skip ?_
    refine T_seq ?_
    refine T_region [] [ks 2] (fun _ => mixed) (l' := [ps 2 (iv ((n).tdiv 2))]) (obs := [2 ≠ (0 : Int), InK .i64 ((n).tdiv 2)]) (by kernel_rfl) (obs_cons (p := 2 ≠ (0 : Int)) (by decide) (obs_cons (p := InK .i64 ((n).tdiv 2)) (by have := tdiv2 n; simp only [InK]; omega) (obs_nil))) ?_
    have hm := and_one n
    unfold unf; rw [if_neg (by rw [← hm]; exact h1)]
    exact T_ret fun cx_ a_ hI_ => ret_ok (H' := []) (.inr rfl) (Wk.ren2 [ps 2 (iv ((n).tdiv 2))] 0 hc0 [] rfl rfl (by kernel_rfl) (by kernel_rfl)) rfl (obs_nil) (fun cx_ a_ hI_ => ret_res (l' := [ps 2 (iv ((n).tdiv 2))]) (by kernel_rfl) cx_ a_ hI_) hI_
theorem guess_pc (l : List Int) (hs : Small l) (hl : l.length ≤ 1000000) (i o : Nat) (hi : i ≤ l.length) (ho : o ≤ i) : PC Try.prog 37 [(.osl 0 0 l.length), (iv ((i : Nat) : Int)), (iv ((o : Nat) : Int))] [some (3, (ints l))] (iv (guess l i o)) [some (3, (ints l))] := by
  have b1 := X_bd hs (i - 1)
  have b2 := X_bd hs (i - 2)
  have b3 := X_bd hs (i - 3)
  unfold X at b1 b2 b3
  refine pc_intro Try.func37 rfl (by kernel_rfl) (Nat.le_of_ble_eq_true rfl) (by kernel_rfl) (l0 := [ps 0 (.osl 0 0 l.length), ps 1 (iv ((i : Nat) : Int)), ps 2 (iv ((o : Nat) : Int)), pb 0 3 (ints l)]) rfl (fun c0 Bor hc0 => ?_)
  refine T_seq ?_
  refine T_region [] [ks 0, ks 1, ks 2, kb 0] (fun _ => mixed) (l' := [ps 0 (.osl 0 0 l.length), ps 1 (iv ((i : Nat) : Int)), ps 2 (iv ((o : Nat) : Int)), pb 0 3 (ints l)]) (obs := []) (by kernel_rfl) (obs_nil) ?_
  refine T_seq ?_
  refine T_seq ?_
  refine T_region [] [ks 0, ks 1, ks 7, kb 0] (fun _ => mixed) (l' := [ps 0 (.osl 0 0 l.length), ps 1 (iv ((i : Nat) : Int)), ps 7 (iv ((o : Nat) : Int)), pb 0 3 (ints l)]) (obs := []) (by kernel_rfl) (obs_nil) ?_
  refine T_block ?_
  refine T_seq ?_
  refine T_region [] [ks 0, ks 1, ks 7, ks 8, kb 0] (fun _ => mixed) (l' := [ps 0 (.osl 0 0 l.length), ps 1 (iv ((i : Nat) : Int)), ps 7 (iv ((o : Nat) : Int)), ps 8 (bv (decide (((o : Nat) : Int) = 1))), pb 0 3 (ints l)]) (obs := []) (by kernel_rfl) (obs_nil) ?_
  by_cases h1 : ((o : Nat) : Int) = 1
  · refine T_then (b := (decide (((o : Nat) : Int) = 1))) rfl (decide_eq_true h1) ?_
    refine T_seq ?_
    refine T_region [(3, .nat ((i - 1))), (4, .val (iv (l.getD (i - 1) 0)))] [ks 6, kb 0] (fun _ => mixed) (l' := [ps 6 (iv (l.getD (i - 1) 0)), pb 0 3 (ints l)]) (obs := [InK .i64 (((i : Nat) : Int) - 1), (0 : Int) ≤ (((i : Nat) : Int) - 1) ∧ (((i : Nat) : Int) - 1) < ((l.length : Nat) : Int), 0 + ((((i : Nat) : Int) - 1) : Int).toNat * 1 = ((i - 1)), ((i - 1)) + 1 ≤ ((ints l)).length ∧ (((ints l)).drop ((i - 1))).take 1 = [(iv (l.getD (i - 1) 0))]]) (by kernel_rfl) (obs_cons (p := InK .i64 (((i : Nat) : Int) - 1)) (by simp only [InK]; omega) (obs_cons (p := (0 : Int) ≤ (((i : Nat) : Int) - 1) ∧ (((i : Nat) : Int) - 1) < ((l.length : Nat) : Int)) (by omega) (obs_cons (p := 0 + ((((i : Nat) : Int) - 1) : Int).toNat * 1 = ((i - 1))) (by omega) (obs_cons (p := ((i - 1)) + 1 ≤ ((ints l)).length ∧ (((ints l)).drop ((i - 1))).take 1 = [(iv (l.getD (i - 1) 0))]) (ints_at (by omega)) (obs_nil))))) ?_
    unfold guess; rw [if_pos (by omega)]
    exact T_ret fun cx_ a_ hI_ => ret_ok (H' := [some (3, (ints l))]) (.inr rfl) (Wk.ren3 [ps 6 (iv (l.getD (i - 1) 0)), pb 0 3 (ints l)] 1 hc0 [0] [(kb 0, (ints l))] (obs_cons (ints_shd _) (obs_nil)) (by kernel_rfl) rfl rfl (by kernel_rfl) (by kernel_rfl)) rfl (obs_cons rfl (obs_nil)) (fun cx_ a_ hI_ => ret_res (l' := [ps 6 (iv (l.getD (i - 1) 0)), pb 0 3 (ints l)]) (by kernel_rfl) cx_ a_ hI_) hI_
  · refine T_else (b := (decide (((o : Nat) : Int) = 1))) rfl (decide_eq_false h1) ?_
    refine T_seq ?_
    refine T_region [] [ks 0, ks 1, ks 7, ks 15, kb 0] (fun _ => mixed) (l' := [ps 0 (.osl 0 0 l.length), ps 1 (iv ((i : Nat) : Int)), ps 7 (iv ((o : Nat) : Int)), ps 15 (bv (decide (((o : Nat) : Int) = 2))), pb 0 3 (ints l)]) (obs := []) (by kernel_rfl) (obs_nil) ?_
    by_cases h2 : ((o : Nat) : Int) = 2
    · refine T_then (b := (decide (((o : Nat) : Int) = 2))) rfl (decide_eq_true h2) ?_
      refine T_seq ?_
      refine T_regionD [(3, .nat ((i - 1))), (4, .val (iv (l.getD (i - 1) 0))), (9, .nat ((i - 2))), (10, .val (iv (l.getD (i - 2) 0)))] [[], [], [1], [0, 1, 2], [0, 1, 2, 3], [0, 1, 2, 3, 4], [], [], [7], [6, 7, 8], [6, 7, 8, 9], [0, 1, 2, 3, 4, 5, 6, 7, 8, 9, 10], [0, 1, 2, 3, 4, 5, 6, 7, 8, 9, 10, 11]] [([34], [0]), ([36], [2]), ([38], [36]), ([40], [34, 38]), ([42], [1, 40]), ([44], [42]), ([46], [0]), ([48], [2]), ([50], [48]), ([52], [46, 50]), ([54], [1, 52]), ([56], [44, 54]), ([12], [56])] [ks 6, kb 0] (l' := [ps 6 (iv ((2 * (l.getD (i - 1) 0)) - (l.getD (i - 2) 0))), pb 0 3 (ints l)]) (obs := [InK .i64 (((i : Nat) : Int) - 1), (0 : Int) ≤ (((i : Nat) : Int) - 1) ∧ (((i : Nat) : Int) - 1) < ((l.length : Nat) : Int), 0 + ((((i : Nat) : Int) - 1) : Int).toNat * 1 = ((i - 1)), ((i - 1)) + 1 ≤ ((ints l)).length ∧ (((ints l)).drop ((i - 1))).take 1 = [(iv (l.getD (i - 1) 0))], InK .i64 (2 * (l.getD (i - 1) 0)), InK .i64 (((i : Nat) : Int) - 2), (0 : Int) ≤ (((i : Nat) : Int) - 2) ∧ (((i : Nat) : Int) - 2) < ((l.length : Nat) : Int), 0 + ((((i : Nat) : Int) - 2) : Int).toNat * 1 = ((i - 2)), ((i - 2)) + 1 ≤ ((ints l)).length ∧ (((ints l)).drop ((i - 2))).take 1 = [(iv (l.getD (i - 2) 0))], InK .i64 ((2 * (l.getD (i - 1) 0)) - (l.getD (i - 2) 0))]) mixed (by kernel_rfl) (by kernel_rfl) (obs_cons (p := InK .i64 (((i : Nat) : Int) - 1)) (by simp only [InK]; omega) (obs_cons (p := (0 : Int) ≤ (((i : Nat) : Int) - 1) ∧ (((i : Nat) : Int) - 1) < ((l.length : Nat) : Int)) (by omega) (obs_cons (p := 0 + ((((i : Nat) : Int) - 1) : Int).toNat * 1 = ((i - 1))) (by omega) (obs_cons (p := ((i - 1)) + 1 ≤ ((ints l)).length ∧ (((ints l)).drop ((i - 1))).take 1 = [(iv (l.getD (i - 1) 0))]) (ints_at (by omega)) (obs_cons (p := InK .i64 (2 * (l.getD (i - 1) 0))) (by simp only [InK]; omega) (obs_cons (p := InK .i64 (((i : Nat) : Int) - 2)) (by simp only [InK]; omega) (obs_cons (p := (0 : Int) ≤ (((i : Nat) : Int) - 2) ∧ (((i : Nat) : Int) - 2) < ((l.length : Nat) : Int)) (by omega) (obs_cons (p := 0 + ((((i : Nat) : Int) - 2) : Int).toNat * 1 = ((i - 2))) (by omega) (obs_cons (p := ((i - 2)) + 1 ≤ ((ints l)).length ∧ (((ints l)).drop ((i - 2))).take 1 = [(iv (l.getD (i - 2) 0))]) (ints_at (by omega)) (obs_cons (p := InK .i64 ((2 * (l.getD (i - 1) 0)) - (l.getD (i - 2) 0))) (by simp only [InK]; omega) (obs_nil))))))))))) ?_
      unfold guess; rw [if_neg (by omega), if_pos (by omega)]
      exact T_ret fun cx_ a_ hI_ => ret_ok (H' := [some (3, (ints l))]) (.inr rfl) (Wk.ren3 [ps 6 (iv ((2 * (l.getD (i - 1) 0)) - (l.getD (i - 2) 0))), pb 0 3 (ints l)] 1 hc0 [0] [(kb 0, (ints l))] (obs_cons (ints_shd _) (obs_nil)) (by kernel_rfl) rfl rfl (by kernel_rfl) (by kernel_rfl)) rfl (obs_cons rfl (obs_nil)) (fun cx_ a_ hI_ => ret_res (l' := [ps 6 (iv ((2 * (l.getD (i - 1) 0)) - (l.getD (i - 2) 0))), pb 0 3 (ints l)]) (by kernel_rfl) cx_ a_ hI_) hI_
    · refine T_else (b := (decide (((o : Nat) : Int) = 2))) rfl (decide_eq_false h2) ?_
      refine T_seq ?_
      refine T_region [] [ks 0, ks 1, ks 29, kb 0] (fun _ => mixed) (l' := [ps 0 (.osl 0 0 l.length), ps 1 (iv ((i : Nat) : Int)), ps 29 (bv (decide (((o : Nat) : Int) = 3))), pb 0 3 (ints l)]) (obs := []) (by kernel_rfl) (obs_nil) ?_
      by_cases h3 : ((o : Nat) : Int) = 3
      · refine T_then (b := (decide (((o : Nat) : Int) = 3))) rfl (decide_eq_true h3) ?_
        refine T_seq ?_
        refine T_regionD [(3, .nat ((i - 1))), (4, .val (iv (l.getD (i - 1) 0))), (9, .nat ((i - 2))), (10, .val (iv (l.getD (i - 2) 0))), (16, .nat ((i - 3))), (17, .val (iv (l.getD (i - 3) 0)))] [[], [], [1], [0, 1, 2], [0, 1, 2, 3], [0, 1, 2, 3, 4], [], [], [7], [6, 7, 8], [6, 7, 8, 9], [6, 7, 8, 9, 10], [0, 1, 2, 3, 4, 5, 6, 7, 8, 9, 10, 11], [], [], [14], [13, 14, 15], [13, 14, 15, 16], [0, 1, 2, 3, 4, 5, 6, 7, 8, 9, 10, 11, 12, 13, 14, 15, 16, 17], [0, 1, 2, 3, 4, 5, 6, 7, 8, 9, 10, 11, 12, 13, 14, 15, 16, 17, 18]] [([62], [0]), ([64], [2]), ([66], [64]), ([68], [62, 66]), ([70], [1, 68]), ([72], [70]), ([74], [0]), ([76], [2]), ([78], [76]), ([80], [74, 78]), ([82], [1, 80]), ([84], [82]), ([86], [72, 84]), ([88], [0]), ([90], [2]), ([92], [90]), ([94], [88, 92]), ([96], [1, 94]), ([98], [86, 96]), ([12], [98])] [ks 6, kb 0] (l' := [ps 6 (iv (((3 * (l.getD (i - 1) 0)) - (3 * (l.getD (i - 2) 0))) + (l.getD (i - 3) 0))), pb 0 3 (ints l)]) (obs := [InK .i64 (((i : Nat) : Int) - 1), (0 : Int) ≤ (((i : Nat) : Int) - 1) ∧ (((i : Nat) : Int) - 1) < ((l.length : Nat) : Int), 0 + ((((i : Nat) : Int) - 1) : Int).toNat * 1 = ((i - 1)), ((i - 1)) + 1 ≤ ((ints l)).length ∧ (((ints l)).drop ((i - 1))).take 1 = [(iv (l.getD (i - 1) 0))], InK .i64 (3 * (l.getD (i - 1) 0)), InK .i64 (((i : Nat) : Int) - 2), (0 : Int) ≤ (((i : Nat) : Int) - 2) ∧ (((i : Nat) : Int) - 2) < ((l.length : Nat) : Int), 0 + ((((i : Nat) : Int) - 2) : Int).toNat * 1 = ((i - 2)), ((i - 2)) + 1 ≤ ((ints l)).length ∧ (((ints l)).drop ((i - 2))).take 1 = [(iv (l.getD (i - 2) 0))], InK .i64 (3 * (l.getD (i - 2) 0)), InK .i64 ((3 * (l.getD (i - 1) 0)) - (3 * (l.getD (i - 2) 0))), InK .i64 (((i : Nat) : Int) - 3), (0 : Int) ≤ (((i : Nat) : Int) - 3) ∧ (((i : Nat) : Int) - 3) < ((l.length : Nat) : Int), 0 + ((((i : Nat) : Int) - 3) : Int).toNat * 1 = ((i - 3)), ((i - 3)) + 1 ≤ ((ints l)).length ∧ (((ints l)).drop ((i - 3))).take 1 = [(iv (l.getD (i - 3) 0))], InK .i64 (((3 * (l.getD (i - 1) 0)) - (3 * (l.getD (i - 2) 0))) + (l.getD (i - 3) 0))]) mixed (by kernel_rfl) (by kernel_rfl) (obs_cons (p := InK .i64 (((i : Nat) : Int) - 1)) (by simp only [InK]; omega) (obs_cons (p := (0 : Int) ≤ (((i : Nat) : Int) - 1) ∧ (((i : Nat) : Int) - 1) < ((l.length : Nat) : Int)) (by omega) (obs_cons (p := 0 + ((((i : Nat) : Int) - 1) : Int).toNat * 1 = ((i - 1))) (by omega) (obs_cons (p := ((i - 1)) + 1 ≤ ((ints l)).length ∧ (((ints l)).drop ((i - 1))).take 1 = [(iv (l.getD (i - 1) 0))]) (ints_at (by omega)) (obs_cons (p := InK .i64 (3 * (l.getD (i - 1) 0))) (by simp only [InK]; omega) (obs_cons (p := InK .i64 (((i : Nat) : Int) - 2)) (by simp only [InK]; omega) (obs_cons (p := (0 : Int) ≤ (((i : Nat) : Int) - 2) ∧ (((i : Nat) : Int) - 2) < ((l.length : Nat) : Int)) (by omega) (obs_cons (p := 0 + ((((i : Nat) : Int) - 2) : Int).toNat * 1 = ((i - 2))) (by omega) (obs_cons (p := ((i - 2)) + 1 ≤ ((ints l)).length ∧ (((ints l)).drop ((i - 2))).take 1 = [(iv (l.getD (i - 2) 0))]) (ints_at (by omega)) (obs_cons (p := InK .i64 (3 * (l.getD (i - 2) 0))) (by simp only [InK]; omega) (obs_cons (p := InK .i64 ((3 * (l.getD (i - 1) 0)) - (3 * (l.getD (i - 2) 0)))) (by simp only [InK]; omega) (obs_cons (p := InK .i64 (((i : Nat) : Int) - 3)) (by simp only [InK]; omega) (obs_cons (p := (0 : Int) ≤ (((i : Nat) : Int) - 3) ∧ (((i : Nat) : Int) - 3) < ((l.length : Nat) : Int)) (by omega) (obs_cons (p := 0 + ((((i : Nat) : Int) - 3) : Int).toNat * 1 = ((i - 3))) (by omega) (obs_cons (p := ((i - 3)) + 1 ≤ ((ints l)).length ∧ (((ints l)).drop ((i - 3))).take 1 = [(iv (l.getD (i - 3) 0))]) (ints_at (by omega)) (obs_cons (p := InK .i64 (((3 * (l.getD (i - 1) 0)) - (3 * (l.getD (i - 2) 0))) + (l.getD (i - 3) 0))) (by simp only [InK]; omega) (obs_nil))))))))))))))))) ?_
        unfold guess; rw [if_neg (by omega), if_neg (by omega), if_pos (by omega)]
        exact T_ret fun cx_ a_ hI_ => ret_ok (H' := [some (3, (ints l))]) (.inr rfl) (Wk.ren3 [ps 6 (iv (((3 * (l.getD (i - 1) 0)) - (3 * (l.getD (i - 2) 0))) + (l.getD (i - 3) 0))), pb 0 3 (ints l)] 1 hc0 [0] [(kb 0, (ints l))] (obs_cons (ints_shd _) (obs_nil)) (by kernel_rfl) rfl rfl (by kernel_rfl) (by kernel_rfl)) rfl (obs_cons rfl (obs_nil)) (fun cx_ a_ hI_ => ret_res (l' := [ps 6 (iv (((3 * (l.getD (i - 1) 0)) - (3 * (l.getD (i - 2) 0))) + (l.getD (i - 3) 0))), pb 0 3 (ints l)]) (by kernel_rfl) cx_ a_ hI_) hI_
      · refine T_else (b := (decide (((o : Nat) : Int) = 3))) rfl (decide_eq_false h3) ?_
        refine T_skip ?_
        refine T_blk ?_
        refine T_seq ?_
        refine T_region [] [ks 6, kb 0] (fun _ => mixed) (l' := [ps 6 (iv 0), pb 0 3 (ints l)]) (obs := []) (by kernel_rfl) (obs_nil) ?_
        unfold guess; rw [if_neg (by omega), if_neg (by omega), if_neg (by omega)]
        exact T_ret fun cx_ a_ hI_ => ret_ok (H' := [some (3, (ints l))]) (.inr rfl) (Wk.ren3 [ps 6 (iv 0), pb 0 3 (ints l)] 1 hc0 [0] [(kb 0, (ints l))] (obs_cons (ints_shd _) (obs_nil)) (by kernel_rfl) rfl rfl (by kernel_rfl) (by kernel_rfl)) rfl (obs_cons rfl (obs_nil)) (fun cx_ a_ hI_ => ret_res (l' := [ps 6 (iv 0), pb 0 3 (ints l)]) (by kernel_rfl) cx_ a_ hI_) hI_
end Go.Proofs.Ytfoiadlaekknpaa.Pm
namespace Go.Proofs.Ytfoiadlaekknpaa.Pm
open Go Co

theorem snoc_len {α : Type} (L : List α) (x : α) : (L ++ [x]).length = L.length + 1 := by simp
theorem flag_t {f : Bool} {x : Int} (h : f = true) : (f || !sm x) = true := by rw [h]; rfl
theorem flag_lo {f : Bool} {x : Int} (h : x < -32768) : (f || !sm x) = true := by
  have : sm x = false := by unfold sm; exact decide_eq_false (by omega)
  rw [this]; simp
theorem flag_hi {f : Bool} {x : Int} (hf : ¬ f = true) (h : ¬ x < -32768) : (f || !sm x) = decide (32767 < x) := by
  rw [Bool.eq_false_iff.2 hf]; unfold sm
  by_cases h2 : 32767 < x
  · rw [decide_eq_true h2, decide_eq_false (by omega)]; rfl
  · rw [decide_eq_false h2, decide_eq_true (by omega)]; rfl
def rnext (o k : Nat) (l : List Int) (D : List Bool) : Rs := ((rsample o k l D).2.1, (rsample o k l D).2.2 || !sm (rsample o k l D).1)
theorem small_snoc {l : List Int} {x : Int} (h : Small l) (hx : sm x = true) : Small (l ++ [x]) := fun y hy => by
  rcases List.mem_append.1 hy with h1 | h1
  · exact h y h1
  · rw [List.mem_singleton.1 h1]; exact of_decide_eq_true hx
theorem frame_next {b : ByteArray} {o k m i : Nat} {l : List Int} {t : Rs} {r : List Int × Rs} (hi : i < m) (hb : ¬ t.2 = true) (hs : t.1 <:+ bitsB b) (hl : l.length = i) (hsm : t.2 = false → Small l) (hr : rfr o k (m - i) l t = r) :
    i + 1 ≤ m ∧ (rnext o k l t.1).1 <:+ bitsB b ∧ (l ++ [(rsample o k l t.1).1]).length = i + 1 ∧ ((rnext o k l t.1).2 = false → Small (l ++ [(rsample o k l t.1).1])) ∧ rfr o k (m - (i + 1)) (l ++ [(rsample o k l t.1).1]) (rnext o k l t.1) = r := by
  have hb := Bool.eq_false_iff.2 hb
  refine ⟨by omega, rsample_suf o k l hs, by rw [snoc_len]; omega, fun h => ?_, ?_⟩
  · refine small_snoc (hsm hb) ?_
    unfold rnext at h
    rcases hq : sm (rsample o k l t.1).1 with _ | _
    · rw [hq] at h; simp at h
    · rfl
  · rw [← hr, show m - i = (m - (i + 1)) + 1 by omega, rfr, if_neg (by simp [hb])]; rfl
theorem rfr_stop {o k m : Nat} {l : List Int} {t : Rs} {r : List Int × Rs} (h : m = 0 ∨ t.2 = true) (hr : rfr o k m l t = r) : r = (l, t) := by
  cases m with
  | zero => exact hr.symm
  | succ m =>
    rcases h with h | h
    · omega
    · rw [rfr, if_pos h] at hr; exact hr.symm
theorem rdec_next {n j : Nat} {l : List Int} {t : Rs} {r : List Int × Rs} (h1 : l.length < n) (h2 : ¬ t.2 = true) (hj : t.2 = true ∨ n < l.length + j) (hr : rdec n j l t = r) :
    ∃ j', j = j' + 1 ∧ rdec n j' (l ++ (rframe (min 256 (n - l.length)) t).1) (rframe (min 256 (n - l.length)) t).2 = r := by
  obtain ⟨j', rfl⟩ : ∃ j', j = j' + 1 := ⟨j - 1, by rcases hj with h | h; exact absurd h h2; omega⟩
  exact ⟨j', rfl, by rw [rdec, if_pos ⟨h1, Bool.eq_false_iff.2 h2⟩] at hr; exact hr⟩
theorem rdec_stop {n j : Nat} {l : List Int} {t : Rs} {r : List Int × Rs} (h : ¬ l.length < n ∨ t.2 = true) (hr : rdec n j l t = r) : r = (l, t) := by
  cases j with
  | zero => exact hr.symm
  | succ j => rw [rdec, if_neg (by rintro ⟨h1, h2⟩; rcases h with h | h; exact h h1; rw [h2] at h; cases h)] at hr; exact hr.symm
/-- A frame is as long as told, or it went wrong. -/
theorem rfr_len {o k : Nat} : ∀ (m : Nat) (l : List Int) (s : Rs), (rfr o k m l s).2.2 = true ∨ (rfr o k m l s).1.length = l.length + m
  | 0, l, s => .inr rfl
  | m + 1, l, s => by
    rw [rfr]; split
    · next h => exact .inl h
    · rcases rfr_len m (l ++ [(rsample o k l s.1).1]) (rnext o k l s.1) with h | h
      · exact .inl h
      · refine .inr (h.trans ?_)
        rw [snoc_len]; omega
theorem rfr_le {o k : Nat} : ∀ (m : Nat) (l : List Int) (s : Rs), (rfr o k m l s).1.length ≤ l.length + m
  | 0, l, s => Nat.le_refl _
  | m + 1, l, s => by
    rw [rfr]; split
    · show l.length ≤ _; omega
    · have := rfr_le (o := o) (k := k) m (l ++ [(rsample o k l s.1).1]) (rnext o k l s.1)
      rw [snoc_len] at this
      exact Nat.le_trans this (by omega)
theorem rframe_len (m : Nat) (s : Rs) : (rframe m s).2.2 = true ∨ (rframe m s).1.length = m := by
  rcases rfr_len (o := (rnum 2 0 s).1.toNat) (k := (rnum 4 0 (rnum 2 0 s).2).1.toNat) m [] (rnum 4 0 (rnum 2 0 s).2).2 with h | h
  · exact .inl h
  · exact .inr (by rw [List.length_nil, Nat.zero_add] at h; exact h)
theorem rframe_le (m : Nat) (s : Rs) : (rframe m s).1.length ≤ m := by
  have := rfr_le (o := (rnum 2 0 s).1.toNat) (k := (rnum 4 0 (rnum 2 0 s).2).1.toNat) m [] (rnum 4 0 (rnum 2 0 s).2).2
  rw [List.length_nil, Nat.zero_add] at this; exact this
theorem rrice_bd (k : Nat) (D : List Bool) : -9223372036854775808 ≤ (rrice k D).1 ∧ (rrice k D).1 ≤ 9223372036854775807 := wrap_i64_in _
theorem take_next {x y : List Int} {i : Nat} (hn : x.length = y.length) (hi : i < x.length) (h : x.take i = y.take i) (he : x.getD i 0 = y.getD i 0) : x.take (i + 1) = y.take (i + 1) := by
  rw [List.take_add_one, List.take_add_one, h]
  rw [List.getD_eq_getElem?_getD, List.getD_eq_getElem?_getD] at he
  rw [List.getElem?_eq_getElem hi, List.getElem?_eq_getElem (by omega)] at he ⊢
  simp only [Option.getD_some] at he; rw [he]
/-- What is wrong, and what comes out. -/
theorem dec_a {b : ByteArray} (h : (rnum 24 0 (bitsB b, false)).2.2 = true) : dec b = ([], 2) := by unfold dec; rw [if_pos h]
theorem dec_b {b : ByteArray} (h : ¬ (rnum 24 0 (bitsB b, false)).2.2 = true) {n : Nat} (hn : (rnum 24 0 (bitsB b, false)).1 = (n : Int)) (h2 : (1048576 : Int) < n) : dec b = ([], 5) := by
  unfold dec; rw [if_neg h, if_pos (by omega)]
theorem dec_c {b : ByteArray} {n : Nat} {l : List Int} {t : Rs} (h : ¬ (rnum 24 0 (bitsB b, false)).2.2 = true) (hn : (rnum 24 0 (bitsB b, false)).1 = (n : Int)) (h2 : ¬ (1048576 : Int) < n) (hr : rdec n (n + 1) [] (rnum 24 0 (bitsB b, false)).2 = (l, t)) :
    dec b = if t.2 then ([], 2) else if 7 < t.1.length then ([], 2) else if t.1.all (· == false) then (l, 0) else ([], 2) := by
  unfold dec; rw [if_neg h, if_neg (by omega), hn, Int.toNat_natCast, hr]
theorem rnum_zero : ∀ (k : Nat) (a : Int) (D : List Bool), 0 ≤ a → D.length = k → ((rnum k a (D, false)).1 = 0 ↔ a = 0 ∧ D.all (· == false) = true)
  | 0, a, D, _, h => by rw [rnum, List.length_eq_zero_iff.1 h]; simp
  | k + 1, a, [], _, h => by simp at h
  | k + 1, a, x :: D, h0, h => by
    have hb := rb_01 (x :: D, false)
    rw [rnum]
    refine (rnum_zero k (2 * a + (rb (x :: D, false)).1) D (by omega) (by simpa using h)).trans ?_
    cases x
    · rw [show (rb (false :: D, false)).1 = 0 from rfl]; simp; intro; omega
    · rw [show (rb (true :: D, false)).1 = 1 from rfl]; simp; intro; omega
end Go.Proofs.Ytfoiadlaekknpaa.Pm
namespace Go.Proofs.Ytfoiadlaekknpaa.Pm
open Go Co

attribute [local irreducible] rnum rones rrice rsample bitsB rdec rframe rfr riceV unf
set_option maxRecDepth 100000 in
theorem frame_pc (b : ByteArray) (hb : b.size ≤ 140737488355328) (many : Nat) (hk : many ≤ 256) (s : Rs) (hs : s.1 <:+ bitsB b) : PC Try.prog 21 [(.opt 0 0), (iv ((many : Nat) : Int))] [some (46, [(sv b), (iv (posI b s.1)), (bv s.2)])] (.ssl (ints ((rframe many s).1)) 0 (((rframe many s).1).length)) [some (46, [(sv b), (iv (posI b (rframe many s).2.1)), (bv (rframe many s).2.2)])] := by
  have hb1 := rnum_bd 2 0 s (Int.le_refl _)
  have hb2 := rnum_bd 4 0 (rnum 2 0 s).2 (Int.le_refl _)
  obtain ⟨o, ho⟩ : ∃ o : Nat, (rnum 2 0 s).1 = (o : Int) := ⟨(rnum 2 0 s).1.toNat, by omega⟩
  obtain ⟨key, hkey⟩ : ∃ key : Nat, (rnum 4 0 (rnum 2 0 s).2).1 = (key : Int) := ⟨(rnum 4 0 (rnum 2 0 s).2).1.toNat, by omega⟩
  have ho4 : o < 4 := by omega
  have hk16 : key < 16 := by omega
  refine pc_intro Try.func21 rfl (by kernel_rfl) (Nat.le_of_ble_eq_true rfl) (by kernel_rfl) (l0 := [ps 0 (.opt 0 0), ps 1 (iv ((many : Nat) : Int)), pb 0 46 [(sv b), (iv (posI b s.1)), (bv s.2)]]) rfl (fun c0 Bor hc0 => ?_)
  refine T_seq ?_
  refine T_region [] [ks 0, ks 1, kb 0] (fun _ => mixed) (l' := [ps 0 (.opt 0 0), ps 1 (iv ((many : Nat) : Int)), pb 0 46 [(sv b), (iv (posI b s.1)), (bv s.2)]]) (obs := []) (by kernel_rfl) (obs_nil) ?_
  refine T_seq ?_
  refine T_region [(1, .call [0] [(.opt 0 0), (iv 2)] [some (46, [(sv b), (iv (posI b s.1)), (bv s.2)])] (iv ((rnum 2 0 s).1)) [some (46, [(sv b), (iv (posI b (rnum 2 0 s).2.1)), (bv (rnum 2 0 s).2.2)])]), (3, .call [0] [(.opt 0 0), (iv 4)] [some (46, [(sv b), (iv (posI b (rnum 2 0 s).2.1)), (bv (rnum 2 0 s).2.2)])] (iv ((rnum 4 0 (rnum 2 0 s).2).1)) [some (46, [(sv b), (iv (posI b (rnum 4 0 (rnum 2 0 s).2).2.1)), (bv (rnum 4 0 (rnum 2 0 s).2).2.2)])])] [ks 0, ks 1, ks 5, ks 6, kb 0] (fun _ => mixed) (l' := [ps 0 (.opt 0 0), ps 1 (iv ((many : Nat) : Int)), ps 5 (iv ((rnum 2 0 s).1)), ps 6 (iv ((rnum 4 0 (rnum 2 0 s).2).1)), pb 0 46 [(sv b), (iv (posI b (rnum 4 0 (rnum 2 0 s).2).2.1)), (bv (rnum 4 0 (rnum 2 0 s).2).2.2)]]) (obs := [PC Try.prog 20 [(.opt 0 0), (iv 2)] [some (46, [(sv b), (iv (posI b s.1)), (bv s.2)])] (iv ((rnum 2 0 s).1)) [some (46, [(sv b), (iv (posI b (rnum 2 0 s).2.1)), (bv (rnum 2 0 s).2.2)])], [(.opt 0 0), (iv 2)] = renL (sigi [0] 17) [(.opt 0 0), (iv 2)], [(sv b), (iv (posI b s.1)), (bv s.2)] = renL (sigi [0] 17) [(sv b), (iv (posI b s.1)), (bv s.2)], PC Try.prog 20 [(.opt 0 0), (iv 4)] [some (46, [(sv b), (iv (posI b (rnum 2 0 s).2.1)), (bv (rnum 2 0 s).2.2)])] (iv ((rnum 4 0 (rnum 2 0 s).2).1)) [some (46, [(sv b), (iv (posI b (rnum 4 0 (rnum 2 0 s).2).2.1)), (bv (rnum 4 0 (rnum 2 0 s).2).2.2)])], [(.opt 0 0), (iv 4)] = renL (sigi [0] 33) [(.opt 0 0), (iv 4)], [(sv b), (iv (posI b (rnum 2 0 s).2.1)), (bv (rnum 2 0 s).2.2)] = renL (sigi [0] 33) [(sv b), (iv (posI b (rnum 2 0 s).2.1)), (bv (rnum 2 0 s).2.2)]]) (by kernel_rfl) (obs_cons (p := PC Try.prog 20 [(.opt 0 0), (iv 2)] [some (46, [(sv b), (iv (posI b s.1)), (bv s.2)])] (iv ((rnum 2 0 s).1)) [some (46, [(sv b), (iv (posI b (rnum 2 0 s).2.1)), (bv (rnum 2 0 s).2.2)])]) (number_pc b hb 2 (by omega) s hs) (obs_cons (p := [(.opt 0 0), (iv 2)] = renL (sigi [0] 17) [(.opt 0 0), (iv 2)]) rfl (obs_cons (p := [(sv b), (iv (posI b s.1)), (bv s.2)] = renL (sigi [0] 17) [(sv b), (iv (posI b s.1)), (bv s.2)]) rfl (obs_cons (p := PC Try.prog 20 [(.opt 0 0), (iv 4)] [some (46, [(sv b), (iv (posI b (rnum 2 0 s).2.1)), (bv (rnum 2 0 s).2.2)])] (iv ((rnum 4 0 (rnum 2 0 s).2).1)) [some (46, [(sv b), (iv (posI b (rnum 4 0 (rnum 2 0 s).2).2.1)), (bv (rnum 4 0 (rnum 2 0 s).2).2.2)])]) (number_pc b hb 4 (by omega) (rnum 2 0 s).2 (rnum_suf 2 0 hs)) (obs_cons (p := [(.opt 0 0), (iv 4)] = renL (sigi [0] 33) [(.opt 0 0), (iv 4)]) rfl (obs_cons (p := [(sv b), (iv (posI b (rnum 2 0 s).2.1)), (bv (rnum 2 0 s).2.2)] = renL (sigi [0] 33) [(sv b), (iv (posI b (rnum 2 0 s).2.1)), (bv (rnum 2 0 s).2.2)]) rfl (obs_nil))))))) ?_
  refine T_seq ?_
  refine T_wk (Wk.eq (show [ps 0 (.opt 0 0), ps 1 (iv ((many : Nat) : Int)), ps 5 (iv ((rnum 2 0 s).1)), ps 6 (iv ((rnum 4 0 (rnum 2 0 s).2).1)), pb 0 46 [(sv b), (iv (posI b (rnum 4 0 (rnum 2 0 s).2).2.1)), (bv (rnum 4 0 (rnum 2 0 s).2).2.2)]] = [ps 0 (.opt 0 0), ps 1 (iv ((many : Nat) : Int)), ps 5 (iv ((o : Nat) : Int)), ps 6 (iv ((key : Nat) : Int)), pb 0 46 [(sv b), (iv (posI b (rnum 4 0 (rnum 2 0 s).2).2.1)), (bv (rnum 4 0 (rnum 2 0 s).2).2.2)]] from by rw [ho, hkey])) ?_
  refine T_region [] [ks 0, ks 1, ks 5, ks 6, ks 7, kb 0] (fun _ => mixed) (l' := [ps 0 (.opt 0 0), ps 1 (iv ((many : Nat) : Int)), ps 5 (iv ((o : Nat) : Int)), ps 6 (iv ((key : Nat) : Int)), ps 7 (.av (.slice none 0 0)), pb 0 46 [(sv b), (iv (posI b (rnum 4 0 (rnum 2 0 s).2).2.1)), (bv (rnum 4 0 (rnum 2 0 s).2).2.2)]]) (obs := []) (by kernel_rfl) (obs_nil) ?_
  refine T_seq ?_
  refine T_seq ?_
  refine T_region [] [ks 0, ks 1, ks 5, ks 6, ks 7, ks 8, kb 0] (fun _ => mixed) (l' := [ps 0 (.opt 0 0), ps 1 (iv ((many : Nat) : Int)), ps 5 (iv ((o : Nat) : Int)), ps 6 (iv ((key : Nat) : Int)), ps 7 (.av (.slice none 0 0)), ps 8 (iv 0), pb 0 46 [(sv b), (iv (posI b (rnum 4 0 (rnum 2 0 s).2).2.1)), (bv (rnum 4 0 (rnum 2 0 s).2).2.2)]]) (obs := []) (by kernel_rfl) (obs_nil) ?_
  refine T_block ?_
  refine T_wk (Wk.nil (s := 7) 3 (by kernel_rfl)) ?_
  refine T_wk (Wk.less (l' := [ps 0 (.opt 0 0), ps 1 (iv ((many : Nat) : Int)), ps 5 (iv ((o : Nat) : Int)), ps 6 (iv ((key : Nat) : Int)), ps 7 (.osl 73 0 0), ps 8 (iv 0), pb 0 46 [(sv b), (iv (posI b (rnum 4 0 (rnum 2 0 s).2).2.1)), (bv (rnum 4 0 (rnum 2 0 s).2).2.2)], pb 73 3 []]) 74 (by kernel_rfl) (by kernel_rfl)) ?_
  refine T_wk (Wk.eq (show [ps 0 (.opt 0 0), ps 1 (iv ((many : Nat) : Int)), ps 5 (iv ((o : Nat) : Int)), ps 6 (iv ((key : Nat) : Int)), ps 7 (.osl 73 0 0), ps 8 (iv 0), pb 0 46 [(sv b), (iv (posI b (rnum 4 0 (rnum 2 0 s).2).2.1)), (bv (rnum 4 0 (rnum 2 0 s).2).2.2)], pb 73 3 []] = [ps 0 (.opt 0 0), ps 1 (iv ((many : Nat) : Int)), ps 5 (iv ((o : Nat) : Int)), ps 6 (iv ((key : Nat) : Int)), ps 7 (.osl 73 0 (([] : List Int).length)), ps 8 (iv 0), pb 0 46 [(sv b), (iv (posI b (rnum 4 0 (rnum 2 0 s).2).2.1)), (bv (rnum 4 0 (rnum 2 0 s).2).2.2)], pb 73 3 (ints [])] from by rfl)) ?_
  refine T_loop (α := {x : Nat × List Int × Rs // x.1 ≤ many ∧ x.2.2.1 <:+ bitsB b ∧ x.2.1.length = x.1 ∧ (x.2.2.2 = false → Small x.2.1) ∧ rfr o key (many - x.1) x.2.1 x.2.2 = rfr o key many [] (rnum 4 0 (rnum 2 0 s).2).2}) (fun x => [ps 0 (.opt 0 0), ps 1 (iv ((many : Nat) : Int)), ps 5 (iv ((o : Nat) : Int)), ps 6 (iv ((key : Nat) : Int)), ps 7 (.osl 1 0 x.1.2.1.length), ps 8 (iv ((x.1.1 : Nat) : Int)), pb 0 46 [(sv b), (iv (posI b x.1.2.2.1)), (bv x.1.2.2.2)], pb 1 3 (ints x.1.2.1)]) (fun x => many - x.1.1) 2 ⟨(0, [], (rnum 4 0 (rnum 2 0 s).2).2), ⟨Nat.zero_le _, rnum_suf 4 0 (rnum_suf 2 0 hs), rfl, (fun _ => fun x hx => absurd hx (List.not_mem_nil)), rfl⟩⟩ (Wk.ren3 [ps 0 (.opt 0 0), ps 1 (iv ((many : Nat) : Int)), ps 5 (iv ((o : Nat) : Int)), ps 6 (iv ((key : Nat) : Int)), ps 7 (.osl 1 0 ([] : List Int).length), ps 8 (iv ((0 : Nat) : Int)), pb 0 46 [(sv b), (iv (posI b ((rnum 4 0 (rnum 2 0 s).2).2).1)), (bv ((rnum 4 0 (rnum 2 0 s).2).2).2)], pb 1 3 (ints ([] : List Int))] 1 hc0 [0, 73] [(kb 1, (ints ([] : List Int)))] (obs_cons (ints_shd _) (obs_nil)) (by kernel_rfl) rfl rfl (by kernel_rfl) (by kernel_rfl)) ?_
  rintro ⟨⟨i, l, t⟩, ⟨hi, hs, hl, hsm, hr⟩⟩
  dsimp only at hi hs hl hsm hr
  refine T_seq ?_
  refine T_seq ?_
  by_cases h1 : ((i : Nat) : Int) < ((many : Nat) : Int)
  · refine T_region [(4, .gd true (.no)), (5, .gd true (.no)), (6, .gd true (.no)), (7, .gd true (.no)), (8, .gd true (.no)), (9, .yes true)] [ks 0, ks 1, ks 5, ks 6, ks 7, ks 8, ks 23, kb 0, kb 1] (fun _ => mixed) (l' := [ps 0 (.opt 0 0), ps 1 (iv ((many : Nat) : Int)), ps 5 (iv ((o : Nat) : Int)), ps 6 (iv ((key : Nat) : Int)), ps 7 (.osl 1 0 l.length), ps 8 (iv ((i : Nat) : Int)), ps 23 (bv (!t.2)), pb 0 46 [(sv b), (iv (posI b t.1)), (bv t.2)], pb 1 3 (ints l)]) (obs := [(decide (((i : Nat) : Int) < ((many : Nat) : Int))) = true, (decide (((i : Nat) : Int) < ((many : Nat) : Int))) = true, (decide (((i : Nat) : Int) < ((many : Nat) : Int))) = true, (decide (((i : Nat) : Int) < ((many : Nat) : Int))) = true, (decide (((i : Nat) : Int) < ((many : Nat) : Int))) = true, (decide (((i : Nat) : Int) < ((many : Nat) : Int))) = true]) (by kernel_rfl) (obs_cons (p := (decide (((i : Nat) : Int) < ((many : Nat) : Int))) = true) (decide_eq_true h1) (obs_cons (p := (decide (((i : Nat) : Int) < ((many : Nat) : Int))) = true) (decide_eq_true h1) (obs_cons (p := (decide (((i : Nat) : Int) < ((many : Nat) : Int))) = true) (decide_eq_true h1) (obs_cons (p := (decide (((i : Nat) : Int) < ((many : Nat) : Int))) = true) (decide_eq_true h1) (obs_cons (p := (decide (((i : Nat) : Int) < ((many : Nat) : Int))) = true) (decide_eq_true h1) (obs_cons (p := (decide (((i : Nat) : Int) < ((many : Nat) : Int))) = true) (decide_eq_true h1) (obs_nil))))))) ?_
    by_cases h2 : t.2 = true
    · refine T_else (b := (!t.2)) rfl (congrArg Bool.not h2) ?_
      refine T_break rfl rfl ?_
      refine T_seq ?_
      refine T_region [] [ks 4, kb 0, kb 1] (fun _ => mixed) (l' := [ps 4 (.osl 1 0 l.length), pb 0 46 [(sv b), (iv (posI b t.1)), (bv t.2)], pb 1 3 (ints l)]) (obs := []) (by kernel_rfl) (obs_nil) ?_
      have hF : rframe many s = (l, t) := by unfold rframe; rw [ho, hkey, Int.toNat_natCast, Int.toNat_natCast]; exact rfr_stop (.inr h2) hr
      rw [hF]
      refine T_wk (Wk.frz (l' := [ps 4 (.ssl (ints l) 0 l.length), pb 0 46 [(sv b), (iv (posI b t.1)), (bv t.2)], (kb 1, none)]) 1 (T := 3) (cs := (ints l)) (by kernel_rfl) (ints_shd _) (by kernel_rfl)) ?_
      refine T_wk (Wk.less (l' := [ps 4 (.ssl (ints l) 0 l.length), pb 0 46 [(sv b), (iv (posI b t.1)), (bv t.2)]]) 98 (by kernel_rfl) (by kernel_rfl)) ?_
      exact T_ret fun cx_ a_ hI_ => ret_ok (H' := [some (46, [(sv b), (iv (posI b t.1)), (bv t.2)])]) (.inr rfl) (Wk.ren2 [ps 4 (.ssl (ints l) 0 l.length), pb 0 46 [(sv b), (iv (posI b t.1)), (bv t.2)]] 1 hc0 [0] rfl rfl (by kernel_rfl) (by kernel_rfl)) rfl (obs_cons rfl (obs_nil)) (fun cx_ a_ hI_ => ret_res (l' := [ps 4 (.ssl (ints l) 0 l.length), pb 0 46 [(sv b), (iv (posI b t.1)), (bv t.2)]]) (by kernel_rfl) cx_ a_ hI_) hI_
    · refine T_then (b := (!t.2)) rfl (congrArg Bool.not (Bool.eq_false_iff.2 h2)) ?_
      refine T_skip ?_
      refine T_seq ?_
      refine T_block ?_
      refine T_seq ?_
      have hS := hsm (Bool.eq_false_iff.2 h2)
      have hg := guess_bd hS i o
      have hrb := rrice_bd key t.1
      have hu := unf_bd _ hrb.1 hrb.2
      have hm := rnum_bd 16 0 (t.1, false) (Int.le_refl _)
      refine T_wk (Wk.eq (show [ps 0 (.opt 0 0), ps 1 (iv ((many : Nat) : Int)), ps 5 (iv ((o : Nat) : Int)), ps 6 (iv ((key : Nat) : Int)), ps 7 (.osl 1 0 l.length), ps 8 (iv ((i : Nat) : Int)), ps 23 (bv (!t.2)), pb 0 46 [(sv b), (iv (posI b t.1)), (bv t.2)], pb 1 3 (ints l)] = [ps 0 (.opt 0 0), ps 1 (iv ((many : Nat) : Int)), ps 5 (iv ((o : Nat) : Int)), ps 6 (iv ((key : Nat) : Int)), ps 7 (.osl 1 0 l.length), ps 8 (iv ((i : Nat) : Int)), ps 23 (bv (!t.2)), pb 0 46 [(sv b), (iv (posI b t.1)), (bv false)], pb 1 3 (ints l)] from by rw [Bool.eq_false_iff.2 h2])) ?_
      refine T_region [] [ks 0, ks 1, ks 5, ks 6, ks 7, ks 8, kb 0, kb 1] (fun _ => mixed) (l' := [ps 0 (.opt 0 0), ps 1 (iv ((many : Nat) : Int)), ps 5 (iv ((o : Nat) : Int)), ps 6 (iv ((key : Nat) : Int)), ps 7 (.osl 1 0 l.length), ps 8 (iv ((i : Nat) : Int)), pb 0 46 [(sv b), (iv (posI b t.1)), (bv false)], pb 1 3 (ints l)]) (obs := []) (by kernel_rfl) (obs_nil) ?_
      refine T_seq ?_
      refine T_seq ?_
      refine T_region [] [ks 0, ks 1, ks 5, ks 6, ks 7, ks 8, ks 28, kb 0, kb 1] (fun _ => mixed) (l' := [ps 0 (.opt 0 0), ps 1 (iv ((many : Nat) : Int)), ps 5 (iv ((o : Nat) : Int)), ps 6 (iv ((key : Nat) : Int)), ps 7 (.osl 1 0 l.length), ps 8 (iv ((i : Nat) : Int)), ps 28 (bv (decide (((i : Nat) : Int) < ((o : Nat) : Int)))), pb 0 46 [(sv b), (iv (posI b t.1)), (bv false)], pb 1 3 (ints l)]) (obs := []) (by kernel_rfl) (obs_nil) ?_
      by_cases h3 : ((i : Nat) : Int) < ((o : Nat) : Int)
      · refine T_then (b := (decide (((i : Nat) : Int) < ((o : Nat) : Int)))) rfl (decide_eq_true h3) ?_
        refine T_region [(1, .call [0] [(.opt 0 0), (iv 16)] [some (46, [(sv b), (iv (posI b t.1)), (bv false)])] (iv ((rnum 16 0 (t.1, false)).1)) [some (46, [(sv b), (iv (posI b (rnum 16 0 (t.1, false)).2.1)), (bv (rnum 16 0 (t.1, false)).2.2)])])] [ks 0, ks 1, ks 5, ks 6, ks 7, ks 8, ks 9, kb 0, kb 1] (fun _ => mixed) (l' := [ps 0 (.opt 0 0), ps 1 (iv ((many : Nat) : Int)), ps 5 (iv ((o : Nat) : Int)), ps 6 (iv ((key : Nat) : Int)), ps 7 (.osl 1 0 l.length), ps 8 (iv ((i : Nat) : Int)), ps 9 (iv (((rnum 16 0 (t.1, false)).1) - 32768)), pb 0 46 [(sv b), (iv (posI b (rnum 16 0 (t.1, false)).2.1)), (bv (rnum 16 0 (t.1, false)).2.2)], pb 1 3 (ints l)]) (obs := [PC Try.prog 20 [(.opt 0 0), (iv 16)] [some (46, [(sv b), (iv (posI b t.1)), (bv false)])] (iv ((rnum 16 0 (t.1, false)).1)) [some (46, [(sv b), (iv (posI b (rnum 16 0 (t.1, false)).2.1)), (bv (rnum 16 0 (t.1, false)).2.2)])], [(.opt 0 0), (iv 16)] = renL (sigi [0] 122) [(.opt 0 0), (iv 16)], [(sv b), (iv (posI b t.1)), (bv false)] = renL (sigi [0] 122) [(sv b), (iv (posI b t.1)), (bv false)], InK .i64 (((rnum 16 0 (t.1, false)).1) - 32768)]) (by kernel_rfl) (obs_cons (p := PC Try.prog 20 [(.opt 0 0), (iv 16)] [some (46, [(sv b), (iv (posI b t.1)), (bv false)])] (iv ((rnum 16 0 (t.1, false)).1)) [some (46, [(sv b), (iv (posI b (rnum 16 0 (t.1, false)).2.1)), (bv (rnum 16 0 (t.1, false)).2.2)])]) (number_pc b hb 16 (by omega) (t.1, false) hs) (obs_cons (p := [(.opt 0 0), (iv 16)] = renL (sigi [0] 122) [(.opt 0 0), (iv 16)]) rfl (obs_cons (p := [(sv b), (iv (posI b t.1)), (bv false)] = renL (sigi [0] 122) [(sv b), (iv (posI b t.1)), (bv false)]) rfl (obs_cons (p := InK .i64 (((rnum 16 0 (t.1, false)).1) - 32768)) (by simp only [InK]; omega) (obs_nil))))) ?_
        refine T_seq ?_
        have hR : rsample o key l t.1 = ((rnum 16 0 (t.1, false)).1 - 32768, (rnum 16 0 (t.1, false)).2) := by unfold rsample; rw [if_pos (by omega)]
        by_cases h4 : (rnum 16 0 (t.1, false)).2.2 = true
        · refine T_region [(6, .gd true .no), (7, .gd true .no), (8, .yes true), (10, .gd true .no), (11, .gd true .no)] [ks 0, ks 1, ks 5, ks 6, ks 7, ks 8, ks 9, kb 0, kb 1] (fun _ => mixed) (l' := [ps 0 (.opt 0 0), ps 1 (iv ((many : Nat) : Int)), ps 5 (iv ((o : Nat) : Int)), ps 6 (iv ((key : Nat) : Int)), ps 7 (.osl 1 0 l.length), ps 8 (iv ((i : Nat) : Int)), ps 9 (iv (((rnum 16 0 (t.1, false)).1) - 32768)), pb 0 46 [(sv b), (iv (posI b (rnum 16 0 (t.1, false)).2.1)), (bv true)], pb 1 3 (ints l)]) (obs := [(rnum 16 0 (t.1, false)).2.2 = true, (rnum 16 0 (t.1, false)).2.2 = true, (rnum 16 0 (t.1, false)).2.2 = true, true = true, true = true]) (by kernel_rfl) (obs_cons (p := (rnum 16 0 (t.1, false)).2.2 = true) h4 (obs_cons (p := (rnum 16 0 (t.1, false)).2.2 = true) h4 (obs_cons (p := (rnum 16 0 (t.1, false)).2.2 = true) h4 (obs_cons (p := true = true) rfl (obs_cons (p := true = true) rfl (obs_nil)))))) ?_
          refine T_region [(3, .app none (some (ints (l ++ [((rnum 16 0 (t.1, false)).1) - 32768]))))] [ks 0, ks 1, ks 5, ks 6, ks 7, ks 8, kb 0, kb 298] (fun _ => mixed) (l' := [ps 0 (.opt 0 0), ps 1 (iv ((many : Nat) : Int)), ps 5 (iv ((o : Nat) : Int)), ps 6 (iv ((key : Nat) : Int)), ps 7 (.osl 298 0 (l.length + 1)), ps 8 (iv ((i : Nat) : Int)), pb 0 46 [(sv b), (iv (posI b (rnum 16 0 (t.1, false)).2.1)), (bv true)], pb 298 3 (ints (l ++ [((rnum 16 0 (t.1, false)).1) - 32768]))]) (obs := [((ints l)).length = l.length * 1, (l.length + 1) * 8 ≤ 140737488355328 ∧ l.length + 1 ≤ 9223372036854775807, (ints l) ++ [(iv (((rnum 16 0 (t.1, false)).1) - 32768))] = (ints (l ++ [((rnum 16 0 (t.1, false)).1) - 32768]))]) (by kernel_rfl) (obs_cons (p := ((ints l)).length = l.length * 1) (by simp [ints_len]) (obs_cons (p := (l.length + 1) * 8 ≤ 140737488355328 ∧ l.length + 1 ≤ 9223372036854775807) (by omega) (obs_cons (p := (ints l) ++ [(iv (((rnum 16 0 (t.1, false)).1) - 32768))] = (ints (l ++ [((rnum 16 0 (t.1, false)).1) - 32768]))) (flat_app (fun n => [iv n]) l [((rnum 16 0 (t.1, false)).1) - 32768]).symm (obs_nil)))) ?_
          refine T_blk ?_
          refine T_region [] [ks 0, ks 1, ks 5, ks 6, ks 7, ks 8, kb 0, kb 298] (fun _ => mixed) (l' := [ps 0 (.opt 0 0), ps 1 (iv ((many : Nat) : Int)), ps 5 (iv ((o : Nat) : Int)), ps 6 (iv ((key : Nat) : Int)), ps 7 (.osl 298 0 (l.length + 1)), ps 8 (iv (((i : Nat) : Int) + 1)), pb 0 46 [(sv b), (iv (posI b (rnum 16 0 (t.1, false)).2.1)), (bv true)], pb 298 3 (ints (l ++ [((rnum 16 0 (t.1, false)).1) - 32768]))]) (obs := [InK .i64 (((i : Nat) : Int) + 1)]) (by kernel_rfl) (obs_cons (p := InK .i64 (((i : Nat) : Int) + 1)) (by simp only [InK]; omega) (obs_nil)) ?_
          have hN1 : (rnext o key l t.1).1 = (rnum 16 0 (t.1, false)).2.1 := by unfold rnext; rw [hR]
          have hN2 : (rnext o key l t.1).2 = true := by unfold rnext; rw [hR]; exact flag_t h4
          have hN3 : (rsample o key l t.1).1 = (rnum 16 0 (t.1, false)).1 - 32768 := by rw [hR]
          exact T_back ⟨(i + 1, (l ++ [(rsample o key l t.1).1]), (rnext o key l t.1)), frame_next (by omega) h2 hs hl hsm hr⟩ (Wk.trans (Wk.eq (show [ps 0 (.opt 0 0), ps 1 (iv ((many : Nat) : Int)), ps 5 (iv ((o : Nat) : Int)), ps 6 (iv ((key : Nat) : Int)), ps 7 (.osl 298 0 (l.length + 1)), ps 8 (iv (((i : Nat) : Int) + 1)), pb 0 46 [(sv b), (iv (posI b (rnum 16 0 (t.1, false)).2.1)), (bv true)], pb 298 3 (ints (l ++ [((rnum 16 0 (t.1, false)).1) - 32768]))] = [ps 0 (.opt 0 0), ps 1 (iv ((many : Nat) : Int)), ps 5 (iv ((o : Nat) : Int)), ps 6 (iv ((key : Nat) : Int)), ps 7 (.osl 298 0 ((l ++ [(rsample o key l t.1).1]).length)), ps 8 (iv (((i : Nat) : Int) + 1)), pb 0 46 [(sv b), (iv (posI b (rnext o key l t.1).1)), (bv (rnext o key l t.1).2)], pb 298 3 (ints (l ++ [(rsample o key l t.1).1]))] from by rw [hN1, hN2, hN3, snoc_len])) (Wk.ren3 [ps 0 (.opt 0 0), ps 1 (iv ((many : Nat) : Int)), ps 5 (iv ((o : Nat) : Int)), ps 6 (iv ((key : Nat) : Int)), ps 7 (.osl 1 0 (l ++ [(rsample o key l t.1).1]).length), ps 8 (iv (((i + 1) : Nat) : Int)), pb 0 46 [(sv b), (iv (posI b (rnext o key l t.1).1)), (bv (rnext o key l t.1).2)], pb 1 3 (ints (l ++ [(rsample o key l t.1).1]))] 1 hc0 [0, 298] [(kb 1, (ints (l ++ [(rsample o key l t.1).1])))] (obs_cons (ints_shd _) (obs_nil)) (by kernel_rfl) rfl rfl (by kernel_rfl) (by kernel_rfl))) (show many - (i + 1) < many - i from by show many - (i + 1) < many - i; omega)
        · by_cases h5 : (((rnum 16 0 (t.1, false)).1) - 32768) < (-32768)
          · refine T_region [(6, .gd false (.no)), (7, .gd false (.no)), (8, .yes false), (10, .gd true .no), (11, .gd true .no), (12, .yes true)] [ks 0, ks 1, ks 5, ks 6, ks 7, ks 8, ks 9, kb 0, kb 1] (fun _ => mixed) (l' := [ps 0 (.opt 0 0), ps 1 (iv ((many : Nat) : Int)), ps 5 (iv ((o : Nat) : Int)), ps 6 (iv ((key : Nat) : Int)), ps 7 (.osl 1 0 l.length), ps 8 (iv ((i : Nat) : Int)), ps 9 (iv (((rnum 16 0 (t.1, false)).1) - 32768)), pb 0 46 [(sv b), (iv (posI b (rnum 16 0 (t.1, false)).2.1)), (bv true)], pb 1 3 (ints l)]) (obs := [(rnum 16 0 (t.1, false)).2.2 = false, (rnum 16 0 (t.1, false)).2.2 = false, (rnum 16 0 (t.1, false)).2.2 = false, (decide ((((rnum 16 0 (t.1, false)).1) - 32768) < (-32768))) = true, (decide ((((rnum 16 0 (t.1, false)).1) - 32768) < (-32768))) = true, (decide ((((rnum 16 0 (t.1, false)).1) - 32768) < (-32768))) = true]) (by kernel_rfl) (obs_cons (p := (rnum 16 0 (t.1, false)).2.2 = false) (Bool.eq_false_iff.2 h4) (obs_cons (p := (rnum 16 0 (t.1, false)).2.2 = false) (Bool.eq_false_iff.2 h4) (obs_cons (p := (rnum 16 0 (t.1, false)).2.2 = false) (Bool.eq_false_iff.2 h4) (obs_cons (p := (decide ((((rnum 16 0 (t.1, false)).1) - 32768) < (-32768))) = true) (decide_eq_true h5) (obs_cons (p := (decide ((((rnum 16 0 (t.1, false)).1) - 32768) < (-32768))) = true) (decide_eq_true h5) (obs_cons (p := (decide ((((rnum 16 0 (t.1, false)).1) - 32768) < (-32768))) = true) (decide_eq_true h5) (obs_nil))))))) ?_
            refine T_region [(3, .app none (some (ints (l ++ [((rnum 16 0 (t.1, false)).1) - 32768]))))] [ks 0, ks 1, ks 5, ks 6, ks 7, ks 8, kb 0, kb 298] (fun _ => mixed) (l' := [ps 0 (.opt 0 0), ps 1 (iv ((many : Nat) : Int)), ps 5 (iv ((o : Nat) : Int)), ps 6 (iv ((key : Nat) : Int)), ps 7 (.osl 298 0 (l.length + 1)), ps 8 (iv ((i : Nat) : Int)), pb 0 46 [(sv b), (iv (posI b (rnum 16 0 (t.1, false)).2.1)), (bv true)], pb 298 3 (ints (l ++ [((rnum 16 0 (t.1, false)).1) - 32768]))]) (obs := [((ints l)).length = l.length * 1, (l.length + 1) * 8 ≤ 140737488355328 ∧ l.length + 1 ≤ 9223372036854775807, (ints l) ++ [(iv (((rnum 16 0 (t.1, false)).1) - 32768))] = (ints (l ++ [((rnum 16 0 (t.1, false)).1) - 32768]))]) (by kernel_rfl) (obs_cons (p := ((ints l)).length = l.length * 1) (by simp [ints_len]) (obs_cons (p := (l.length + 1) * 8 ≤ 140737488355328 ∧ l.length + 1 ≤ 9223372036854775807) (by omega) (obs_cons (p := (ints l) ++ [(iv (((rnum 16 0 (t.1, false)).1) - 32768))] = (ints (l ++ [((rnum 16 0 (t.1, false)).1) - 32768]))) (flat_app (fun n => [iv n]) l [((rnum 16 0 (t.1, false)).1) - 32768]).symm (obs_nil)))) ?_
            refine T_blk ?_
            refine T_region [] [ks 0, ks 1, ks 5, ks 6, ks 7, ks 8, kb 0, kb 298] (fun _ => mixed) (l' := [ps 0 (.opt 0 0), ps 1 (iv ((many : Nat) : Int)), ps 5 (iv ((o : Nat) : Int)), ps 6 (iv ((key : Nat) : Int)), ps 7 (.osl 298 0 (l.length + 1)), ps 8 (iv (((i : Nat) : Int) + 1)), pb 0 46 [(sv b), (iv (posI b (rnum 16 0 (t.1, false)).2.1)), (bv true)], pb 298 3 (ints (l ++ [((rnum 16 0 (t.1, false)).1) - 32768]))]) (obs := [InK .i64 (((i : Nat) : Int) + 1)]) (by kernel_rfl) (obs_cons (p := InK .i64 (((i : Nat) : Int) + 1)) (by simp only [InK]; omega) (obs_nil)) ?_
            have hN1 : (rnext o key l t.1).1 = (rnum 16 0 (t.1, false)).2.1 := by unfold rnext; rw [hR]
            have hN2 : (rnext o key l t.1).2 = true := by unfold rnext; rw [hR]; exact flag_lo h5
            have hN3 : (rsample o key l t.1).1 = (rnum 16 0 (t.1, false)).1 - 32768 := by rw [hR]
            exact T_back ⟨(i + 1, (l ++ [(rsample o key l t.1).1]), (rnext o key l t.1)), frame_next (by omega) h2 hs hl hsm hr⟩ (Wk.trans (Wk.eq (show [ps 0 (.opt 0 0), ps 1 (iv ((many : Nat) : Int)), ps 5 (iv ((o : Nat) : Int)), ps 6 (iv ((key : Nat) : Int)), ps 7 (.osl 298 0 (l.length + 1)), ps 8 (iv (((i : Nat) : Int) + 1)), pb 0 46 [(sv b), (iv (posI b (rnum 16 0 (t.1, false)).2.1)), (bv true)], pb 298 3 (ints (l ++ [((rnum 16 0 (t.1, false)).1) - 32768]))] = [ps 0 (.opt 0 0), ps 1 (iv ((many : Nat) : Int)), ps 5 (iv ((o : Nat) : Int)), ps 6 (iv ((key : Nat) : Int)), ps 7 (.osl 298 0 ((l ++ [(rsample o key l t.1).1]).length)), ps 8 (iv (((i : Nat) : Int) + 1)), pb 0 46 [(sv b), (iv (posI b (rnext o key l t.1).1)), (bv (rnext o key l t.1).2)], pb 298 3 (ints (l ++ [(rsample o key l t.1).1]))] from by rw [hN1, hN2, hN3, snoc_len])) (Wk.ren3 [ps 0 (.opt 0 0), ps 1 (iv ((many : Nat) : Int)), ps 5 (iv ((o : Nat) : Int)), ps 6 (iv ((key : Nat) : Int)), ps 7 (.osl 1 0 (l ++ [(rsample o key l t.1).1]).length), ps 8 (iv (((i + 1) : Nat) : Int)), pb 0 46 [(sv b), (iv (posI b (rnext o key l t.1).1)), (bv (rnext o key l t.1).2)], pb 1 3 (ints (l ++ [(rsample o key l t.1).1]))] 1 hc0 [0, 298] [(kb 1, (ints (l ++ [(rsample o key l t.1).1])))] (obs_cons (ints_shd _) (obs_nil)) (by kernel_rfl) rfl rfl (by kernel_rfl) (by kernel_rfl))) (show many - (i + 1) < many - i from by show many - (i + 1) < many - i; omega)
          · refine T_region [(6, .gd false (.no)), (7, .gd false (.no)), (8, .yes false), (10, .gd false (.no)), (11, .gd false (.no)), (12, .yes false)] [ks 0, ks 1, ks 5, ks 6, ks 7, ks 8, ks 9, kb 0, kb 1] (fun _ => mixed) (l' := [ps 0 (.opt 0 0), ps 1 (iv ((many : Nat) : Int)), ps 5 (iv ((o : Nat) : Int)), ps 6 (iv ((key : Nat) : Int)), ps 7 (.osl 1 0 l.length), ps 8 (iv ((i : Nat) : Int)), ps 9 (iv (((rnum 16 0 (t.1, false)).1) - 32768)), pb 0 46 [(sv b), (iv (posI b (rnum 16 0 (t.1, false)).2.1)), (bv (decide (32767 < (((rnum 16 0 (t.1, false)).1) - 32768))))], pb 1 3 (ints l)]) (obs := [(rnum 16 0 (t.1, false)).2.2 = false, (rnum 16 0 (t.1, false)).2.2 = false, (rnum 16 0 (t.1, false)).2.2 = false, (decide ((((rnum 16 0 (t.1, false)).1) - 32768) < (-32768))) = false, (decide ((((rnum 16 0 (t.1, false)).1) - 32768) < (-32768))) = false, (decide ((((rnum 16 0 (t.1, false)).1) - 32768) < (-32768))) = false]) (by kernel_rfl) (obs_cons (p := (rnum 16 0 (t.1, false)).2.2 = false) (Bool.eq_false_iff.2 h4) (obs_cons (p := (rnum 16 0 (t.1, false)).2.2 = false) (Bool.eq_false_iff.2 h4) (obs_cons (p := (rnum 16 0 (t.1, false)).2.2 = false) (Bool.eq_false_iff.2 h4) (obs_cons (p := (decide ((((rnum 16 0 (t.1, false)).1) - 32768) < (-32768))) = false) (decide_eq_false h5) (obs_cons (p := (decide ((((rnum 16 0 (t.1, false)).1) - 32768) < (-32768))) = false) (decide_eq_false h5) (obs_cons (p := (decide ((((rnum 16 0 (t.1, false)).1) - 32768) < (-32768))) = false) (decide_eq_false h5) (obs_nil))))))) ?_
            refine T_region [(3, .app none (some (ints (l ++ [((rnum 16 0 (t.1, false)).1) - 32768]))))] [ks 0, ks 1, ks 5, ks 6, ks 7, ks 8, kb 0, kb 298] (fun _ => mixed) (l' := [ps 0 (.opt 0 0), ps 1 (iv ((many : Nat) : Int)), ps 5 (iv ((o : Nat) : Int)), ps 6 (iv ((key : Nat) : Int)), ps 7 (.osl 298 0 (l.length + 1)), ps 8 (iv ((i : Nat) : Int)), pb 0 46 [(sv b), (iv (posI b (rnum 16 0 (t.1, false)).2.1)), (bv (decide (32767 < (((rnum 16 0 (t.1, false)).1) - 32768))))], pb 298 3 (ints (l ++ [((rnum 16 0 (t.1, false)).1) - 32768]))]) (obs := [((ints l)).length = l.length * 1, (l.length + 1) * 8 ≤ 140737488355328 ∧ l.length + 1 ≤ 9223372036854775807, (ints l) ++ [(iv (((rnum 16 0 (t.1, false)).1) - 32768))] = (ints (l ++ [((rnum 16 0 (t.1, false)).1) - 32768]))]) (by kernel_rfl) (obs_cons (p := ((ints l)).length = l.length * 1) (by simp [ints_len]) (obs_cons (p := (l.length + 1) * 8 ≤ 140737488355328 ∧ l.length + 1 ≤ 9223372036854775807) (by omega) (obs_cons (p := (ints l) ++ [(iv (((rnum 16 0 (t.1, false)).1) - 32768))] = (ints (l ++ [((rnum 16 0 (t.1, false)).1) - 32768]))) (flat_app (fun n => [iv n]) l [((rnum 16 0 (t.1, false)).1) - 32768]).symm (obs_nil)))) ?_
            refine T_blk ?_
            refine T_region [] [ks 0, ks 1, ks 5, ks 6, ks 7, ks 8, kb 0, kb 298] (fun _ => mixed) (l' := [ps 0 (.opt 0 0), ps 1 (iv ((many : Nat) : Int)), ps 5 (iv ((o : Nat) : Int)), ps 6 (iv ((key : Nat) : Int)), ps 7 (.osl 298 0 (l.length + 1)), ps 8 (iv (((i : Nat) : Int) + 1)), pb 0 46 [(sv b), (iv (posI b (rnum 16 0 (t.1, false)).2.1)), (bv (decide (32767 < (((rnum 16 0 (t.1, false)).1) - 32768))))], pb 298 3 (ints (l ++ [((rnum 16 0 (t.1, false)).1) - 32768]))]) (obs := [InK .i64 (((i : Nat) : Int) + 1)]) (by kernel_rfl) (obs_cons (p := InK .i64 (((i : Nat) : Int) + 1)) (by simp only [InK]; omega) (obs_nil)) ?_
            have hN1 : (rnext o key l t.1).1 = (rnum 16 0 (t.1, false)).2.1 := by unfold rnext; rw [hR]
            have hN2 : (rnext o key l t.1).2 = (decide (32767 < (((rnum 16 0 (t.1, false)).1) - 32768))) := by unfold rnext; rw [hR]; exact flag_hi h4 h5
            have hN3 : (rsample o key l t.1).1 = (rnum 16 0 (t.1, false)).1 - 32768 := by rw [hR]
            exact T_back ⟨(i + 1, (l ++ [(rsample o key l t.1).1]), (rnext o key l t.1)), frame_next (by omega) h2 hs hl hsm hr⟩ (Wk.trans (Wk.eq (show [ps 0 (.opt 0 0), ps 1 (iv ((many : Nat) : Int)), ps 5 (iv ((o : Nat) : Int)), ps 6 (iv ((key : Nat) : Int)), ps 7 (.osl 298 0 (l.length + 1)), ps 8 (iv (((i : Nat) : Int) + 1)), pb 0 46 [(sv b), (iv (posI b (rnum 16 0 (t.1, false)).2.1)), (bv (decide (32767 < (((rnum 16 0 (t.1, false)).1) - 32768))))], pb 298 3 (ints (l ++ [((rnum 16 0 (t.1, false)).1) - 32768]))] = [ps 0 (.opt 0 0), ps 1 (iv ((many : Nat) : Int)), ps 5 (iv ((o : Nat) : Int)), ps 6 (iv ((key : Nat) : Int)), ps 7 (.osl 298 0 ((l ++ [(rsample o key l t.1).1]).length)), ps 8 (iv (((i : Nat) : Int) + 1)), pb 0 46 [(sv b), (iv (posI b (rnext o key l t.1).1)), (bv (rnext o key l t.1).2)], pb 298 3 (ints (l ++ [(rsample o key l t.1).1]))] from by rw [hN1, hN2, hN3, snoc_len])) (Wk.ren3 [ps 0 (.opt 0 0), ps 1 (iv ((many : Nat) : Int)), ps 5 (iv ((o : Nat) : Int)), ps 6 (iv ((key : Nat) : Int)), ps 7 (.osl 1 0 (l ++ [(rsample o key l t.1).1]).length), ps 8 (iv (((i + 1) : Nat) : Int)), pb 0 46 [(sv b), (iv (posI b (rnext o key l t.1).1)), (bv (rnext o key l t.1).2)], pb 1 3 (ints (l ++ [(rsample o key l t.1).1]))] 1 hc0 [0, 298] [(kb 1, (ints (l ++ [(rsample o key l t.1).1])))] (obs_cons (ints_shd _) (obs_nil)) (by kernel_rfl) rfl rfl (by kernel_rfl) (by kernel_rfl))) (show many - (i + 1) < many - i from by show many - (i + 1) < many - i; omega)
      · refine T_else (b := (decide (((i : Nat) : Int) < ((o : Nat) : Int)))) rfl (decide_eq_false h3) ?_
        refine T_region [(2, .call [0] [(.opt 0 0), (iv ((key : Nat) : Int))] [some (46, [(sv b), (iv (posI b t.1)), (bv false)])] (iv ((rrice key t.1).1)) [some (46, [(sv b), (iv (posI b (rrice key t.1).2.1)), (bv (rrice key t.1).2.2)])]), (3, .call [] [(iv ((rrice key t.1).1))] [] (iv (unf ((rrice key t.1).1))) []), (7, .callR [1] [(.osl 0 0 l.length), (iv ((i : Nat) : Int)), (iv ((o : Nat) : Int))] [some (3, (ints l))] (iv (guess l i o)))] [ks 0, ks 1, ks 5, ks 6, ks 7, ks 8, ks 9, kb 0, kb 1] (fun _ => mixed) (l' := [ps 0 (.opt 0 0), ps 1 (iv ((many : Nat) : Int)), ps 5 (iv ((o : Nat) : Int)), ps 6 (iv ((key : Nat) : Int)), ps 7 (.osl 1 0 l.length), ps 8 (iv ((i : Nat) : Int)), ps 9 (iv ((unf ((rrice key t.1).1)) + (guess l i o))), pb 0 46 [(sv b), (iv (posI b (rrice key t.1).2.1)), (bv (rrice key t.1).2.2)], pb 1 3 (ints l)]) (obs := [PC Try.prog 36 [(.opt 0 0), (iv ((key : Nat) : Int))] [some (46, [(sv b), (iv (posI b t.1)), (bv false)])] (iv ((rrice key t.1).1)) [some (46, [(sv b), (iv (posI b (rrice key t.1).2.1)), (bv (rrice key t.1).2.2)])], [(.opt 0 0), (iv ((key : Nat) : Int))] = renL (sigi [0] 130) [(.opt 0 0), (iv ((key : Nat) : Int))], [(sv b), (iv (posI b t.1)), (bv false)] = renL (sigi [0] 130) [(sv b), (iv (posI b t.1)), (bv false)], PC Try.prog 35 [(iv ((rrice key t.1).1))] [] (iv (unf ((rrice key t.1).1))) [], [(iv ((rrice key t.1).1))] = renL (sigi [] 138) [(iv ((rrice key t.1).1))], PC Try.prog 37 [(.osl 0 0 l.length), (iv ((i : Nat) : Int)), (iv ((o : Nat) : Int))] [some (3, (ints l))] (iv (guess l i o)) [some (3, (ints l))], [(.osl 1 0 l.length), (iv ((i : Nat) : Int)), (iv ((o : Nat) : Int))] = renL (sigi [1] 170) [(.osl 0 0 l.length), (iv ((i : Nat) : Int)), (iv ((o : Nat) : Int))], (ints l) = renL (sigi [1] 170) (ints l), (ints l) = renL (sigo [1] 170) (ints l), InK .i64 ((unf ((rrice key t.1).1)) + (guess l i o))]) (by kernel_rfl) (obs_cons (p := PC Try.prog 36 [(.opt 0 0), (iv ((key : Nat) : Int))] [some (46, [(sv b), (iv (posI b t.1)), (bv false)])] (iv ((rrice key t.1).1)) [some (46, [(sv b), (iv (posI b (rrice key t.1).2.1)), (bv (rrice key t.1).2.2)])]) (rice_pc b hb key (by omega) t.1 hs) (obs_cons (p := [(.opt 0 0), (iv ((key : Nat) : Int))] = renL (sigi [0] 130) [(.opt 0 0), (iv ((key : Nat) : Int))]) rfl (obs_cons (p := [(sv b), (iv (posI b t.1)), (bv false)] = renL (sigi [0] 130) [(sv b), (iv (posI b t.1)), (bv false)]) rfl (obs_cons (p := PC Try.prog 35 [(iv ((rrice key t.1).1))] [] (iv (unf ((rrice key t.1).1))) []) (unf_pc ((rrice key t.1).1) hrb.1 hrb.2) (obs_cons (p := [(iv ((rrice key t.1).1))] = renL (sigi [] 138) [(iv ((rrice key t.1).1))]) rfl (obs_cons (p := PC Try.prog 37 [(.osl 0 0 l.length), (iv ((i : Nat) : Int)), (iv ((o : Nat) : Int))] [some (3, (ints l))] (iv (guess l i o)) [some (3, (ints l))]) (guess_pc l hS (by omega) i o (by omega) (by omega)) (obs_cons (p := [(.osl 1 0 l.length), (iv ((i : Nat) : Int)), (iv ((o : Nat) : Int))] = renL (sigi [1] 170) [(.osl 0 0 l.length), (iv ((i : Nat) : Int)), (iv ((o : Nat) : Int))]) rfl (obs_cons (p := (ints l) = renL (sigi [1] 170) (ints l)) (renL_shd (ints_shd _)).symm (obs_cons (p := (ints l) = renL (sigo [1] 170) (ints l)) (renL_shd (ints_shd _)).symm (obs_cons (p := InK .i64 ((unf ((rrice key t.1).1)) + (guess l i o))) (by simp only [InK]; omega) (obs_nil))))))))))) ?_
        refine T_seq ?_
        have hR : rsample o key l t.1 = (unf (rrice key t.1).1 + guess l i o, (rrice key t.1).2) := by unfold rsample; rw [if_neg (by omega), hl]
        by_cases h6 : (rrice key t.1).2.2 = true
        · refine T_region [(6, .gd true .no), (7, .gd true .no), (8, .yes true), (10, .gd true .no), (11, .gd true .no)] [ks 0, ks 1, ks 5, ks 6, ks 7, ks 8, ks 9, kb 0, kb 1] (fun _ => mixed) (l' := [ps 0 (.opt 0 0), ps 1 (iv ((many : Nat) : Int)), ps 5 (iv ((o : Nat) : Int)), ps 6 (iv ((key : Nat) : Int)), ps 7 (.osl 1 0 l.length), ps 8 (iv ((i : Nat) : Int)), ps 9 (iv ((unf ((rrice key t.1).1)) + (guess l i o))), pb 0 46 [(sv b), (iv (posI b (rrice key t.1).2.1)), (bv true)], pb 1 3 (ints l)]) (obs := [(rrice key t.1).2.2 = true, (rrice key t.1).2.2 = true, (rrice key t.1).2.2 = true, true = true, true = true]) (by kernel_rfl) (obs_cons (p := (rrice key t.1).2.2 = true) h6 (obs_cons (p := (rrice key t.1).2.2 = true) h6 (obs_cons (p := (rrice key t.1).2.2 = true) h6 (obs_cons (p := true = true) rfl (obs_cons (p := true = true) rfl (obs_nil)))))) ?_
          refine T_region [(3, .app none (some (ints (l ++ [(unf ((rrice key t.1).1)) + (guess l i o)]))))] [ks 0, ks 1, ks 5, ks 6, ks 7, ks 8, kb 0, kb 346] (fun _ => mixed) (l' := [ps 0 (.opt 0 0), ps 1 (iv ((many : Nat) : Int)), ps 5 (iv ((o : Nat) : Int)), ps 6 (iv ((key : Nat) : Int)), ps 7 (.osl 346 0 (l.length + 1)), ps 8 (iv ((i : Nat) : Int)), pb 0 46 [(sv b), (iv (posI b (rrice key t.1).2.1)), (bv true)], pb 346 3 (ints (l ++ [(unf ((rrice key t.1).1)) + (guess l i o)]))]) (obs := [((ints l)).length = l.length * 1, (l.length + 1) * 8 ≤ 140737488355328 ∧ l.length + 1 ≤ 9223372036854775807, (ints l) ++ [(iv ((unf ((rrice key t.1).1)) + (guess l i o)))] = (ints (l ++ [(unf ((rrice key t.1).1)) + (guess l i o)]))]) (by kernel_rfl) (obs_cons (p := ((ints l)).length = l.length * 1) (by simp [ints_len]) (obs_cons (p := (l.length + 1) * 8 ≤ 140737488355328 ∧ l.length + 1 ≤ 9223372036854775807) (by omega) (obs_cons (p := (ints l) ++ [(iv ((unf ((rrice key t.1).1)) + (guess l i o)))] = (ints (l ++ [(unf ((rrice key t.1).1)) + (guess l i o)]))) (flat_app (fun n => [iv n]) l [(unf ((rrice key t.1).1)) + (guess l i o)]).symm (obs_nil)))) ?_
          refine T_blk ?_
          refine T_region [] [ks 0, ks 1, ks 5, ks 6, ks 7, ks 8, kb 0, kb 346] (fun _ => mixed) (l' := [ps 0 (.opt 0 0), ps 1 (iv ((many : Nat) : Int)), ps 5 (iv ((o : Nat) : Int)), ps 6 (iv ((key : Nat) : Int)), ps 7 (.osl 346 0 (l.length + 1)), ps 8 (iv (((i : Nat) : Int) + 1)), pb 0 46 [(sv b), (iv (posI b (rrice key t.1).2.1)), (bv true)], pb 346 3 (ints (l ++ [(unf ((rrice key t.1).1)) + (guess l i o)]))]) (obs := [InK .i64 (((i : Nat) : Int) + 1)]) (by kernel_rfl) (obs_cons (p := InK .i64 (((i : Nat) : Int) + 1)) (by simp only [InK]; omega) (obs_nil)) ?_
          have hN1 : (rnext o key l t.1).1 = (rrice key t.1).2.1 := by unfold rnext; rw [hR]
          have hN2 : (rnext o key l t.1).2 = true := by unfold rnext; rw [hR]; exact flag_t h6
          have hN3 : (rsample o key l t.1).1 = unf (rrice key t.1).1 + guess l i o := by rw [hR]
          exact T_back ⟨(i + 1, (l ++ [(rsample o key l t.1).1]), (rnext o key l t.1)), frame_next (by omega) h2 hs hl hsm hr⟩ (Wk.trans (Wk.eq (show [ps 0 (.opt 0 0), ps 1 (iv ((many : Nat) : Int)), ps 5 (iv ((o : Nat) : Int)), ps 6 (iv ((key : Nat) : Int)), ps 7 (.osl 346 0 (l.length + 1)), ps 8 (iv (((i : Nat) : Int) + 1)), pb 0 46 [(sv b), (iv (posI b (rrice key t.1).2.1)), (bv true)], pb 346 3 (ints (l ++ [(unf ((rrice key t.1).1)) + (guess l i o)]))] = [ps 0 (.opt 0 0), ps 1 (iv ((many : Nat) : Int)), ps 5 (iv ((o : Nat) : Int)), ps 6 (iv ((key : Nat) : Int)), ps 7 (.osl 346 0 ((l ++ [(rsample o key l t.1).1]).length)), ps 8 (iv (((i : Nat) : Int) + 1)), pb 0 46 [(sv b), (iv (posI b (rnext o key l t.1).1)), (bv (rnext o key l t.1).2)], pb 346 3 (ints (l ++ [(rsample o key l t.1).1]))] from by rw [hN1, hN2, hN3, snoc_len])) (Wk.ren3 [ps 0 (.opt 0 0), ps 1 (iv ((many : Nat) : Int)), ps 5 (iv ((o : Nat) : Int)), ps 6 (iv ((key : Nat) : Int)), ps 7 (.osl 1 0 (l ++ [(rsample o key l t.1).1]).length), ps 8 (iv (((i + 1) : Nat) : Int)), pb 0 46 [(sv b), (iv (posI b (rnext o key l t.1).1)), (bv (rnext o key l t.1).2)], pb 1 3 (ints (l ++ [(rsample o key l t.1).1]))] 1 hc0 [0, 346] [(kb 1, (ints (l ++ [(rsample o key l t.1).1])))] (obs_cons (ints_shd _) (obs_nil)) (by kernel_rfl) rfl rfl (by kernel_rfl) (by kernel_rfl))) (show many - (i + 1) < many - i from by show many - (i + 1) < many - i; omega)
        · by_cases h7 : ((unf ((rrice key t.1).1)) + (guess l i o)) < (-32768)
          · refine T_region [(6, .gd false (.no)), (7, .gd false (.no)), (8, .yes false), (10, .gd true .no), (11, .gd true .no), (12, .yes true)] [ks 0, ks 1, ks 5, ks 6, ks 7, ks 8, ks 9, kb 0, kb 1] (fun _ => mixed) (l' := [ps 0 (.opt 0 0), ps 1 (iv ((many : Nat) : Int)), ps 5 (iv ((o : Nat) : Int)), ps 6 (iv ((key : Nat) : Int)), ps 7 (.osl 1 0 l.length), ps 8 (iv ((i : Nat) : Int)), ps 9 (iv ((unf ((rrice key t.1).1)) + (guess l i o))), pb 0 46 [(sv b), (iv (posI b (rrice key t.1).2.1)), (bv true)], pb 1 3 (ints l)]) (obs := [(rrice key t.1).2.2 = false, (rrice key t.1).2.2 = false, (rrice key t.1).2.2 = false, (decide (((unf ((rrice key t.1).1)) + (guess l i o)) < (-32768))) = true, (decide (((unf ((rrice key t.1).1)) + (guess l i o)) < (-32768))) = true, (decide (((unf ((rrice key t.1).1)) + (guess l i o)) < (-32768))) = true]) (by kernel_rfl) (obs_cons (p := (rrice key t.1).2.2 = false) (Bool.eq_false_iff.2 h6) (obs_cons (p := (rrice key t.1).2.2 = false) (Bool.eq_false_iff.2 h6) (obs_cons (p := (rrice key t.1).2.2 = false) (Bool.eq_false_iff.2 h6) (obs_cons (p := (decide (((unf ((rrice key t.1).1)) + (guess l i o)) < (-32768))) = true) (decide_eq_true h7) (obs_cons (p := (decide (((unf ((rrice key t.1).1)) + (guess l i o)) < (-32768))) = true) (decide_eq_true h7) (obs_cons (p := (decide (((unf ((rrice key t.1).1)) + (guess l i o)) < (-32768))) = true) (decide_eq_true h7) (obs_nil))))))) ?_
            refine T_region [(3, .app none (some (ints (l ++ [(unf ((rrice key t.1).1)) + (guess l i o)]))))] [ks 0, ks 1, ks 5, ks 6, ks 7, ks 8, kb 0, kb 346] (fun _ => mixed) (l' := [ps 0 (.opt 0 0), ps 1 (iv ((many : Nat) : Int)), ps 5 (iv ((o : Nat) : Int)), ps 6 (iv ((key : Nat) : Int)), ps 7 (.osl 346 0 (l.length + 1)), ps 8 (iv ((i : Nat) : Int)), pb 0 46 [(sv b), (iv (posI b (rrice key t.1).2.1)), (bv true)], pb 346 3 (ints (l ++ [(unf ((rrice key t.1).1)) + (guess l i o)]))]) (obs := [((ints l)).length = l.length * 1, (l.length + 1) * 8 ≤ 140737488355328 ∧ l.length + 1 ≤ 9223372036854775807, (ints l) ++ [(iv ((unf ((rrice key t.1).1)) + (guess l i o)))] = (ints (l ++ [(unf ((rrice key t.1).1)) + (guess l i o)]))]) (by kernel_rfl) (obs_cons (p := ((ints l)).length = l.length * 1) (by simp [ints_len]) (obs_cons (p := (l.length + 1) * 8 ≤ 140737488355328 ∧ l.length + 1 ≤ 9223372036854775807) (by omega) (obs_cons (p := (ints l) ++ [(iv ((unf ((rrice key t.1).1)) + (guess l i o)))] = (ints (l ++ [(unf ((rrice key t.1).1)) + (guess l i o)]))) (flat_app (fun n => [iv n]) l [(unf ((rrice key t.1).1)) + (guess l i o)]).symm (obs_nil)))) ?_
            refine T_blk ?_
            refine T_region [] [ks 0, ks 1, ks 5, ks 6, ks 7, ks 8, kb 0, kb 346] (fun _ => mixed) (l' := [ps 0 (.opt 0 0), ps 1 (iv ((many : Nat) : Int)), ps 5 (iv ((o : Nat) : Int)), ps 6 (iv ((key : Nat) : Int)), ps 7 (.osl 346 0 (l.length + 1)), ps 8 (iv (((i : Nat) : Int) + 1)), pb 0 46 [(sv b), (iv (posI b (rrice key t.1).2.1)), (bv true)], pb 346 3 (ints (l ++ [(unf ((rrice key t.1).1)) + (guess l i o)]))]) (obs := [InK .i64 (((i : Nat) : Int) + 1)]) (by kernel_rfl) (obs_cons (p := InK .i64 (((i : Nat) : Int) + 1)) (by simp only [InK]; omega) (obs_nil)) ?_
            have hN1 : (rnext o key l t.1).1 = (rrice key t.1).2.1 := by unfold rnext; rw [hR]
            have hN2 : (rnext o key l t.1).2 = true := by unfold rnext; rw [hR]; exact flag_lo h7
            have hN3 : (rsample o key l t.1).1 = unf (rrice key t.1).1 + guess l i o := by rw [hR]
            exact T_back ⟨(i + 1, (l ++ [(rsample o key l t.1).1]), (rnext o key l t.1)), frame_next (by omega) h2 hs hl hsm hr⟩ (Wk.trans (Wk.eq (show [ps 0 (.opt 0 0), ps 1 (iv ((many : Nat) : Int)), ps 5 (iv ((o : Nat) : Int)), ps 6 (iv ((key : Nat) : Int)), ps 7 (.osl 346 0 (l.length + 1)), ps 8 (iv (((i : Nat) : Int) + 1)), pb 0 46 [(sv b), (iv (posI b (rrice key t.1).2.1)), (bv true)], pb 346 3 (ints (l ++ [(unf ((rrice key t.1).1)) + (guess l i o)]))] = [ps 0 (.opt 0 0), ps 1 (iv ((many : Nat) : Int)), ps 5 (iv ((o : Nat) : Int)), ps 6 (iv ((key : Nat) : Int)), ps 7 (.osl 346 0 ((l ++ [(rsample o key l t.1).1]).length)), ps 8 (iv (((i : Nat) : Int) + 1)), pb 0 46 [(sv b), (iv (posI b (rnext o key l t.1).1)), (bv (rnext o key l t.1).2)], pb 346 3 (ints (l ++ [(rsample o key l t.1).1]))] from by rw [hN1, hN2, hN3, snoc_len])) (Wk.ren3 [ps 0 (.opt 0 0), ps 1 (iv ((many : Nat) : Int)), ps 5 (iv ((o : Nat) : Int)), ps 6 (iv ((key : Nat) : Int)), ps 7 (.osl 1 0 (l ++ [(rsample o key l t.1).1]).length), ps 8 (iv (((i + 1) : Nat) : Int)), pb 0 46 [(sv b), (iv (posI b (rnext o key l t.1).1)), (bv (rnext o key l t.1).2)], pb 1 3 (ints (l ++ [(rsample o key l t.1).1]))] 1 hc0 [0, 346] [(kb 1, (ints (l ++ [(rsample o key l t.1).1])))] (obs_cons (ints_shd _) (obs_nil)) (by kernel_rfl) rfl rfl (by kernel_rfl) (by kernel_rfl))) (show many - (i + 1) < many - i from by show many - (i + 1) < many - i; omega)
          · refine T_region [(6, .gd false (.no)), (7, .gd false (.no)), (8, .yes false), (10, .gd false (.no)), (11, .gd false (.no)), (12, .yes false)] [ks 0, ks 1, ks 5, ks 6, ks 7, ks 8, ks 9, kb 0, kb 1] (fun _ => mixed) (l' := [ps 0 (.opt 0 0), ps 1 (iv ((many : Nat) : Int)), ps 5 (iv ((o : Nat) : Int)), ps 6 (iv ((key : Nat) : Int)), ps 7 (.osl 1 0 l.length), ps 8 (iv ((i : Nat) : Int)), ps 9 (iv ((unf ((rrice key t.1).1)) + (guess l i o))), pb 0 46 [(sv b), (iv (posI b (rrice key t.1).2.1)), (bv (decide (32767 < ((unf ((rrice key t.1).1)) + (guess l i o)))))], pb 1 3 (ints l)]) (obs := [(rrice key t.1).2.2 = false, (rrice key t.1).2.2 = false, (rrice key t.1).2.2 = false, (decide (((unf ((rrice key t.1).1)) + (guess l i o)) < (-32768))) = false, (decide (((unf ((rrice key t.1).1)) + (guess l i o)) < (-32768))) = false, (decide (((unf ((rrice key t.1).1)) + (guess l i o)) < (-32768))) = false]) (by kernel_rfl) (obs_cons (p := (rrice key t.1).2.2 = false) (Bool.eq_false_iff.2 h6) (obs_cons (p := (rrice key t.1).2.2 = false) (Bool.eq_false_iff.2 h6) (obs_cons (p := (rrice key t.1).2.2 = false) (Bool.eq_false_iff.2 h6) (obs_cons (p := (decide (((unf ((rrice key t.1).1)) + (guess l i o)) < (-32768))) = false) (decide_eq_false h7) (obs_cons (p := (decide (((unf ((rrice key t.1).1)) + (guess l i o)) < (-32768))) = false) (decide_eq_false h7) (obs_cons (p := (decide (((unf ((rrice key t.1).1)) + (guess l i o)) < (-32768))) = false) (decide_eq_false h7) (obs_nil))))))) ?_
            refine T_region [(3, .app none (some (ints (l ++ [(unf ((rrice key t.1).1)) + (guess l i o)]))))] [ks 0, ks 1, ks 5, ks 6, ks 7, ks 8, kb 0, kb 346] (fun _ => mixed) (l' := [ps 0 (.opt 0 0), ps 1 (iv ((many : Nat) : Int)), ps 5 (iv ((o : Nat) : Int)), ps 6 (iv ((key : Nat) : Int)), ps 7 (.osl 346 0 (l.length + 1)), ps 8 (iv ((i : Nat) : Int)), pb 0 46 [(sv b), (iv (posI b (rrice key t.1).2.1)), (bv (decide (32767 < ((unf ((rrice key t.1).1)) + (guess l i o)))))], pb 346 3 (ints (l ++ [(unf ((rrice key t.1).1)) + (guess l i o)]))]) (obs := [((ints l)).length = l.length * 1, (l.length + 1) * 8 ≤ 140737488355328 ∧ l.length + 1 ≤ 9223372036854775807, (ints l) ++ [(iv ((unf ((rrice key t.1).1)) + (guess l i o)))] = (ints (l ++ [(unf ((rrice key t.1).1)) + (guess l i o)]))]) (by kernel_rfl) (obs_cons (p := ((ints l)).length = l.length * 1) (by simp [ints_len]) (obs_cons (p := (l.length + 1) * 8 ≤ 140737488355328 ∧ l.length + 1 ≤ 9223372036854775807) (by omega) (obs_cons (p := (ints l) ++ [(iv ((unf ((rrice key t.1).1)) + (guess l i o)))] = (ints (l ++ [(unf ((rrice key t.1).1)) + (guess l i o)]))) (flat_app (fun n => [iv n]) l [(unf ((rrice key t.1).1)) + (guess l i o)]).symm (obs_nil)))) ?_
            refine T_blk ?_
            refine T_region [] [ks 0, ks 1, ks 5, ks 6, ks 7, ks 8, kb 0, kb 346] (fun _ => mixed) (l' := [ps 0 (.opt 0 0), ps 1 (iv ((many : Nat) : Int)), ps 5 (iv ((o : Nat) : Int)), ps 6 (iv ((key : Nat) : Int)), ps 7 (.osl 346 0 (l.length + 1)), ps 8 (iv (((i : Nat) : Int) + 1)), pb 0 46 [(sv b), (iv (posI b (rrice key t.1).2.1)), (bv (decide (32767 < ((unf ((rrice key t.1).1)) + (guess l i o)))))], pb 346 3 (ints (l ++ [(unf ((rrice key t.1).1)) + (guess l i o)]))]) (obs := [InK .i64 (((i : Nat) : Int) + 1)]) (by kernel_rfl) (obs_cons (p := InK .i64 (((i : Nat) : Int) + 1)) (by simp only [InK]; omega) (obs_nil)) ?_
            have hN1 : (rnext o key l t.1).1 = (rrice key t.1).2.1 := by unfold rnext; rw [hR]
            have hN2 : (rnext o key l t.1).2 = (decide (32767 < ((unf ((rrice key t.1).1)) + (guess l i o)))) := by unfold rnext; rw [hR]; exact flag_hi h6 h7
            have hN3 : (rsample o key l t.1).1 = unf (rrice key t.1).1 + guess l i o := by rw [hR]
            exact T_back ⟨(i + 1, (l ++ [(rsample o key l t.1).1]), (rnext o key l t.1)), frame_next (by omega) h2 hs hl hsm hr⟩ (Wk.trans (Wk.eq (show [ps 0 (.opt 0 0), ps 1 (iv ((many : Nat) : Int)), ps 5 (iv ((o : Nat) : Int)), ps 6 (iv ((key : Nat) : Int)), ps 7 (.osl 346 0 (l.length + 1)), ps 8 (iv (((i : Nat) : Int) + 1)), pb 0 46 [(sv b), (iv (posI b (rrice key t.1).2.1)), (bv (decide (32767 < ((unf ((rrice key t.1).1)) + (guess l i o)))))], pb 346 3 (ints (l ++ [(unf ((rrice key t.1).1)) + (guess l i o)]))] = [ps 0 (.opt 0 0), ps 1 (iv ((many : Nat) : Int)), ps 5 (iv ((o : Nat) : Int)), ps 6 (iv ((key : Nat) : Int)), ps 7 (.osl 346 0 ((l ++ [(rsample o key l t.1).1]).length)), ps 8 (iv (((i : Nat) : Int) + 1)), pb 0 46 [(sv b), (iv (posI b (rnext o key l t.1).1)), (bv (rnext o key l t.1).2)], pb 346 3 (ints (l ++ [(rsample o key l t.1).1]))] from by rw [hN1, hN2, hN3, snoc_len])) (Wk.ren3 [ps 0 (.opt 0 0), ps 1 (iv ((many : Nat) : Int)), ps 5 (iv ((o : Nat) : Int)), ps 6 (iv ((key : Nat) : Int)), ps 7 (.osl 1 0 (l ++ [(rsample o key l t.1).1]).length), ps 8 (iv (((i + 1) : Nat) : Int)), pb 0 46 [(sv b), (iv (posI b (rnext o key l t.1).1)), (bv (rnext o key l t.1).2)], pb 1 3 (ints (l ++ [(rsample o key l t.1).1]))] 1 hc0 [0, 346] [(kb 1, (ints (l ++ [(rsample o key l t.1).1])))] (obs_cons (ints_shd _) (obs_nil)) (by kernel_rfl) rfl rfl (by kernel_rfl) (by kernel_rfl))) (show many - (i + 1) < many - i from by show many - (i + 1) < many - i; omega)
  · refine T_region [(4, .gd false .no), (5, .gd false .no), (6, .gd false .no), (7, .gd false .no), (8, .gd false .no), (9, .yes false)] [ks 0, ks 1, ks 5, ks 6, ks 7, ks 8, ks 23, kb 0, kb 1] (fun _ => mixed) (l' := [ps 0 (.opt 0 0), ps 1 (iv ((many : Nat) : Int)), ps 5 (iv ((o : Nat) : Int)), ps 6 (iv ((key : Nat) : Int)), ps 7 (.osl 1 0 l.length), ps 8 (iv ((i : Nat) : Int)), ps 23 (bv false), pb 0 46 [(sv b), (iv (posI b t.1)), (bv t.2)], pb 1 3 (ints l)]) (obs := [(decide (((i : Nat) : Int) < ((many : Nat) : Int))) = false, (decide (((i : Nat) : Int) < ((many : Nat) : Int))) = false, (decide (((i : Nat) : Int) < ((many : Nat) : Int))) = false, (decide (((i : Nat) : Int) < ((many : Nat) : Int))) = false, (decide (((i : Nat) : Int) < ((many : Nat) : Int))) = false, (decide (((i : Nat) : Int) < ((many : Nat) : Int))) = false]) (by kernel_rfl) (obs_cons (p := (decide (((i : Nat) : Int) < ((many : Nat) : Int))) = false) (decide_eq_false h1) (obs_cons (p := (decide (((i : Nat) : Int) < ((many : Nat) : Int))) = false) (decide_eq_false h1) (obs_cons (p := (decide (((i : Nat) : Int) < ((many : Nat) : Int))) = false) (decide_eq_false h1) (obs_cons (p := (decide (((i : Nat) : Int) < ((many : Nat) : Int))) = false) (decide_eq_false h1) (obs_cons (p := (decide (((i : Nat) : Int) < ((many : Nat) : Int))) = false) (decide_eq_false h1) (obs_cons (p := (decide (((i : Nat) : Int) < ((many : Nat) : Int))) = false) (decide_eq_false h1) (obs_nil))))))) ?_
    refine T_else (b := false) rfl rfl ?_
    refine T_break rfl rfl ?_
    refine T_seq ?_
    refine T_region [] [ks 4, kb 0, kb 1] (fun _ => mixed) (l' := [ps 4 (.osl 1 0 l.length), pb 0 46 [(sv b), (iv (posI b t.1)), (bv t.2)], pb 1 3 (ints l)]) (obs := []) (by kernel_rfl) (obs_nil) ?_
    have hF : rframe many s = (l, t) := by unfold rframe; rw [ho, hkey, Int.toNat_natCast, Int.toNat_natCast]; exact rfr_stop (.inl (by omega)) hr
    rw [hF]
    refine T_wk (Wk.frz (l' := [ps 4 (.ssl (ints l) 0 l.length), pb 0 46 [(sv b), (iv (posI b t.1)), (bv t.2)], (kb 1, none)]) 1 (T := 3) (cs := (ints l)) (by kernel_rfl) (ints_shd _) (by kernel_rfl)) ?_
    refine T_wk (Wk.less (l' := [ps 4 (.ssl (ints l) 0 l.length), pb 0 46 [(sv b), (iv (posI b t.1)), (bv t.2)]]) 98 (by kernel_rfl) (by kernel_rfl)) ?_
    exact T_ret fun cx_ a_ hI_ => ret_ok (H' := [some (46, [(sv b), (iv (posI b t.1)), (bv t.2)])]) (.inr rfl) (Wk.ren2 [ps 4 (.ssl (ints l) 0 l.length), pb 0 46 [(sv b), (iv (posI b t.1)), (bv t.2)]] 1 hc0 [0] rfl rfl (by kernel_rfl) (by kernel_rfl)) rfl (obs_cons rfl (obs_nil)) (fun cx_ a_ hI_ => ret_res (l' := [ps 4 (.ssl (ints l) 0 l.length), pb 0 46 [(sv b), (iv (posI b t.1)), (bv t.2)]]) (by kernel_rfl) cx_ a_ hI_) hI_
end Go.Proofs.Ytfoiadlaekknpaa.Pm
