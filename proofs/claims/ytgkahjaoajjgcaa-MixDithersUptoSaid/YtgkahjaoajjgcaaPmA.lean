/-
  THE VALUE MACHINE (A): values as trees, how they lie in memory, and what a state of values says of a frame and a world. No program in sight.
-/
import Derived.Orders
import Derived.Below
import Derived.WalkKit
namespace Go.Proofs.Ytgkahjaoajjgcaa.Pm
open Go

/-- A value as a tree. av: a value without an address in it (or one that is never looked into); osl, opt: a slice of, a pointer into an own block; ssl, spt: into cells that nobody writes, which stand in the tree. -/
inductive PV where
  | av (v : Value)
  | agg (cs : List PV)
  | tup (vs : List PV)
  | osl (id off len : Nat)
  | opt (id off : Nat)
  | ssl (cs : List PV) (off len : Nat)
  | spt (cs : List PV) (off : Nat)
  | fn (f : Fn) (first cap : List PV)
abbrev P0 : PV := .av undef
/-- It takes one cell. -/
def PV.one : PV → Bool
  | .av v => v.oneCell'
  | .agg _ => false
  | .tup _ => false
  | _ => true
def ones (cs : List PV) : Prop := ∀ p ∈ cs, PV.one p = true

inductive SRep (w : World) (S : Nat → Prop) : PV → Value → Prop
  | av (v : Value) : SRep w S (.av v) v
  | agg {cs : List PV} {vs : Array Value} (hn : vs.size = cs.length) (h : ∀ i, i < cs.length → SRep w S (cs.getD i P0) (vs.getD i undef)) : SRep w S (.agg cs) (.agg vs)
  | tup {cs : List PV} {vs : Array Value} (hn : vs.size = cs.length) (h : ∀ i, i < cs.length → SRep w S (cs.getD i P0) (vs.getD i undef)) : SRep w S (.tup cs) (.tuple vs)
  | emp {cs : List PV} {off : Nat} {a : Option Addr} {cap : Nat} : SRep w S (.ssl cs off 0) (.slice a 0 cap)
  | ssl {cs : List PV} {off len b a cap : Nat} {vf : Nat → Value} (hS : S b) (hc : ∀ j, j < cs.length → w.cell? ⟨b, a + j, none⟩ = some (vf j)) (h : ∀ j, j < cs.length → SRep w S (cs.getD j P0) (vf j)) (ho : ones cs) (hl : len ≤ cap) :
      SRep w S (.ssl cs off len) (.slice (some ⟨b, a + off, none⟩) len cap)
  | spt {cs : List PV} {off b a : Nat} {vf : Nat → Value} (hS : S b) (hc : ∀ j, j < cs.length → w.cell? ⟨b, a + j, none⟩ = some (vf j)) (h : ∀ j, j < cs.length → SRep w S (cs.getD j P0) (vf j)) (ho : ones cs) :
      SRep w S (.spt cs off) (.pointer (some ⟨b, a + off, none⟩))
  | fn {f : Fn} {cs ds : List PV} {vs us : Array Value} (hn : vs.size = cs.length) (h : ∀ i, i < cs.length → SRep w S (cs.getD i P0) (vs.getD i undef))
      (hm : us.size = ds.length) (k : ∀ i, i < ds.length → SRep w S (ds.getD i P0) (us.getD i undef)) : SRep w S (.fn f cs ds) (.func f vs us)

theorem cell_same {w w' : World} {b i : Nat} (h : w'.heap[b]? = w.heap[b]?) : w'.cell? ⟨b, i, none⟩ = w.cell? ⟨b, i, none⟩ := by
  simp only [World.cell?, h]
theorem SRep.mono {w w' : World} {S S' : Nat → Prop} (hS : ∀ b, S b → S' b ∧ w'.heap[b]? = w.heap[b]?) {p : PV} {v : Value} (h : SRep w S p v) : SRep w' S' p v := by
  induction h with
  | av v => exact .av v
  | agg hn _ ih => exact .agg hn ih
  | tup hn _ ih => exact .tup hn ih
  | emp => exact .emp
  | ssl hs hc _ ho hl ih => exact .ssl (hS _ hs).1 (fun j hj => (cell_same (hS _ hs).2).trans (hc j hj)) ih ho hl
  | spt hs hc _ ho ih => exact .spt (hS _ hs).1 (fun j hj => (cell_same (hS _ hs).2).trans (hc j hj)) ih ho
  | fn hn _ hm _ ih ik => exact .fn hn ih hm ik

/-- Where things lie: the world, the blocks that nobody writes, the own blocks by number (none: none has been made yet). -/
structure Cx where
  w : World
  S : Nat → Prop
  own : Nat → Option (Option Nat × TypeId)

def OslOk (P : Program) (w : World) (ob : Option Nat) (T : TypeId) (off len : Nat) (v : Value) : Prop :=
  (∃ a, v = .slice a 0 0 ∧ len = 0) ∨ ∃ b cap cs, ob = some b ∧ v = .slice (some ⟨b, off, none⟩) len cap ∧ w.heap[b]? = some (.cells cs T (0, 0)) ∧ len ≤ cap ∧ off + cap * P.cellsOf T ≤ cs.size

inductive Rep (P : Program) (c : Cx) : PV → Value → Prop
  | sh {p : PV} {v : Value} (h : SRep c.w c.S p v) : Rep P c p v
  | agg {cs : List PV} {vs : Array Value} (hn : vs.size = cs.length) (h : ∀ i, i < cs.length → Rep P c (cs.getD i P0) (vs.getD i undef)) : Rep P c (.agg cs) (.agg vs)
  | tup {cs : List PV} {vs : Array Value} (hn : vs.size = cs.length) (h : ∀ i, i < cs.length → Rep P c (cs.getD i P0) (vs.getD i undef)) : Rep P c (.tup cs) (.tuple vs)
  | osl {id off len : Nat} {v : Value} {ob : Option Nat} {T : TypeId} (ho : c.own id = some (ob, T)) (h : OslOk P c.w ob T off len v) : Rep P c (.osl id off len) v
  | opt {id off b : Nat} {T : TypeId} (ho : c.own id = some (some b, T)) : Rep P c (.opt id off) (.pointer (some ⟨b, off, none⟩))
  | fn {f : Fn} {cs ds : List PV} {vs us : Array Value} (hn : vs.size = cs.length) (h : ∀ i, i < cs.length → Rep P c (cs.getD i P0) (vs.getD i undef))
      (hm : us.size = ds.length) (k : ∀ i, i < ds.length → Rep P c (ds.getD i P0) (us.getD i undef)) : Rep P c (.fn f cs ds) (.func f vs us)

theorem SRep.one {w : World} {S : Nat → Prop} {p : PV} {v : Value} (h : SRep w S p v) (ho : p.one = true) : v.oneCell' = true := by
  cases h <;> first | exact ho | rfl | (simp [PV.one] at ho)
theorem Rep.one {P : Program} {c : Cx} {p : PV} {v : Value} (h : Rep P c p v) (ho : p.one = true) : v.oneCell' = true := by
  cases h with
  | sh h => exact h.one ho
  | agg => simp [PV.one] at ho
  | tup => simp [PV.one] at ho
  | osl _ h =>
    rcases h with ⟨a, rfl, _⟩ | ⟨b, cap, cs, _, rfl, _⟩ <;> rfl
  | opt => rfl
  | fn => rfl
/-- Blocks keep their shape. -/
def Shape (w w' : World) : Prop := ∀ (b : Nat) (cs : Array Value) (T : TypeId), w.heap[b]? = some (.cells cs T (0, 0)) → ∃ cs', w'.heap[b]? = some (.cells cs' T (0, 0)) ∧ cs'.size = cs.size
theorem Shape.refl (w : World) : Shape w w := fun _ cs _ h => ⟨cs, h, rfl⟩
theorem Shape.trans {a b c : World} (h : Shape a b) (k : Shape b c) : Shape a c := fun i cs T hc => by
  obtain ⟨cs', h1, h2⟩ := h i cs T hc
  obtain ⟨cs'', h3, h4⟩ := k i cs' T h1
  exact ⟨cs'', h3, h4.trans h2⟩
/-- One view goes over into another one: what was said stays true. -/
structure Keep (c c' : Cx) : Prop where
  S : ∀ b, c.S b → c'.S b ∧ c'.w.heap[b]? = c.w.heap[b]?
  own : ∀ id x, c.own id = some x → c'.own id = some x
  shape : Shape c.w c'.w
theorem Keep.refl (c : Cx) : Keep c c := ⟨fun _ h => ⟨h, rfl⟩, fun _ _ h => h, Shape.refl _⟩
theorem Keep.trans {a b c : Cx} (h : Keep a b) (k : Keep b c) : Keep a c :=
  ⟨fun i hi => ⟨(k.S i (h.S i hi).1).1, (k.S i (h.S i hi).1).2.trans (h.S i hi).2⟩, fun i x hx => k.own i x (h.own i x hx), h.shape.trans k.shape⟩
theorem OslOk.mono {P : Program} {w w' : World} (hk : Shape w w') {ob : Option Nat} {T : TypeId} {off len : Nat} {v : Value} (h : OslOk P w ob T off len v) : OslOk P w' ob T off len v := by
  rcases h with h | ⟨b, cap, cs, h1, h2, h3, h4, h5⟩
  · exact .inl h
  · obtain ⟨cs', h6, h7⟩ := hk b cs T h3
    exact .inr ⟨b, cap, cs', h1, h2, h6, h4, by omega⟩
theorem Rep.mono {P : Program} {c c' : Cx} (hk : Keep c c') {p : PV} {v : Value} (h : Rep P c p v) : Rep P c' p v := by
  induction h with
  | sh h => exact .sh (h.mono hk.S)
  | agg hn _ ih => exact .agg hn ih
  | tup hn _ ih => exact .tup hn ih
  | osl ho h => exact .osl (hk.own _ _ ho) (h.mono hk.shape)
  | opt ho => exact .opt (hk.own _ _ ho)
  | fn hn _ hm _ ih ik => exact .fn hn ih hm ik

/-! ### states -/
inductive Val where
  | pv (p : PV)
  | blk (T : TypeId) (cells : List PV)
abbrev ks (s : Nat) : Nat := 2 * s
abbrev kb (i : Nat) : Nat := 2 * i + 1
abbrev St := Nat → Option Val
def lk {α : Type} (k : Nat) : List (Nat × α) → Option α
  | [] => none
  | (j, x) :: l => if Nat.beq k j then some x else lk k l
abbrev L := List (Nat × Option Val)
def get (l : L) : St := fun k => (lk k l).join
def over (l : L) (g : St) : St := fun k => match lk k l with | some x => x | none => g k
theorem get_append (l m : L) : get (l ++ m) = over l (get m) := by
  funext k
  induction l with
  | nil => rfl
  | cons a l ih =>
    obtain ⟨j, x⟩ := a
    simp only [get, over, List.cons_append, lk] at ih ⊢
    by_cases h : Nat.beq k j = true
    · simp [h]
    · simp only [h]; exact ih

def BlkOk (P : Program) (c : Cx) (ob : Option Nat) (T : TypeId) (cells : List PV) : Prop := ones cells ∧ (
  (ob = none ∧ cells = []) ∨ ∃ b cs, ob = some b ∧ c.w.heap[b]? = some (.cells cs T (0, 0)) ∧ cells.length ≤ cs.size ∧ ∀ j, j < cells.length → Rep P c (cells.getD j P0) (cs.getD j undef))

/-- What is fixed over a walk: the program, the frame's size, the world at the beginning, the blocks that were lent, the blocks that nobody writes. -/
structure Env where
  P : Program
  n : Nat
  c0 : Cx
  Bor : Nat → Prop
abbrev Env.W (E : Env) : World := E.c0.w
abbrev Env.S0 (E : Env) : Nat → Prop := E.c0.S

def Live (g : St) (id : Nat) : Prop := ∃ T cells, g (kb id) = some (.blk T cells)

structure Heap (E : Env) (nx : Nat → Prop) (c : Cx) (g : St) : Prop where
  ids : ∀ id x, c.own id = some x → nx id
  blk : ∀ id T cells, g (kb id) = some (.blk T cells) → ∃ ob, c.own id = some (ob, T) ∧ BlkOk E.P c ob T cells
  inj : ∀ id id' b T T', Live g id → Live g id' → c.own id = some (some b, T) → c.own id' = some (some b, T') → id = id'
  apart : ∀ id b T, Live g id → c.own id = some (some b, T) → ¬ c.S b ∧ (E.Bor b ∨ E.W.heap.size ≤ b)
  bnd : ∀ id b T, c.own id = some (some b, T) → b < c.w.heap.size
  sok : ∀ b, c.S b → b < c.w.heap.size
  os : c.w.os = E.W.os
  tape : c.w.tape = E.W.tape
  output : c.w.output = E.W.output
  size : E.W.heap.size ≤ c.w.heap.size
  same : ∀ b, b < E.W.heap.size → ¬ E.Bor b → c.w.heap[b]? = E.W.heap[b]?
  s0 : ∀ b, E.S0 b → c.S b
  s1 : ∀ b, c.S b → E.S0 b ∨ E.Bor b ∨ E.W.heap.size ≤ b
  keep : Keep E.c0 c

structure Inv (E : Env) (nx : Nat → Prop) (c : Cx) (g : St) (a : Act) : Prop extends Heap E nx c g where
  tmps : a.tmps.size = E.n
  dfr : a.defers = []
  slot : ∀ s p, g (ks s) = some (.pv p) → Rep E.P c p (a.tmps.getD s undef)
  isv : ∀ s x, g (ks s) = some x → ∃ p, x = .pv p

/-! ### how it goes on -/
theorem put_get (a : Act) (d s : Nat) (v : Value) (hd : d < a.tmps.size) : ((a.put (some d) v).tmps.getD s undef) = if s = d then v else a.tmps.getD s undef := by
  simp only [Act.put, Array.getD_eq_getD_getElem?, Array.getElem?_setIfInBounds]
  by_cases h : s = d
  · subst h; simp [hd]
  · simp [h, Ne.symm h]
theorem put_size (a : Act) (d : Option Nat) (v : Value) : (a.put d v).tmps.size = a.tmps.size := by
  cases d <;> simp [Act.put]
theorem put_dfr (a : Act) (d : Option Nat) (v : Value) : (a.put d v).defers = a.defers := by
  cases d <;> rfl

/-- The slot that an operation fills. -/
def wd (d : Option Nat) (p : PV) : L := match d with | some d => [(ks d, some (.pv p))] | none => []
theorem lk_wd_b (d : Option Nat) (p : PV) (i : Nat) : lk (kb i) (wd d p) = none := by
  cases d with
  | none => rfl
  | some d => simp only [wd, lk]; rw [show Nat.beq (kb i) (ks d) = false from by rw [Bool.eq_false_iff]; intro h; have := Nat.eq_of_beq_eq_true h; simp only [ks, kb] at this; omega]; rfl
theorem beq_ks (s d : Nat) : Nat.beq (ks s) (ks d) = decide (s = d) := by
  by_cases h : s = d
  · subst h; simp [Nat.beq_refl]
  · rw [decide_eq_false h, Bool.eq_false_iff]; intro h'; have := Nat.eq_of_beq_eq_true h'; simp only [ks, kb] at this; omega
theorem beq_kb (s d : Nat) : Nat.beq (kb s) (kb d) = decide (s = d) := by
  by_cases h : s = d
  · subst h; simp [Nat.beq_refl]
  · rw [decide_eq_false h, Bool.eq_false_iff]; intro h'; have := Nat.eq_of_beq_eq_true h'; simp only [ks, kb] at this; omega
theorem beq_kbs (s d : Nat) : Nat.beq (kb s) (ks d) = false := by
  rw [Bool.eq_false_iff]; intro h; have := Nat.eq_of_beq_eq_true h; simp only [ks, kb] at this; omega
theorem beq_ksb (s d : Nat) : Nat.beq (ks s) (kb d) = false := by
  rw [Bool.eq_false_iff]; intro h; have := Nat.eq_of_beq_eq_true h; simp only [ks, kb] at this; omega

/-- The frame's part behind an operation: a view that keeps what was said; blocks as 'hh' says. -/
theorem Inv.put {E : Env} {nx nx' : Nat → Prop} {c c' : Cx} {g : St} {a : Act} (h : Inv E nx c g a) (hk : Keep c c') (wb : L) (hw : ∀ s, lk (ks s) wb = none) (hh : Heap E nx' c' (over wb g))
    (d : Option Nat) (hd : ∀ x, d = some x → x < E.n) {p : PV} {v : Value} (hv : d ≠ none → Rep E.P c' p v) : Inv E nx' c' (over (wd d p) (over wb g)) (a.put d v) := by
  have hb : ∀ i, over (wd d p) (over wb g) (kb i) = over wb g (kb i) := fun i => by simp only [over, lk_wd_b]
  have hg : over (wd d p) (over wb g) = over (wd d p) (over wb g) := rfl
  have hl : ∀ i, Live (over (wd d p) (over wb g)) i ↔ Live (over wb g) i := fun i => by simp only [Live, hb]
  refine { ids := hh.ids, blk := fun i T cs hx => hh.blk i T cs (by rw [← hb]; exact hx), inj := fun i j b T T' h1 h2 => hh.inj i j b T T' ((hl i).1 h1) ((hl j).1 h2),
           apart := fun i b T h1 => hh.apart i b T ((hl i).1 h1), bnd := hh.bnd, sok := hh.sok, os := hh.os, tape := hh.tape, output := hh.output, size := hh.size, same := hh.same, s0 := hh.s0, s1 := hh.s1, keep := hh.keep,
           tmps := by rw [put_size]; exact h.tmps, dfr := by rw [put_dfr]; exact h.dfr, slot := fun s q hq => ?_, isv := fun s x hx => ?_ }
  · cases d with
    | none =>
      have : g (ks s) = some (.pv q) := by simpa [wd, over, lk, hw] using hq
      exact (h.slot s q this).mono hk
    | some d =>
      rw [put_get a d s v (by rw [h.tmps]; exact hd d rfl)]
      by_cases e : s = d
      · subst e
        simp only [over, wd, lk, Nat.beq_refl, if_true, Option.some.injEq, Val.pv.injEq] at hq
        subst hq
        rw [if_pos rfl]
        exact hv (by simp)
      · rw [if_neg e]
        have : g (ks s) = some (.pv q) := by simpa [wd, over, lk, hw, beq_ks, e] using hq
        exact (h.slot s q this).mono hk
  · cases d with
    | none => exact h.isv s x (by simpa [wd, over, lk, hw] using hx)
    | some d =>
      by_cases e : s = d
      · subst e
        simp only [over, wd, lk, Nat.beq_refl, if_true, Option.some.injEq] at hx
        exact ⟨p, hx.symm⟩
      · exact h.isv s x (by simpa [wd, over, lk, hw, beq_ks, e] using hx)
/-- An operation that leaves the world alone. -/
theorem Inv.pure {E : Env} {nx nx' : Nat → Prop} {c : Cx} {g : St} {a : Act} (h : Inv E nx c g a) (hn : ∀ i, nx i → nx' i) (d : Option Nat) (hd : ∀ x, d = some x → x < E.n) {p : PV} {v : Value} (hv : d ≠ none → Rep E.P c p v) :
    Inv E nx' c (over (wd d p) g) (a.put d v) := by
  have := Inv.put (nx' := nx') h (Keep.refl c) [] (fun _ => rfl) { h.toHeap with ids := fun i x hx => hn i (h.ids i x hx) } d hd (p := p) (v := v) hv
  exact this
end Go.Proofs.Ytgkahjaoajjgcaa.Pm
