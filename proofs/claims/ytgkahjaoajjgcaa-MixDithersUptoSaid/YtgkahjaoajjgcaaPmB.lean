/-
  THE VALUE MACHINE (B): what operations do to blocks: new ones, stores, rows that grow. No program in sight.
-/
import Derived.Test.YtgkahjaoajjgcaaPmA
import Derived.Deep.AppendSrc
import Derived.Laws.CopyRow
namespace Go.Proofs.Ytgkahjaoajjgcaa.Pm
open Go

def setOwn (own : Nat → Option (Option Nat × TypeId)) (id : Nat) (x : Option Nat × TypeId) : Nat → Option (Option Nat × TypeId) := fun i => if i = id then some x else own i
theorem setOwn_same {own : Nat → Option (Option Nat × TypeId)} {id : Nat} {x : Option Nat × TypeId} : setOwn own id x id = some x := by simp [setOwn]
theorem setOwn_ne {own : Nat → Option (Option Nat × TypeId)} {id i : Nat} {x : Option Nat × TypeId} (h : i ≠ id) : setOwn own id x i = own i := by simp [setOwn, h]
theorem own_fresh {E : Env} {nx : Nat → Prop} {c : Cx} {g : St} (h : Heap E nx c g) {id : Nat} (hn : ¬ nx id) : c.own id = none := by
  cases ho : c.own id with
  | none => rfl
  | some x => exact absurd (h.ids id x ho) hn
theorem over_b (id : Nat) (x : Option Val) (g : St) (i : Nat) : over [(kb id, x)] g (kb i) = if i = id then x else g (kb i) := by
  simp only [over, lk, beq_kb]
  by_cases h : i = id <;> simp [h]
theorem over_s (id : Nat) (x : Option Val) (g : St) (s : Nat) : over [(kb id, x)] g (ks s) = g (ks s) := by
  simp only [over, lk, beq_ksb]
  rfl
theorem lk_b_s (id : Nat) (x : Option Val) (s : Nat) : lk (ks s) [(kb id, x)] = none := by
  simp only [lk, beq_ksb]; rfl
theorem alloc_heap (w : World) (o : Obj) (b : Nat) (h : b < w.heap.size) : (w.alloc o).heap[b]? = w.heap[b]? := RowKit.Below.heap_alloc w o b h
theorem alloc_heap_new (w : World) (o : Obj) : (w.alloc o).heap[w.heap.size]? = some o := by
  show (w.heap.push o)[w.heap.size]? = _
  simp
theorem alloc_sz (w : World) (o : Obj) : (w.alloc o).heap.size = w.heap.size + 1 := by show (w.heap.push _).size = _; simp
theorem some_lt {w : World} {b : Nat} {o : Obj} (h : w.heap[b]? = some o) : b < w.heap.size := (Array.getElem?_eq_some_iff.1 h).1

theorem BlkOk.mono {P : Program} {c c' : Cx} (hk : Keep c c') {ob : Option Nat} {T : TypeId} {cells : List PV} (h : BlkOk P c ob T cells) (hb : ∀ b, ob = some b → c'.w.heap[b]? = c.w.heap[b]?) : BlkOk P c' ob T cells := by
  obtain ⟨h0, h⟩ := h
  refine ⟨h0, ?_⟩
  rcases h with h | ⟨b, cs, h1, h2, h3, h4⟩
  · exact .inl h
  · exact .inr ⟨b, cs, h1, (hb b h1).trans h2, h3, fun j hj => (h4 j hj).mono hk⟩

/-- A NEW BLOCK (behind draws, maybe). -/
theorem heap_new {E : Env} {nx : Nat → Prop} {c : Cx} {g : St} (h : Heap E nx c g) {id : Nat} (hn : ¬ nx id) (T : TypeId) (cs : Array Value) (cells : List PV) (w' : World)
    (hw : w'.heap = c.w.heap.push (.cells cs T (0, 0))) (hos : w'.os = c.w.os) (htp : w'.tape = c.w.tape) (hou : w'.output = c.w.output)
    (ho : ones cells) (hl : cells.length ≤ cs.size) (hr : ∀ j, j < cells.length → Rep E.P c (cells.getD j P0) (cs.getD j undef)) :
    Keep c ⟨w', c.S, setOwn c.own id (some c.w.heap.size, T)⟩ ∧
      Heap E (fun i => nx i ∨ i = id) ⟨w', c.S, setOwn c.own id (some c.w.heap.size, T)⟩ (over [(kb id, some (.blk T cells))] g) := by
  have hf := own_fresh h hn
  have hne : ∀ i x, c.own i = some x → i ≠ id := fun i x hx e => by rw [e, hf] at hx; cases hx
  have hold : ∀ b, b < c.w.heap.size → w'.heap[b]? = c.w.heap[b]? := fun b hb => by rw [hw, Array.getElem?_push, if_neg (by omega)]
  have hnew : w'.heap[c.w.heap.size]? = some (.cells cs T (0, 0)) := by rw [hw]; simp
  have hsz : w'.heap.size = c.w.heap.size + 1 := by rw [hw]; simp
  have hk : Keep c ⟨w', c.S, setOwn c.own id (some c.w.heap.size, T)⟩ :=
    ⟨fun b hb => ⟨hb, hold b (h.sok b hb)⟩, fun i x hx => by show setOwn _ _ _ _ = _; rw [setOwn_ne (hne i x hx)]; exact hx, fun b cs' T' hb => ⟨cs', by rw [hold b (some_lt hb)]; exact hb, rfl⟩⟩
  refine ⟨hk, { ids := fun i x hx => ?_, blk := fun i T' cs' hx => ?_, inj := fun i j b T1 T2 h1 h2 h3 h4 => ?_, apart := fun i b T1 h1 h2 => ?_, bnd := fun i b T1 h1 => ?_, sok := fun b hb => ?_,
                os := hos.trans h.os, tape := htp.trans h.tape, output := hou.trans h.output, size := ?_, same := fun b hb hB => ?_, s0 := h.s0, s1 := h.s1, keep := h.keep.trans hk }⟩
  · by_cases e : i = id
    · exact .inr e
    · exact .inl (h.ids i x (by rw [← setOwn_ne (x := (some c.w.heap.size, T)) (own := c.own) e]; exact hx))
  · rw [over_b] at hx
    by_cases e : i = id
    · rw [if_pos e] at hx
      cases hx
      subst e
      exact ⟨_, setOwn_same, ho, .inr ⟨_, cs, rfl, hnew, hl, fun j hj => (hr j hj).mono hk⟩⟩
    · rw [if_neg e] at hx
      obtain ⟨ob, h1, h2⟩ := h.blk i T' cs' hx
      refine ⟨ob, by show setOwn _ _ _ _ = _; rw [setOwn_ne e]; exact h1, h2.mono hk fun b hb => hold b ?_⟩
      subst hb
      exact h.bnd i b T' h1
  · have hlv : ∀ i, Live (over [(kb id, some (.blk T cells))] g) i → i ≠ id → Live g i := fun i ⟨T', cs', hx⟩ e => ⟨T', cs', by rw [over_b, if_neg e] at hx; exact hx⟩
    by_cases e : i = id <;> by_cases e' : j = id
    · omega
    · subst e
      have h3' : setOwn c.own i (some c.w.heap.size, T) i = _ := h3
      have h4' : setOwn c.own i (some c.w.heap.size, T) j = _ := h4
      rw [setOwn_same] at h3'
      rw [setOwn_ne e'] at h4'
      have := h.bnd j b T2 h4'
      simp only [Option.some.injEq, Prod.mk.injEq] at h3'
      omega
    · subst e'
      have h3' : setOwn c.own j (some c.w.heap.size, T) i = _ := h3
      have h4' : setOwn c.own j (some c.w.heap.size, T) j = _ := h4
      rw [setOwn_same] at h4'
      rw [setOwn_ne e] at h3'
      have := h.bnd i b T1 h3'
      simp only [Option.some.injEq, Prod.mk.injEq] at h4'
      omega
    · have h3' : setOwn c.own id (some c.w.heap.size, T) i = _ := h3
      have h4' : setOwn c.own id (some c.w.heap.size, T) j = _ := h4
      rw [setOwn_ne e] at h3'
      rw [setOwn_ne e'] at h4'
      exact h.inj i j b T1 T2 (hlv i h1 e) (hlv j h2 e') h3' h4'
  · have h2' : setOwn c.own id (some c.w.heap.size, T) i = _ := h2
    by_cases e : i = id
    · subst e
      rw [setOwn_same] at h2'
      simp only [Option.some.injEq, Prod.mk.injEq] at h2'
      have := h.size
      exact ⟨fun hS => by have := h.sok b hS; omega, .inr (by omega)⟩
    · rw [setOwn_ne e] at h2'
      obtain ⟨T', cs', hx⟩ := h1
      rw [over_b, if_neg e] at hx
      exact h.apart i b T1 ⟨T', cs', hx⟩ h2'
  · have h1' : setOwn c.own id (some c.w.heap.size, T) i = _ := h1
    show b < w'.heap.size
    by_cases e : i = id
    · subst e
      rw [setOwn_same] at h1'
      simp only [Option.some.injEq, Prod.mk.injEq] at h1'
      omega
    · rw [setOwn_ne e] at h1'
      have := h.bnd i b T1 h1'
      omega
  · have := h.sok b hb
    show b < w'.heap.size
    omega
  · have := h.size
    show _ ≤ w'.heap.size
    omega
  · have := h.size
    exact (hold b (by omega)).trans (h.same b hb hB)

/-- A STORE: block b of the live number id holds other values. -/
theorem heap_upd {E : Env} {nx : Nat → Prop} {c : Cx} {g : St} (h : Heap E nx c g) {id b : Nat} {T : TypeId} {cells cells' : List PV} (hg : g (kb id) = some (.blk T cells)) (ho : c.own id = some (some b, T))
    (cs cs' : Array Value) (w' : World) (hb : c.w.heap[b]? = some (.cells cs T (0, 0))) (hb' : w'.heap[b]? = some (.cells cs' T (0, 0))) (hcs : cs'.size = cs.size)
    (hoth : ∀ b', b' ≠ b → w'.heap[b']? = c.w.heap[b']?) (hsz : w'.heap.size = c.w.heap.size) (hos : w'.os = c.w.os) (htp : w'.tape = c.w.tape) (hou : w'.output = c.w.output)
    (hone : ones cells') (hl : cells'.length ≤ cs.size) (hr : ∀ j, j < cells'.length → Rep E.P c (cells'.getD j P0) (cs'.getD j undef)) :
    Keep c ⟨w', c.S, c.own⟩ ∧ Heap E nx ⟨w', c.S, c.own⟩ (over [(kb id, some (.blk T cells'))] g) := by
  have hlive : Live g id := ⟨T, cells, hg⟩
  have hap := h.apart id b T hlive ho
  have hk : Keep c ⟨w', c.S, c.own⟩ := ⟨fun b' hS => ⟨hS, hoth b' fun e => hap.1 (e ▸ hS)⟩, fun _ _ hx => hx, fun b' cs1 T1 h1 => by
    by_cases e : b' = b
    · subst e
      rw [hb] at h1
      cases h1
      exact ⟨cs', hb', hcs⟩
    · exact ⟨cs1, (hoth b' e).trans h1, rfl⟩⟩
  have hlv : ∀ i, Live (over [(kb id, some (.blk T cells'))] g) i → Live g i := fun i ⟨T', cs1, hx⟩ => by
    rw [over_b] at hx
    by_cases e : i = id
    · subst e; exact hlive
    · rw [if_neg e] at hx; exact ⟨T', cs1, hx⟩
  refine ⟨hk, { ids := h.ids, blk := fun i T' cs1 hx => ?_, inj := fun i j b' T1 T2 h1 h2 => h.inj i j b' T1 T2 (hlv i h1) (hlv j h2), apart := fun i b' T1 h1 => h.apart i b' T1 (hlv i h1),
                bnd := fun i b' T1 h1 => by have := h.bnd i b' T1 h1; show b' < w'.heap.size; omega, sok := fun b' hS => by have := h.sok b' hS; show b' < w'.heap.size; omega,
                os := hos.trans h.os, tape := htp.trans h.tape, output := hou.trans h.output, size := by have := h.size; show _ ≤ w'.heap.size; omega, same := fun b' hb1 hB => ?_, s0 := h.s0, s1 := h.s1, keep := h.keep.trans hk }⟩
  · rw [over_b] at hx
    by_cases e : i = id
    · subst e
      rw [if_pos rfl] at hx
      cases hx
      exact ⟨_, ho, hone, .inr ⟨b, cs', rfl, hb', by omega, fun j hj => (hr j hj).mono hk⟩⟩
    · rw [if_neg e] at hx
      obtain ⟨ob, h1, h2⟩ := h.blk i T' cs1 hx
      refine ⟨ob, h1, h2.mono hk fun b' hb1 => hoth b' fun e' => e ?_⟩
      subst hb1
      subst e'
      exact h.inj i id b' T' T ⟨T', cs1, hx⟩ hlive h1 ho
  · have e : b' ≠ b := fun e => by
      subst e
      rcases hap.2 with h1 | h1
      · exact hB h1
      · omega
    exact (hoth b' e).trans (h.same b' hb1 hB)

/-- A ROW MOVED: the number 'old' is dropped, the number 'id' stands for what is there now. -/
theorem heap_drop {E : Env} {nx : Nat → Prop} {c : Cx} {g : St} (h : Heap E nx c g) (id : Nat) : Heap E nx c (over [(kb id, none)] g) := by
  have hlv : ∀ i, Live (over [(kb id, none)] g) i → Live g i := fun i ⟨T', cs1, hx⟩ => by
    rw [over_b] at hx
    by_cases e : i = id
    · rw [if_pos e] at hx; cases hx
    · rw [if_neg e] at hx; exact ⟨T', cs1, hx⟩
  exact { h with
    blk := fun i T' cs1 hx => h.blk i T' cs1 (by
      rw [over_b] at hx
      by_cases e : i = id
      · rw [if_pos e] at hx; cases hx
      · rw [if_neg e] at hx; exact hx),
    inj := fun i j b' T1 T2 h1 h2 => h.inj i j b' T1 T2 (hlv i h1) (hlv j h2), apart := fun i b' T1 h1 => h.apart i b' T1 (hlv i h1) }
/-- The same block under a new number. -/
theorem heap_move {E : Env} {nx : Nat → Prop} {c : Cx} {g : St} (h : Heap E nx c g) {old id : Nat} (hn : ¬ nx id) {T : TypeId} {cells : List PV} (hg : g (kb old) = some (.blk T cells)) {ob : Option Nat} (ho : c.own old = some (ob, T)) :
    Keep c ⟨c.w, c.S, setOwn c.own id (ob, T)⟩ ∧ Heap E (fun i => nx i ∨ i = id) ⟨c.w, c.S, setOwn c.own id (ob, T)⟩ (over [(kb old, none), (kb id, some (.blk T cells))] g) := by
  have hf := own_fresh h hn
  have hne : ∀ i x, c.own i = some x → i ≠ id := fun i x hx e => by rw [e, hf] at hx; cases hx
  have hoi : old ≠ id := hne _ _ ho
  have hk : Keep c ⟨c.w, c.S, setOwn c.own id (ob, T)⟩ :=
    ⟨fun b hb => ⟨hb, rfl⟩, fun i x hx => by show setOwn _ _ _ _ = _; rw [setOwn_ne (hne i x hx)]; exact hx, Shape.refl _⟩
  have hgo : ∀ i, over [(kb old, none), (kb id, some (.blk T cells))] g (kb i) = if i = old then none else if i = id then some (.blk T cells) else g (kb i) := fun i => by
    simp only [over, lk, beq_kb]
    by_cases h1 : i = old
    · rw [decide_eq_true h1, if_pos rfl, if_pos h1]
    · rw [decide_eq_false h1, if_neg (by simp), if_neg h1]
      by_cases h2 : i = id
      · rw [decide_eq_true h2, if_pos rfl, if_pos h2]
      · rw [decide_eq_false h2, if_neg (by simp), if_neg h2]
  have hlv : ∀ i, Live (over [(kb old, none), (kb id, some (.blk T cells))] g) i → i = id ∨ (i ≠ id ∧ i ≠ old ∧ Live g i) := fun i ⟨T', cs1, hx⟩ => by
    rw [hgo] at hx
    by_cases e1 : i = old
    · rw [if_pos e1] at hx; cases hx
    · rw [if_neg e1] at hx
      by_cases e2 : i = id
      · exact .inl e2
      · rw [if_neg e2] at hx; exact .inr ⟨e2, e1, T', cs1, hx⟩
  have hlo : Live g old := ⟨T, cells, hg⟩
  refine ⟨hk, { ids := fun i x hx => ?_, blk := fun i T' cs' hx => ?_, inj := fun i j b T1 T2 h1 h2 h3 h4 => ?_, apart := fun i b T1 h1 h2 => ?_, bnd := fun i b T1 h1 => ?_, sok := h.sok,
                os := h.os, tape := h.tape, output := h.output, size := h.size, same := h.same, s0 := h.s0, s1 := h.s1, keep := h.keep.trans hk }⟩
  · by_cases e : i = id
    · exact .inr e
    · exact .inl (h.ids i x (by rw [← setOwn_ne (x := (ob, T)) (own := c.own) e]; exact hx))
  · rw [hgo] at hx
    by_cases e1 : i = old
    · rw [if_pos e1] at hx; cases hx
    · rw [if_neg e1] at hx
      by_cases e2 : i = id
      · subst e2
        rw [if_pos rfl] at hx
        cases hx
        obtain ⟨ob', h1, h2⟩ := h.blk old _ _ hg
        rw [ho] at h1
        cases h1
        exact ⟨_, setOwn_same, h2.mono hk fun _ _ => rfl⟩
      · rw [if_neg e2] at hx
        obtain ⟨ob', h1, h2⟩ := h.blk i _ _ hx
        exact ⟨ob', by show setOwn _ _ _ _ = _; rw [setOwn_ne e2]; exact h1, h2.mono hk fun _ _ => rfl⟩
  · have h3' : setOwn c.own id (ob, T) i = _ := h3
    have h4' : setOwn c.own id (ob, T) j = _ := h4
    rcases hlv i h1 with e1 | ⟨e1, e2, l1⟩ <;> rcases hlv j h2 with e3 | ⟨e3, e4, l2⟩
    · omega
    · subst e1
      rw [setOwn_same] at h3'
      rw [setOwn_ne e3] at h4'
      simp only [Option.some.injEq, Prod.mk.injEq] at h3'
      exact absurd (h.inj j old b T2 T l2 hlo h4' (by rw [ho, h3'.1])) e4
    · subst e3
      rw [setOwn_same] at h4'
      rw [setOwn_ne e1] at h3'
      simp only [Option.some.injEq, Prod.mk.injEq] at h4'
      exact absurd (h.inj i old b T1 T l1 hlo h3' (by rw [ho, h4'.1])) e2
    · rw [setOwn_ne e1] at h3'
      rw [setOwn_ne e3] at h4'
      exact h.inj i j b T1 T2 l1 l2 h3' h4'
  · have h2' : setOwn c.own id (ob, T) i = _ := h2
    rcases hlv i h1 with e1 | ⟨e1, e2, l1⟩
    · subst e1
      rw [setOwn_same] at h2'
      simp only [Option.some.injEq, Prod.mk.injEq] at h2'
      exact h.apart old b T hlo (by rw [ho, h2'.1])
    · rw [setOwn_ne e1] at h2'
      exact h.apart i b T1 l1 h2'
  · have h1' : setOwn c.own id (ob, T) i = _ := h1
    by_cases e : i = id
    · subst e
      rw [setOwn_same] at h1'
      simp only [Option.some.injEq, Prod.mk.injEq] at h1'
      exact h.bnd old b T (by rw [ho, h1'.1])
    · rw [setOwn_ne e] at h1'
      exact h.bnd i b T1 h1'
end Go.Proofs.Ytgkahjaoajjgcaa.Pm
