/-
  REGIONS THAT DRAW THEIR ORDER: an operation that takes a tuple apart and reads no memory may come up early or late: ITS PLACE MAKES NO DIFFERENCE, so an edge to it may be laid into the region ('x, ok := F(g(a), h(b))', x in memory: 'ok' may be taken out behind the store). No program in sight.
-/
import Derived.Test.YtfoiadlaekknpaaAlloc
namespace Go.Proofs.Ytfoiadlaekknpaa
open Go RowKit

/-- An operation without its edges. -/
def bare (o : Oper) : Oper := { o with after := #[] }
def addEdge (ops : Array Oper) (p q : Nat) : Array Oper := ops.modify q fun o => { o with after := o.after.push { on := p, ground := .data } }

section
variable {P : Program} {md : Region.Mode} {ops ops' : Array Oper} {Q : Exit → Act → World → Prop}

theorem bare_exec {o o' : Oper} (h : bare o = bare o') (ρ : Operand → Value) : execOp ρ o = execOp ρ o' := by
  have h1 : execOp ρ o = execOp ρ (bare o) := by cases o; rfl
  have h2 : execOp ρ o' = execOp ρ (bare o') := by cases o'; rfl
  rw [h1, h2, h]
theorem bare_dst {o o' : Oper} (h : bare o = bare o') : o.dst = o'.dst := by
  have := congrArg Oper.dst h; exact this
theorem bare_guard {o o' : Oper} (h : bare o = bare o') : o.guard = o'.guard := by
  have := congrArg Oper.guard h; exact this
theorem bare_op {o o' : Oper} (h : bare o = bare o') : o.op = o'.op := by
  have := congrArg Oper.op h; exact this
theorem bare_wanted {o o' : Oper} (h : bare o = bare o') (y : Nat → Option Bool) : Region.wanted o y = Region.wanted o' y := by
  unfold Region.wanted; rw [bare_guard h]
theorem bare_wp {o o' : Oper} (h : bare o = bare o') (a : Act) (w : World) (K : Act → World → Prop) : o.wp P a w K Q = o'.wp P a w K Q := by
  unfold Oper.wp
  rw [bare_exec h]
  generalize (execOp a.eval o').run P w = r
  cases r with
  | ok n w' => cases n <;> simp only [Oper.upon, bare_dst h]
  | halt x w' => cases x <;> simp only [Oper.upon]
theorem bare_asks {o o' : Oper} (h : bare o = bare o') (a : Act) (w : World) : o.asks P a w = o'.asks P a w := by
  unfold Oper.asks; rw [bare_exec h]

/-- Two regions that part in edges alone. -/
def SameBare (ops ops' : Array Oper) : Prop := ∀ i : Nat, (ops[i]?).map bare = (ops'[i]?).map bare
theorem SameBare.yielded (h : SameBare ops ops') (t : Array Value) : yielded ops t = yielded ops' t := by
  funext j
  have hj := h j
  have : (ops[j]?).bind (·.dst) = (ops'[j]?).bind (·.dst) := by
    cases h1 : ops[j]? <;> cases h2 : ops'[j]? <;> rw [h1, h2] at hj
    · simp at hj
    · simp at hj
    · simp only [Option.map_some, Option.some.injEq] at hj
      simpa using bare_dst hj
  unfold Go.yielded
  rw [this]
theorem SameBare.wpOp (h : SameBare ops ops') (i : Nat) (K : Act → World → Prop) (a : Act) (w : World) : wpOp P ops Q i K a w = wpOp P ops' Q i K a w := by
  have hi := h i
  unfold Go.wpOp
  rw [h.yielded]
  cases h1 : ops[i]? <;> cases h2 : ops'[i]? <;> rw [h1, h2] at hi
  · simp at hi
  · simp at hi
  · simp only [Option.map_some, Option.some.injEq] at hi
    simp only [bare_wanted hi, bare_wp hi, bare_asks hi, bare_dst hi]
theorem wpList_bare (h : SameBare ops ops') : ∀ (l l' : List Oper) (a : Act) (w : World), l.map bare = l'.map bare → wpList P ops Q l a w = wpList P ops' Q l' a w
  | [], [], _, _, _ => rfl
  | [], _ :: _, _, _, hl => by simp at hl
  | _ :: _, [], _, _, hl => by simp at hl
  | o :: l, o' :: l', a, w, hl => by
    simp only [List.map_cons, List.cons.injEq] at hl
    obtain ⟨ho, hl⟩ := hl
    have hr : wpList P ops Q l = wpList P ops' Q l' := by funext a w; exact wpList_bare h l l' a w hl
    unfold wpList
    rw [h.yielded, bare_wanted ho, bare_wp ho, bare_asks ho, bare_dst ho, hr]
theorem wpSq_bare {w : World} {R : Act → Prop} (h : SameBare ops ops') : ∀ (l l' : List Oper) (a : Act), l.map bare = l'.map bare → wpSq P ops w R l a = wpSq P ops' w R l' a
  | [], [], _, _ => rfl
  | [], _ :: _, _, hl => by simp at hl
  | _ :: _, [], _, hl => by simp at hl
  | o :: l, o' :: l', a, hl => by
    simp only [List.map_cons, List.cons.injEq] at hl
    obtain ⟨ho, hl⟩ := hl
    have hr : wpSq P ops w R l = wpSq P ops' w R l' := by funext a; exact wpSq_bare h l l' a hl
    have hs : sq P w o a = sq P w o' a := by
      funext K
      unfold sq Oper.quietAt
      rw [bare_exec ho, bare_dst ho]
    unfold wpSq
    rw [h.yielded, bare_wanted ho, bare_dst ho, hr, hs]

theorem wpQuiet_bare {C : World → Prop} {R : Act → Prop} (h : SameBare ops ops') : ∀ (l l' : List Oper) (a : Act), l.map bare = l'.map bare → wpQuiet P ops C R l a = wpQuiet P ops' C R l' a
  | [], [], _, _ => rfl
  | [], _ :: _, _, hl => by simp at hl
  | _ :: _, [], _, hl => by simp at hl
  | o :: l, o' :: l', a, hl => by
    simp only [List.map_cons, List.cons.injEq] at hl
    obtain ⟨ho, hl⟩ := hl
    have hr : wpQuiet P ops C R l = wpQuiet P ops' C R l' := by funext a; exact wpQuiet_bare h l l' a hl
    have hs : o.quiet P a C = o'.quiet P a C := by
      funext K
      unfold Oper.quiet Oper.quietAt
      rw [bare_exec ho, bare_dst ho]
    unfold wpQuiet
    rw [h.yielded, bare_wanted ho, bare_dst ho, hr, hs]

theorem getElem?_addEdge {p q i : Nat} : (addEdge ops p q)[i]? = if q = i then (ops[i]?).map (fun o => { o with after := o.after.push { on := p, ground := .data } }) else ops[i]? := by
  unfold addEdge; rw [Array.getElem?_modify]
theorem sameBare_addEdge (p q : Nat) : SameBare (addEdge ops p q) ops := fun i => by
  rw [getElem?_addEdge]
  split
  · cases ops[i]? <;> rfl
  · rfl

theorem ready_addEdge {p q j : Nat} {listed : Array Bool} : j ∈ Region.ready md (addEdge ops p q) listed ↔ j ∈ Region.ready md ops listed ∧ (j = q → listed.getD p false = true) := by
  rw [mem_ready, mem_ready]
  constructor
  · rintro ⟨h0, o, ho, hall⟩
    rw [getElem?_addEdge] at ho
    by_cases hq : q = j
    · rw [if_pos hq] at ho
      cases h1 : ops[j]? with
      | none => rw [h1] at ho; simp at ho
      | some o1 =>
        rw [h1] at ho
        simp only [Option.map_some, Option.some.injEq] at ho
        subst ho
        exact ⟨⟨h0, o1, rfl, fun e he hb => hall e (by simp [he]) hb⟩, fun _ => hall { on := p, ground := .data } (by simp) rfl⟩
    · rw [if_neg hq] at ho
      exact ⟨⟨h0, o, ho, hall⟩, fun h => absurd h.symm hq⟩
  · rintro ⟨⟨h0, o, ho, hall⟩, hp⟩
    refine ⟨h0, ?_⟩
    rw [getElem?_addEdge]
    by_cases hq : q = j
    · rw [if_pos hq, ho]
      refine ⟨_, rfl, fun e he hb => ?_⟩
      simp only [Array.mem_push] at he
      rcases he with he | rfl
      · exact hall e he hb
      · exact hp hq.symm
    · rw [if_neg hq]
      exact ⟨o, ho, hall⟩

/-- Operations that look at no world: a value handed on, a tuple taken apart. -/
def pureOp : Op → Bool
  | .extract _ _ => true
  | .move _ => true
  | _ => false
/-- What a part of a region that looks at no world does, it does in every world. -/
theorem pure_yields {p : Nat} {op : Oper} (hp : ops[p]? = some op) (hop : pureOp op.op = true) (hQ : ∀ e a w, Q e a w → e = .normal)
    {K : Act → World → Prop} {a : Act} {w : World} (h : wpOp P ops Q p K a w) : ∃ v, Yields P ops op v a ∧ K (a.put op.dst v) w := by
  have hnl : ¬ LetsOut Q := fun ⟨a, w, h⟩ => by have := hQ _ _ _ h; cases this
  unfold wpOp at h
  simp only [hp] at h
  by_cases hw : Region.wanted op (yielded ops a.tmps) = true
  · simp only [hw, if_true] at h
    have h := h.resolve_right (fun h => hnl h.2)
    cases hk : op.op <;> rw [hk] at hop <;> try (simp [pureOp] at hop; done)
    case move x =>
      have he : execOp a.eval op = pure (.value (a.eval x)) := by unfold execOp; rw [hk]
      unfold Oper.wp at h
      rw [he] at h
      refine ⟨a.eval x, .inl ⟨hw, fun w2 => ?_⟩, ?_⟩
      · rw [he]; simp [go_sem]
      · simpa [go_sem, Oper.upon] using h
    case extract x ix =>
      have he : execOp a.eval op = (do pure (.value (← Instr.extract (a.eval x) ix))) := by unfold execOp; rw [hk]
      unfold Oper.wp at h
      rw [he] at h
      unfold Instr.extract at h he
      cases hx : a.eval x <;> rw [hx] at h he <;> simp only at h he
      case tuple vs =>
        cases hv : vs[ix]? with
        | none => rw [hv] at h; simp [go_sem, stuck, Oper.upon] at h
        | some v =>
          rw [hv] at h he
          refine ⟨v, .inl ⟨hw, fun w2 => ?_⟩, ?_⟩
          · rw [he]; simp [go_sem]
          · simpa [go_sem, Oper.upon] using h
      all_goals (simp [go_sem, stuck, Oper.upon] at h)
  · simp only [hw] at h
    exact ⟨undef, .inr ⟨by simpa using hw, rfl⟩, h⟩

theorem wpAny_edge {p q : Nat} {op oq : Oper} (hp : ops[p]? = some op) (hop : pureOp op.op = true) (hq : ops[q]? = some oq) (hpq : p ≠ q)
    (hsel : ∀ (j : Nat) (o : Oper) cs b, ops[j]? = some o → o.op ≠ .select cs b) (hQ : ∀ e a w, Q e a w → e = .normal)
    (hcover : ∀ e ∈ op.after, Region.binds md e = true → ∃ e' ∈ oq.after, Region.binds md e' = true ∧ e'.on = e.on)
    (hfree : ∀ j oj, ops[j]? = some oj → j ≠ p → (∀ e ∈ oj.after, Region.binds md e = true → e.on ≠ p) → (∀ e ∈ op.after, Region.binds md e = true → e.on ≠ j) → op.apart ops oj = true) :
    ∀ (fuel : Nat) (listed : Array Bool) (a : Act) (w : World), p < listed.size → wpAny P md (addEdge ops p q) Q fuel listed a w → wpAny P md ops Q fuel listed a w := by
  have hnil : ∀ listed : Array Bool, p < listed.size → Region.ready md (addEdge ops p q) listed = [] → Region.ready md ops listed = [] := fun listed hs h => by
    rw [List.eq_nil_iff_forall_not_mem] at h ⊢
    intro j hj
    by_cases hl : listed.getD p false = true
    · exact h j (ready_addEdge.2 ⟨hj, fun _ => hl⟩)
    · by_cases hjq : j = q
      · subst hjq
        obtain ⟨_, o, ho, hall⟩ := mem_ready.1 hj
        have : o = oq := Option.some.inj (ho.symm.trans hq)
        subst this
        refine h p (ready_addEdge.2 ⟨mem_ready.2 ⟨getD_in hs (by simpa using hl), op, hp, fun e he hb => ?_⟩, fun h => absurd h hpq⟩)
        obtain ⟨e', he', hb', hon⟩ := hcover e he hb
        rw [← hon]; exact hall e' he' hb'
      · exact h j (ready_addEdge.2 ⟨hj, fun h => absurd h hjq⟩)
  intro fuel
  induction fuel with
  | zero => intro listed a w hs h; exact ⟨hnil listed hs h.1, h.2⟩
  | succ fuel ih =>
    intro listed a w hs h
    have step : ∀ i, i ∈ Region.ready md (addEdge ops p q) listed → wpOp P ops Q i (wpAny P md ops Q fuel (listed.setIfInBounds i true)) a w := fun i hi => by
      have h1 := h.2 i hi
      rw [(sameBare_addEdge p q).wpOp] at h1
      exact wpOp_mono (fun a' w' h' => ih _ a' w' (by simpa using hs) h') h1
    by_cases hl : listed.getD p false = true
    · refine ⟨fun h0 => h.1 (List.eq_nil_iff_forall_not_mem.2 fun j hj => ?_), fun i hi => step i (ready_addEdge.2 ⟨hi, fun _ => hl⟩)⟩
      have := (ready_addEdge.1 hj).1
      rw [h0] at this
      cases this
    · by_cases hr : p ∈ Region.ready md ops listed
      · obtain ⟨v, hy, hK⟩ := pure_yields hp hop hQ (step p (ready_addEdge.2 ⟨hr, fun h => absurd h hpq⟩))
        refine wpAny_first hp hsel (fun c a w h => by have := hQ _ _ _ h; cases this) fuel listed a w (fun j oj hj hjp hun hno => hfree j oj hj hjp hno fun e he hb heq => ?_) hr hy hK
        obtain ⟨_, o, ho, hall⟩ := mem_ready.1 hr
        have : o = op := Option.some.inj (ho.symm.trans hp)
        subst this
        have h1 := hall e he hb
        rw [heq, getD_both hun] at h1
        cases h1
      · refine ⟨fun h0 => h.1 (List.eq_nil_iff_forall_not_mem.2 fun j hj => ?_), fun i hi => step i (ready_addEdge.2 ⟨hi, fun hiq => ?_⟩)⟩
        · have := (ready_addEdge.1 hj).1
          rw [h0] at this
          cases this
        · exfalso
          subst hiq
          obtain ⟨_, o, ho, hall⟩ := mem_ready.1 hi
          have : o = oq := Option.some.inj (ho.symm.trans hq)
          subst this
          refine hr (mem_ready.2 ⟨getD_in hs (by simpa using hl), op, hp, fun e he hb => ?_⟩)
          obtain ⟨e', he', hb', hon⟩ := hcover e he hb
          rw [← hon]; exact hall e' he' hb'

/-- Nothing but what ends normally. -/
def normalOnly (Q : Exit → Act → World → Prop) (e : Exit) (a : Act) (w : World) : Prop := e = .normal ∧ Q .normal a w
theorem Oper.wp_only {o : Oper} {a : Act} {w : World} {K : Act → World → Prop} (h : o.wp P a w K (normalOnly Q)) : o.wp P a w K Q := by
  unfold Oper.wp at *
  generalize (execOp a.eval o).run P w = r at *
  cases r with
  | ok n w' =>
    cases n <;> simp only [Oper.upon] at h ⊢ <;> try exact h
    exact Calls.mono h fun e w'' he => by
      cases e with
      | returned u => exact he
      | panicked c => exact absurd he.1 (by simp)
      | outgrown => obtain ⟨a, w, h, _⟩ := he; cases h
  | halt x w' =>
    cases x <;> simp only [Oper.upon] at h ⊢
    exact absurd h.1 (by simp)
theorem wpOp_only {i : Nat} {a : Act} {w : World} {K : Act → World → Prop} (h : wpOp P ops (normalOnly Q) i K a w) : wpOp P ops Q i K a w := by
  unfold wpOp at *
  split
  · rename_i ho; simp only [ho] at h; exact h
  · rename_i o ho
    simp only [ho] at h
    split
    · rename_i hw
      simp only [hw, if_true] at h
      rcases h with h | ⟨_, a, w, h, _⟩
      · exact .inl (Oper.wp_only h)
      · cases h
    · rename_i hw; simp only [hw] at h; exact h
theorem wpAny_only : ∀ (fuel : Nat) (listed : Array Bool) (a : Act) (w : World), wpAny P md ops (normalOnly Q) fuel listed a w → wpAny P md ops Q fuel listed a w
  | 0, _, _, _, h => ⟨h.1, h.2.2⟩
  | fuel + 1, _, _, _, h => ⟨fun h0 => (h.1 h0).2, fun i hi => wpOp_only (wpOp_mono (fun a' w' h' => wpAny_only fuel _ a' w' h') (h.2 i hi))⟩

/-- What is asked of an edge that is laid in, as a Bool. -/
def edgeB (md : Region.Mode) (ops : Array Oper) (p q : Nat) : Bool :=
  match ops[p]?, ops[q]? with
  | some op, some oq =>
    pureOp op.op && decide (p ≠ q) && Region.noSelect ops &&
    (op.after.toList.all fun e => !Region.binds md e || oq.after.toList.any fun e' => Region.binds md e' && e'.on == e.on) &&
    ((List.range ops.size).all fun j => match ops[j]? with
      | some oj => decide (j = p) || (oj.after.toList.any fun e => Region.binds md e && e.on == p) || (op.after.toList.any fun e => Region.binds md e && e.on == j) || op.apart ops oj
      | none => true)
  | _, _ => false
theorem wpAny_edgeB {p q : Nat} (hB : edgeB md ops p q = true) (hQ : ∀ e a w, Q e a w → e = .normal) {fuel : Nat} {listed : Array Bool} {a : Act} {w : World} (hs : listed.size = ops.size)
    (h : wpAny P md (addEdge ops p q) Q fuel listed a w) : wpAny P md ops Q fuel listed a w := by
  unfold edgeB at hB
  cases hp : ops[p]? with
  | none => simp [hp] at hB
  | some op =>
    cases hq : ops[q]? with
    | none => simp [hp, hq] at hB
    | some oq =>
      simp only [hp, hq, Bool.and_eq_true, decide_eq_true_eq] at hB
      obtain ⟨⟨⟨⟨h1, hpq⟩, hsel⟩, hcov⟩, hfree⟩ := hB
      have hlt : p < ops.size := (Array.getElem?_eq_some_iff.1 hp).1
      refine wpAny_edge hp h1 hq hpq (Region.noSelect_spec hsel) hQ (fun e he hb => ?_) (fun j oj hj hjp h1 h2 => ?_) fuel listed a w (by omega) h
      · have := List.all_eq_true.1 hcov e (by simpa using he)
        simp only [hb, Bool.not_true, Bool.false_or] at this
        obtain ⟨e', he', hb'⟩ := List.any_eq_true.1 this
        simp only [Bool.and_eq_true, beq_iff_eq] at hb'
        exact ⟨e', by simpa using he', hb'.1, hb'.2⟩
      · have hjlt : j < ops.size := (Array.getElem?_eq_some_iff.1 hj).1
        have := List.all_eq_true.1 hfree j (by simpa using hjlt)
        simp only [hj, Bool.or_eq_true, decide_eq_true_eq] at this
        rcases this with ((h | h) | h) | h
        · exact absurd h hjp
        · obtain ⟨e, he, hb⟩ := List.any_eq_true.1 h
          simp only [Bool.and_eq_true, beq_iff_eq] at hb
          exact absurd hb.2 (h1 e (by simpa using he) hb.1)
        · obtain ⟨e, he, hb⟩ := List.any_eq_true.1 h
          simp only [Bool.and_eq_true, beq_iff_eq] at hb
          exact absurd hb.2 (h2 e (by simpa using he) hb.1)
        · exact h

def addEdges : List (Nat × Nat) → Array Oper → Array Oper
  | [], ops => ops
  | (p, q) :: es, ops => addEdges es (addEdge ops p q)
def edgesB (md : Region.Mode) : List (Nat × Nat) → Array Oper → Bool
  | [], _ => true
  | (p, q) :: es, ops => edgeB md ops p q && edgesB md es (addEdge ops p q)
theorem size_addEdge (p q : Nat) : (addEdge ops p q).size = ops.size := by simp [addEdge]
theorem wpAny_edges (hQ : ∀ e a w, Q e a w → e = .normal) : ∀ (es : List (Nat × Nat)) (ops : Array Oper) {fuel : Nat} {listed : Array Bool} {a : Act} {w : World}, edgesB md es ops = true → listed.size = ops.size →
    wpAny P md (addEdges es ops) Q fuel listed a w → wpAny P md ops Q fuel listed a w
  | [], _, _, _, _, _, _, _, h => h
  | (p, q) :: es, ops, _, _, _, _, hB, hs, h => by
    simp only [edgesB, Bool.and_eq_true] at hB
    exact wpAny_edgeB hB.1 hQ hs (wpAny_edges hQ es (addEdge ops p q) hB.2 (by rw [size_addEdge]; exact hs) h)
theorem sameBare_trans {o1 o2 o3 : Array Oper} (h1 : SameBare o1 o2) (h2 : SameBare o2 o3) : SameBare o1 o3 := fun i => (h1 i).trans (h2 i)
theorem sameBare_addEdges : ∀ (es : List (Nat × Nat)) (ops : Array Oper), SameBare (addEdges es ops) ops
  | [], _ => fun _ => rfl
  | (p, q) :: es, ops => sameBare_trans (sameBare_addEdges es (addEdge ops p q)) (sameBare_addEdge p q)
theorem sameBare_list (h : SameBare ops ops') : ops.toList.map bare = ops'.toList.map bare := by
  apply List.ext_getElem?
  intro i
  have := h i
  simpa using this
theorem size_addEdges : ∀ (es : List (Nat × Nat)) (ops : Array Oper), (addEdges es ops).size = ops.size
  | [], _ => rfl
  | (p, q) :: es, _ => (size_addEdges es _).trans (size_addEdge p q)

/-- .. behind edges that make no difference. -/
theorem wp_region_loose_alloc {id : Nat} {w : World} {a : Act} {l : List Oper} {oa : Oper} (es : List (Nat × Nat)) (ia : Nat) (z : Array Value) (t : TypeId)
    (hm : P.follows .mixedOrders = true) (hE : edgesB .any es l.toArray = true) (hB : Region.lexTailB .any (addEdges es l.toArray) (ia + 1) = true) (hoa : l[ia]? = some oa) (hgd : oa.guard = none)
    (hal : ∀ (a : Act) (w' : World), (execOp a.eval oa).run P w' = .ok (.value (.pointer (some ⟨w'.heap.size, 0, none⟩))) (w'.alloc (.cells z t)))
    (h : wpSq P l.toArray w (fun a' => ∀ v w', NewAt w z t v w' → wpList P l.toArray (normalOnly Q) (l.drop (ia + 1)) (a'.put oa.dst v) w') (l.take ia) a) :
    (Code.region id l.toArray true).wp P Q a w := by
  have hsb := sameBare_addEdges es l.toArray
  have hL := sameBare_list hsb
  have hsz := size_addEdges es l.toArray
  have hlen : (addEdges es l.toArray).toList.length = l.length := by simpa using hsz
  obtain ⟨oa', hoa', hba⟩ : ∃ oa', (addEdges es l.toArray)[ia]? = some oa' ∧ bare oa' = bare oa := by
    have := hsb ia
    rw [show (l.toArray)[ia]? = some oa by simpa using hoa] at this
    cases h1 : (addEdges es l.toArray)[ia]? with
    | none => rw [h1] at this; simp at this
    | some o => rw [h1] at this; exact ⟨o, rfl, by simpa using this⟩
  refine wp_region_any hm (wpAny_only _ _ _ _ (wpAny_edges (fun e a w h => h.1) es l.toArray hE (by simp) ?_))
  simp only [Region.lexTailB, Bool.and_eq_true, decide_eq_true_eq] at hB
  obtain ⟨⟨⟨⟨hsel, hn⟩, hs⟩, hc⟩, hlex⟩ := hB
  have hn' : ia + 1 < l.length := by rw [hsz] at hn; simpa using hn
  have htl : ((addEdges es l.toArray).toList.take ia).length = ia := by rw [List.length_take, hlen]; omega
  have hdl : ((addEdges es l.toArray).toList.drop (ia + 1)).length = (addEdges es l.toArray).size - (ia + 1) := by simp
  have inv0 : HeadInv .any (addEdges es l.toArray) (ia + 1) (Array.replicate (addEdges es l.toArray).size false) :=
    ⟨by simp, fun j oj _ hl => (by rw [getD_replicate_false] at hl; cases hl), fun t _ ht => getD_in (by simpa using ht) (getD_replicate_false _ _)⟩
  have hC : Below w.heap.size w { w with drawn := w.drawn + 1 } := ⟨rfl, rfl, rfl, Nat.le_refl _, fun _ _ => rfl⟩
  have hTake : ((addEdges es l.toArray).toList.take ia).map bare = (l.take ia).map bare := by rw [List.map_take, List.map_take, hL]
  have hDrop : ((addEdges es l.toArray).toList.drop (ia + 1)).map bare = (l.drop (ia + 1)).map bare := by rw [List.map_drop, List.map_drop, hL]
  have h' : wpSq P (addEdges es l.toArray) w (fun a' => ∀ v w', NewAt w z t v w' → wpList P (addEdges es l.toArray) (normalOnly Q) ((addEdges es l.toArray).toList.drop (ia + 1)) (a'.put oa'.dst v) w')
      ((addEdges es l.toArray).toList.take ia) a := by
    rw [wpSq_bare hsb _ _ _ hTake]
    refine wpSq_mono (fun a' h v w' hw' => ?_) _ _ h
    rw [wpList_bare hsb _ _ _ _ hDrop, bare_dst hba]
    exact h v w' hw'
  have H := wpAnyA_lex (P := P) (w := w) (z := z) (t := t) (md := .any) (g := (addEdges es l.toArray).size - (ia + 1)) (oa := oa')
    (Lq := fun v a' => ∀ w', NewAt w z t v w' → wpList P (addEdges es l.toArray) (normalOnly Q) ((addEdges es l.toArray).toList.drop (ia + 1)) a' w') hoa' rfl hsel hs hc hn ((addEdges es l.toArray).toList.take ia) 0 (Array.replicate (addEdges es l.toArray).size false) a (fun j hj => by
      have hj' : j < ia := by rw [htl] at hj; exact hj
      simp [hj']) (by rw [htl]; omega) (fun j hj => absurd hj (by omega)) inv0 (by rw [htl]; exact hlex) (wpSq_mono (fun a' h v w' hw' => h v w' hw') _ _ h')
  have := wpAny_of_headA (P := P) (w := w) (z := z) (t := t) (Q' := normalOnly Q) (g := (addEdges es l.toArray).size - (ia + 1)) (oa := oa') hoa' (by rw [bare_guard hba]; exact hgd) (fun a w' => by rw [bare_exec hba]; exact hal a w') (fun v listed a' w' hw' hL => by
    have := wpAny_of_seq (md := .any) (Q' := normalOnly Q) ((addEdges es l.toArray).toList.drop (ia + 1)) (ia + 1) listed a' w' (fun j => by simp [List.getElem?_drop]) (by rw [hdl]; exact hL.1) (hL.2 w' hw')
    rwa [hdl] at this) _ _ _ _ hC H
  rw [htl, show ia + 1 + ((addEdges es l.toArray).size - (ia + 1)) = l.toArray.size by rw [hsz]; rw [hsz] at hn; omega, hsz] at this
  exact this

theorem wpQuiet_mono' {C : World → Prop} {R R' : Act → Prop} (h : ∀ a, R a → R' a) : ∀ (l : List Oper) (a : Act), wpQuiet P ops C R l a → wpQuiet P ops C R' l a
  | [], a, hh => h a hh
  | o :: l, a, hh => by
    unfold wpQuiet at *
    split
    · rename_i hw
      rw [if_pos hw] at hh
      exact Oper.quiet_mono (fun a' h' => wpQuiet_mono' h l a' h') hh
    · rename_i hw
      rw [if_neg hw] at hh
      exact wpQuiet_mono' h l _ hh

/-- Behind edges that make no difference: the first n operations quiet in a class, the rest forced. -/
theorem wp_region_loose_tail {id : Nat} {w : World} {a : Act} {l : List Oper} (es : List (Nat × Nat)) (C : World → Prop) (n : Nat)
    (hm : P.follows .mixedOrders = true) (hE : edgesB .any es l.toArray = true) (hB : Region.lexTailB .any (addEdges es l.toArray) n = true) (hC : C { w with drawn := w.drawn + 1 })
    (h : wpQuiet P l.toArray C (fun a' => ∀ w', C w' → wpList P l.toArray (normalOnly Q) (l.drop n) a' w') (l.take n) a) : (Code.region id l.toArray true).wp P Q a w := by
  have hsb := sameBare_addEdges es l.toArray
  have hL := sameBare_list hsb
  have hsz := size_addEdges es l.toArray
  have hlen : (addEdges es l.toArray).toList.length = l.length := by simpa using hsz
  refine wp_region_any hm (wpAny_only _ _ _ _ (wpAny_edges (fun e a w h => h.1) es l.toArray hE (by simp) ?_))
  simp only [Region.lexTailB, Bool.and_eq_true, decide_eq_true_eq] at hB
  obtain ⟨⟨⟨⟨hsel, hn⟩, hs⟩, hc⟩, hlex⟩ := hB
  have hn' : n < l.length := by rw [hsz] at hn; simpa using hn
  have htl : ((addEdges es l.toArray).toList.take n).length = n := by rw [List.length_take, hlen]; omega
  have hdl : ((addEdges es l.toArray).toList.drop n).length = (addEdges es l.toArray).size - n := by simp
  have inv0 : HeadInv .any (addEdges es l.toArray) n (Array.replicate (addEdges es l.toArray).size false) :=
    ⟨by simp, fun j oj _ hl => (by rw [getD_replicate_false] at hl; cases hl), fun t _ ht => getD_in (by simpa using ht) (getD_replicate_false _ _)⟩
  have hTake : ((addEdges es l.toArray).toList.take n).map bare = (l.take n).map bare := by rw [List.map_take, List.map_take, hL]
  have hDrop : ((addEdges es l.toArray).toList.drop n).map bare = (l.drop n).map bare := by rw [List.map_drop, List.map_drop, hL]
  have h' : wpQuiet P (addEdges es l.toArray) C (fun a' => ∀ w', C w' → wpList P (addEdges es l.toArray) (normalOnly Q) ((addEdges es l.toArray).toList.drop n) a' w') ((addEdges es l.toArray).toList.take n) a := by
    rw [wpQuiet_bare hsb _ _ _ hTake]
    refine wpQuiet_mono' (fun a' h w' hw' => ?_) _ _ h
    rw [wpList_bare hsb _ _ _ _ hDrop]
    exact h w' hw'
  have H := wpAnyC_lex (P := P) (md := .any) (g := (addEdges es l.toArray).size - n) hsel hs hc hn ((addEdges es l.toArray).toList.take n) 0 (Array.replicate (addEdges es l.toArray).size false) a (fun j hj => by
    have hj' : j < n := by rw [htl] at hj; exact hj
    simp [hj']) (by rw [htl]; omega) inv0 (by rw [htl]; exact hlex) h'
  have := wpAny_of_headC (Q' := normalOnly Q) (g := (addEdges es l.toArray).size - n) (fun listed a' w' hw' hL => by
    have := wpAny_of_seq (md := .any) (Q' := normalOnly Q) ((addEdges es l.toArray).toList.drop n) n listed a' w' (fun j => by simp [List.getElem?_drop]) (by rw [hdl]; exact hL.1) (hL.2 w' hw')
    rwa [hdl] at this) _ _ _ _ hC H
  rw [htl, show n + ((addEdges es l.toArray).size - n) = l.toArray.size by rw [hsz]; rw [hsz] at hn; omega, hsz] at this
  exact this

end
end Go.Proofs.Ytfoiadlaekknpaa
