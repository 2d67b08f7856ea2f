/-
  THE VALUE MACHINE (C): regions: what each operation does by values, in whatever order it is done. No program in sight.
-/
import Derived.Test.YtgkahjaoajjgcaaPmB
namespace Go.Proofs.Ytgkahjaoajjgcaa.Pm
open Go

structure Out where
  pv : PV
  wb : L
  obs : List Prop
  reads : List Nat
inductive Plan where
  | fail
  | look (k : Nat) (f : Val → Plan)
  | ob (p : Prop) (q : Plan)
  | done (pv : PV) (wb : L)
def run (g : St) : Plan → Option Out
  | .fail => none
  | .look k f => match g k with
    | some v => match run g (f v) with
      | some o => some { o with reads := k :: o.reads }
      | none => none
    | none => none
  | .ob p q => match run g q with
    | some o => some { o with obs := p :: o.obs }
    | none => none
  | .done pv wb => some ⟨pv, wb, [], []⟩
theorem run_congr {g g' : St} : ∀ {p : Plan} {o : Out}, run g p = some o → (∀ k ∈ o.reads, g' k = g k) → run g' p = some o
  | .fail, _, h, _ => by simp [run] at h
  | .look k f, o, h, hk => by
    simp only [run] at h ⊢
    cases hg : g k with
    | none => simp [hg] at h
    | some v =>
      simp only [hg] at h
      cases hr : run g (f v) with
      | none => simp [hr] at h
      | some o' =>
        simp only [hr, Option.some.injEq] at h
        subst h
        rw [hk k (by simp), hg]
        simp only
        rw [run_congr hr fun k' hk' => hk k' (by simp [hk'])]
  | .ob p q, o, h, hk => by
    simp only [run] at h ⊢
    cases hr : run g q with
    | none => simp [hr] at h
    | some o' =>
      simp only [hr, Option.some.injEq] at h
      subst h
      rw [run_congr hr fun k' hk' => hk k' hk']
  | .done pv wb, o, h, _ => by simpa [run] using h

def wr (d : Option Nat) (o : Out) : L := wd d o.pv ++ o.wb
theorem over_append (l m : L) (g : St) : over (l ++ m) g = over l (over m g) := by
  funext k
  induction l with
  | nil => rfl
  | cons a l ih =>
    obtain ⟨j, x⟩ := a
    simp only [over, List.cons_append, lk] at ih ⊢
    by_cases h : Nat.beq k j = true
    · simp [h]
    · simp only [h]; exact ih

/-- What is asked of one operation. -/
def StepOk (E : Env) (ops : Array Oper) (i : Nat) (o : Oper) (out : Out) (id : Nat) (g : St) : Prop :=
  ∀ (nx : Nat → Prop) (c : Cx) (a : Act) (K : Act → World → Prop) (Q : Exit → Act → World → Prop), (∀ t, t < 8 → ¬ nx (id + t)) → Inv E nx c g a →
    (∀ c' a', Inv E (fun j => nx j ∨ (id ≤ j ∧ j < id + 8)) c' (over (wr o.dst out) g) a' → K a' c'.w) → wpOp E.P ops Q i K a c.w

theorem Inv.drawn {E : Env} {nx : Nat → Prop} {c : Cx} {g : St} {a : Act} (h : Inv E nx c g a) (k : Nat) : Inv E nx ⟨{ c.w with drawn := k }, c.S, c.own⟩ g a := by
  have hk : Keep c ⟨{ c.w with drawn := k }, c.S, c.own⟩ := ⟨fun _ hb => ⟨hb, rfl⟩, fun _ _ hx => hx, fun _ cs _ hb => ⟨cs, hb, rfl⟩⟩
  exact { ids := h.ids, blk := fun id T cells hg => by
            obtain ⟨ob, h1, h2⟩ := h.blk id T cells hg
            exact ⟨ob, h1, h2.mono hk fun _ _ => rfl⟩,
          inj := h.inj, apart := h.apart, bnd := h.bnd, sok := h.sok, os := h.os, tape := h.tape, output := h.output, size := h.size, same := h.same, s0 := h.s0, s1 := h.s1, keep := h.keep.trans hk,
          tmps := h.tmps, dfr := h.dfr, slot := fun s p hp => (h.slot s p hp).mono hk, isv := h.isv }
theorem Inv.more {E : Env} {nx nx' : Nat → Prop} {c : Cx} {g : St} {a : Act} (h : Inv E nx c g a) (hn : ∀ i, nx i → nx' i) : Inv E nx' c g a := { h with ids := fun i x hx => hn i (h.ids i x hx) }

section
variable (g0 : St) (W : Nat → L)
def fold (p : Nat → Bool) : Nat → St
  | 0 => g0
  | m + 1 => if p m then over (W m) (fold p m) else fold p m
def hits (l : L) (k : Nat) : Bool := (lk k l).isSome
theorem over_miss {l : L} {k : Nat} (h : hits l k = false) (g : St) : over l g k = g k := by
  unfold hits at h
  unfold over
  cases hx : lk k l with
  | none => rfl
  | some x => rw [hx] at h; cases h
theorem over_hit {l : L} {k : Nat} (h : hits l k = true) (g g' : St) : over l g k = over l g' k := by
  unfold hits at h
  unfold over
  cases hx : lk k l with
  | none => rw [hx] at h; cases h
  | some x => rfl
variable {g0 W}
theorem fold_congr {p q : Nat → Bool} {k : Nat} : ∀ {m : Nat}, (∀ j, j < m → hits (W j) k = true → p j = q j) → fold g0 W p m k = fold g0 W q m k
  | 0, _ => rfl
  | m + 1, h => by
    have ih := fold_congr (m := m) fun j hj => h j (by omega)
    simp only [fold]
    by_cases hh : hits (W m) k = true
    · rw [h m (by omega) hh]
      by_cases hq : q m = true
      · simp only [hq, if_true]; exact over_hit hh _ _
      · simp only [hq]; exact ih
    · have hh' : hits (W m) k = false := by simpa using hh
      by_cases hp : p m = true <;> by_cases hq : q m = true <;> simp only [hp, hq, if_true, if_false] <;> simp only [over_miss hh', Bool.false_eq_true, if_false] <;> exact ih
def addP (p : Nat → Bool) (i : Nat) : Nat → Bool := fun j => if j = i then true else p j
/-- One more is done: where it writes, nothing that comes behind it has been done. -/
theorem fold_add {p : Nat → Bool} {i : Nat} (hp : p i = false) : ∀ {m : Nat}, i < m → (∀ j k, i < j → j < m → p j = true → hits (W i) k = true → hits (W j) k = false) →
    fold g0 W (addP p i) m = over (W i) (fold g0 W p m)
  | m + 1, hi, h => by
    simp only [fold]
    by_cases e : m = i
    · subst e
      have : fold g0 W (addP p m) m = fold g0 W p m := by
        funext k
        exact fold_congr fun j hj _ => by simp [addP, Nat.ne_of_lt hj]
      rw [this, hp]
      simp [addP]
    · have ih := fold_add (m := m) hp (by omega) fun j k h1 h2 => h j k h1 (by omega)
      have ea : addP p i m = p m := by simp [addP, e]
      rw [ea, ih]
      by_cases hm : p m = true
      · simp only [hm, if_true]
        funext k
        by_cases hk : hits (W i) k = true
        · rw [over_miss (h m k (by omega) (by omega) hm hk)]
          exact over_hit hk _ _
        · have hk' : hits (W i) k = false := by simpa using hk
          rw [over_miss hk' _]
          by_cases hk2 : hits (W m) k = true
          · exact over_hit hk2 _ _
          · have hk3 : hits (W m) k = false := by simpa using hk2
            rw [over_miss hk3, over_miss hk3, over_miss hk']
      · simp only [hm]; rfl
end

section
variable {E : Env} {ops : Array Oper} {g0 : St} {tab : Nat → Out} {n0 : Nat}
def nxP (n0 : Nat) (p : Nat → Bool) : Nat → Prop := fun id => id < n0 ∨ ∃ j, p j = true ∧ n0 + 8 * j ≤ id ∧ id < n0 + 8 * j + 8
def Wt (ops : Array Oper) (tab : Nat → Out) (i : Nat) : L := wr ((ops[i]?).bind (·.dst)) (tab i)
theorem nx_add {n0 : Nat} {p : Nat → Bool} {i : Nat} {id : Nat} (h : nxP n0 p id ∨ (n0 + 8 * i ≤ id ∧ id < n0 + 8 * i + 8)) : nxP n0 (addP p i) id := by
  rcases h with (h | ⟨j, h1, h2⟩) | h
  · exact .inl h
  · refine .inr ⟨j, ?_, h2⟩
    unfold addP
    split
    · rfl
    · exact h1
  · exact .inr ⟨i, by simp [addP], h⟩
theorem nx_new {n0 : Nat} {p : Nat → Bool} {i : Nat} (hp : p i = false) : ∀ t, t < 8 → ¬ nxP n0 p (n0 + 8 * i + t) := by
  intro t ht h
  rcases h with h | ⟨j, h1, h2, h3⟩
  · omega
  · have : j = i := by omega
    subst this
    rw [hp] at h1
    cases h1

/-- In the order of the text. -/
theorem seq_ops (hs : ∀ i o, ops[i]? = some o → StepOk E ops i o (tab i) (n0 + 8 * i) (fold g0 (Wt ops tab) (fun j => decide (j < i)) ops.size)) {Q : Exit → Act → World → Prop}
    (hQ : ∀ c a, Inv E (fun id => id < n0 + 8 * ops.size) c (fold g0 (Wt ops tab) (fun _ => true) ops.size) a → Q .normal a c.w) :
    ∀ (r k : Nat), k + r = ops.size → ∀ c a, Inv E (nxP n0 (fun j => decide (j < k))) c (fold g0 (Wt ops tab) (fun j => decide (j < k)) ops.size) a →
      wpOps E.P ops Q ((List.range ops.size).drop k) a c.w
  | 0, k, hk, c, a, h => by
    have e1 : (List.range ops.size).drop k = [] := by rw [List.drop_eq_nil_iff]; simp; omega
    rw [e1]
    have e2 : fold g0 (Wt ops tab) (fun j => decide (j < k)) ops.size = fold g0 (Wt ops tab) (fun _ => true) ops.size := by
      funext x
      exact fold_congr fun j hj _ => by simp; omega
    rw [e2] at h
    refine hQ c a (h.more fun id hid => ?_)
    rcases hid with h1 | ⟨j, h1, h2, h3⟩
    · show id < _; omega
    · have : j < k := by simpa using h1
      show id < _; omega
  | r + 1, k, hk, c, a, h => by
    have hlt : k < ops.size := by omega
    rw [List.drop_eq_getElem_cons (by simpa using hlt), List.getElem_range, wpOps_cons]
    have ho : ops[k]? = some ops[k] := by simp [hlt]
    refine hs k _ ho (nxP n0 (fun j => decide (j < k))) c a _ Q (nx_new (by simp)) h fun c' a' h' => ?_
    refine seq_ops hs hQ r (k + 1) (by omega) c' a' ?_
    have e : (fun j => decide (j < k + 1)) = addP (fun j => decide (j < k)) k := by
      funext j
      unfold addP
      by_cases e : j = k
      · subst e; simp
      · simp [e]; omega
    rw [e, fold_add (by simp) hlt fun j x h1 h2 h3 => by simp at h3; omega]
    have : Wt ops tab k = wr ops[k].dst (tab k) := by simp [Wt, ho]
    rw [this]
    exact h'.more fun id hid => nx_add hid

def befs (ops : List Oper) : List (List Nat) := ops.foldl (fun acc o => acc ++ [o.after.toList.flatMap fun e => if Region.binds .any e then e.on :: acc.getD e.on [] else []]) []

def befB (ops : List Oper) (bf : List (List Nat)) : Bool := (List.range ops.length).all fun j => (ops[j]?).all fun o =>
  (o.after.all fun e => !Region.binds .any e || decide (e.on < j)) && (bf.getD j []).all fun i => o.after.any fun e => Region.binds .any e && (Nat.beq e.on i || (bf.getD e.on []).contains i)
def Closed (ops : Array Oper) (p : Nat → Bool) : Prop := ∀ j o, ops[j]? = some o → p j = true → ∀ e ∈ o.after, Region.binds .any e = true → p e.on = true
theorem bef_done {l : List Oper} {bf : List (List Nat)} (hb : befB l bf = true) {p : Nat → Bool} (hp : Closed l.toArray p) : ∀ (j : Nat) (o : Oper), l[j]? = some o → (∀ e ∈ o.after, Region.binds .any e = true → p e.on = true) → ∀ i ∈ bf.getD j [], p i = true := by
  intro j
  induction j using Nat.strongRecOn with
  | ind j ih =>
    intro o ho hd i hi
    simp only [befB, List.all_eq_true, List.mem_range] at hb
    have h1 := hb j (List.getElem?_eq_some_iff.1 ho).1
    rw [ho] at h1
    simp only [Option.all_some, Bool.and_eq_true, Array.all_eq_true_iff_forall_mem, List.all_eq_true] at h1
    have h2 := h1.2 i hi
    rw [Array.any_eq_true'] at h2
    obtain ⟨e, he, h3⟩ := h2
    simp only [Bool.and_eq_true, Bool.or_eq_true] at h3
    have hpe := hd e he h3.1
    rcases h3.2 with h4 | h4
    · rw [← Nat.eq_of_beq_eq_true h4]; exact hpe
    · have hlt : e.on < j := by have := h1.1 e he; rw [h3.1] at this; simpa using this
      have hil : e.on < l.length := by have := (List.getElem?_eq_some_iff.1 ho).1; omega
      exact ih e.on hlt l[e.on] (by simp [hil]) (fun e' he' hb' => hp e.on l[e.on] (by simp [hil]) hpe e' he' hb') i (by simpa using h4)

def left (f : Nat → Bool) : Nat → Nat
  | 0 => 0
  | n + 1 => left f n + (if f n then 0 else 1)
theorem left_zero {f : Nat → Bool} : ∀ {n : Nat}, left f n = 0 → ∀ i, i < n → f i = true
  | n + 1, h, i, hi => by
    unfold left at h
    by_cases e : i = n
    · subst e
      by_cases hf : f i = true
      · exact hf
      · simp [hf] at h
    · exact left_zero (n := n) (by omega) i (by omega)
theorem left_congr {f g : Nat → Bool} : ∀ {n : Nat}, (∀ i, i < n → f i = g i) → left f n = left g n
  | 0, _ => rfl
  | n + 1, h => by rw [left, left, h n (by omega), left_congr fun i hi => h i (by omega)]
theorem left_add {f : Nat → Bool} {i : Nat} (hf : f i = false) : ∀ {n : Nat}, i < n → left f n = left (addP f i) n + 1
  | n + 1, h => by
    by_cases e : i = n
    · subst e
      rw [left, left, hf, left_congr (f := addP f i) (g := f) (fun j hj => by unfold addP; rw [if_neg (by omega)])]
      simp [addP]
    · have e2 : addP f i n = f n := by unfold addP; rw [if_neg (by omega)]
      rw [left, left, left_add hf (n := n) (by omega), e2]
      omega
theorem left_false : ∀ n, left (fun _ => false) n = n
  | 0 => rfl
  | n + 1 => by rw [left, left_false n]; simp
theorem getD_some {listed : Array Bool} {i : Nat} (h : i < listed.size) (b c : Bool) : listed.getD i b = listed.getD i c := by
  rw [Array.getD_eq_getD_getElem?, Array.getD_eq_getD_getElem?, Array.getElem?_eq_getElem h]; rfl
def apartB (W : Nat → L) (rd : Nat → List Nat) (bf : List (List Nat)) (n : Nat) : Bool :=
  (List.range n).all fun j => (List.range j).all fun i => (bf.getD j []).contains i ||
    (((W i).all fun x => !hits (W j) x.1 && !(rd j).contains x.1) && (W j).all fun x => !(rd i).contains x.1)
theorem mem_of_hits {l : L} {k : Nat} (h : hits l k = true) : ∃ x ∈ l, x.1 = k := by
  induction l with
  | nil => simp [hits, lk] at h
  | cons a l ih =>
    obtain ⟨j, x⟩ := a
    simp only [hits, lk] at h ih
    by_cases e : Nat.beq k j = true
    · exact ⟨(j, x), by simp, (Nat.eq_of_beq_eq_true e).symm⟩
    · simp only [e] at h
      obtain ⟨y, hy, h2⟩ := ih h
      exact ⟨y, by simp [hy], h2⟩
theorem apart_spec {W : Nat → L} {rd : Nat → List Nat} {bf : List (List Nat)} {n : Nat} (h : apartB W rd bf n = true) {i j : Nat} (hij : i < j) (hj : j < n) (hn : i ∉ bf.getD j []) {k : Nat} :
    (hits (W i) k = true → hits (W j) k = false ∧ k ∉ rd j) ∧ (hits (W j) k = true → k ∉ rd i) := by
  simp only [apartB, List.all_eq_true, List.mem_range, Bool.or_eq_true, Bool.and_eq_true, Bool.not_eq_true'] at h
  rcases h j hj i hij with h1 | h1
  · exact absurd (by simpa using h1) hn
  · refine ⟨fun hk => ?_, fun hk => ?_⟩
    · obtain ⟨x, hx, rfl⟩ := mem_of_hits hk
      have := h1.1 x hx
      exact ⟨this.1, by simpa using this.2⟩
    · obtain ⟨x, hx, rfl⟩ := mem_of_hits hk
      simpa using h1.2 x hx

/-- IN ANY ORDER. -/
theorem any_ops {E : Env} {l : List Oper} {g0 : St} {tab : Nat → Out} {n0 : Nat} {bf : List (List Nat)} (hb : befB l bf = true) (hap : apartB (Wt l.toArray tab) (fun i => (tab i).reads) bf l.length = true)
    (hs : ∀ i o, l[i]? = some o → ∀ g, (∀ k ∈ (tab i).reads, g k = fold g0 (Wt l.toArray tab) (fun j => decide (j < i)) l.length k) → StepOk E l.toArray i o (tab i) (n0 + 8 * i) g) {Q : Exit → Act → World → Prop}
    (hQ : ∀ c a, Inv E (fun id => id < n0 + 8 * l.length) c (fold g0 (Wt l.toArray tab) (fun _ => true) l.length) a → Q .normal a c.w) :
    ∀ (fuel : Nat) (listed : Array Bool) (c : Cx) (a : Act), listed.size = l.length → left (fun i => listed.getD i false) l.length = fuel → Closed l.toArray (fun i => listed.getD i false) →
      Inv E (nxP n0 (fun j => listed.getD j false)) c (fold g0 (Wt l.toArray tab) (fun j => listed.getD j false) l.length) a → wpAny E.P .any l.toArray Q fuel listed a c.w := by
  have hall : ∀ (listed : Array Bool) (c : Cx) (a : Act), listed.size = l.length → (∀ i, i < l.length → listed.getD i false = true) →
      Inv E (nxP n0 (fun j => listed.getD j false)) c (fold g0 (Wt l.toArray tab) (fun j => listed.getD j false) l.length) a → Q .normal a c.w := by
    intro listed c a hsz hA h
    have e2 : fold g0 (Wt l.toArray tab) (fun j => listed.getD j false) l.length = fold g0 (Wt l.toArray tab) (fun _ => true) l.length := by
      funext x
      exact fold_congr fun j hj _ => hA j hj
    rw [e2] at h
    refine hQ c a (h.more fun id hid => ?_)
    rcases hid with h1 | ⟨j, h1, h2, h3⟩
    · show id < _; omega
    · have : j < l.length := by
        rcases Nat.lt_or_ge j l.length with h4 | h4
        · exact h4
        · have h1' : listed.getD j false = true := h1
          rw [Array.getD_eq_getD_getElem?, Array.getElem?_eq_none (by omega)] at h1'
          cases h1'
      show id < _; omega
  have hnil : ∀ (listed : Array Bool), listed.size = l.length → Region.ready .any l.toArray listed = [] → ∀ i, i < l.length → listed.getD i false = true := by
    intro listed hsz hr i
    induction i using Nat.strongRecOn with
    | ind i ih =>
      intro hi
      by_cases hl : listed.getD i false = true
      · exact hl
      · exfalso
        have hm : i ∈ Region.ready .any l.toArray listed := mem_ready.2 ⟨by rw [getD_some (by omega) true false]; simpa using hl, l[i], by simp [hi], fun e he hbd => by
          simp only [befB, List.all_eq_true, List.mem_range] at hb
          have h1 := hb i hi
          rw [List.getElem?_eq_getElem hi] at h1
          simp only [Option.all_some, Bool.and_eq_true, Array.all_eq_true_iff_forall_mem] at h1
          have h2 : e.on < i := by have := h1.1 e he; rw [hbd] at this; simpa using this
          exact ih e.on h2 (by omega)⟩
        rw [hr] at hm
        cases hm
  intro fuel
  induction fuel with
  | zero =>
    intro listed c a hsz hc hcl h
    have hA := left_zero hc
    refine ⟨?_, hall listed c a hsz hA h⟩
    cases hr : Region.ready .any l.toArray listed with
    | nil => rfl
    | cons i r =>
      exfalso
      have hm : i ∈ Region.ready .any l.toArray listed := by rw [hr]; simp
      obtain ⟨h1, o, ho, _⟩ := mem_ready.1 hm
      have hi : i < l.length := by simpa using (Array.getElem?_eq_some_iff.1 ho).1
      have := hA i hi
      rw [getD_some (by omega) true false, this] at h1
      cases h1
  | succ fuel ih =>
    intro listed c a hsz hc hcl h
    refine ⟨fun hr => hall listed c a hsz (hnil listed hsz hr) h, fun i hm => ?_⟩
    obtain ⟨h1, o, ho, hdeps⟩ := mem_ready.1 hm
    have ho' : l[i]? = some o := by simpa using ho
    have hi : i < l.length := (List.getElem?_eq_some_iff.1 ho').1
    have hli : listed.getD i false = false := by rw [getD_some (by omega) false true]; exact h1
    have hbef := bef_done hb hcl i o ho' hdeps
    -- what is listed and stands behind i is apart from i
    have hfar : ∀ j, i < j → j < l.length → listed.getD j false = true → i ∉ bf.getD j [] := fun j hij hj hlj hmem => by
      have := bef_done hb hcl j l[j] (by simp [hj]) (hcl j l[j] (by simp [hj]) hlj) i hmem
      rw [hli] at this
      cases this
    refine hs i o ho' _ (fun k hk => ?_) _ c a _ Q (nx_new (by exact hli)) h fun c' a' h' => ?_
    · refine fold_congr fun j hj hh => ?_
      rcases Nat.lt_trichotomy j i with h2 | h2 | h2
      · by_cases hmem : j ∈ bf.getD i []
        · rw [hbef j hmem]; simp [h2]
        · exact absurd hk ((apart_spec hap h2 hi hmem).1 hh).2
      · subst h2; rw [hli]; simp
      · have : ¬ j < i := by omega
        simp only [this, decide_false]
        cases hlj : listed.getD j false with
        | false => rfl
        | true => exact absurd hk ((apart_spec hap h2 hj (hfar j h2 hj hlj)).2 hh)
    · have e : (fun j => (listed.setIfInBounds i true).getD j false) = addP (fun j => listed.getD j false) i := by
        funext j
        unfold addP
        by_cases e : j = i
        · subst e
          rw [if_pos rfl, Array.getD_eq_getD_getElem?]
          simp [hsz, hi]
        · rw [if_neg e, getD_set_ne _ (Ne.symm e)]
      refine ih (listed.setIfInBounds i true) c' a' (by simpa using hsz) ?_ ?_ ?_
      · have := left_add (f := fun i => listed.getD i false) hli hi
        rw [e]
        omega
      · intro j oj hj hjl e' he' hb'
        by_cases ej : j = i
        · subst ej
          rw [ho] at hj
          cases hj
          exact getD_set_true (hdeps e' he' hb')
        · have hjl' : listed.getD j false = true := by
            have h2 : (listed.setIfInBounds i true).getD j false = true := hjl
            rwa [getD_set_ne _ (Ne.symm ej)] at h2
          exact getD_set_true (hcl j oj hj hjl' e' he' hb')
      · rw [e, fold_add (by exact hli) hi fun j x h2 h3 h4 h5 => ((apart_spec hap h2 h3 (hfar j h2 h3 h4)).1 h5).1]
        have : Wt l.toArray tab i = wr o.dst (tab i) := by simp [Wt, ho']
        rw [this]
        exact h'.more fun id hid => nx_add hid
end
end Go.Proofs.Ytgkahjaoajjgcaa.Pm
