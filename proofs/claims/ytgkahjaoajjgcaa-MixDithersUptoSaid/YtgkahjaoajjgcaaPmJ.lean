/-
  THE VALUE MACHINE (J): contracts by values; calls. No program in sight.
-/
import Derived.Test.YtgkahjaoajjgcaaPmQ
namespace Go.Proofs.Ytgkahjaoajjgcaa.Pm
open Go

mutual
/-- Own blocks under other numbers. -/
def ren (σ : Nat → Nat) : PV → PV
  | .agg cs => .agg (renL σ cs)
  | .tup cs => .tup (renL σ cs)
  | .osl id off len => .osl (σ id) off len
  | .opt id off => .opt (σ id) off
  | .fn f cs ds => .fn f (renL σ cs) (renL σ ds)
  | .av v => .av v
  | .ssl cs off len => .ssl cs off len
  | .spt cs off => .spt cs off
def renL (σ : Nat → Nat) : List PV → List PV
  | [] => []
  | p :: l => ren σ p :: renL σ l
end
theorem renL_length (σ : Nat → Nat) : ∀ l, (renL σ l).length = l.length
  | [] => rfl
  | _ :: l => by simp [renL, renL_length σ l]
theorem renL_get (σ : Nat → Nat) : ∀ (l : List PV) (i : Nat), i < l.length → (renL σ l).getD i P0 = ren σ (l.getD i P0)
  | p :: l, 0, _ => rfl
  | p :: l, i + 1, h => by
    have := renL_get σ l i (by simpa using h)
    simpa [renL, List.getD_eq_getElem?_getD] using this
theorem one_ren (σ : Nat → Nat) (p : PV) : (ren σ p).one = p.one := by cases p <;> rfl
theorem ones_renL {σ : Nat → Nat} : ∀ {l : List PV}, ones (renL σ l) ↔ ones l
  | [] => by simp [renL]
  | p :: l => by
    have ih := ones_renL (σ := σ) (l := l)
    simp only [ones, renL, List.mem_cons, forall_eq_or_imp, one_ren] at ih ⊢
    rw [ih]
theorem srep_ren {w : World} {S : Nat → Prop} {σ : Nat → Nat} {q : PV} {v : Value} (h : SRep w S q v) : ∀ p, q = ren σ p → SRep w S p v := by
  induction h with
  | av v => intro p hp; cases p <;> simp [ren] at hp; subst hp; exact .av _
  | agg hn _ ih =>
    intro p hp
    cases p <;> simp [ren] at hp
    rename_i ds
    subst hp
    rw [renL_length] at hn
    exact .agg hn fun i hi => ih i (by rw [renL_length]; exact hi) _ (renL_get σ ds i hi)
  | tup hn _ ih =>
    intro p hp
    cases p <;> simp [ren] at hp
    rename_i ds
    subst hp
    rw [renL_length] at hn
    exact .tup hn fun i hi => ih i (by rw [renL_length]; exact hi) _ (renL_get σ ds i hi)
  | emp => intro p hp; cases p <;> simp [ren] at hp; obtain ⟨rfl, rfl, rfl⟩ := hp; exact .emp
  | ssl hS hc h ho hl _ => intro p hp; cases p <;> simp [ren] at hp; obtain ⟨rfl, rfl, rfl⟩ := hp; exact .ssl hS hc h ho hl
  | spt hS hc h ho _ => intro p hp; cases p <;> simp [ren] at hp; obtain ⟨rfl, rfl⟩ := hp; exact .spt hS hc h ho
  | fn hn _ hm _ ih ik =>
    intro p hp
    cases p <;> simp [ren] at hp
    obtain ⟨rfl, rfl, rfl⟩ := hp
    rw [renL_length] at hn hm
    exact .fn hn (fun i hi => ih i (by rw [renL_length]; exact hi) _ (renL_get σ _ i hi)) hm (fun i hi => ik i (by rw [renL_length]; exact hi) _ (renL_get σ _ i hi))
/-- A view in which the numbers lead elsewhere. -/
def Cx.via (c : Cx) (σ : Nat → Nat) : Cx := ⟨c.w, c.S, fun i => c.own (σ i)⟩
theorem rep_via {P : Program} {c : Cx} {σ : Nat → Nat} {q : PV} {v : Value} (h : Rep P c q v) : ∀ p, q = ren σ p → Rep P (c.via σ) p v := by
  induction h with
  | sh h => intro p hp; exact .sh (srep_ren h p hp)
  | agg hn _ ih =>
    intro p hp
    cases p <;> simp [ren] at hp
    rename_i ds
    subst hp
    rw [renL_length] at hn
    exact .agg hn fun i hi => ih i (by rw [renL_length]; exact hi) _ (renL_get σ ds i hi)
  | tup hn _ ih =>
    intro p hp
    cases p <;> simp [ren] at hp
    rename_i ds
    subst hp
    rw [renL_length] at hn
    exact .tup hn fun i hi => ih i (by rw [renL_length]; exact hi) _ (renL_get σ ds i hi)
  | osl ho h => intro p hp; cases p <;> simp [ren] at hp; obtain ⟨rfl, rfl, rfl⟩ := hp; exact .osl (c := c.via σ) ho h
  | opt ho => intro p hp; cases p <;> simp [ren] at hp; obtain ⟨rfl, rfl⟩ := hp; exact .opt (c := c.via σ) ho
  | fn hn _ hm _ ih ik =>
    intro p hp
    cases p <;> simp [ren] at hp
    obtain ⟨rfl, rfl, rfl⟩ := hp
    rw [renL_length] at hn hm
    exact .fn hn (fun i hi => ih i (by rw [renL_length]; exact hi) _ (renL_get σ _ i hi)) hm (fun i hi => ik i (by rw [renL_length]; exact hi) _ (renL_get σ _ i hi))
theorem srep_to {w : World} {S : Nat → Prop} {σ : Nat → Nat} {p : PV} {v : Value} (h : SRep w S p v) : SRep w S (ren σ p) v := by
  induction h with
  | av v => exact .av _
  | agg hn _ ih => exact .agg (by rw [renL_length]; exact hn) fun i hi => by rw [renL_length] at hi; rw [renL_get σ _ i hi]; exact ih i hi
  | tup hn _ ih => exact .tup (by rw [renL_length]; exact hn) fun i hi => by rw [renL_length] at hi; rw [renL_get σ _ i hi]; exact ih i hi
  | emp => exact .emp
  | ssl hS hc h ho hl _ => exact .ssl hS hc h ho hl
  | spt hS hc h ho _ => exact .spt hS hc h ho
  | fn hn _ hm _ ih ik => exact .fn (by rw [renL_length]; exact hn) (fun i hi => by rw [renL_length] at hi; rw [renL_get σ _ i hi]; exact ih i hi) (by rw [renL_length]; exact hm) (fun i hi => by rw [renL_length] at hi; rw [renL_get σ _ i hi]; exact ik i hi)
theorem rep_to {P : Program} {c c' : Cx} {σ : Nat → Nat} (hw : c'.w = c.w) (hS : c'.S = c.S) (ho : ∀ i x, c.own i = some x → c'.own (σ i) = some x) {p : PV} {v : Value} (h : Rep P c p v) : Rep P c' (ren σ p) v := by
  induction h with
  | sh h => exact .sh (by rw [hw, hS]; exact srep_to h)
  | agg hn _ ih => exact .agg (by rw [renL_length]; exact hn) fun i hi => by rw [renL_length] at hi; rw [renL_get σ _ i hi]; exact ih i hi
  | tup hn _ ih => exact .tup (by rw [renL_length]; exact hn) fun i hi => by rw [renL_length] at hi; rw [renL_get σ _ i hi]; exact ih i hi
  | osl h1 h2 => exact .osl (ho _ _ h1) (by rw [hw]; exact h2)
  | opt h1 => exact .opt (ho _ _ h1)
  | fn hn _ hm _ ih ik => exact .fn (by rw [renL_length]; exact hn) (fun i hi => by rw [renL_length] at hi; rw [renL_get σ _ i hi]; exact ih i hi) (by rw [renL_length]; exact hm) (fun i hi => by rw [renL_length] at hi; rw [renL_get σ _ i hi]; exact ik i hi)

/-- nil, as an empty slice. -/
def cz1 : PV → PV
  | .av (.slice none 0 0) => .ssl [] 0 0
  | p => p
def cz : PV → PV
  | .agg cs => .agg (cs.map cz1)
  | p => cz1 p
theorem rep_cz1 {P : Program} {c : Cx} {p : PV} {v : Value} (h : Rep P c p v) : Rep P c (cz1 p) v := by
  unfold cz1
  split
  · rw [rep_av h]; exact .sh .emp
  · exact h
theorem rep_cz {P : Program} {c : Cx} {p : PV} {v : Value} (h : Rep P c p v) : Rep P c (cz p) v := by
  unfold cz
  split
  · rename_i cs
    obtain ⟨vs, rfl, h1, h2⟩ := rep_agg h
    refine .agg (by simpa using h1) fun i hi => ?_
    have hi' : i < cs.length := by simpa using hi
    have h3 := rep_cz1 (h2 i hi')
    simpa [List.getD_eq_getElem?_getD, hi'] using h3
  · exact rep_cz1 h

/-! ### contracts -/
abbrev Hp := List (Option (TypeId × List PV))
def hSt (H : Hp) : St := fun k => if k % 2 = 1 then (match H.getD (k / 2) none with | some x => some (.blk x.1 x.2) | none => none) else none
theorem hSt_b (H : Hp) (i : Nat) : hSt H (kb i) = match H.getD i none with | some x => some (.blk x.1 x.2) | none => none := by
  unfold hSt
  rw [if_pos (by simp only [kb]; omega), show kb i / 2 = i by simp only [kb]; omega]
def FnOk (P : Program) (f : FuncId) : Prop := ∃ fn, P.funcs[f]? = some fn ∧ fn.body.isNone = false ∧ (fn.name == "runtime.NumGoroutine") = false
def cEnv (P : Program) (c : Cx) (H : Hp) : Env := ⟨P, 0, c, fun b => ∃ i T, Live (hSt H) i ∧ c.own i = some (some b, T)⟩
/-- Called with such arguments, the lent blocks as H tells them, function f hands back r; behind it the lent blocks (and new ones) are as H' tells. -/
def PC (P : Program) (f : FuncId) (args : List PV) (H : Hp) (r : PV) (H' : Hp) : Prop := FnOk P f ∧ H.length ≤ H'.length ∧ ∀ (c : Cx) (vs : Array Value), Heap (cEnv P c H) (· < H.length) c (hSt H) → RL P c args vs →
  Calls P f vs c.w fun e w' => ∃ v c', e = .returned v ∧ c'.w = w' ∧ Heap (cEnv P c H) (· < H'.length) c' (hSt H') ∧ Rep P c' r v

/-- What is lent lies as H tells it. -/
def lentP (σ : Nat → Nat) : List Nat → Hp → Plan → Plan
  | [], [], k => k
  | id :: ids, some (T, cs) :: H, k => .look (kb id) fun v => match v with
    | .blk T' cs' => match Nat.beq T' T with | true => .ob (cs' = renL σ cs) (lentP σ ids H k) | false => .fail
    | .pv _ => .fail
  | _, _, _ => .fail
def wcall (σ : Nat → Nat) : Nat → Hp → L
  | _, [] => []
  | i, x :: r => (kb (σ i), match x with | some y => some (.blk y.1 (renL σ y.2)) | none => none) :: wcall σ (i + 1) r
def sigi (ids : List Nat) (id : Nat) : Nat → Nat := fun i => ids.getD i id
def sigo (ids : List Nat) (id : Nat) : Nat → Nat := fun i => if Nat.blt i ids.length then ids.getD i id else id + (i - ids.length)
def nodupB : List Nat → Bool
  | [] => true
  | a :: l => (l.all fun b => !Nat.beq a b) && nodupB l
def callP (P : Program) (f : FuncId) (args : List PV) (id : Nat) (ids : List Nat) (as : List PV) (H : Hp) (r : PV) (H' : Hp) : Plan :=
  match Nat.ble H'.length (ids.length + 8), nodupB ids with
  | true, true => .ob (PC P f as H r H') (.ob (args = renL (sigi ids id) as) (lentP (sigi ids id) ids H (.done (ren (sigo ids id) r) (wcall (sigo ids id) 0 H'))))
  | _, _ => .fail
def opdl : List Operand → (List PV → Plan) → Plan
  | [], k => k []
  | x :: l, k => opd x fun p => opdl l fun r => k (p :: r)
theorem Res.opdl {E : Env} {nx : Nat → Prop} {c : Cx} {g : St} {a : Act} (hi : Inv E nx c g a) : ∀ {l : List Operand} {k : List PV → Plan} {p : PV} {wb : L}, Res g (opdl l k) p wb →
    ∃ ps, RL E.P c ps (l.map a.eval).toArray ∧ Res g (k ps) p wb
  | [], k, p, wb, h => ⟨[], ⟨rfl, fun i hi => by simp at hi⟩, h⟩
  | x :: l, k, p, wb, h => by
    obtain ⟨q, hq, h1⟩ := Res.opd hi h
    obtain ⟨ps, h2, h3⟩ := Res.opdl hi h1
    refine ⟨q :: ps, ?_, h3⟩
    have := (one_rl hq).append h2
    simpa using this
def aCall (P : Program) (fx : Operand) (xs : List Operand) (an : Ans) (id : Nat) : Plan := opd fx fun fv => opdl xs fun args => match fv, an with
  | .av (.func (.func f) fs cs), .call ids as H r H' => callP P f (fs.toList.map .av ++ args.map cz ++ cs.toList.map .av) id ids as H r H'
  | .fn (.func f) fs cs, .call ids as H r H' => callP P f (fs ++ args.map cz ++ cs) id ids as H r H'
  | _, _ => .fail
theorem lent_ok {g : St} {σ : Nat → Nat} {k : Plan} {p : PV} {wb : L} : ∀ {ids : List Nat} {H : Hp}, Res g (lentP σ ids H k) p wb → ids.length = H.length ∧ Res g k p wb ∧
    ∀ i, i < ids.length → ∃ T cs, H.getD i none = some (T, cs) ∧ g (kb (ids.getD i 0)) = some (.blk T (renL σ cs))
  | [], [], h => ⟨rfl, h, fun i hi => by simp at hi⟩
  | id :: ids, some (T, cs) :: H, h => by
    obtain ⟨v, h1, h2⟩ := Res.look h
    cases v with
    | pv _ => exact (Res.fail h2).elim
    | blk T' cs' =>
      simp only at h2
      split at h2
      · rename_i hT
        have hT := Nat.eq_of_beq_eq_true hT
        subst hT
        obtain ⟨rfl, h3⟩ := Res.ob h2
        obtain ⟨h4, h5, h6⟩ := lent_ok h3
        refine ⟨by simp [h4], h5, fun i hi => ?_⟩
        cases i with
        | zero => exact ⟨_, _, rfl, h1⟩
        | succ i =>
          obtain ⟨T2, cs2, h7, h8⟩ := h6 i (by simpa using hi)
          exact ⟨T2, cs2, by simpa using h7, by simpa using h8⟩
      · exact (Res.fail h2).elim
  | [], _ :: _, h => (Res.fail h).elim
  | _ :: _, [], h => (Res.fail h).elim
  | _ :: _, none :: _, h => (Res.fail h).elim
theorem nodup_inj : ∀ {ids : List Nat}, nodupB ids = true → ∀ i j, i < ids.length → j < ids.length → ids.getD i 0 = ids.getD j 0 → i = j
  | a :: l, h, i, j, hi, hj, he => by
    simp only [nodupB, Bool.and_eq_true, List.all_eq_true, Bool.not_eq_true'] at h
    have hm : ∀ k, k < l.length → a ≠ l.getD k 0 := fun k hk e => by
      have := h.1 (l.getD k 0) (by simp [List.getD_eq_getElem?_getD, hk])
      rw [← e, Nat.beq_refl] at this
      cases this
    cases i with
    | zero =>
      cases j with
      | zero => rfl
      | succ j => exact absurd (by simpa using he) (hm j (by simpa using hj))
    | succ i =>
      cases j with
      | zero => exact absurd (by simpa using he.symm) (hm i (by simpa using hi))
      | succ j => rw [nodup_inj h.2 i j (by simpa using hi) (by simpa using hj) (by simpa using he)]
theorem lk_wcall {σ : Nat → Nat} : ∀ {H : Hp} {n : Nat} (k : Nat), (∀ i j, i < n + H.length → j < n + H.length → σ i = σ j → i = j) →
    (lk k (wcall σ n H) = none ∧ ∀ i, n ≤ i → i < n + H.length → k ≠ kb (σ i)) ∨ ∃ i, n ≤ i ∧ i < n + H.length ∧ k = kb (σ i) ∧ lk k (wcall σ n H) = some (match H.getD (i - n) none with | some y => some (.blk y.1 (renL σ y.2)) | none => none)
  | [], n, k, _ => .inl ⟨rfl, fun i h1 h2 => by simp at h2; omega⟩
  | x :: H, n, k, hi => by
    simp only [wcall, lk]
    by_cases e : Nat.beq k (kb (σ n)) = true
    · refine .inr ⟨n, Nat.le_refl _, by simp, Nat.eq_of_beq_eq_true e, ?_⟩
      rw [if_pos e, Nat.sub_self]
      simp
    · simp only [e]
      have hne : k ≠ kb (σ n) := fun h => e (by rw [h]; exact Nat.beq_refl _)
      rcases lk_wcall (σ := σ) (H := H) (n := n + 1) k (fun i j h1 h2 => hi i j (by simp; omega) (by simp; omega)) with ⟨h1, h2⟩ | ⟨i, h1, h2, h3, h4⟩
      · refine .inl ⟨h1, fun i h3 h4 => ?_⟩
        by_cases e2 : i = n
        · subst e2; exact hne
        · exact h2 i (by omega) (by simp at h4; omega)
      · refine .inr ⟨i, by omega, by simp; omega, h3, ?_⟩
        have e3 : i - n = (i - (n + 1)) + 1 := by omega
        rw [e3]
        simpa using h4
end Go.Proofs.Ytgkahjaoajjgcaa.Pm
