/-
  THE VALUE MACHINE (D): what single operations do, by values. No program in sight.
-/
import Derived.Test.YtgkahjaoajjgcaaPmC
import Derived.IntWalk
namespace Go.Proofs.Ytgkahjaoajjgcaa.Pm
open Go

inductive Ans where
  | no
  | gd (b : Bool) (a : Ans)
  | yes (b : Bool)
  | val (p : PV)
  | cells (l : List PV)
  | wrap
  | nat (e : Nat)
  | nat2 (o k : Nat)
  | app (s r : Option (List PV))
  | copy (n : Nat) (s r : List PV)
  | call (ids : List Nat) (args : List PV) (H : List (Option (TypeId × List PV))) (r : PV) (H' : List (Option (TypeId × List PV)))

def Res (g : St) (pl : Plan) (p : PV) (wb : L) : Prop := ∃ o, run g pl = some o ∧ o.pv = p ∧ o.wb = wb ∧ ∀ q ∈ o.obs, q
theorem Res.look {g : St} {k : Nat} {f : Val → Plan} {p : PV} {wb : L} (h : Res g (.look k f) p wb) : ∃ v, g k = some v ∧ Res g (f v) p wb := by
  obtain ⟨o, h1, h2, h3, h4⟩ := h
  simp only [run] at h1
  cases hg : g k with
  | none => simp [hg] at h1
  | some v =>
    simp only [hg] at h1
    cases hr : run g (f v) with
    | none => simp [hr] at h1
    | some o' =>
      simp only [hr, Option.some.injEq] at h1
      subst h1
      exact ⟨v, rfl, o', hr, h2, h3, h4⟩
theorem Res.ob {g : St} {q : Prop} {r : Plan} {p : PV} {wb : L} (h : Res g (.ob q r) p wb) : q ∧ Res g r p wb := by
  obtain ⟨o, h1, h2, h3, h4⟩ := h
  simp only [run] at h1
  cases hr : run g r with
  | none => simp [hr] at h1
  | some o' =>
    simp only [hr, Option.some.injEq] at h1
    subst h1
    exact ⟨h4 q (by simp), o', hr, h2, h3, fun x hx => h4 x (by simp [hx])⟩
theorem Res.done {g : St} {x : PV} {w : L} {p : PV} {wb : L} (h : Res g (.done x w) p wb) : p = x ∧ wb = w := by
  obtain ⟨o, h1, h2, h3, h4⟩ := h
  simp only [run, Option.some.injEq] at h1
  subst h1
  exact ⟨h2.symm, h3.symm⟩
theorem Res.fail {g : St} {p : PV} {wb : L} (h : Res g .fail p wb) : False := by
  obtain ⟨o, h1, _⟩ := h
  simp [run] at h1

/-- An operand. -/
def opd (x : Operand) (k : PV → Plan) : Plan :=
  match x with
  | .tmp t => .look (ks t) fun v => match v with | .pv p => k p | .blk _ _ => .fail
  | .const v => k (.av v)
  | .global g => k (.av (.pointer (some ⟨g, 0, none⟩)))
  | .func f => k (.av (.func (.func f) #[] #[]))
theorem Res.opd {E : Env} {nx : Nat → Prop} {c : Cx} {g : St} {a : Act} (hi : Inv E nx c g a) {x : Operand} {k : PV → Plan} {p : PV} {wb : L} (h : Res g (opd x k) p wb) : ∃ q, Rep E.P c q (a.eval x) ∧ Res g (k q) p wb := by
  cases x with
  | tmp t =>
    obtain ⟨v, h1, h2⟩ := Res.look h
    cases v with
    | pv q => exact ⟨q, hi.slot t q h1, h2⟩
    | blk T cs => exact (Res.fail h2).elim
  | const v => exact ⟨_, .sh (.av _), h⟩
  | global g => exact ⟨_, .sh (.av _), h⟩
  | func f => exact ⟨_, .sh (.av _), h⟩

/-- What an operation's plan must bring about. -/
def ActOk (E : Env) (o : Oper) (id : Nat) (pl : Plan) : Prop :=
  ∀ (g : St) (p : PV) (wb : L), Res g pl p wb → ∀ (nx : Nat → Prop) (c : Cx) (a : Act) (K : Act → World → Prop) (Q : Exit → Act → World → Prop), (∀ t, t < 8 → ¬ nx (id + t)) → Inv E nx c g a →
    (∀ c' a', Inv E (fun j => nx j ∨ (id ≤ j ∧ j < id + 8)) c' (over (wd o.dst p) (over wb g)) a' → K a' c'.w) → o.wp E.P a c.w K Q

section
variable {P : Program} {o : Oper} {b : Act} {w : World} {K : Act → World → Prop} {Q : Exit → Act → World → Prop}
theorem ow_val {v : Value} {w' : World} (h : (execOp b.eval o).run P w = .ok (.value v) w') (hK : K (b.put o.dst v) w') : o.wp P b w K Q := by
  unfold Oper.wp
  rw [h]
  exact hK
theorem ow_skip {w' : World} (h : (execOp b.eval o).run P w = .ok .skip w') (hK : K (b.put o.dst undef) w') : o.wp P b w K Q := by
  unfold Oper.wp
  rw [h]
  exact hK
end
/-- An operation that yields a value and leaves the world alone. -/
theorem pure_step {E : Env} {nx : Nat → Prop} {c : Cx} {g : St} {a : Act} {o : Oper} {id : Nat} {K : Act → World → Prop} {Q : Exit → Act → World → Prop} {p : PV} {v : Value} (hd : ∀ x, o.dst = some x → x < E.n) (hi : Inv E nx c g a)
    (hK : ∀ c' a', Inv E (fun j => nx j ∨ (id ≤ j ∧ j < id + 8)) c' (over (wd o.dst p) (over [] g)) a' → K a' c'.w) (hv : Rep E.P c p v) (hr : (execOp a.eval o).run E.P c.w = .ok (.value v) c.w) : o.wp E.P a c.w K Q :=
  ow_val hr (hK c _ (hi.pure (fun _ h => .inl h) o.dst hd fun _ => hv))

/-! ### inversions -/
section
variable {P : Program} {c : Cx} {v : Value}
theorem rep_av {x : Value} (h : Rep P c (.av x) v) : v = x := by
  cases h with
  | sh h => cases h; rfl
theorem rep_agg {cs : List PV} (h : Rep P c (.agg cs) v) : ∃ vs : Array Value, v = .agg vs ∧ vs.size = cs.length ∧ ∀ i, i < cs.length → Rep P c (cs.getD i P0) (vs.getD i undef) := by
  cases h with
  | sh h => cases h with | agg hn h => exact ⟨_, rfl, hn, fun i hi => .sh (h i hi)⟩
  | agg hn h => exact ⟨_, rfl, hn, h⟩
theorem rep_tup {cs : List PV} (h : Rep P c (.tup cs) v) : ∃ vs : Array Value, v = .tuple vs ∧ vs.size = cs.length ∧ ∀ i, i < cs.length → Rep P c (cs.getD i P0) (vs.getD i undef) := by
  cases h with
  | sh h => cases h with | tup hn h => exact ⟨_, rfl, hn, fun i hi => .sh (h i hi)⟩
  | tup hn h => exact ⟨_, rfl, hn, h⟩
theorem rep_fn {f : Fn} {cs ds : List PV} (h : Rep P c (.fn f cs ds) v) : ∃ vs us : Array Value, v = .func f vs us ∧ vs.size = cs.length ∧ us.size = ds.length ∧ (∀ i, i < cs.length → Rep P c (cs.getD i P0) (vs.getD i undef)) ∧ ∀ i, i < ds.length → Rep P c (ds.getD i P0) (us.getD i undef) := by
  cases h with
  | sh h => cases h with | fn hn h hm k => exact ⟨_, _, rfl, hn, hm, fun i hi => .sh (h i hi), fun i hi => .sh (k i hi)⟩
  | fn hn h hm k => exact ⟨_, _, rfl, hn, hm, h, k⟩
theorem rep_osl {id off len : Nat} (h : Rep P c (.osl id off len) v) : ∃ ob T, c.own id = some (ob, T) ∧ OslOk P c.w ob T off len v := by
  cases h with
  | sh h => cases h
  | osl ho h => exact ⟨_, _, ho, h⟩
theorem rep_opt {id off : Nat} (h : Rep P c (.opt id off) v) : ∃ b T, c.own id = some (some b, T) ∧ v = .pointer (some ⟨b, off, none⟩) := by
  cases h with
  | sh h => cases h
  | opt ho => exact ⟨_, _, ho, rfl⟩
theorem rep_ssl {cs : List PV} {off len : Nat} (h : Rep P c (.ssl cs off len) v) : (∃ a cap, v = .slice a 0 cap ∧ len = 0) ∨ ∃ (b a cap : Nat) (vf : Nat → Value), v = .slice (some ⟨b, a + off, none⟩) len cap ∧ c.S b ∧ (∀ j, j < cs.length → c.w.cell? ⟨b, a + j, none⟩ = some (vf j)) ∧
    (∀ j, j < cs.length → SRep c.w c.S (cs.getD j P0) (vf j)) ∧ ones cs ∧ len ≤ cap := by
  cases h with
  | sh h => cases h with
    | emp => exact .inl ⟨_, _, rfl, rfl⟩
    | ssl hS hc h ho hl => exact .inr ⟨_, _, _, _, rfl, hS, hc, h, ho, hl⟩
theorem rep_spt {cs : List PV} {off : Nat} (h : Rep P c (.spt cs off) v) : ∃ (b a : Nat) (vf : Nat → Value), v = .pointer (some ⟨b, a + off, none⟩) ∧ c.S b ∧ (∀ j, j < cs.length → c.w.cell? ⟨b, a + j, none⟩ = some (vf j)) ∧
    (∀ j, j < cs.length → SRep c.w c.S (cs.getD j P0) (vf j)) ∧ ones cs := by
  cases h with
  | sh h => cases h with
    | spt hS hc h ho => exact ⟨_, _, _, rfl, hS, hc, h, ho⟩
end

/-! ### moves, picks, parts of tuples -/
def aMove (x : Operand) : Plan := opd x fun q => .done q []
theorem aMove_ok {E : Env} {o : Oper} {id : Nat} {x : Operand} (ho : o.op = .move x ∨ o.op = .assign x) (hd : ∀ x, o.dst = some x → x < E.n) : ActOk E o id (aMove x) := by
  intro g p wb h nx c a K Q hn hi hK
  obtain ⟨q, hq, h⟩ := Res.opd hi h
  obtain ⟨rfl, rfl⟩ := Res.done h
  refine pure_step hd hi hK hq ?_
  rcases ho with ho | ho <;> simp [execOp, ho]
def aPick (cx x y : Operand) (an : Ans) : Plan := opd cx fun q => match q, an with
  | .av (.bool t), .yes true => .ob (t = true) (opd x fun q => .done q [])
  | .av (.bool t), .yes false => .ob (t = false) (opd y fun q => .done q [])
  | .av (.bool true), _ => opd x fun q => .done q []
  | .av (.bool false), _ => opd y fun q => .done q []
  | _, _ => .fail
theorem aPick_ok {E : Env} {o : Oper} {id : Nat} {cx x y : Operand} {an : Ans} (ho : o.op = .pick cx x y) (hd : ∀ x, o.dst = some x → x < E.n) : ActOk E o id (aPick cx x y an) := by
  intro g p wb h nx c a K Q hn hi hK
  obtain ⟨q, hq, h⟩ := Res.opd hi h
  split at h
  · obtain ⟨rfl, h1⟩ := Res.ob h
    obtain ⟨q', hq', h2⟩ := Res.opd hi h1
    obtain ⟨rfl, rfl⟩ := Res.done h2
    have := rep_av hq
    exact pure_step hd hi hK hq' (by simp [execOp, ho, this, asBool])
  · obtain ⟨rfl, h1⟩ := Res.ob h
    obtain ⟨q', hq', h2⟩ := Res.opd hi h1
    obtain ⟨rfl, rfl⟩ := Res.done h2
    have := rep_av hq
    exact pure_step hd hi hK hq' (by simp [execOp, ho, this, asBool])
  · obtain ⟨q', hq', h⟩ := Res.opd hi h
    obtain ⟨rfl, rfl⟩ := Res.done h
    have := rep_av hq
    exact pure_step hd hi hK hq' (by simp [execOp, ho, this, asBool])
  · obtain ⟨q', hq', h⟩ := Res.opd hi h
    obtain ⟨rfl, rfl⟩ := Res.done h
    have := rep_av hq
    exact pure_step hd hi hK hq' (by simp [execOp, ho, this, asBool])
  · exact (Res.fail h).elim
def aExtract (t : Operand) (ix : Nat) : Plan := opd t fun q => match q with
  | .tup cs => match Nat.ble (ix + 1) cs.length with | true => .done (cs.getD ix P0) [] | false => .fail
  | _ => .fail
theorem aExtract_ok {E : Env} {o : Oper} {id : Nat} {t : Operand} {ix : Nat} (ho : o.op = .extract t ix) (hd : ∀ x, o.dst = some x → x < E.n) : ActOk E o id (aExtract t ix) := by
  intro g p wb h nx c a K Q hn hi hK
  obtain ⟨q, hq, h⟩ := Res.opd hi h
  split at h
  · rename_i cs
    split at h
    · rename_i hb
      have hb := Nat.le_of_ble_eq_true hb
      obtain ⟨rfl, rfl⟩ := Res.done h
      obtain ⟨vs, hv, hs, hr⟩ := rep_tup hq
      refine pure_step hd hi hK (hr ix (by omega)) ?_
      have hlt : ix < vs.size := by omega
      simp [execOp, ho, hv, Instr.extract, hlt]
    · exact (Res.fail h).elim
  · exact (Res.fail h).elim
end Go.Proofs.Ytgkahjaoajjgcaa.Pm
