/-
  THE VALUE MACHINE (O): what a function hands back; contracts of the kit's kind as contracts by values; small words for written walks. No program in sight.
-/
import Derived.Test.YtgkahjaoajjgcaaPmN
namespace Go.Proofs.Ytgkahjaoajjgcaa.Pm
open Go

/-- What is handed back: slots, or what stands in a box. -/
def resP (P : Program) : List ResultVar → (List PV → Plan) → Plan
  | [], k => k []
  | .tmp t :: rs, k => .look (ks t) fun v => match v with | .pv p => resP P rs fun ps => k (p :: ps) | .blk _ _ => .fail
  | .cell t T :: rs, k => .look (ks t) fun v => match v with
    | .pv (.opt id off) => .look (kb id) fun v => match v with
      | .blk _ cs => match isAggD (P.underlying T), P.info? T with
        | some true, some ti => seg cs off ti.size .no fun l => resP P rs fun ps => k (.agg l :: ps)
        | some false, some _ => seg cs off 1 .no fun l => one1 l fun p => resP P rs fun ps => k (p :: ps)
        | _, _ => .fail
      | .pv _ => .fail
    | _ => .fail
abbrev resF (tmps : Array Value) : ResultVar → Sem Value := fun x => match x with
  | .tmp t => pure (tmps.getD t undef)
  | .cell a t => do loadVar t (← asAddr (tmps.getD a undef))
theorem resP_ok {E : Env} {nx : Nat → Prop} {c : Cx} {g : St} {a : Act} (hI : Inv E nx c g a) : ∀ {rs : List ResultVar} {k : List PV → Plan} {p : PV} {wb : L}, Res g (resP E.P rs k) p wb →
    ∃ ps vs, RL E.P c ps (List.toArray vs) ∧ (rs.mapM (resF a.tmps)).run E.P c.w = .ok vs c.w ∧ Res g (k ps) p wb
  | [], k, p, wb, h => ⟨[], [], ⟨rfl, fun i hi => by simp at hi⟩, by simp, h⟩
  | .tmp t :: rs, k, p, wb, h => by
    obtain ⟨v, h1, h2⟩ := Res.look h
    cases v with
    | blk T cs => exact (Res.fail h2).elim
    | pv q =>
      obtain ⟨ps, vs, h3, h4, h5⟩ := resP_ok hI h2
      refine ⟨q :: ps, a.tmps.getD t undef :: vs, ?_, ?_, h5⟩
      · have := (one_rl (hI.slot t q h1)).append h3
        simpa using this
      · simp [List.mapM_cons, h4, resF]
  | .cell t T :: rs, k, p, wb, h => by
    obtain ⟨v, h1, h2⟩ := Res.look h
    split at h2
    case h_2 => exact (Res.fail h2).elim
    rename_i id off
    obtain ⟨bv, hg, h3⟩ := Res.look h2
    cases bv with
    | pv _ => exact (Res.fail h3).elim
    | blk T' cs =>
      simp only at h3
      obtain ⟨b, T2, hown, hv⟩ := rep_opt (hI.slot t _ h1)
      obtain ⟨ob', hown', hone, hb⟩ := hI.blk id T' cs hg
      rw [hown] at hown'
      cases hown'
      rcases hb with ⟨hb, _⟩ | ⟨b', arr, hb1, hb2, hb3, hb4⟩
      · cases hb
      obtain rfl : b' = b := by simpa using hb1.symm
      have hcell : ∀ j, j < cs.length → c.w.cell? ⟨b', 0 + j, none⟩ = some (arr.getD j undef) := fun j hj => by
        have : j < arr.size := by omega
        rw [Nat.zero_add, cell_of_row c.w _ _ arr _ _ hb2]
        simp [Array.getD_eq_getD_getElem?, this]
      -- one value loaded, the rest behind it
      have key : ∀ {q : PV} {u : Value} {r : Plan}, Rep E.P c q u → (loadVar T ⟨b', 0 + off, none⟩).run E.P c.w = .ok u c.w → Res g (resP E.P rs fun ps => k (q :: ps)) p wb →
          ∃ ps vs, RL E.P c ps (List.toArray vs) ∧ ((ResultVar.cell t T :: rs).mapM (resF a.tmps)).run E.P c.w = .ok vs c.w ∧ Res g (k ps) p wb := by
        intro q u r hq hu hr
        obtain ⟨ps, vs, h5, h6, h7⟩ := resP_ok hI hr
        refine ⟨q :: ps, u :: vs, ?_, ?_, h7⟩
        · have := (one_rl hq).append h5
          simpa using this
        · rw [Nat.zero_add] at hu
          have e : (resF a.tmps (.cell t T)).run E.P c.w = .ok u c.w := by
            have hv2 : a.tmps.getD t undef = .pointer (some ⟨b', off, none⟩) := hv
            simp only [resF, Sem.run_bind, hv2, asAddr, Sem.run_pure, Result.andThen_ok, hu]
          rw [List.mapM_cons]
          simp only [Sem.run_bind, e, h6, Result.andThen_ok, Sem.run_pure]
      split at h3
      · rename_i ti hag hin
        have h4 : Res g (loadCs cs off ti.size true .no) (.agg ((cs.drop off).take ti.size)) [] ∧ Res g (resP E.P rs fun ps => k (.agg ((cs.drop off).take ti.size) :: ps)) p wb := by
          unfold seg at h3
          simp only at h3
          split at h3
          · rename_i hb5
            refine ⟨?_, h3⟩
            simp only [loadCs, seg, hb5]
            exact ⟨_, rfl, rfl, rfl, fun q hq => by cases hq⟩
          · exact (Res.fail h3).elim
        obtain ⟨_, u, h5, h6⟩ := load_run (c := c) (a := 0) hag hin h4.1 hcell hb4
        exact key (r := .fail) h5 h6 h4.2
      · rename_i ti hag hin
        unfold seg at h3
        simp only at h3
        split at h3
        · rename_i hb5
          unfold one1 at h3
          split at h3
          · rename_i q heq
            have h4 : Res g (loadCs cs off ti.size false .no) q [] := by
              simp only [loadCs, seg, hb5, heq, one1]
              exact ⟨_, rfl, rfl, rfl, fun q hq => by cases hq⟩
            obtain ⟨_, u, h5, h6⟩ := load_run (c := c) (a := 0) hag hin h4 hcell hb4
            exact key (r := .fail) h5 h6 h3
          · exact (Res.fail h3).elim
        · exact (Res.fail h3).elim
      · exact (Res.fail h3).elim
def runv (g : St) (p : Plan) : Option (PV × List Prop) := match run g p with | some o => some (o.pv, o.obs) | none => none
theorem ret_res {P : Program} {n : Nat} {c0 : Cx} {Bor : Nat → Prop} {n0 : Nat} {fn : Func} {l' : L} {r : PV} (h : runv (get l') (resP P fn.results.toList fun ps => .done (resPV ps) []) = some (r, [])) (cx : Cx) (a : Act)
    (hI : Inv ⟨P, n, c0, Bor⟩ (· < n0) cx (get l') a) : ∃ v, (results fn a.tmps).run P cx.w = .ok v cx.w ∧ Rep P cx r v := by
  unfold runv at h
  split at h
  case h_2 => cases h
  rename_i o h0
  simp only [Option.some.injEq, Prod.mk.injEq] at h
  obtain ⟨hr, ho⟩ := h
  obtain ⟨ps, vs, h1, h2, h3⟩ := resP_ok hI (p := r) (wb := o.wb) ⟨o, h0, hr, rfl, fun q hq => by rw [ho] at hq; cases hq⟩
  obtain ⟨rfl, _⟩ := Res.done h3
  have e : (results fn a.tmps).run P cx.w = .ok (if hs : vs.toArray.size = 1 then vs.toArray[0] else .tuple vs.toArray) cx.w := by
    have e0 : results fn a.tmps = (do let vs ← fn.results.mapM (resF a.tmps); pure (if h : vs.size = 1 then vs[0] else .tuple vs)) := rfl
    rw [e0, Array.mapM_eq_mapM_toList]
    simp only [Sem.run_bind, Sem.run_map, h2, Result.andThen_ok]
    rfl
  refine ⟨_, e, ?_⟩
  have hlen : vs.length = ps.length := by simpa using h1.1
  unfold resPV
  split
  · rename_i p
    have h5 : vs.toArray.size = 1 := by simpa using hlen
    rw [dif_pos h5]
    have := h1.2 0 (by simp)
    have h6 : (0 : Nat) < vs.length := by simpa using hlen ▸ Nat.one_pos
    simp [Array.getD_eq_getD_getElem?, h6] at this
    exact rep_cz (by simpa using this)
  · rename_i hne
    have h5 : ¬ vs.toArray.size = 1 := fun e => by
      have : ps.length = 1 := by simp at e; omega
      obtain ⟨q, rfl⟩ := List.length_eq_one_iff.1 this
      exact hne q rfl
    rw [dif_neg h5]
    refine .tup (by simp [hlen]) fun i hi => ?_
    have hi' : i < ps.length := by simpa using hi
    have := rep_cz (h1.2 i hi')
    simpa [List.getD_eq_getElem?_getD, hi'] using this

/-! ### contracts of the kit's kind -/
/-- A callee that is lent nothing, tells its result by plain values, and at most makes blocks. -/
theorem pc_of {P : Program} {f : FuncId} {args : List PV} {r : PV} (hf : FnOk P f) (hr : ∀ w vs, RL P ⟨w, fun b => b < w.heap.size, fun _ => none⟩ args vs → Calls P f vs w fun e w' => ∃ v, e = .returned v ∧ RowKit.Below w.heap.size w w' ∧ ∀ c, Rep P c r v)
    (hargs : ∀ c vs, RL P c args vs → RL P ⟨c.w, fun b => b < c.w.heap.size, fun _ => none⟩ args vs) : PC P f args [] r [] := by
  refine ⟨hf, Nat.le_refl _, fun c vs hh hrl => (hr c.w vs (hargs c vs hrl)).mono ?_⟩
  rintro e w' ⟨v, rfl, hb, hv⟩
  have hbl : ∀ b, b < c.w.heap.size → w'.heap[b]? = c.w.heap[b]? := hb.block
  have hno : ∀ i, ¬ Live (hSt []) i := fun i ⟨T, cs, hx⟩ => by rw [hSt_b] at hx; simp at hx
  have hk : Keep c ⟨w', c.S, c.own⟩ := ⟨fun b hb => ⟨hb, hbl b (hh.sok b hb)⟩, fun _ _ h => h, fun b cs T h => ⟨cs, by rw [hbl b (some_lt h)]; exact h, rfl⟩⟩
  exact ⟨v, ⟨w', c.S, c.own⟩, rfl, rfl, { ids := hh.ids, blk := fun i T cs hx => absurd ⟨T, cs, hx⟩ (hno i), inj := fun i j b T T' l1 => absurd l1 (hno i), apart := fun i b T l1 => absurd l1 (hno i), bnd := fun i b T hx => Nat.lt_of_lt_of_le (hh.bnd i b T hx) hb.size, sok := fun b hS => Nat.lt_of_lt_of_le (hh.sok b hS) hb.size, os := hb.os, tape := hb.tape, output := hb.output, size := hb.size, same := fun b hb' _ => hbl b hb', s0 := fun _ h => h, s1 := fun _ h => .inl h, keep := hk }, hv _⟩

/-! ### small words -/
section
variable {P : Program} {n : Nat} {c0 : Cx} {Bor : Nat → Prop} {Q : Post} {n0 : Nat} {l : L} {rs : List Item}
theorem T_then {t : Nat} {x y : Code} {b : Bool} (hb : get l (ks t) = some (.pv (.av (.bool b)))) (hv : b = true) (h : T P n c0 Bor Q n0 l (.code x :: rs)) : T P n c0 Bor Q n0 l (.code (.cond (.tmp t) x y) :: rs) :=
  T_cond hb (fun _ => h) fun e => by rw [hv] at e; cases e
theorem T_else {t : Nat} {x y : Code} {b : Bool} (hb : get l (ks t) = some (.pv (.av (.bool b)))) (hv : b = false) (h : T P n c0 Bor Q n0 l (.code y :: rs)) : T P n c0 Bor Q n0 l (.code (.cond (.tmp t) x y) :: rs) :=
  T_cond hb (fun e => by rw [hv] at e; cases e) fun _ => h
end
theorem obs_nil : ∀ p ∈ ([] : List Prop), p := fun p hp => by cases hp
theorem obs_cons {p : Prop} {l : List Prop} (h : p) (k : ∀ q ∈ l, q) : ∀ q ∈ p :: l, q := fun q hq => by
  rcases List.mem_cons.1 hq with rfl | hq
  · exact h
  · exact k q hq
theorem Wk.eq {P : Program} {n : Nat} {c0 : Cx} {Bor : Nat → Prop} {n0 : Nat} {l l' : L} (h : l = l') : Wk P n c0 Bor n0 l n0 l' := h ▸ Wk.refl
abbrev iv (n : Int) : PV := .av (.int .i64 n)
abbrev bv (b : Bool) : PV := .av (.bool b)
abbrev sv (s : ByteArray) : PV := .av (.string s)
abbrev ps (s : Nat) (p : PV) : Nat × Option Val := (ks s, some (.pv p))
abbrev pb (i : Nat) (T : TypeId) (cs : List PV) : Nat × Option Val := (kb i, some (.blk T cs))
/-- Numbers, as cells. -/
def ints (l : List Int) : List PV := l.flatMap fun n => [iv n]
theorem flat_len {α : Type} (f : α → List PV) (s : Nat) (hf : ∀ x, (f x).length = s) : ∀ l : List α, (l.flatMap f).length = l.length * s
  | [] => by simp
  | x :: l => by rw [List.flatMap_cons, List.length_append, hf, flat_len f s hf l, List.length_cons, Nat.succ_mul]; omega
theorem flat_at {α : Type} (f : α → List PV) (s : Nat) (hf : ∀ x, (f x).length = s) (d : α) : ∀ (l : List α) (k j m : Nat), k < l.length → j + m ≤ s →
    k * s + j + m ≤ (l.flatMap f).length ∧ ((l.flatMap f).drop (k * s + j)).take m = ((f (l.getD k d)).drop j).take m
  | x :: l, 0, j, m, _, hj => by
    refine ⟨by rw [flat_len f s hf, List.length_cons, Nat.succ_mul]; omega, ?_⟩
    rw [Nat.zero_mul, Nat.zero_add, List.flatMap_cons, List.drop_append_of_le_length (by rw [hf]; omega), List.take_append_of_le_length (by rw [List.length_drop, hf]; omega)]
    rfl
  | x :: l, k + 1, j, m, hk, hj => by
    have hk' : k < l.length := by simpa using hk
    obtain ⟨h1, h2⟩ := flat_at f s hf d l k j m hk' hj
    refine ⟨by rw [List.flatMap_cons, List.length_append, hf, Nat.succ_mul]; omega, ?_⟩
    have e : (k + 1) * s + j = s + (k * s + j) := by rw [Nat.succ_mul]; omega
    rw [List.flatMap_cons, e, ← List.drop_drop, show s = (f x).length from (hf x).symm, List.drop_left, hf x, h2]
    rfl
theorem ints_at {l : List Int} {k : Nat} (h : k < l.length) : k + 1 ≤ (ints l).length ∧ ((ints l).drop k).take 1 = [iv (l.getD k 0)] := by
  have := flat_at (fun n => [iv n]) 1 (fun _ => rfl) 0 l k 0 1 h (by omega)
  simpa [ints] using this
theorem ints_len (l : List Int) : (ints l).length = l.length := by rw [ints, flat_len _ 1 (fun _ => rfl), Nat.mul_one]
end Go.Proofs.Ytgkahjaoajjgcaa.Pm
