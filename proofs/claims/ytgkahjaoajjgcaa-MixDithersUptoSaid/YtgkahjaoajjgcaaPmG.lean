/-
  THE VALUE MACHINE (G): what is made and written. No program in sight.
-/
import Derived.Test.YtgkahjaoajjgcaaPmF
import Derived.Great.BuildSlice
import Derived.Laws.MakeOwn
import Derived.Laws.CopyOwn
namespace Go.Proofs.Ytgkahjaoajjgcaa.Pm
open Go

/-- Cells, as a list of trees. -/
def RL (P : Program) (c : Cx) (cells : List PV) (arr : Array Value) : Prop := arr.size = cells.length ∧ ∀ i, i < cells.length → Rep P c (cells.getD i P0) (arr.getD i undef)
def pcells : PV → List PV
  | .agg cs => cs
  | .av v => v.cells.toList.map .av
  | p => [p]
theorem avs_rl {P : Program} {c : Cx} (vs : Array Value) : RL P c (vs.toList.map .av) vs := by
  refine ⟨by simp, fun i hi => ?_⟩
  have h : i < vs.size := by simpa using hi
  simp only [List.getD_eq_getElem?_getD, List.getElem?_map, Array.getElem?_toList, Array.getElem?_eq_getElem h, Option.map_some, Option.getD_some, Array.getD_eq_getD_getElem?]
  exact .sh (.av _)
theorem one_rl {P : Program} {c : Cx} {p : PV} {v : Value} (h : Rep P c p v) : RL P c [p] #[v] := by
  refine ⟨rfl, fun i hi => ?_⟩
  obtain rfl : i = 0 := by simpa using hi
  exact h
theorem pcells_rl {P : Program} {c : Cx} {p : PV} {v : Value} (h : Rep P c p v) : RL P c (pcells p) v.cells := by
  cases p with
  | av x => rw [rep_av h]; exact avs_rl _
  | agg cs =>
    obtain ⟨vs, rfl, h1, h2⟩ := rep_agg h
    exact ⟨h1, h2⟩
  | tup cs =>
    obtain ⟨vs, rfl, h1, h2⟩ := rep_tup h
    exact one_rl h
  | osl id off len =>
    obtain ⟨a, cap, hv⟩ := osl_len h
    subst hv
    exact one_rl h
  | opt id off =>
    obtain ⟨b, T, _, hv⟩ := rep_opt h
    subst hv
    exact one_rl h
  | ssl cs off len =>
    obtain ⟨a, cap, hv⟩ := ssl_len h
    subst hv
    exact one_rl h
  | spt cs off =>
    obtain ⟨b, a, vf, hv, _⟩ := rep_spt h
    subst hv
    exact one_rl h
  | fn f cs ds =>
    obtain ⟨vs, us, hv, _⟩ := rep_fn h
    subst hv
    exact one_rl h
theorem RL.mono {P : Program} {c c' : Cx} (hk : Keep c c') {cells : List PV} {arr : Array Value} (h : RL P c cells arr) : RL P c' cells arr := ⟨h.1, fun i hi => (h.2 i hi).mono hk⟩
theorem RL.append {P : Program} {c : Cx} {l m : List PV} {a b : Array Value} (h : RL P c l a) (k : RL P c m b) : RL P c (l ++ m) (a ++ b) := by
  refine ⟨by simp [h.1, k.1], fun i hi => ?_⟩
  have ha := h.1
  by_cases e : i < l.length
  · have := h.2 i e
    have h2 : i < a.size := by omega
    simpa [List.getD_eq_getElem?_getD, Array.getD_eq_getD_getElem?, List.getElem?_append_left e, Array.getElem?_append_left h2] using this
  · have h3 : l.length ≤ i := by omega
    have h4 : a.size ≤ i := by omega
    have := k.2 (i - l.length) (by simp at hi; omega)
    rw [← ha] at this
    simpa [List.getD_eq_getElem?_getD, Array.getD_eq_getD_getElem?, List.getElem?_append_right h3, Array.getElem?_append_right h4, ha] using this

/-- Other cells put over some. -/
def splice (cs : List PV) (off : Nat) (ps : List PV) : List PV := cs.take off ++ ps ++ cs.drop (off + ps.length)
theorem splice_length {cs ps : List PV} {off : Nat} (h : off + ps.length ≤ cs.length) : (splice cs off ps).length = cs.length := by simp [splice]; omega
theorem splice_get {cs ps : List PV} {off : Nat} (h : off + ps.length ≤ cs.length) (i : Nat) : (splice cs off ps).getD i P0 = if off ≤ i ∧ i < off + ps.length then ps.getD (i - off) P0 else cs.getD i P0 := by
  unfold splice
  simp only [List.getD_eq_getElem?_getD]
  by_cases h1 : i < off
  · rw [if_neg (by omega), List.append_assoc, List.getElem?_append_left (by simp; omega), List.getElem?_take_of_lt h1]
  · by_cases h2 : i < off + ps.length
    · rw [if_pos ⟨by omega, h2⟩, List.append_assoc, List.getElem?_append_right (by simp; omega), List.getElem?_append_left (by simp; omega)]
      simp only [List.length_take]
      rw [Nat.min_eq_left (by omega)]
    · rw [if_neg (by omega), List.getElem?_append_right (by simp only [List.length_append, List.length_take]; omega), List.getElem?_drop]
      simp only [List.length_append, List.length_take]
      rw [Nat.min_eq_left (by omega), show off + ps.length + (i - (off + ps.length)) = i by omega]
theorem ones_splice {cs ps : List PV} {off : Nat} (h : ones cs) (k : ones ps) : ones (splice cs off ps) := by
  intro p hp
  simp only [splice, List.mem_append] at hp
  rcases hp with (hp | hp) | hp
  · exact h p (List.mem_of_mem_take hp)
  · exact k p hp
  · exact h p (List.mem_of_mem_drop hp)
theorem fold_sets : ∀ (l : List Value) (off k : Nat) (cs : Array Value), off + k + l.length ≤ cs.size →
    ((l.zipIdx k).foldl (fun cs x => cs.setIfInBounds (off + x.2) x.1) cs).size = cs.size ∧
      ∀ i, ((l.zipIdx k).foldl (fun cs x => cs.setIfInBounds (off + x.2) x.1) cs).getD i undef = if off + k ≤ i ∧ i < off + k + l.length then l.getD (i - (off + k)) undef else cs.getD i undef
  | [], off, k, cs, _ => by
    refine ⟨rfl, fun i => ?_⟩
    rw [if_neg (by simp only [List.length_nil]; omega)]
    rfl
  | v :: l, off, k, cs, h => by
    simp only [List.zipIdx_cons, List.foldl_cons, List.length_cons] at h ⊢
    obtain ⟨h1, h2⟩ := fold_sets l off (k + 1) (cs.setIfInBounds (off + k) v) (by simp; omega)
    refine ⟨h1.trans (by simp), fun i => ?_⟩
    rw [h2 i]
    by_cases e1 : off + (k + 1) ≤ i ∧ i < off + (k + 1) + l.length
    · rw [if_pos e1, if_pos (by omega), show i - (off + k) = (i - (off + (k + 1))) + 1 by omega]
      rfl
    · rw [if_neg e1]
      by_cases e2 : i = off + k
      · subst e2
        rw [if_pos (by omega), Nat.sub_self]
        have h3 : off + k < cs.size := by omega
        simp [Array.getD_eq_getD_getElem?, h3]
      · rw [if_neg (by omega), Array.getD_eq_getD_getElem?, Array.getElem?_setIfInBounds_ne (Ne.symm e2), Array.getD_eq_getD_getElem?]
theorem splice_rl {P : Program} {c : Cx} {cs ps : List PV} {off : Nat} {arr vs : Array Value} (h : RL P c cs arr) (k : RL P c ps vs) (hl : off + ps.length ≤ cs.length) :
    RL P c (splice cs off ps) (vs.zipIdx.foldl (fun cs x => cs.setIfInBounds (off + x.2) x.1) arr) := by
  have e : vs.zipIdx.foldl (fun cs x => cs.setIfInBounds (off + x.2) x.1) arr = (vs.toList.zipIdx 0).foldl (fun cs x => cs.setIfInBounds (off + x.2) x.1) arr := by
    rw [← Array.foldl_toList, Array.toList_zipIdx]
  obtain ⟨h1, h2⟩ := fold_sets vs.toList off 0 arr (by have := h.1; have := k.1; simp; omega)
  rw [e]
  refine ⟨by rw [h1, splice_length hl]; exact h.1, fun i hi => ?_⟩
  rw [splice_length hl] at hi
  rw [h2 i, splice_get hl i]
  simp only [Nat.add_zero, Array.length_toList, k.1]
  by_cases e1 : off ≤ i ∧ i < off + ps.length
  · rw [if_pos e1, if_pos e1]
    have := k.2 (i - off) (by omega)
    simpa [List.getD_eq_getElem?_getD, Array.getD_eq_getD_getElem?] using this
  · rw [if_neg e1, if_neg e1]
    exact h.2 i hi

/-! ### parts -/
def RP (P : Program) (c : Cx) : List (Nat × PV) → List (Nat × Value) → Prop
  | [], [] => True
  | (i, p) :: l, (j, v) :: m => i = j ∧ Rep P c p v ∧ RP P c l m
  | _, _ => False
def opds : List (Nat × Operand) → (List (Nat × PV) → Plan) → Plan
  | [], k => k []
  | (i, x) :: l, k => opd x fun p => opds l fun r => k ((i, p) :: r)
theorem Res.opds {E : Env} {nx : Nat → Prop} {c : Cx} {g : St} {a : Act} (hi : Inv E nx c g a) : ∀ {l : List (Nat × Operand)} {k : List (Nat × PV) → Plan} {p : PV} {wb : L}, Res g (opds l k) p wb →
    ∃ ps, RP E.P c ps (l.map fun x => (x.1, a.eval x.2)) ∧ Res g (k ps) p wb
  | [], k, p, wb, h => ⟨[], trivial, h⟩
  | (i, x) :: l, k, p, wb, h => by
    obtain ⟨q, hq, h1⟩ := Res.opd hi h
    obtain ⟨ps, h2, h3⟩ := Res.opds hi h1
    exact ⟨(i, q) :: ps, ⟨rfl, hq, h2⟩, h3⟩
def pfill (place : Nat → Option (Nat × Nat)) (cells : List PV) : List (Nat × PV) → Option (List PV)
  | [] => some cells
  | (i, p) :: r => match place i with
    | none => none
    | some (off, size) => match Nat.beq (pcells p).length size, Nat.ble (off + (pcells p).length) cells.length with
      | true, true => pfill place (splice cells off (pcells p)) r
      | _, _ => none
theorem pfill_ok {P : Program} {c : Cx} {place : Nat → Option (Nat × Nat)} : ∀ {ps : List (Nat × PV)} {vs : List (Nat × Value)} {cells : List PV} {arr : Array Value} {cells' : List PV}, RP P c ps vs → RL P c cells arr → pfill place cells ps = some cells' →
    ∃ arr', Instr.fill place arr vs = some arr' ∧ RL P c cells' arr'
  | [], [], cells, arr, cells', _, h, hf => by
    simp only [pfill, Option.some.injEq] at hf
    subst hf
    exact ⟨arr, rfl, h⟩
  | (i, p) :: ps, (j, v) :: vs, cells, arr, cells', hp, h, hf => by
    obtain ⟨rfl, hr, hp'⟩ := hp
    simp only [pfill] at hf
    split at hf
    · cases hf
    · rename_i off size hpl
      split at hf
      · rename_i h1 h2
        have h1 := Nat.eq_of_beq_eq_true h1
        have h2 := Nat.le_of_ble_eq_true h2
        have hc := pcells_rl hr
        obtain ⟨arr', h3, h4⟩ := pfill_ok hp' (splice_rl h hc h2) hf
        refine ⟨arr', ?_, h4⟩
        have e1 : ¬ (v.cells.size ≠ size ∨ off + v.cells.size > arr.size) := by
          have := hc.1; have := h.1; omega
        unfold Instr.fill
        simp only [hpl, Bool.or_eq_true, decide_eq_true_eq, e1, if_false]
        exact h3
      · cases hf
  | [], _ :: _, _, _, _, hp, _, _ => hp.elim
  | _ :: _, [], _, _, _, hp, _, _ => hp.elim

def zeroP (P : Program) (T : TypeId) : Option (List PV) := match P.info? T with
  | some i => match i.zero with | some z => some (z.cells.toList.map .av) | none => none
  | none => none
theorem zeroP_ok {P : Program} {T : TypeId} {zs : List PV} (h : zeroP P T = some zs) : ∃ i z, P.info? T = some i ∧ i.zero = some z ∧ zs = z.cells.toList.map .av := by
  unfold zeroP at h
  cases hi : P.info? T with
  | none => simp [hi] at h
  | some i =>
    cases hz : i.zero with
    | none => simp [hi, hz] at h
    | some z =>
      simp only [hi, hz, Option.some.injEq] at h
      exact ⟨i, z, rfl, hz, h.symm⟩
def placesP (P : Program) : List Field → Option (List (Nat × Nat))
  | [] => some []
  | f :: fs => match P.info? f.type, placesP P fs with
    | some i, some r => some ((f.offset, i.size) :: r)
    | _, _ => none
theorem placesP_ok {P : Program} : ∀ {fs : List Field} {pl : List (Nat × Nat)}, placesP P fs = some pl → fs.mapM (fun f => (P.info? f.type).map fun i => (f.offset, i.size)) = some pl
  | [], pl, h => by simp only [placesP, Option.some.injEq] at h; subst h; rfl
  | f :: fs, pl, h => by
    simp only [placesP] at h
    split at h
    · rename_i i r hi hr
      simp only [Option.some.injEq] at h
      subst h
      simp [List.mapM_cons, hi, placesP_ok hr]
    · cases h
def aBuild (P : Program) (T : TypeId) (parts : List (Nat × Operand)) : Plan := opds parts fun ps => match zeroP P T, P.underlying T with
  | some zs, some (.struct fs) => match placesP P fs.toList with
    | some pl => match pfill (pl.toArray[·]?) zs ps with | some cs => .done (.agg cs) [] | none => .fail
    | none => .fail
  | some zs, some (.array _ e) => match P.info? e with
    | some ie => match pfill (fun i => some (i * ie.size, ie.size)) zs ps with | some cs => .done (.agg cs) [] | none => .fail
    | none => .fail
  | _, _ => .fail
theorem aBuild_ok {E : Env} {o : Oper} {id : Nat} {T : TypeId} {parts : Array (Nat × Operand)} (ho : o.op = .build T parts) (hd : ∀ x, o.dst = some x → x < E.n) : ActOk E o id (aBuild E.P T parts.toList) := by
  intro g p wb h nx c a K Q hn hI hK
  obtain ⟨ps, hp, h1⟩ := Res.opds hI h
  have hval : ∀ arr : Array Value, E.P.built T ((parts.map fun x => (x.1, a.eval x.2)).toList) = some arr → (execOp a.eval o).run E.P c.w = .ok (.value (.agg arr)) c.w := fun arr hb => by
    have := run_build (P := E.P) c.w T (parts.map fun x => (x.1, a.eval x.2)) arr hb
    simp only [execOp, ho, Sem.run_bind, this, Result.andThen_ok]
    rfl
  split at h1
  · rename_i zs fs hz hu
    obtain ⟨i, z, hi, hz', rfl⟩ := zeroP_ok hz
    split at h1
    · rename_i pl hpl
      split at h1
      · rename_i cs hf
        obtain ⟨rfl, rfl⟩ := Res.done h1
        obtain ⟨arr, h2, h3⟩ := pfill_ok hp (avs_rl z.cells) hf
        exact pure_step hd hI hK (.agg h3.1 h3.2) (hval arr (by simp only [Program.built, hi, hu, hz', placesP_ok hpl]; simpa using h2))
      · exact (Res.fail h1).elim
    · exact (Res.fail h1).elim
  · rename_i zs n e hz hu
    obtain ⟨i, z, hi, hz', rfl⟩ := zeroP_ok hz
    split at h1
    · rename_i ie hie
      split at h1
      · rename_i cs hf
        obtain ⟨rfl, rfl⟩ := Res.done h1
        obtain ⟨arr, h2, h3⟩ := pfill_ok hp (avs_rl z.cells) hf
        exact pure_step hd hI hK (.agg h3.1 h3.2) (hval arr (by simp only [Program.built, hi, hu, hz', hie]; simpa using h2))
      · exact (Res.fail h1).elim
    · exact (Res.fail h1).elim
  · exact (Res.fail h1).elim

/-! ### new blocks -/
/-- An operation that makes one block and yields what leads there. -/
theorem new_step {E : Env} {nx : Nat → Prop} {c : Cx} {g : St} {a : Act} {o : Oper} {id : Nat} {K : Act → World → Prop} {Q : Exit → Act → World → Prop} {T : TypeId} {cells : List PV} {arr : Array Value} {p : PV} {v : Value} {w' : World}
    (hd : ∀ x, o.dst = some x → x < E.n) (hn : ∀ t, t < 8 → ¬ nx (id + t)) (hI : Inv E nx c g a)
    (hK : ∀ c' a', Inv E (fun j => nx j ∨ (id ≤ j ∧ j < id + 8)) c' (over (wd o.dst p) (over [(kb id, some (.blk T cells))] g)) a' → K a' c'.w)
    (hw : w'.heap = c.w.heap.push (.cells arr T (0, 0))) (hos : w'.os = c.w.os) (htp : w'.tape = c.w.tape) (hou : w'.output = c.w.output)
    (ho : ones cells) (hl : cells.length ≤ arr.size) (hrl : ∀ j, j < cells.length → Rep E.P c (cells.getD j P0) (arr.getD j undef))
    (hv : ∀ own, own id = some (some c.w.heap.size, T) → Rep E.P ⟨w', c.S, own⟩ p v) (hr : (execOp a.eval o).run E.P c.w = .ok (.value v) w') : o.wp E.P a c.w K Q := by
  obtain ⟨hk, hh⟩ := heap_new hI.toHeap (hn 0 (by decide)) T arr cells w' hw hos htp hou ho hl hrl
  exact ow_val hr (hK _ _ (Inv.put hI hk _ (lk_b_s id _) { hh with ids := fun i x hx => (hh.ids i x hx).imp (fun h => h) fun h => (by omega) } o.dst hd fun _ => hv _ setOwn_same))
def newP (T : TypeId) (cells : List PV) (id : Nat) (p : PV) : Plan := match cells.all PV.one with
  | true => .done p [(kb id, some (.blk T cells))]
  | false => .fail
theorem newP_ok {T : TypeId} {cells : List PV} {id : Nat} {q p : PV} {g : St} {wb : L} (h : Res g (newP T cells id q) p wb) : ones cells ∧ p = q ∧ wb = [(kb id, some (.blk T cells))] := by
  unfold newP at h
  split at h
  · rename_i ha
    obtain ⟨rfl, rfl⟩ := Res.done h
    exact ⟨fun p hp => List.all_eq_true.1 ha p hp, rfl, rfl⟩
  · exact (Res.fail h).elim
def aAlloc (P : Program) (T : TypeId) (id : Nat) : Plan := match zeroP P T with
  | some zs => newP T zs id (.opt id 0)
  | none => .fail
theorem aAlloc_ok {E : Env} {o : Oper} {id : Nat} {T : TypeId} (ho : o.op = .alloc T) (hd : ∀ x, o.dst = some x → x < E.n) : ActOk E o id (aAlloc E.P T id) := by
  intro g p wb h nx c a K Q hn hI hK
  unfold aAlloc at h
  split at h
  · rename_i zs hz
    obtain ⟨i, z, hi, hz', rfl⟩ := zeroP_ok hz
    obtain ⟨hone, rfl, rfl⟩ := newP_ok h
    refine new_step (w' := c.w.alloc (.cells z.cells T)) hd hn hI hK rfl rfl rfl rfl hone (by simp) (avs_rl z.cells).2 (v := .pointer (some ⟨c.w.heap.size, 0, none⟩)) (fun own h => .opt h) ?_
    simp [execOp, ho, Instr.alloc, zeroValue, typeInfo, hi, hz', newVar, newRow]
  · exact (Res.fail h).elim
def aBox (T : TypeId) (x : Operand) (id : Nat) : Plan := opd x fun p => newP T (pcells p) id (.opt id 0)
theorem aBox_ok {E : Env} {o : Oper} {id : Nat} {T : TypeId} {x : Operand} (ho : o.op = .box T x) (hd : ∀ x, o.dst = some x → x < E.n) : ActOk E o id (aBox T x id) := by
  intro g p wb h nx c a K Q hn hI hK
  obtain ⟨q, hq, h1⟩ := Res.opd hI h
  obtain ⟨hone, rfl, rfl⟩ := newP_ok h1
  have hrl := pcells_rl hq
  refine new_step (w' := c.w.alloc (.cells (a.eval x).cells T)) hd hn hI hK rfl rfl rfl rfl hone (by have := hrl.1; omega) hrl.2 (v := .pointer (some ⟨c.w.heap.size, 0, none⟩)) (fun own h => .opt h) ?_
  simp [execOp, ho, Instr.box, newVar, newRow]
/-- n times the zero of a type. -/
def zeros (zs : List PV) : Nat → List PV
  | 0 => []
  | n + 1 => zs ++ zeros zs n
theorem zeros_length (zs : List PV) : ∀ n, (zeros zs n).length = n * zs.length
  | 0 => by simp [zeros]
  | n + 1 => by rw [zeros, List.length_append, zeros_length zs n, Nat.succ_mul]; omega
theorem zeros_get (zs : List PV) (hz : 0 < zs.length) : ∀ (n i : Nat), i < n * zs.length → (zeros zs n).getD i P0 = zs.getD (i % zs.length) P0
  | 0, i, h => by simp at h
  | n + 1, i, h => by
    rw [zeros, List.getD_eq_getElem?_getD]
    by_cases e : i < zs.length
    · rw [List.getElem?_append_left e, Nat.mod_eq_of_lt e, List.getD_eq_getElem?_getD]
    · have h' : i < n * zs.length + zs.length := by rw [Nat.succ_mul] at h; exact h
      have h2 : (i - zs.length) % zs.length = i % zs.length := (Nat.mod_eq_sub_mod (by omega)).symm
      rw [List.getElem?_append_right (by omega), ← List.getD_eq_getElem?_getD, zeros_get zs hz n (i - zs.length) (by omega), h2]
theorem ones_zeros {zs : List PV} (h : ones zs) : ∀ n, ones (zeros zs n)
  | 0 => fun p hp => by cases hp
  | n + 1 => fun p hp => by
    rw [zeros, List.mem_append] at hp
    rcases hp with hp | hp
    · exact h p hp
    · exact ones_zeros h n p hp
theorem made_rl {P : Program} {c : Cx} {z : Value} (n m : Nat) (hm : m = n * z.cells.size) (hz : 0 < z.cells.size) : RL P c (zeros (z.cells.toList.map .av) n) ((Array.range m).map (z.cells[· % z.cells.size]!)) := by
  subst hm
  refine ⟨by rw [zeros_length]; simp, fun i hi => ?_⟩
  rw [zeros_length] at hi
  have hi' : i < n * z.cells.size := by simpa using hi
  rw [zeros_get _ (by simpa using hz) n i hi]
  have h1 : i % z.cells.size < z.cells.size := Nat.mod_lt _ hz
  have h2 := (avs_rl (P := P) (c := c) z.cells).2 (i % z.cells.size) (by simpa using h1)
  have e : ((Array.range (n * z.cells.size)).map (z.cells[· % z.cells.size]!)).getD i undef = z.cells.getD (i % z.cells.size) undef := by
    rw [Array.getD_eq_getD_getElem?, Array.getD_eq_getD_getElem?]
    simp [hi', h1]
  rw [e]
  simpa using h2
def aBuildSlice (P : Program) (T : TypeId) (len : Nat) (parts : List (Nat × Operand)) (id : Nat) : Plan := opds parts fun ps => match P.underlying T with
  | some (.slice e) => match P.info? e, zeroP P e with
    | some ie, some zs => match Nat.ble (len * ie.size) 16777216, Nat.beq ie.size zs.length, Nat.ble 1 zs.length with
      | true, true, true => match pfill (fun i => some (i * ie.size, ie.size)) (zeros zs len) ps with
        | some cs => newP e cs id (.osl id 0 len)
        | none => .fail
      | _, _, _ => .fail
    | _, _ => .fail
  | _ => .fail
theorem RP_cast {P : Program} {c : Cx} {ps : List (Nat × PV)} {parts : Array (Nat × Operand)} {a : Act} (h : RP P c ps (parts.toList.map fun x => (x.1, a.eval x.2))) : RP P c ps ((parts.map fun x => (x.1, a.eval x.2)).toList) := by
  simpa using h
theorem aBuildSlice_ok {E : Env} {o : Oper} {id : Nat} {T : TypeId} {len : Nat} {parts : Array (Nat × Operand)} (ho : o.op = .buildSlice T len parts) (hd : ∀ x, o.dst = some x → x < E.n) : ActOk E o id (aBuildSlice E.P T len parts.toList id) := by
  intro g p wb h nx c a K Q hn hI hK
  obtain ⟨ps, hp, h1⟩ := Res.opds hI h
  split at h1
  · rename_i e hu
    split at h1
    · rename_i ie zs hie hz
      obtain ⟨i, z, hi, hz', rfl⟩ := zeroP_ok hz
      rw [hie] at hi
      cases hi
      split at h1
      · rename_i h2 h3 h4
        have h2 := Nat.le_of_ble_eq_true h2
        have h3 := Nat.eq_of_beq_eq_true h3
        have h4 := Nat.le_of_ble_eq_true h4
        simp only [List.length_map, Array.length_toList] at h3 h4
        split at h1
        · rename_i cs hf
          obtain ⟨hone, rfl, rfl⟩ := newP_ok h1
          obtain ⟨arr, h5, h6⟩ := pfill_ok (RP_cast hp) (made_rl len (len * ie.size) (by rw [h3]) h4) hf
          refine new_step (arr := arr) (w' := c.w.alloc (.cells arr e)) hd hn hI hK rfl rfl rfl rfl hone (by have := h6.1; omega) h6.2 (v := .slice (some ⟨c.w.heap.size, 0, none⟩) len len) (fun own hw => .osl hw (.inr ⟨_, len, arr, rfl, rfl, alloc_heap_new _ _, Nat.le_refl _, ?_⟩)) ?_
          · have h7 : cs.length = len * ie.size := by
              have : ∀ {place : Nat → Option (Nat × Nat)} {ps : List (Nat × PV)} {cells cells' : List PV}, pfill place cells ps = some cells' → cells'.length = cells.length := by
                intro place ps
                induction ps with
                | nil => intro cells cells' h; simp only [pfill, Option.some.injEq] at h; rw [h]
                | cons x ps ih =>
                  obtain ⟨i, p⟩ := x
                  intro cells cells' h
                  simp only [pfill] at h
                  split at h
                  · cases h
                  · split at h
                    · rename_i q1 q2
                      rw [ih h, splice_length (Nat.le_of_ble_eq_true q2)]
                    · cases h
              rw [this hf, zeros_length]
              simp [h3]
            rw [cellsOf_info hie, h6.1, h7]
            omega
          · have hr := run_buildSlice (P := E.P) c.w T e len (parts.map fun x => (x.1, a.eval x.2)) arr ie z hu hie hz' (by omega)
            by_cases h0 : len * ie.size = 0
            · have hlen : len = 0 := by
                rcases Nat.mul_eq_zero.1 h0 with h | h
                · exact h
                · omega
              subst hlen
              have h5' : Instr.fill (fun i => some (i * ie.size, ie.size)) #[] (parts.map fun x => (x.1, a.eval x.2)).toList = some arr := by
                have h9 : (Array.range 0).map (z.cells[· % z.cells.size]!) = #[] := by simp [Array.range_zero']
                rw [Nat.zero_mul, h9] at h5
                exact h5
              have h8 : (Instr.buildSlice T 0 (parts.map fun x => (x.1, a.eval x.2))).run E.P c.w = .ok (.slice (some ⟨c.w.heap.size, 0, none⟩) 0 0) (c.w.alloc (.cells arr e)) := by
                simp only [Instr.buildSlice, Sem.run_bind, run_underlying hu, Result.andThen_ok, run_size hie]
                simp [Array.range_zero', newRow] at h5' ⊢
                simp [h5']
              simp only [execOp, ho, Sem.run_bind, h8, Result.andThen_ok]
              rfl
            · have hr := hr h0 h5
              simp only [execOp, ho, Sem.run_bind, hr, Result.andThen_ok]
              rfl
        · exact (Res.fail h1).elim
      · exact (Res.fail h1).elim
    · exact (Res.fail h1).elim
  · exact (Res.fail h1).elim
end Go.Proofs.Ytgkahjaoajjgcaa.Pm
