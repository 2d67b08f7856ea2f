/-
  THE VALUE MACHINE (I): append, copy, functions as values, the greater of two. No program in sight.
-/
import Derived.Test.YtgkahjaoajjgcaaPmH
namespace Go.Proofs.Ytgkahjaoajjgcaa.Pm
open Go

/-- A row that has not been made: nil. -/
theorem heap_virtual {E : Env} {nx : Nat → Prop} {c : Cx} {g : St} (h : Heap E nx c g) {id : Nat} (hn : ¬ nx id) (T : TypeId) :
    Keep c ⟨c.w, c.S, setOwn c.own id (none, T)⟩ ∧ Heap E (fun i => nx i ∨ i = id) ⟨c.w, c.S, setOwn c.own id (none, T)⟩ (over [(kb id, some (.blk T []))] g) := by
  have hf := own_fresh h hn
  have hne : ∀ i x, c.own i = some x → i ≠ id := fun i x hx e => by rw [e, hf] at hx; cases hx
  have hk : Keep c ⟨c.w, c.S, setOwn c.own id (none, T)⟩ :=
    ⟨fun b hb => ⟨hb, rfl⟩, fun i x hx => by show setOwn _ _ _ _ = _; rw [setOwn_ne (hne i x hx)]; exact hx, Shape.refl _⟩
  have hlv : ∀ i, Live (over [(kb id, some (.blk T []))] g) i → i ≠ id → Live g i := fun i ⟨T', cs', hx⟩ e => ⟨T', cs', by rw [over_b, if_neg e] at hx; exact hx⟩
  have hid : ∀ {i : Nat} {b : Nat} {T1 : TypeId}, setOwn c.own id (none, T) i = some (some b, T1) → i ≠ id ∧ c.own i = some (some b, T1) := by
    intro i b T1 h1
    have e : i ≠ id := fun e => by rw [e, setOwn_same] at h1; cases h1
    exact ⟨e, by rw [setOwn_ne e] at h1; exact h1⟩
  refine ⟨hk, { ids := fun i x hx => ?_, blk := fun i T' cs' hx => ?_, inj := fun i j b T1 T2 h1 h2 h3 h4 => ?_, apart := fun i b T1 h1 h2 => ?_, bnd := fun i b T1 h1 => ?_, sok := h.sok,
                os := h.os, tape := h.tape, output := h.output, size := h.size, same := h.same, s0 := h.s0, s1 := h.s1, keep := h.keep.trans hk }⟩
  · by_cases e : i = id
    · exact .inr e
    · exact .inl (h.ids i x (by rw [← setOwn_ne (x := (none, T)) (own := c.own) e]; exact hx))
  · rw [over_b] at hx
    by_cases e : i = id
    · rw [if_pos e] at hx
      cases hx
      subst e
      exact ⟨_, setOwn_same, fun p hp => (by cases hp), .inl ⟨rfl, rfl⟩⟩
    · rw [if_neg e] at hx
      obtain ⟨ob, h1, h2⟩ := h.blk i T' cs' hx
      exact ⟨ob, by show setOwn _ _ _ _ = _; rw [setOwn_ne e]; exact h1, h2.mono hk fun b hb => rfl⟩
  · obtain ⟨e1, h3'⟩ := hid h3
    obtain ⟨e2, h4'⟩ := hid h4
    exact h.inj i j b T1 T2 (hlv i h1 e1) (hlv j h2 e2) h3' h4'
  · obtain ⟨e1, h2'⟩ := hid h2
    exact h.apart i b T1 (hlv i h1 e1) h2'
  · exact h.bnd i b T1 (hid h1).2

/-! ### what is appended -/
/-- The source's cells: how many elements, which cells. -/
def src (P : Program) (e : TypeId) (sz : Nat) (u : Option TypeDesc) (q : PV) (an : Ans) (k : Nat → List PV → Plan) : Plan := match u, q with
  | some (.slice _), .ssl cs off n => seg cs off (n * sz) an fun l => k n l
  | some (.slice _), .osl id off n => .look (kb id) fun v => match v with
    | .blk T' cs => match Nat.beq T' e with | true => seg cs off (n * sz) an fun l => k n l | false => .fail
    | .pv _ => .fail
  | some (.slice _), .av (.slice none 0 _) => k 0 []
  | some .string, .av (.string s) => match Nat.beq sz 1 with | true => k s.size (s.data.toList.map fun b => .av (.int .u8 b.toNat)) | false => .fail
  | _, _ => .fail
theorem seg_ones {cs l : List PV} {off n : Nat} (h : ones cs) (he : (cs.drop off).take n = l) : ones l := by
  subst he
  exact fun p hp => h p (List.mem_of_mem_drop (List.mem_of_mem_take hp))
theorem src_ok {E : Env} {nx : Nat → Prop} {c : Cx} {g : St} {a : Act} (hI : Inv E nx c g a) {e tx : TypeId} {sz : Nat} {q : PV} {v : Value} {an : Ans} {k : Nat → List PV → Plan} {p : PV} {wb : L} (hsz : E.P.cellsOf e = sz) (hq : Rep E.P c q v)
    (h : Res g (src E.P e sz (E.P.underlying tx) q an k) p wb) : ∃ n l news, Res g (k n l) p wb ∧ ones l ∧ l.length = n * sz ∧ RL E.P c l news.toArray ∧ Src E.P sz tx v n news c.w := by
  -- cells that stand in memory
  have mem : ∀ {cs : List PV} {off n : Nat} {l : List PV} {b a' : Nat} {vf : Nat → Value} {cap : Nat} {e' : TypeId}, E.P.underlying tx = some (.slice e') → off + n * sz ≤ cs.length → (cs.drop off).take (n * sz) = l → ones cs →
      (∀ j, j < cs.length → c.w.cell? ⟨b, a' + j, none⟩ = some (vf j)) → (∀ j, j < cs.length → Rep E.P c (cs.getD j P0) (vf j)) → v = .slice (some ⟨b, a' + off, none⟩) n cap →
      ∃ news : List Value, ones l ∧ l.length = n * sz ∧ RL E.P c l news.toArray ∧ Src E.P sz tx v n news c.w := by
    intro cs off n l b a' vf cap e' hu h1 h2 h3 h4 h5 hv
    obtain ⟨h6, h7⟩ := getD_seg h1 h2
    have hrl : RL E.P c l ((List.range (n * sz)).map fun j => vf (off + j)).toArray := by
      refine ⟨by simp [h6], fun i hi => ?_⟩
      rw [h6] at hi
      rw [h7 i hi]
      have e1 : (((List.range (n * sz)).map fun j => vf (off + j)).toArray).getD i undef = vf (off + i) := by simp [Array.getD_eq_getD_getElem?, hi]
      rw [e1]
      exact h5 (off + i) (by omega)
    have ho := seg_ones h3 h2
    refine ⟨_, ho, h6, hrl, ?_⟩
    subst hv
    refine Src.ofSlice c.w hu _ n cap _ (by simp) (fun j u hj => ?_) (hrl.oneCell ho)
    have hj' : j < n * sz := by
      have := (List.getElem?_eq_some_iff.1 hj).1
      simpa using this
    have hju : u = vf (off + j) := by simpa [hj'] using hj.symm
    rw [addr_add, hju, Nat.add_assoc]
    exact h4 _ (by omega)
  have emp : ∀ {n : Nat} {l : List PV} {cs : List PV} {off : Nat} {ad : Option Addr} {cap : Nat} {e' : TypeId}, E.P.underlying tx = some (.slice e') → (cs.drop off).take (n * sz) = l → n = 0 → v = .slice ad 0 cap →
      ∃ news : List Value, ones l ∧ l.length = n * sz ∧ RL E.P c l news.toArray ∧ Src E.P sz tx v n news c.w := by
    intro n l cs off ad cap e' hu h1 h2 h3
    subst h2
    rw [Nat.zero_mul, List.take_zero] at h1
    subst h1; subst h3
    refine ⟨[], fun p hp => (by cases hp), by simp, ⟨rfl, fun i hi => by simp at hi⟩, ?_⟩
    cases ad with
    | none => exact Src.ofNil c.w hu cap
    | some ad => exact Src.ofSlice c.w hu ad 0 cap [] (by simp) (fun j u hj => by simp at hj) (fun _ h => by cases h)
  unfold src at h
  split at h
  · rename_i e' cs off n hu
    obtain ⟨l, h1, h2, h3⟩ := seg_ok h
    rcases rep_ssl hq with ⟨ad, cap, hv, hn⟩ | ⟨b, a', cap, vf, hv, hS, hc, hr, hone, hl⟩
    · obtain ⟨news, h4⟩ := emp hu h2 hn hv
      exact ⟨n, l, news, h3, h4⟩
    · obtain ⟨news, h4⟩ := mem hu h1 h2 hone hc (fun j hj => .sh (hr j hj)) hv
      exact ⟨n, l, news, h3, h4⟩
  · rename_i e' id off n hu
    obtain ⟨bv, hg, h4⟩ := Res.look h
    cases bv with
    | pv _ => exact (Res.fail h4).elim
    | blk T' cs =>
      simp only at h4
      split at h4
      · rename_i hT
        have hT := Nat.eq_of_beq_eq_true hT
        subst hT
        obtain ⟨l, h1, h2, h3⟩ := seg_ok h4
        obtain ⟨ob, T2, hown, hv⟩ := rep_osl hq
        obtain ⟨ob', hown', hone, hb⟩ := hI.blk id T' cs hg
        rw [hown] at hown'
        cases hown'
        rcases hv with ⟨ad, hv, hn⟩ | ⟨b, cap, cs2, hob, hv, hb2, hl, hsz2⟩
        · obtain ⟨news, h5⟩ := emp hu h2 hn hv
          exact ⟨n, l, news, h3, h5⟩
        · rcases hb with ⟨hb, _⟩ | ⟨b', vs, hb1, hb3, hb4, hb5⟩
          · rw [hob] at hb; cases hb
          · obtain rfl : b' = b := by rw [hob] at hb1; simpa using hb1.symm
            obtain ⟨news, h5⟩ := mem (a' := 0) (vf := fun j => vs.getD j undef) (cap := cap) hu h1 h2 hone (fun j hj => by
              have : j < vs.size := by omega
              rw [cell_of_row c.w _ _ vs _ _ hb3]
              simp [Array.getD_eq_getD_getElem?, this]) hb5 (by rw [hv, Nat.zero_add])
            exact ⟨n, l, news, h3, h5⟩
      · exact (Res.fail h4).elim
  · rename_i e' cap hu
    have hv := rep_av hq
    subst hv
    exact ⟨0, [], [], h, fun p hp => (by cases hp), by simp, ⟨rfl, fun i hi => by simp at hi⟩, Src.ofNil c.w hu cap⟩
  · rename_i s hu
    split at h
    · rename_i h1
      have h1 := Nat.eq_of_beq_eq_true h1
      have hv := rep_av hq
      subst hv
      rw [h1] at hsz ⊢
      have hone : ones (s.data.toList.map fun b => PV.av (.int .u8 b.toNat)) := fun p hp => by
        obtain ⟨x, _, rfl⟩ := List.mem_map.1 hp
        rfl
      refine ⟨s.size, _, byteCells s, h, hone, by simp, ?_, Src.ofString c.w hu s⟩
      have e1 : (s.data.toList.map fun b => PV.av (.int .u8 b.toNat)) = ((byteCells s).toArray.toList.map .av) := by simp [byteCells]
      rw [e1]
      exact avs_rl _
    · exact (Res.fail h).elim
  · exact (Res.fail h).elim
def appP (e : TypeId) (bytes len n id : Nat) (old : L) (cs : List PV) (an2 : Option (List PV)) : Plan :=
  .ob ((len + n) * bytes ≤ 140737488355328 ∧ len + n ≤ 9223372036854775807) (match an2 with
    | some l => .ob (cs = l) (.done (.osl id 0 (len + n)) (old ++ [(kb id, some (.blk e l))]))
    | none => .done (.osl id 0 (len + n)) (old ++ [(kb id, some (.blk e cs))]))
theorem appP_ok {e : TypeId} {bytes len n id : Nat} {old : L} {cs : List PV} {an2 : Option (List PV)} {g : St} {p : PV} {wb : L} (h : Res g (appP e bytes len n id old cs an2) p wb) :
    ((len + n) * bytes ≤ 140737488355328 ∧ len + n ≤ 9223372036854775807) ∧ p = .osl id 0 (len + n) ∧ wb = old ++ [(kb id, some (.blk e cs))] := by
  obtain ⟨h1, h2⟩ := Res.ob h
  refine ⟨h1, ?_⟩
  cases an2 with
  | none => exact Res.done h2
  | some l =>
    obtain ⟨rfl, h3⟩ := Res.ob h2
    exact Res.done h3
def ans1 (an : Ans) : Ans := match an with | .app (some l) _ => .cells l | _ => .no
def ans2 (an : Ans) : Option (List PV) := match an with | .cells l => some l | .app _ r => r | _ => none
/-- append: 'an' tells the row as it is behind it; the source must be told by its tree. -/
def aAppend (P : Program) (T : TypeId) (u : Option TypeDesc) (x y : Operand) (an : Ans) (id : Nat) : Plan := opd x fun p => opd y fun q => match P.underlying T with
  | some (.slice e) => match P.info? e with
    | some ie => match ie.zero, Nat.ble 1 ie.size with
      | some z, true => match Nat.beq z.cells.size ie.size with
        | true => src P e ie.size u q (ans1 an) fun n l => match p with
          | .av (.slice none 0 0) => appP e ie.bytes 0 n id [] l (ans2 an)
          | .osl id1 0 len => .look (kb id1) fun v => match v with
            | .blk B cells => match Nat.beq B e with
              | true => .ob (cells.length = len * ie.size) (appP e ie.bytes len n id [(kb id1, none)] (cells ++ l) (ans2 an))
              | false => .fail
            | .pv _ => .fail
          | _ => .fail
        | false => .fail
      | _, _ => .fail
    | none => .fail
  | _ => .fail

theorem run_append_room_own {P : Program} (w : World) (t tx ty e : TypeId) (i : TypeInfo) (ht : P.underlying t = some (.slice e)) (hi : P.info? e = some i) (g sLen sCap : Nat) (cur : Array Value) (hg : w.heap[g]? = some (.cells cur e (0, 0)))
    (x : Value) (n : Nat) (news : List Value) (hs : Src P i.size tx x n news w) (hroom : sLen + n ≤ sCap) (hfit : sLen * i.size + news.length ≤ cur.size) :
    (Builtin.append_ #[t, tx] ty #[.slice (some ⟨g, 0, none⟩) sLen sCap, x]).run P w =
      .ok (.slice (some ⟨g, 0, none⟩) (sLen + n) sCap) (w.setRow g (cur.toList.take (sLen * i.size) ++ news ++ cur.toList.drop (sLen * i.size + news.length)).toArray) := by
  have hst := run_storeCells_at P g (sLen * i.size) e news 0 cur w hg (by simpa using hfit) hs.one
  simp only [Nat.add_zero] at hst
  rcases hs.kind with ⟨e', hk⟩ | hk <;> simp [Builtin.append_, run_underlying ht, run_underlying hk, sizeOf, typeInfo, hi, hs.len, hroom, hs.cells, Addr.add_lit, hst]
theorem run_append_zero {P : Program} (w : World) (t tx ty e : TypeId) (i : TypeInfo) (ht : P.underlying t = some (.slice e)) (hi : P.info? e = some i) (ad : Option Addr) (x : Value) (hs : Src P i.size tx x 0 [] w) :
    (Builtin.append_ #[t, tx] ty #[.slice ad 0 0, x]).run P w = .ok (.slice ad 0 0) w := by
  have hc := hs.cells
  cases ad <;> rcases hs.kind with ⟨e', hk⟩ | hk <;> simp [Builtin.append_, run_underlying ht, run_underlying hk, sizeOf, typeInfo, hi, hs.len, hc, storeCells]

/-- A row that grew into a new block: the old number (if any) is dropped. -/
theorem grown_step {E : Env} {nx : Nat → Prop} {c : Cx} {g : St} {a : Act} {o : Oper} {id : Nat} {K : Act → World → Prop} {Q : Exit → Act → World → Prop} {e : TypeId} {ie : TypeInfo} {cells l : List PV} {olds news : List Value} {rest : Array Value} {len n cap : Nat} {v : Value} {w' : World} {old : L}
    (hd : ∀ x, o.dst = some x → x < E.n) (hn : ∀ t, t < 8 → ¬ nx (id + t)) (hI : Inv E nx c g a) (hie : E.P.info? e = some ie) (hold : old = [] ∨ ∃ id1, old = [(kb id1, none)])
    (hK : ∀ c' a', Inv E (fun j => nx j ∨ (id ≤ j ∧ j < id + 8)) c' (over (wd o.dst (.osl id 0 (len + n))) (over (old ++ [(kb id, some (.blk e (cells ++ l)))]) g)) a' → K a' c'.w)
    (ho1 : ones cells) (ho2 : ones l) (hr1 : RL E.P c cells olds.toArray) (hr2 : RL E.P c l news.toArray)
    (hw : w'.heap = c.w.heap.push (.cells ((olds ++ news).toArray ++ rest) e (0, 0))) (hos : w'.os = c.w.os) (htp : w'.tape = c.w.tape) (hou : w'.output = c.w.output) (hcap : len + n ≤ cap) (hsz : cap * ie.size ≤ ((olds ++ news).toArray ++ rest).size)
    (hv : v = .slice (some ⟨c.w.heap.size, 0, none⟩) (len + n) cap) (hr : (execOp a.eval o).run E.P c.w = .ok (.value v) w') : o.wp E.P a c.w K Q := by
  have hone : ones (cells ++ l) := fun p hp => by
    rcases List.mem_append.1 hp with h | h
    · exact ho1 p h
    · exact ho2 p h
  have hrl := hr1.append hr2
  have e1 : olds.toArray ++ news.toArray = (olds ++ news).toArray := by simp
  rw [e1] at hrl
  have hs1 : (olds ++ news).toArray.size = (cells ++ l).length := hrl.1
  obtain ⟨hk, hh⟩ := heap_new hI.toHeap (show ¬ nx id from hn 0 (by decide)) e ((olds ++ news).toArray ++ rest) (cells ++ l) w' hw hos htp hou hone (by rw [Array.size_append]; omega) fun j hj => by
    have h1 := hrl.2 j hj
    have h2 : j < (olds ++ news).toArray.size := by omega
    have h3 : j < ((olds ++ news).toArray ++ rest).size := by rw [Array.size_append]; omega
    rw [Array.getD_eq_getD_getElem?, Array.getElem?_append_left h2, ← Array.getD_eq_getD_getElem?]
    exact h1
  have hnew : w'.heap[c.w.heap.size]? = some (.cells ((olds ++ news).toArray ++ rest) e (0, 0)) := by rw [hw]; simp
  have hrep : Rep E.P ⟨w', c.S, setOwn c.own id (some c.w.heap.size, e)⟩ (.osl id 0 (len + n)) v :=
    .osl setOwn_same (.inr ⟨_, cap, _, rfl, hv, hnew, hcap, by rw [cellsOf_info hie]; omega⟩)
  have hids : ∀ (i : Nat) (x : Option Nat × TypeId), setOwn c.own id (some c.w.heap.size, e) i = some x → nx i ∨ (id ≤ i ∧ i < id + 8) := fun i x hx => (hh.ids i x hx).imp (fun h => h) fun h => (by omega)
  refine ow_val hr (hK ⟨w', c.S, setOwn c.own id (some c.w.heap.size, e)⟩ _ ?_)
  rcases hold with rfl | ⟨id1, rfl⟩
  · exact Inv.put hI hk _ (lk_b_s id _) { hh with ids := hids } o.dst hd fun _ => hrep
  · have h2 := heap_drop hh id1
    have e2 : over [(kb id1, none)] (over [(kb id, some (.blk e (cells ++ l)))] g) = over ([(kb id1, none)] ++ [(kb id, some (.blk e (cells ++ l)))]) g := (over_append _ _ _).symm
    rw [e2] at h2
    exact Inv.put hI hk _ (fun s => by simp [lk, beq_ksb]) { h2 with ids := hids } o.dst hd fun _ => hrep
theorem aAppend_ok {E : Env} {o : Oper} {id : Nat} {T U : TypeId} {x y : Operand} {an : Ans} (ho : o.op = .call { callee := .builtin .append, args := #[x, y], argTypes := #[T, U] }) (hd : ∀ x, o.dst = some x → x < E.n) :
    ActOk E o id (aAppend E.P T (E.P.underlying U) x y an id) := by
  intro g p wb h nx c a K Q hn hI hK
  obtain ⟨q1, hq1, h1⟩ := Res.opd hI h
  obtain ⟨q2, hq2, h2⟩ := Res.opd hI h1
  clear h h1
  have hfr : ¬ nx id := hn 0 (by decide)
  split at h2
  case h_2 => exact (Res.fail h2).elim
  rename_i e hu
  split at h2
  case h_2 => exact (Res.fail h2).elim
  rename_i ie hie
  split at h2
  case h_2 => exact (Res.fail h2).elim
  rename_i z hz hb1
  have hb1 := Nat.le_of_ble_eq_true hb1
  split at h2
  case h_2 => exact (Res.fail h2).elim
  rename_i hzs
  have hzs := Nat.eq_of_beq_eq_true hzs
  obtain ⟨n, l, news, h3, hl1, hl2, hl3, hsrc⟩ := src_ok hI (cellsOf_info hie) hq2 h2
  have hnl : news.length = n * ie.size := hsrc.newsLen
  have hex : ∀ {v : Value} {w' : World}, (Builtin.append_ #[T, U] o.type #[a.eval x, a.eval y]).run E.P c.w = .ok v w' → (execOp a.eval o).run E.P c.w = .ok (.value v) w' := fun hr => by
    simp [execOp, ho, resolve, invoke, builtin, hr]
  split at h3
  · -- nil
    obtain ⟨⟨hb2, hb3⟩, rfl, rfl⟩ := appP_ok h3
    have hv := rep_av hq1
    by_cases h0 : n = 0
    · subst h0
      have hl0 : l = [] := List.eq_nil_of_length_eq_zero (by simpa using hl2)
      have hn0 : news = [] := List.eq_nil_of_length_eq_zero (by simpa using hnl)
      subst hl0; subst hn0
      obtain ⟨hk, hh⟩ := heap_virtual hI.toHeap hfr e
      have hr := run_append_zero (P := E.P) c.w T U o.type e ie hu hie none (a.eval y) hsrc
      refine ow_val (v := .slice none 0 0) (hex (by rw [hv]; exact hr)) (hK ⟨c.w, c.S, setOwn c.own id (none, e)⟩ _ ?_)
      exact Inv.put hI hk _ (lk_b_s id _) { hh with ids := fun i x hx => (hh.ids i x hx).imp (fun h => h) fun h => (by omega) } o.dst hd fun _ => .osl setOwn_same (.inl ⟨_, rfl, rfl⟩)
    · have hr := run_append_grow_src (P := E.P) c.w T U o.type e ie z hu hie hz none 0 0 [] (by simpa using run_firstCells_none c.w.drew ie.size 0 0 0) (a.eval y) n news hsrc (by omega) (by omega) (growslice_fits (by omega) hb2)
      rw [Nat.zero_add] at hr
      refine grown_step (len := 0) (cells := []) (olds := []) (news := news) (rest := Builtin.zeroCells z.cells (grownCap c.w n 0 e - n)) (w' := c.w.drew.alloc (.cells (([] ++ news).toArray ++ Builtin.zeroCells z.cells (grownCap c.w n 0 e - n)) e)) (cap := grownCap c.w n 0 e) (old := [])
        hd hn hI hie (.inl rfl) (by simpa using hK) (fun p hp => by cases hp) hl1 ⟨rfl, fun i hi => by simp at hi⟩ hl3 rfl rfl rfl rfl (by have := grownCap_ge c.w n 0 e; omega) ?_ (by rw [Nat.zero_add]) (hex (by rw [hv]; exact hr))
      simp only [Array.size_append, List.size_toArray, List.nil_append, size_zeroCells, hzs, hnl, ← Nat.add_mul]
      exact Nat.mul_le_mul_right _ (by omega)
  · -- a row of the call's own
    rename_i id1 len
    obtain ⟨bv, hg, h4⟩ := Res.look h3
    cases bv with
    | pv _ => exact (Res.fail h4).elim
    | blk B cells =>
      simp only at h4
      split at h4
      case h_2 => exact (Res.fail h4).elim
      rename_i hB
      have hB := Nat.eq_of_beq_eq_true hB
      subst hB
      obtain ⟨hcl, h5⟩ := Res.ob h4
      obtain ⟨⟨hb2, hb3⟩, rfl, rfl⟩ := appP_ok h5
      obtain ⟨ob, T2, hown, hv⟩ := rep_osl hq1
      obtain ⟨ob', hown', hone, hbk⟩ := hI.blk id1 B cells hg
      rw [hown] at hown'
      cases hown'
      rcases hv with ⟨ad, hv, hlen⟩ | ⟨b, cap, cs2, hob, hv, hb4, hlc, hsz2⟩
      · -- nothing in it
        subst hlen
        have hc0 : cells = [] := List.eq_nil_of_length_eq_zero (by simpa using hcl)
        subst hc0
        by_cases h0 : n = 0
        · subst h0
          have hl0 : l = [] := List.eq_nil_of_length_eq_zero (by simpa using hl2)
          have hn0 : news = [] := List.eq_nil_of_length_eq_zero (by simpa using hnl)
          subst hl0; subst hn0
          obtain ⟨hk, hh⟩ := heap_move hI.toHeap hfr hg hown
          have hr := run_append_zero (P := E.P) c.w T U o.type B ie hu hie ad (a.eval y) hsrc
          refine ow_val (v := .slice ad 0 0) (hex (by rw [hv]; exact hr)) (hK ⟨c.w, c.S, setOwn c.own id (ob, B)⟩ _ ?_)
          exact Inv.put hI hk _ (fun s => by simp [lk, beq_ksb]) { hh with ids := fun i x hx => (hh.ids i x hx).imp (fun h => h) fun h => (by omega) } o.dst hd fun _ => .osl setOwn_same (.inl ⟨_, rfl, rfl⟩)
        · have hr := run_append_grow_src (P := E.P) c.w T U o.type B ie z hu hie hz ad 0 0 [] (by cases ad <;> simp [Builtin.firstCells, loadCells, loadCellsFrom]) (a.eval y) n news hsrc (by omega) (by omega) (growslice_fits (by omega) hb2)
          rw [Nat.zero_add] at hr
          refine grown_step (len := 0) (cells := []) (olds := []) (news := news) (rest := Builtin.zeroCells z.cells (grownCap c.w n 0 B - n)) (w' := c.w.drew.alloc (.cells (([] ++ news).toArray ++ Builtin.zeroCells z.cells (grownCap c.w n 0 B - n)) B)) (cap := grownCap c.w n 0 B) (old := [(kb id1, none)])
            hd hn hI hie (.inr ⟨id1, rfl⟩) (by simpa using hK) (fun p hp => by cases hp) hl1 ⟨rfl, fun i hi => by simp at hi⟩ hl3 rfl rfl rfl rfl (by have := grownCap_ge c.w n 0 B; omega) ?_ (by rw [Nat.zero_add]) (hex (by rw [hv]; exact hr))
          simp only [Array.size_append, List.size_toArray, List.nil_append, size_zeroCells, hzs, hnl, ← Nat.add_mul]
          exact Nat.mul_le_mul_right _ (by omega)
      · subst hob
        rcases hbk with ⟨hbk, _⟩ | ⟨b', cur, hk1, hk2, hk3, hk4⟩
        · cases hbk
        obtain rfl : b' = b := by simpa using hk1.symm
        rw [hk2] at hb4
        have ecur : cs2 = cur := by cases hb4; rfl
        subst ecur
        rw [cellsOf_info hie, Nat.zero_add] at hsz2
        by_cases hroom : len + n ≤ cap
        · have hfit : len * ie.size + news.length ≤ cs2.size := by
            rw [hnl, ← Nat.add_mul]
            exact Nat.le_trans (Nat.mul_le_mul_right _ hroom) hsz2
          have hr := run_append_room_own (P := E.P) c.w T U o.type B ie hu hie b' len cap cs2 hk2 (a.eval y) n news hsrc hroom hfit
          obtain ⟨hkA, hhA⟩ := heap_move hI.toHeap hfr hg hown
          have hgA : over [(kb id1, none), (kb id, some (.blk B cells))] g (kb id) = some (.blk B cells) := by
            have hne : id ≠ id1 := fun e1 => by
              have := hI.ids id1 _ hown
              rw [← e1] at this
              exact hn 0 (by decide) (by simpa using this)
            simp only [over, lk, beq_kb]
            simp [hne]
          have hrow := append_row (P := E.P) (c := ⟨c.w, c.S, setOwn c.own id (some b', B)⟩) (cells := cells) (ps := l) (cur := cs2) (vs := news) ⟨hk3, fun j hj => (hk4 j hj).mono hkA⟩ (hl3.mono hkA) (by rw [hcl, hl2]; rw [hnl] at hfit; exact hfit)
          rw [hcl] at hrow
          obtain ⟨hkB, hhB⟩ := heap_upd hhA hgA setOwn_same cs2 (cs2.toList.take (len * ie.size) ++ news ++ cs2.toList.drop (len * ie.size + news.length)).toArray
            (c.w.setRow b' (cs2.toList.take (len * ie.size) ++ news ++ cs2.toList.drop (len * ie.size + news.length)).toArray) hk2 (setRow_heap _ _ _ _ _ _ hk2) (row_size _ _ _ hfit)
            (fun k hk => setRow_other _ _ _ _ hk) (by simp [World.setRow]) rfl rfl rfl (cells' := cells ++ l) (fun p hp => by
              rcases List.mem_append.1 hp with h | h
              · exact hone p h
              · exact hl1 p h) (by rw [List.length_append, hcl, hl2, ← hnl]; exact hfit) hrow.2
          have eo : over [(kb id, some (.blk B (cells ++ l)))] (over [(kb id1, none), (kb id, some (.blk B cells))] g) = over ([(kb id1, none)] ++ [(kb id, some (.blk B (cells ++ l)))]) g := by
            funext k
            simp only [over, lk, List.cons_append, List.nil_append]
            by_cases h1 : Nat.beq k (kb id) = true
            · have hne : Nat.beq k (kb id1) = false := by
                rw [Nat.eq_of_beq_eq_true h1, beq_kb]
                have hne : id ≠ id1 := fun e1 => by
                  have := hI.ids id1 _ hown
                  rw [← e1] at this
                  exact hn 0 (by decide) (by simpa using this)
                simp [hne]
              simp [h1, hne]
            · simp only [h1]
              by_cases h2 : Nat.beq k (kb id1) = true <;> simp [h2]
          rw [eo] at hhB
          refine ow_val (hex (by rw [hv]; exact hr)) (hK ⟨c.w.setRow b' (cs2.toList.take (len * ie.size) ++ news ++ cs2.toList.drop (len * ie.size + news.length)).toArray, c.S, setOwn c.own id (some b', B)⟩ _ ?_)
          refine Inv.put hI (hkA.trans hkB) _ (fun s => by simp [lk, beq_ksb]) { hhB with ids := fun i x hx => (hhB.ids i x hx).imp (fun h => h) fun h => (by omega) } o.dst hd fun _ => ?_
          exact .osl setOwn_same (.inr ⟨b', cap, _, rfl, rfl, setRow_heap _ _ _ _ _ _ hk2, hroom, by rw [row_size _ _ _ hfit, cellsOf_info hie]; omega⟩)
        · have holds : (Builtin.firstCells ie.size len (.slice (some ⟨b', 0, none⟩) len cap)).run E.P c.w.drew = .ok (cs2.toList.take (len * ie.size)).toArray c.w.drew := by
            have hle : len * ie.size ≤ cs2.size := by rw [← hcl]; exact hk3
            refine run_firstCells_some c.w.drew ie.size len ⟨b', 0, none⟩ len cap _ (by simp; omega) fun j v hj => ?_
            have hj' : j < len * ie.size := by
              have := (List.getElem?_eq_some_iff.1 hj).1
              simp at this; omega
            rw [addr_add, Nat.zero_add]
            show c.w.cell? ⟨b', j, none⟩ = _
            rw [cell_of_row c.w b' j cs2 _ _ hk2]
            rw [List.getElem?_take_of_lt hj', Array.getElem?_toList] at hj
            exact hj
          have hr := run_append_grow_src (P := E.P) c.w T U o.type B ie z hu hie hz (some ⟨b', 0, none⟩) len cap _ holds (a.eval y) n news hsrc (by omega) (by omega) (growslice_fits (by omega) hb2)
          have hle : len * ie.size ≤ cs2.size := by rw [← hcl]; exact hk3
          have hr1 : RL E.P c cells (cs2.toList.take (len * ie.size)).toArray := by
            refine ⟨by simp; omega, fun i hi => ?_⟩
            have h1 := hk4 i hi
            have e1 : ((cs2.toList.take (len * ie.size)).toArray).getD i undef = cs2.getD i undef := by
              simp only [Array.getD_eq_getD_getElem?, List.getElem?_toArray]
              rw [List.getElem?_take_of_lt (by omega), Array.getElem?_toList]
            rw [e1]
            exact h1
          refine grown_step (len := len) (cells := cells) (olds := cs2.toList.take (len * ie.size)) (news := news) (rest := Builtin.zeroCells z.cells (grownCap c.w (len + n) cap B - (len + n))) (w' := c.w.drew.alloc (.cells ((cs2.toList.take (len * ie.size) ++ news).toArray ++ Builtin.zeroCells z.cells (grownCap c.w (len + n) cap B - (len + n))) B)) (cap := grownCap c.w (len + n) cap B) (old := [(kb id1, none)])
            hd hn hI hie (.inr ⟨id1, rfl⟩) hK hone hl1 hr1 hl3 rfl rfl rfl rfl (grownCap_ge c.w (len + n) cap B) ?_ rfl (hex (by rw [hv]; exact hr))
          have hge := grownCap_ge c.w (len + n) cap B
          simp only [Array.size_append, List.size_toArray, List.length_append, List.length_take, Array.length_toList, size_zeroCells, hzs, hnl]
          rw [Nat.min_eq_left hle, ← Nat.add_mul, ← Nat.add_mul]
          exact Nat.mul_le_mul_right _ (by omega)
  · exact (Res.fail h3).elim
end Go.Proofs.Ytgkahjaoajjgcaa.Pm
