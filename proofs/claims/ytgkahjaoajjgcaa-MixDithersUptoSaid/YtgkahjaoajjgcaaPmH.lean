/-
  THE VALUE MACHINE (H): rows made, stored into, appended to, copied. No program in sight.
-/
import Derived.Test.YtgkahjaoajjgcaaPmG
namespace Go.Proofs.Ytgkahjaoajjgcaa.Pm
open Go

/-- Cells at the head of a row. -/
def RP1 (P : Program) (c : Cx) (cells : List PV) (arr : Array Value) : Prop := cells.length ≤ arr.size ∧ ∀ i, i < cells.length → Rep P c (cells.getD i P0) (arr.getD i undef)
theorem RL.head {P : Program} {c : Cx} {cells : List PV} {arr : Array Value} (h : RL P c cells arr) : RP1 P c cells arr := ⟨by rw [h.1]; exact Nat.le_refl _, h.2⟩
theorem row_get (cur : Array Value) (vs : List Value) (off i : Nat) (h : off + vs.length ≤ cur.size) :
    ((cur.toList.take off ++ vs ++ cur.toList.drop (off + vs.length)).toArray).getD i undef = if off ≤ i ∧ i < off + vs.length then vs.getD (i - off) undef else cur.getD i undef := by
  simp only [Array.getD_eq_getD_getElem?, List.getElem?_toArray, List.getD_eq_getElem?_getD]
  by_cases h1 : i < off
  · rw [if_neg (by omega), List.append_assoc, List.getElem?_append_left (by simp; omega), List.getElem?_take_of_lt h1, Array.getElem?_toList]
  · by_cases h2 : i < off + vs.length
    · rw [if_pos ⟨by omega, h2⟩, List.append_assoc, List.getElem?_append_right (by simp; omega), List.getElem?_append_left (by simp only [List.length_take, Array.length_toList]; omega)]
      simp only [List.length_take, Array.length_toList]
      rw [Nat.min_eq_left (by omega)]
    · rw [if_neg (by omega), List.getElem?_append_right (by simp only [List.length_append, List.length_take, Array.length_toList]; omega), List.getElem?_drop]
      simp only [List.length_append, List.length_take, Array.length_toList]
      rw [Nat.min_eq_left (by omega), show off + vs.length + (i - (off + vs.length)) = i by omega, Array.getElem?_toList]
theorem row_size (cur : Array Value) (vs : List Value) (off : Nat) (h : off + vs.length ≤ cur.size) : ((cur.toList.take off ++ vs ++ cur.toList.drop (off + vs.length)).toArray).size = cur.size := by
  simp; omega
theorem splice_row {P : Program} {c : Cx} {cells ps : List PV} {cur : Array Value} {vs : List Value} {off : Nat} (h : RP1 P c cells cur) (k : RL P c ps vs.toArray) (hl : off + ps.length ≤ cells.length) :
    RP1 P c (splice cells off ps) (cur.toList.take off ++ vs ++ cur.toList.drop (off + vs.length)).toArray := by
  have e : vs.length = ps.length := by simpa using k.1
  have h1 := h.1
  refine ⟨by rw [row_size _ _ _ (by omega), splice_length hl]; exact h.1, fun i hi => ?_⟩
  rw [splice_length hl] at hi
  rw [row_get _ _ _ _ (by omega), splice_get hl, e]
  by_cases e1 : off ≤ i ∧ i < off + ps.length
  · rw [if_pos e1, if_pos e1]
    have := k.2 (i - off) (by omega)
    simpa [Array.getD_eq_getD_getElem?, List.getD_eq_getElem?_getD] using this
  · rw [if_neg e1, if_neg e1]
    exact h.2 i hi
theorem append_row {P : Program} {c : Cx} {cells ps : List PV} {cur : Array Value} {vs : List Value} (h : RP1 P c cells cur) (k : RL P c ps vs.toArray) (hl : cells.length + ps.length ≤ cur.size) :
    RP1 P c (cells ++ ps) (cur.toList.take cells.length ++ vs ++ cur.toList.drop (cells.length + vs.length)).toArray := by
  have e : vs.length = ps.length := by simpa using k.1
  refine ⟨by rw [row_size _ _ _ (by omega)]; simpa using hl, fun i hi => ?_⟩
  rw [List.length_append] at hi
  rw [row_get _ _ _ _ (by omega), e]
  by_cases e1 : cells.length ≤ i ∧ i < cells.length + ps.length
  · rw [if_pos e1]
    have := k.2 (i - cells.length) (by omega)
    rw [List.getD_eq_getElem?_getD, List.getElem?_append_right (by omega), ← List.getD_eq_getElem?_getD]
    simpa [Array.getD_eq_getD_getElem?, List.getD_eq_getElem?_getD] using this
  · rw [if_neg e1]
    have := h.2 i (by omega)
    rw [List.getD_eq_getElem?_getD, List.getElem?_append_left (by omega), ← List.getD_eq_getElem?_getD]
    exact this

/-! ### stores -/
theorem all_one {l : List PV} (h : l.all PV.one = true) : ones l := fun p hp => List.all_eq_true.1 h p hp
theorem RL.oneCell {P : Program} {c : Cx} {ps : List PV} {vs : Array Value} (h : RL P c ps vs) (ho : ones ps) : ∀ v ∈ vs.toList, v.oneCell' = true := by
  intro v hv
  obtain ⟨i, hi, rfl⟩ := List.getElem_of_mem hv
  have h1 : i < vs.size := by simpa using hi
  have h2 : i < ps.length := by have := h.1; omega
  have h3 := h.2 i h2
  have e1 : vs.getD i undef = vs.toList[i] := by simp [Array.getD_eq_getD_getElem?, h1]
  have e2 : ps.getD i P0 = ps[i] := by simp [List.getD_eq_getElem?_getD, h2]
  rw [e1, e2] at h3
  exact h3.one (ho _ (List.getElem_mem h2))
def storeP (id : Nat) (T : TypeId) (cells : List PV) (off : Nat) (ps : List PV) (r : PV) (an : Ans) : Plan := match ps.all PV.one with
  | true => match an with
    | .cells l => .ob (off + ps.length ≤ cells.length ∧ splice cells off ps = l) (.done r [(kb id, some (.blk T l))])
    | _ => match Nat.ble (off + ps.length) cells.length with | true => .done r [(kb id, some (.blk T (splice cells off ps)))] | false => .fail
  | false => .fail
theorem storeP_ok {id : Nat} {T : TypeId} {cells ps : List PV} {off : Nat} {r p : PV} {an : Ans} {g : St} {wb : L} (h : Res g (storeP id T cells off ps r an) p wb) : ones ps ∧ off + ps.length ≤ cells.length ∧ p = r ∧ wb = [(kb id, some (.blk T (splice cells off ps)))] := by
  unfold storeP at h
  split at h
  · rename_i ha
    refine ⟨all_one ha, ?_⟩
    split at h
    · obtain ⟨⟨h1, rfl⟩, h2⟩ := Res.ob h
      obtain ⟨rfl, rfl⟩ := Res.done h2
      exact ⟨h1, rfl, rfl⟩
    · split at h
      · rename_i hb
        obtain ⟨rfl, rfl⟩ := Res.done h
        exact ⟨Nat.le_of_ble_eq_true hb, rfl, rfl⟩
      · exact (Res.fail h).elim
  · exact (Res.fail h).elim
/-- Writing into a row of the call's own. -/
theorem write_step {E : Env} {nx : Nat → Prop} {c : Cx} {g : St} {a : Act} {o : Oper} {id id1 : Nat} {K : Act → World → Prop} {T : TypeId} {cells ps : List PV} {off b : Nat} {vs : List Value} {p : PV} {v : Value}
    (hd : ∀ x, o.dst = some x → x < E.n) (hI : Inv E nx c g a) (hg : g (kb id1) = some (.blk T cells)) (hown : c.own id1 = some (some b, T)) (ho : ones ps) (hl : off + ps.length ≤ cells.length) (hrl : RL E.P c ps vs.toArray)
    (hK : ∀ c' a', Inv E (fun j => nx j ∨ (id ≤ j ∧ j < id + 8)) c' (over (wd o.dst p) (over [(kb id1, some (.blk T (splice cells off ps)))] g)) a' → K a' c'.w) (hv : ∀ c', Rep E.P c' p v) :
    ∃ cur, c.w.heap[b]? = some (.cells cur T (0, 0)) ∧ off + vs.length ≤ cur.size ∧ K (a.put o.dst v) (c.w.setRow b (cur.toList.take off ++ vs ++ cur.toList.drop (off + vs.length)).toArray) := by
  obtain ⟨ob', hown', hone, hb⟩ := hI.blk id1 T cells hg
  rw [hown] at hown'
  cases hown'
  rcases hb with ⟨hb, _⟩ | ⟨b', cur, hb1, hb2, hb3, hb4⟩
  · cases hb
  obtain rfl : b' = b := by simpa using hb1.symm
  have e : vs.length = ps.length := by simpa using hrl.1
  have hrow := splice_row ⟨hb3, hb4⟩ hrl hl
  obtain ⟨hk, hh⟩ := heap_upd hI.toHeap hg hown cur (cur.toList.take off ++ vs ++ cur.toList.drop (off + vs.length)).toArray (c.w.setRow b' (cur.toList.take off ++ vs ++ cur.toList.drop (off + vs.length)).toArray) hb2 (setRow_heap _ _ _ _ _ _ hb2)
    (row_size _ _ _ (by omega)) (fun k hk => setRow_other _ _ _ _ hk) (by simp [World.setRow]) rfl rfl rfl (ones_splice hone ho) (by rw [splice_length hl]; exact hb3) hrow.2
  refine ⟨cur, hb2, by omega, ?_⟩
  exact hK _ _ (Inv.put hI hk _ (lk_b_s id1 _) { hh with ids := fun i x hx => .inl (hh.ids i x hx) } o.dst hd fun _ => hv _)
def aStore (P : Program) (T : TypeId) (x y : Operand) (an : Ans) : Plan := opd x fun p => opd y fun q => match p, P.info? T with
  | .opt id off, some ti => .look (kb id) fun v => match v with
    | .blk B cells => match Nat.beq (pcells q).length ti.size with | true => storeP id B cells off (pcells q) P0 an | false => .fail
    | .pv _ => .fail
  | _, _ => .fail
theorem aStore_ok {E : Env} {o : Oper} {id : Nat} {T : TypeId} {x y : Operand} {an : Ans} (ho : o.op = .store T x y) (hd : ∀ x, o.dst = some x → x < E.n) : ActOk E o id (aStore E.P T x y an) := by
  intro g p wb h nx c a K Q hn hI hK
  obtain ⟨q1, hq1, h1⟩ := Res.opd hI h
  obtain ⟨q2, hq2, h2⟩ := Res.opd hI h1
  clear h h1
  split at h2
  · rename_i id1 off ti hin
    obtain ⟨bv, hg, h3⟩ := Res.look h2
    cases bv with
    | pv _ => exact (Res.fail h3).elim
    | blk B cells =>
      simp only at h3
      split at h3
      · rename_i hsz
        have hsz := Nat.eq_of_beq_eq_true hsz
        obtain ⟨hone, hl, rfl, rfl⟩ := storeP_ok h3
        obtain ⟨b, T2, hown, hv⟩ := rep_opt hq1
        obtain ⟨ob', hown', _⟩ := hI.blk id1 B cells hg
        have eT : T2 = B := by rw [hown] at hown'; cases hown'; rfl
        subst eT
        have hrl := pcells_rl hq2
        obtain ⟨cur, hc1, hc2, hKK⟩ := write_step (id := id) (vs := (a.eval y).cells.toList) (v := undef) hd hI hg hown hone hl hrl hK fun _ => .sh (.av _)
        refine ow_skip ?_ hKK
        have hst := run_storeCells_at E.P b off T2 (a.eval y).cells.toList 0 cur c.w hc1 (by simpa using hc2) (hrl.oneCell hone)
        have es : (a.eval y).cells.size = ti.size := by rw [hrl.1, hsz]
        simp only [Nat.add_zero] at hst
        simp [execOp, ho, hv, Instr.storeAt, Instr.sureAddr, storeVar, run_size hin, es, hst]
      · exact (Res.fail h3).elim
  · exact (Res.fail h2).elim

/-! ### make -/
def zs1 (l : List PV) (an : Ans) (k : List PV → Plan) : Plan := match an with
  | .cells m => .ob (l = m) (k m)
  | _ => k l
theorem zs1_ok {l : List PV} {an : Ans} {k : List PV → Plan} {g : St} {p : PV} {wb : L} (h : Res g (zs1 l an k) p wb) : Res g (k l) p wb := by
  unfold zs1 at h
  split at h
  · obtain ⟨rfl, h1⟩ := Res.ob h
    exact h1
  · exact h
def aMake (P : Program) (T : TypeId) (x y : Operand) (an : Ans) (id : Nat) : Plan := opd x fun p => opd y fun q => match p, q, P.underlying T with
  | .av (.int _ n), .av (.int _ m), some (.slice e) => match P.info? e, zeroP P e with
    | some ie, some zs => match Nat.beq ie.size zs.length, Nat.ble 1 zs.length, zs.all PV.one with
      | true, true, true => .ob (0 ≤ n ∧ n ≤ m ∧ m ≤ 140737488355328 ∧ (ie.bytes : Int) * m ≤ 140737488355328) (zs1 (zeros zs n.toNat) an fun l => .done (.osl id 0 n.toNat) [(kb id, some (.blk e l))])
      | _, _, _ => .fail
    | _, _ => .fail
  | _, _, _ => .fail
theorem aMake_ok {E : Env} {o : Oper} {id : Nat} {T : TypeId} {x y : Operand} {an : Ans} (ho : o.op = .makeSlice T x y) (hd : ∀ x, o.dst = some x → x < E.n) : ActOk E o id (aMake E.P T x y an id) := by
  intro g p wb h nx c a K Q hn hI hK
  obtain ⟨q1, hq1, h1⟩ := Res.opd hI h
  obtain ⟨q2, hq2, h2⟩ := Res.opd hI h1
  clear h h1
  split at h2
  · rename_i kn n km m e hu
    split at h2
    · rename_i ie zs hie hz
      obtain ⟨i, z, hi, hz', rfl⟩ := zeroP_ok hz
      rw [hie] at hi
      cases hi
      split at h2
      · rename_i h3 h4 h5
        have h3 := Nat.eq_of_beq_eq_true h3
        have h4 := Nat.le_of_ble_eq_true h4
        simp only [List.length_map, Array.length_toList] at h3 h4
        obtain ⟨⟨b1, b2, b3, b4⟩, h6⟩ := Res.ob h2
        obtain ⟨rfl, rfl⟩ := Res.done (zs1_ok h6)
        have hrl := made_rl (P := E.P) (c := c) (z := z) m.toNat (m.toNat * ie.size) (by rw [h3]) h4
        have hle : n.toNat * ie.size ≤ m.toNat * ie.size := Nat.mul_le_mul_right _ (by omega)
        have hlen : (zeros (z.cells.toList.map .av) n.toNat).length = n.toNat * ie.size := by rw [zeros_length, h3]; simp
        refine new_step (arr := madeCells z.cells (m.toNat * ie.size)) (w' := c.w.alloc (.cells (madeCells z.cells (m.toNat * ie.size)) e)) hd hn hI hK rfl rfl rfl rfl (ones_zeros (all_one h5) _) (by rw [hlen, size_madeCells]; exact hle) (fun j hj => ?_)
          (v := .slice (some ⟨c.w.heap.size, 0, none⟩) n.toNat m.toNat) (fun own hw => .osl hw (.inr ⟨_, m.toNat, _, rfl, rfl, alloc_heap_new _ _, by omega, by rw [cellsOf_info hie, size_madeCells]; omega⟩)) ?_
        · have hz1 : 0 < (z.cells.toList.map PV.av).length := by simp; omega
          have h7 := hrl.2 j (by rw [zeros_length]; simp only [List.length_map, Array.length_toList]; rw [← h3]; omega)
          rw [zeros_get _ hz1 _ _ (by simp only [List.length_map, Array.length_toList]; rw [← h3]; omega)] at h7
          rw [zeros_get _ hz1 _ _ (by simp only [List.length_map, Array.length_toList]; rw [← h3]; omega)]
          exact h7
        · have hr := run_make (P := E.P) c.w T e ie z hu hie hz' kn km n m b1 b2 (by omega) (by omega)
          simp only [execOp, ho, rep_av hq1, rep_av hq2, Sem.run_bind, hr, Result.andThen_ok]
          rfl
      · exact (Res.fail h2).elim
    · exact (Res.fail h2).elim
  · exact (Res.fail h2).elim
end Go.Proofs.Ytgkahjaoajjgcaa.Pm
