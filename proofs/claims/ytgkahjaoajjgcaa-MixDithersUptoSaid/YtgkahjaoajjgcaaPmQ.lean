/-
  THE VALUE MACHINE (Q): copy. No program in sight.
-/
import Derived.Test.YtgkahjaoajjgcaaPmP
namespace Go.Proofs.Ytgkahjaoajjgcaa.Pm
open Go

/-- The first n of what is copied. -/
def srcN (P : Program) (e : TypeId) (sz nd n : Nat) (l : List PV) (u : Option TypeDesc) (q : PV) (k : Plan) : Plan := match u, q with
  | some (.slice _), .ssl cs off ns => .ob (Nat.min ns nd = n ∧ off + n * sz ≤ cs.length ∧ (cs.drop off).take (n * sz) = l) k
  | some (.slice _), .osl id off ns => .look (kb id) fun v => match v with
    | .blk T' cs => match Nat.beq T' e with | true => .ob (Nat.min ns nd = n ∧ off + n * sz ≤ cs.length ∧ (cs.drop off).take (n * sz) = l) k | false => .fail
    | .pv _ => .fail
  | _, _ => .fail
theorem srcN_ok {E : Env} {nx : Nat → Prop} {c : Cx} {g : St} {a : Act} (hI : Inv E nx c g a) {e tx : TypeId} {sz nd n : Nat} {l : List PV} {q : PV} {v : Value} {k : Plan} {p : PV} {wb : L} (hq : Rep E.P c q v)
    (h : Res g (srcN E.P e sz nd n l (E.P.underlying tx) q k) p wb) : Res g k p wb ∧ l.length = n * sz ∧ ones l ∧ ∃ ns news, (∀ w, (Builtin.lenOf v).run E.P w = .ok ns w) ∧ Nat.min ns nd = n ∧ RL E.P c l (List.toArray news) ∧ (Builtin.firstCells sz n v).run E.P c.w = .ok news.toArray c.w := by
  have mem : ∀ {cs : List PV} {off : Nat} {b a' : Nat} {vf : Nat → Value} {cap ns : Nat}, off + n * sz ≤ cs.length → (cs.drop off).take (n * sz) = l → ones cs → Nat.min ns nd = n →
      (∀ j, j < cs.length → c.w.cell? ⟨b, a' + j, none⟩ = some (vf j)) → (∀ j, j < cs.length → Rep E.P c (cs.getD j P0) (vf j)) → v = .slice (some ⟨b, a' + off, none⟩) ns cap →
      l.length = n * sz ∧ ones l ∧ ∃ ns news, (∀ w, (Builtin.lenOf v).run E.P w = .ok ns w) ∧ Nat.min ns nd = n ∧ RL E.P c l (List.toArray news) ∧ (Builtin.firstCells sz n v).run E.P c.w = .ok news.toArray c.w := by
    intro cs off b a' vf cap ns h1 h2 h3 hm h4 h5 hv
    obtain ⟨h6, h7⟩ := getD_seg h1 h2
    have hrl : RL E.P c l ((List.range (n * sz)).map fun j => vf (off + j)).toArray := by
      refine ⟨by simp [h6], fun i hi => ?_⟩
      rw [h6] at hi
      rw [h7 i hi]
      have e1 : (((List.range (n * sz)).map fun j => vf (off + j)).toArray).getD i undef = vf (off + i) := by simp [Array.getD_eq_getD_getElem?, hi]
      rw [e1]
      exact h5 (off + i) (by omega)
    subst hv
    refine ⟨h6, seg_ones h3 h2, ns, _, fun _ => rfl, hm, hrl, ?_⟩
    refine run_firstCells_some c.w sz n _ _ _ _ (by simp) fun j u hj => ?_
    have hj' : j < n * sz := by
      have := (List.getElem?_eq_some_iff.1 hj).1
      simpa using this
    have hju : u = vf (off + j) := by simpa [hj'] using hj.symm
    rw [addr_add, hju, Nat.add_assoc]
    exact h4 _ (by omega)
  have emp : ∀ {cs : List PV} {off : Nat} {ad : Option Addr} {cap ns : Nat}, (cs.drop off).take (n * sz) = l → Nat.min ns nd = n → ns = 0 → v = .slice ad 0 cap →
      l.length = n * sz ∧ ones l ∧ ∃ ns news, (∀ w, (Builtin.lenOf v).run E.P w = .ok ns w) ∧ Nat.min ns nd = n ∧ RL E.P c l (List.toArray news) ∧ (Builtin.firstCells sz n v).run E.P c.w = .ok news.toArray c.w := by
    intro cs off ad cap ns h1 hm h2 hv
    subst h2
    have hn : n = 0 := by rw [← hm]; exact Nat.zero_min nd
    subst hn
    rw [Nat.zero_mul, List.take_zero] at h1
    subst h1; subst hv
    refine ⟨by simp, fun p hp => (by cases hp), 0, [], fun _ => rfl, hm, ⟨rfl, fun i hi => by simp at hi⟩, ?_⟩
    cases ad with
    | none => exact run_firstCells_none c.w sz 0 0 cap
    | some ad => simp [Builtin.firstCells, loadCells, loadCellsFrom]
  unfold srcN at h
  split at h
  · rename_i e' cs off ns hu
    obtain ⟨⟨h1, h2, h3⟩, h4⟩ := Res.ob h
    refine ⟨h4, ?_⟩
    rcases rep_ssl hq with ⟨ad, cap, hv, hn⟩ | ⟨b, a', cap, vf, hv, hS, hc, hr, hone, hl⟩
    · exact emp h3 h1 hn hv
    · exact mem h2 h3 hone h1 hc (fun j hj => .sh (hr j hj)) hv
  · rename_i e' id off ns hu
    obtain ⟨bv, hg, h5⟩ := Res.look h
    cases bv with
    | pv _ => exact (Res.fail h5).elim
    | blk T' cs =>
      simp only at h5
      split at h5
      case h_2 => exact (Res.fail h5).elim
      obtain ⟨⟨h1, h2, h3⟩, h4⟩ := Res.ob h5
      refine ⟨h4, ?_⟩
      obtain ⟨ob, T2, hown, hv⟩ := rep_osl hq
      obtain ⟨ob', hown', hone, hb⟩ := hI.blk id T' cs hg
      rw [hown] at hown'
      cases hown'
      rcases hv with ⟨ad, hv, hn⟩ | ⟨b, cap, cs2, hob, hv, hb2, hl, hsz2⟩
      · exact emp h3 h1 hn hv
      · rcases hb with ⟨hb, _⟩ | ⟨b', vs, hb1, hb3, hb4, hb5⟩
        · rw [hob] at hb; cases hb
        · obtain rfl : b' = b := by rw [hob] at hb1; simpa using hb1.symm
          exact mem (a' := 0) (vf := fun j => vs.getD j undef) (cap := cap) h2 h3 hone h1 (fun j hj => by
            have : j < vs.size := by omega
            rw [cell_of_row c.w _ _ vs _ _ hb3]
            simp [Array.getD_eq_getD_getElem?, this]) hb5 (by rw [hv, Nat.zero_add])
  · exact (Res.fail h).elim
def aCopy (P : Program) (T : TypeId) (u : Option TypeDesc) (x y : Operand) (an : Ans) : Plan := opd x fun p => opd y fun q => match P.underlying T, p, an with
  | some (.slice e), .osl id1 off nd, .copy n l r => match P.info? e with
    | some ie => .look (kb id1) fun v => match v with
      | .blk B cells => match Nat.beq B e with
        | true => srcN P e ie.size nd n l u q (.ob (off + l.length ≤ cells.length ∧ splice cells off l = r) (.done (.av (.int .i64 n)) [(kb id1, some (.blk B r))]))
        | false => .fail
      | .pv _ => .fail
    | none => .fail
  | _, _, _ => .fail
theorem aCopy_ok {E : Env} {o : Oper} {id : Nat} {T U : TypeId} {x y : Operand} {an : Ans} (ho : o.op = .call { callee := .builtin .copy, args := #[x, y], argTypes := #[T, U] }) (hd : ∀ x, o.dst = some x → x < E.n) : ActOk E o id (aCopy E.P T (E.P.underlying U) x y an) := by
  intro g p wb h nx c a K Q hn hI hK
  obtain ⟨q1, hq1, h1⟩ := Res.opd hI h
  obtain ⟨q2, hq2, h2⟩ := Res.opd hI h1
  clear h h1
  split at h2
  case h_2 => exact (Res.fail h2).elim
  rename_i e id1 off nd n l r hu
  split at h2
  case h_2 => exact (Res.fail h2).elim
  rename_i ie hie
  obtain ⟨bv, hg, h3⟩ := Res.look h2
  cases bv with
  | pv _ => exact (Res.fail h3).elim
  | blk B cells =>
    simp only at h3
    split at h3
    case h_2 => exact (Res.fail h3).elim
    rename_i hB
    have hB := Nat.eq_of_beq_eq_true hB
    subst hB
    obtain ⟨h4, hll, hone, ns, news, hlen, hmin, hrl, hfc⟩ := srcN_ok hI hq2 h3
    obtain ⟨⟨h5, rfl⟩, h6⟩ := Res.ob h4
    obtain ⟨rfl, rfl⟩ := Res.done h6
    have hex : ∀ {base : Option Addr} {cap : Nat} {w' : World}, a.eval x = .slice base nd cap → ((match base with | some ad => storeCells ad news | none => pure ()) : Sem Unit).run E.P c.w = .ok () w' → (execOp a.eval o).run E.P c.w = .ok (.value (.int .i64 n)) w' := by
      intro base cap w' hx hst
      have hr : (Builtin.copy_ #[T, U] o.type #[a.eval x, a.eval y]).run E.P c.w = .ok (goInt n) w' := by
        cases base with
        | none =>
          simp only [Sem.run_pure, Result.ok.injEq, true_and] at hst
          subst hst
          have hm2 : min ns nd = n := hmin
          simp [Builtin.copy_, hx, run_underlying hu, hlen, hm2, hmin, run_size hie, hfc]
        | some ad => simp [Builtin.copy_, hx, run_underlying hu, hlen, hmin, run_size hie, hfc, hst]
      simp [execOp, ho, resolve, invoke, builtin, hr, goInt]
    obtain ⟨ob, T2, hown, hv⟩ := rep_osl hq1
    obtain ⟨ob', hown', _⟩ := hI.blk id1 B cells hg
    rw [hown] at hown'
    cases hown'
    rcases hv with ⟨ad, hv, hnd⟩ | ⟨b, cap, cs, hob, hv, hb, hl, hsz⟩
    · subst hnd
      have hn0 : n = 0 := by rw [← hmin]; exact Nat.min_zero ns
      subst hn0
      have hl0 : l = [] := List.eq_nil_of_length_eq_zero (by simpa using hll)
      subst hl0
      have hnews : news = [] := List.eq_nil_of_length_eq_zero (by simpa using hrl.1)
      subst hnews
      have hsp : splice cells off [] = cells := by simp [splice]
      have hgg : over [(kb id1, some (.blk B (splice cells off [])))] g = g := by
        funext k
        rw [hsp]
        simp only [over, lk]
        by_cases hk : Nat.beq k (kb id1) = true
        · rw [if_pos hk, Nat.eq_of_beq_eq_true hk, hg]
        · rw [if_neg hk]
      rw [hgg] at hK
      refine ow_val (hex hv (w' := c.w) (by cases ad <;> simp [storeCells])) (hK c _ (hI.pure (fun _ h => .inl h) o.dst hd fun _ => .sh (.av _)))
    · subst hob
      obtain ⟨cur, hc1, hc2, hKK⟩ := write_step (id := id) (vs := news) (v := .int .i64 n) hd hI hg hown hone h5 hrl hK fun _ => .sh (.av _)
      have hst := run_storeCells_at E.P b off B news 0 cur c.w hc1 (by simpa using hc2) (hrl.oneCell hone)
      simp only [Nat.add_zero] at hst
      exact ow_val (hex hv hst) hKK
end Go.Proofs.Ytgkahjaoajjgcaa.Pm
