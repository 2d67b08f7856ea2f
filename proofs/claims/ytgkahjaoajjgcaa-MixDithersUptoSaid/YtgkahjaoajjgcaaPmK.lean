/-
  THE VALUE MACHINE (K): a call, by its contract. No program in sight.
-/
import Derived.Test.YtgkahjaoajjgcaaPmJ
namespace Go.Proofs.Ytgkahjaoajjgcaa.Pm
open Go

theorem lk_wcall_s {σ : Nat → Nat} (s : Nat) : ∀ {H : Hp} {n : Nat}, lk (ks s) (wcall σ n H) = none
  | [], _ => rfl
  | x :: H, n => by
    simp only [wcall, lk, beq_ksb]
    exact lk_wcall_s s
theorem hSt_live {H : Hp} {i : Nat} (h : Live (hSt H) i) : ∃ x, H.getD i none = some x ∧ i < H.length := by
  obtain ⟨T, cs, h⟩ := h
  rw [hSt_b] at h
  cases hx : H.getD i none with
  | none => rw [hx] at h; cases h
  | some x =>
    refine ⟨x, rfl, ?_⟩
    rcases Nat.lt_or_ge i H.length with h1 | h1
    · exact h1
    · rw [List.getD_eq_getElem?_getD, List.getElem?_eq_none h1] at hx; cases hx
theorem call_core {E : Env} {nx : Nat → Prop} {c : Cx} {g : St} {a : Act} {o : Oper} {id : Nat} {K : Act → World → Prop} {Q : Exit → Act → World → Prop} {f : FuncId} {args as : List PV} {ids : List Nat} {H H' : Hp} {r p : PV} {wb : L} {vs : Array Value}
    (hd : ∀ x, o.dst = some x → x < E.n) (hn : ∀ t, t < 8 → ¬ nx (id + t)) (hI : Inv E nx c g a)
    (hK : ∀ c' a', Inv E (fun j => nx j ∨ (id ≤ j ∧ j < id + 8)) c' (over (wd o.dst p) (over wb g)) a' → K a' c'.w)
    (h : Res g (callP E.P f args id ids as H r H') p wb) (hrl : RL E.P c args vs) (hex : FnOk E.P f → (execOp a.eval o).run E.P c.w = .ok (.enter f vs) c.w) : o.wp E.P a c.w K Q := by
  unfold callP at h
  split at h
  case h_2 => exact (Res.fail h).elim
  rename_i hb1 hb2
  have hb1 := Nat.le_of_ble_eq_true hb1
  obtain ⟨⟨hfn, hHl, hpc⟩, h1⟩ := Res.ob h
  obtain ⟨rfl, h2⟩ := Res.ob h1
  obtain ⟨hlen, h3, hlent⟩ := lent_ok h2
  obtain ⟨rfl, rfl⟩ := Res.done h3
  clear h h1 h2 h3
  have hfresh : ∀ j x, c.own j = some x → ¬ (id ≤ j ∧ j < id + 8) := fun j x hx ⟨h1, h2⟩ => hn (j - id) (by omega) (by rw [show id + (j - id) = j by omega]; exact hI.ids j x hx)
  have hid : c.own id = none := by
    cases ho : c.own id with
    | none => rfl
    | some x => exact absurd ⟨Nat.le_refl _, by omega⟩ (hfresh id x ho)
  have hsi : ∀ i, i < ids.length → sigi ids id i = ids.getD i 0 := fun i hi => by simp [sigi, List.getD_eq_getElem?_getD, hi]
  have hsi2 : ∀ i, ids.length ≤ i → sigi ids id i = id := fun i hi => by simp [sigi, List.getD_eq_getElem?_getD, hi]
  -- what is lent is live here
  have hlv : ∀ i, Live (hSt H) i → i < ids.length ∧ Live g (ids.getD i 0) := fun i hi => by
    obtain ⟨x, h1, h2⟩ := hSt_live hi
    have h3 : i < ids.length := by omega
    obtain ⟨T, cs, _, h5⟩ := hlent i h3
    exact ⟨h3, T, _, h5⟩
  have hcc : Heap (cEnv E.P (c.via (sigi ids id)) H) (· < H.length) (c.via (sigi ids id)) (hSt H) := by
    refine { ids := fun i x hx => ?_, blk := fun i T cs hx => ?_, inj := fun i j b T T' h1 h2 h3 h4 => ?_, apart := fun i b T h1 h2 => ?_, bnd := fun i b T h1 => ?_, sok := hI.sok, os := rfl, tape := rfl, output := rfl, size := Nat.le_refl _,
             same := fun _ _ _ => rfl, s0 := fun _ h => h, s1 := fun _ h => .inl h, keep := Keep.refl _ }
    · rcases Nat.lt_or_ge i ids.length with h1 | h1
      · show i < H.length; omega
      · have : c.own (sigi ids id i) = some x := hx
        rw [hsi2 i h1, hid] at this
        cases this
    · have hl : Live (hSt H) i := ⟨T, cs, hx⟩
      obtain ⟨h1, _⟩ := hlv i hl
      obtain ⟨T', cs', h3, h4⟩ := hlent i h1
      rw [hSt_b, h3] at hx
      simp only [Option.some.injEq, Val.blk.injEq] at hx
      obtain ⟨rfl, rfl⟩ := hx
      obtain ⟨ob, h5, h6, h7⟩ := hI.blk _ _ _ h4
      refine ⟨ob, by show c.own (sigi ids id i) = _; rw [hsi i h1]; exact h5, ones_renL.1 h6, ?_⟩
      rcases h7 with ⟨h7, h8⟩ | ⟨b, arr, h7, h8, h9, h10⟩
      · refine .inl ⟨h7, ?_⟩
        have := congrArg List.length h8
        rw [renL_length] at this
        exact List.eq_nil_of_length_eq_zero this
      · rw [renL_length] at h9 h10
        exact .inr ⟨b, arr, h7, h8, h9, fun j hj => rep_via (h10 j hj) _ (renL_get _ _ j hj)⟩
    · obtain ⟨e1, l1⟩ := hlv i h1
      obtain ⟨e2, l2⟩ := hlv j h2
      have h3' : c.own (sigi ids id i) = _ := h3
      have h4' : c.own (sigi ids id j) = _ := h4
      rw [hsi i e1] at h3'
      rw [hsi j e2] at h4'
      exact nodup_inj hb2 i j e1 e2 (hI.inj _ _ b T T' l1 l2 h3' h4')
    · obtain ⟨e1, l1⟩ := hlv i h1
      have h2' : c.own (sigi ids id i) = _ := h2
      rw [hsi i e1] at h2'
      exact ⟨(hI.apart _ b T l1 h2').1, .inl ⟨i, T, h1, h2⟩⟩
    · exact hI.bnd _ b T h1
  have hras : RL E.P (c.via (sigi ids id)) as vs := by
    refine ⟨by rw [hrl.1, renL_length], fun i hi => ?_⟩
    exact rep_via (hrl.2 i (by rw [renL_length]; exact hi)) _ (renL_get _ _ i hi)
  -- who is lent, by block
  have hbor : ∀ b, (cEnv E.P (c.via (sigi ids id)) H).Bor b → ∃ i T, i < ids.length ∧ Live g (ids.getD i 0) ∧ c.own (ids.getD i 0) = some (some b, T) := by
    rintro b ⟨i, T, h1, h2⟩
    obtain ⟨e1, l1⟩ := hlv i h1
    have h2' : c.own (sigi ids id i) = _ := h2
    rw [hsi i e1] at h2'
    exact ⟨i, T, e1, l1, h2'⟩
  have hborE : ∀ b, (cEnv E.P (c.via (sigi ids id)) H).Bor b → ¬ c.S b ∧ (E.Bor b ∨ E.W.heap.size ≤ b) := fun b hb => by
    obtain ⟨i, T, _, l1, h2⟩ := hbor b hb
    exact hI.apart _ b T l1 h2
  unfold Oper.wp
  rw [hex hfn, Oper.upon_enter]
  refine (hpc _ vs hcc hras).mono ?_
  rintro e w' ⟨v, c', rfl, rfl, hh, hrep⟩
  have hk' := hh.keep
  have hcw : (cEnv E.P (c.via (sigi ids id)) H).W = c.w := rfl
  have hso1 : ∀ i, i < ids.length → sigo ids id i = ids.getD i 0 := fun i hi => by
    unfold sigo
    rw [if_pos (by simpa [Nat.blt_eq] using hi)]
    simp [List.getD_eq_getElem?_getD, hi]
  have hso2 : ∀ i, ids.length ≤ i → sigo ids id i = id + (i - ids.length) := fun i hi => by
    unfold sigo
    rw [if_neg (by simp only [Nat.blt_eq]; omega)]
  have hlive : ∀ i, i < ids.length → ∃ x, c.own (ids.getD i 0) = some x := fun i hi => by
    obtain ⟨T, cs, _, h5⟩ := hlent i hi
    obtain ⟨ob, h6, _⟩ := hI.blk _ _ _ h5
    exact ⟨_, h6⟩
  have hinj : ∀ i j, i < 0 + H'.length → j < 0 + H'.length → sigo ids id i = sigo ids id j → i = j := by
    intro i j h1 h2 he
    rcases Nat.lt_or_ge i ids.length with e1 | e1 <;> rcases Nat.lt_or_ge j ids.length with e2 | e2
    · rw [hso1 i e1, hso1 j e2] at he
      exact nodup_inj hb2 i j e1 e2 he
    · rw [hso1 i e1, hso2 j e2] at he
      obtain ⟨x, hx⟩ := hlive i e1
      exact absurd (by omega) (hfresh _ x hx)
    · rw [hso2 i e1, hso1 j e2] at he
      obtain ⟨x, hx⟩ := hlive j e2
      exact absurd (by omega) (hfresh _ x hx)
    · rw [hso2 i e1, hso2 j e2] at he
      omega
  let own2 : Nat → Option (Option Nat × TypeId) := fun j => if id ≤ j ∧ j < id + 8 then c'.own (j - id + ids.length) else c.own j
  have hown2 : ∀ j, ¬ (id ≤ j ∧ j < id + 8) → own2 j = c.own j := fun j hj => if_neg hj
  have hto : ∀ i x, c'.own i = some x → own2 (sigo ids id i) = some x := by
    intro i x hx
    have hi := hh.ids i x hx
    rcases Nat.lt_or_ge i ids.length with e1 | e1
    · rw [hso1 i e1]
      obtain ⟨y, hy⟩ := hlive i e1
      rw [hown2 _ (hfresh _ y hy)]
      have h2 := hk'.own i y (by show c.own (sigi ids id i) = _; rw [hsi i e1]; exact hy)
      rw [hx] at h2
      rw [hy, h2]
    · rw [hso2 i e1]
      show (if _ then _ else _) = _
      rw [if_pos (by have : i < H'.length := hi; omega)]
      rw [show id + (i - ids.length) - id + ids.length = i by omega]
      exact hx
  have hk : Keep c ⟨c'.w, c'.S, own2⟩ := ⟨fun b hb => hk'.S b hb, fun j x hx => (hown2 j (hfresh j x hx)).trans hx, hk'.shape⟩
  have hgo : ∀ j, (over (wcall (sigo ids id) 0 H') g (kb j) = g (kb j) ∧ ∀ i, i < H'.length → j ≠ sigo ids id i) ∨
      ∃ i, i < H'.length ∧ j = sigo ids id i ∧ over (wcall (sigo ids id) 0 H') g (kb j) = match H'.getD i none with | some y => some (.blk y.1 (renL (sigo ids id) y.2)) | none => none := by
    intro j
    rcases lk_wcall (σ := sigo ids id) (H := H') (n := 0) (kb j) hinj with ⟨h1, h2⟩ | ⟨i, _, h2, h3, h4⟩
    · refine .inl ⟨by simp only [over, h1], fun i hi e => ?_⟩
      exact h2 i (Nat.zero_le _) (by omega) (by rw [e])
    · refine .inr ⟨i, by omega, by simp only [kb] at h3; omega, ?_⟩
      simp only [over, h4, Nat.sub_zero]
      rfl
  -- live behind the call: an old one, or one that the callee tells
  have hlv2 : ∀ j, Live (over (wcall (sigo ids id) 0 H') g) j → (Live g j ∧ ∀ i, i < H'.length → j ≠ sigo ids id i) ∨ ∃ i, Live (hSt H') i ∧ j = sigo ids id i := by
    rintro j ⟨T, cs, hx⟩
    rcases hgo j with ⟨h1, h2⟩ | ⟨i, h1, h2, h3⟩
    · exact .inl ⟨⟨T, cs, by rw [← h1]; exact hx⟩, h2⟩
    · rw [h3] at hx
      cases hy : H'.getD i none with
      | none => rw [hy] at hx; cases hx
      | some y => exact .inr ⟨i, ⟨y.1, y.2, by rw [hSt_b, hy]⟩, h2⟩
  have hnb : ∀ j b T, Live g j → (∀ i, i < H'.length → j ≠ sigo ids id i) → c.own j = some (some b, T) → ¬ (cEnv E.P (c.via (sigi ids id)) H).Bor b := fun j b T l1 h1 h2 hb => by
    obtain ⟨i, T', h3, l2, h4⟩ := hbor b hb
    have e := hI.inj _ _ b T' T l2 l1 h4 h2
    exact h1 i (by omega) (by rw [hso1 i h3]; exact e.symm)
  have hcl : ∀ i b T, Live (hSt H') i → own2 (sigo ids id i) = some (some b, T) → c'.own i = some (some b, T) := fun i b T ⟨T', cs, hx⟩ h1 => by
    obtain ⟨ob, h2, _⟩ := hh.blk i T' cs hx
    have h3 := hto i _ h2
    rw [h1] at h3
    rw [h2, ← h3]
  have hh2 : Heap E (fun j => nx j ∨ (id ≤ j ∧ j < id + 8)) ⟨c'.w, c'.S, own2⟩ (over (wcall (sigo ids id) 0 H') g) := by
    refine { ids := fun j x hx => ?_, blk := fun j T cs hx => ?_, inj := fun j1 j2 b T T' l1 l2 h3 h4 => ?_, apart := fun j b T l1 h2 => ?_, bnd := fun j b T h1 => ?_, sok := hh.sok, os := hh.os.trans hI.os, tape := hh.tape.trans hI.tape, output := hh.output.trans hI.output,
             size := Nat.le_trans hI.size hh.size, same := fun b hb hB => ?_, s0 := fun b hb => (hk'.S b (hI.s0 b hb)).1, s1 := fun b hb => ?_, keep := hI.keep.trans hk }
    · by_cases e : id ≤ j ∧ j < id + 8
      · exact .inr e
      · have hx' : own2 j = _ := hx
        rw [hown2 j e] at hx'
        exact .inl (hI.ids j x hx')
    · rcases hgo j with ⟨h1, h2⟩ | ⟨i, h1, h2, h3⟩
      · rw [h1] at hx
        obtain ⟨ob, h3, h4⟩ := hI.blk j T cs hx
        refine ⟨ob, (hown2 j (hfresh j _ h3)).trans h3, h4.mono hk fun b hb => ?_⟩
        subst hb
        exact hh.same b (hI.bnd j b T h3) (hnb j b T ⟨T, cs, hx⟩ h2 h3)
      · rw [h3] at hx
        cases hy : H'.getD i none with
        | none => rw [hy] at hx; cases hx
        | some y =>
          rw [hy] at hx
          simp only [Option.some.injEq, Val.blk.injEq] at hx
          obtain ⟨rfl, rfl⟩ := hx
          obtain ⟨ob, h4, h5, h6⟩ := hh.blk i y.1 y.2 (by rw [hSt_b, hy])
          refine ⟨ob, by rw [h2]; exact hto i _ h4, ones_renL.2 h5, ?_⟩
          rcases h6 with ⟨h6, h7⟩ | ⟨b, arr, h6, h7, h8, h9⟩
          · exact .inl ⟨h6, by rw [h7]; rfl⟩
          · refine .inr ⟨b, arr, h6, h7, by rw [renL_length]; exact h8, fun j hj => ?_⟩
            rw [renL_length] at hj
            rw [renL_get _ _ j hj]
            exact rep_to (c := c') (c' := ⟨c'.w, c'.S, own2⟩) rfl rfl hto (h9 j hj)
    · have h3' : own2 j1 = _ := h3
      have h4' : own2 j2 = _ := h4
      rcases hlv2 j1 l1 with ⟨e1, n1⟩ | ⟨i1, e1, rfl⟩ <;> rcases hlv2 j2 l2 with ⟨e2, n2⟩ | ⟨i2, e2, rfl⟩
      · obtain ⟨T1, cs1, hx1⟩ := e1
        obtain ⟨T2, cs2, hx2⟩ := e2
        obtain ⟨ob1, q1, _⟩ := hI.blk j1 _ _ hx1
        obtain ⟨ob2, q2, _⟩ := hI.blk j2 _ _ hx2
        rw [hown2 j1 (hfresh j1 _ q1)] at h3'
        rw [hown2 j2 (hfresh j2 _ q2)] at h4'
        exact hI.inj j1 j2 b T T' ⟨T1, cs1, hx1⟩ ⟨T2, cs2, hx2⟩ h3' h4'
      · obtain ⟨T1, cs1, hx1⟩ := e1
        obtain ⟨ob1, q1, _⟩ := hI.blk j1 _ _ hx1
        rw [hown2 j1 (hfresh j1 _ q1)] at h3'
        have h5 := hcl i2 b T' e2 h4'
        rcases (hh.apart i2 b T' e2 h5).2 with h6 | h6
        · exact absurd h6 (hnb j1 b T ⟨T1, cs1, hx1⟩ n1 h3')
        · have := hI.bnd j1 b T h3'
          rw [hcw] at h6
          omega
      · obtain ⟨T1, cs1, hx1⟩ := e2
        obtain ⟨ob1, q1, _⟩ := hI.blk j2 _ _ hx1
        rw [hown2 j2 (hfresh j2 _ q1)] at h4'
        have h5 := hcl i1 b T e1 h3'
        rcases (hh.apart i1 b T e1 h5).2 with h6 | h6
        · exact absurd h6 (hnb j2 b T' ⟨T1, cs1, hx1⟩ n2 h4')
        · have := hI.bnd j2 b T' h4'
          rw [hcw] at h6
          omega
      · have h5 := hcl i1 b T e1 h3'
        have h6 := hcl i2 b T' e2 h4'
        rw [hh.inj i1 i2 b T T' e1 e2 h5 h6]
    · have h2' : own2 j = _ := h2
      rcases hlv2 j l1 with ⟨e1, n1⟩ | ⟨i1, e1, rfl⟩
      · obtain ⟨T1, cs1, hx1⟩ := e1
        obtain ⟨ob1, q1, _⟩ := hI.blk j _ _ hx1
        rw [hown2 j (hfresh j _ q1)] at h2'
        have hap := hI.apart j b T ⟨T1, cs1, hx1⟩ h2'
        have hlt := hI.bnd j b T h2'
        refine ⟨fun hS => ?_, hap.2⟩
        rcases hh.s1 b hS with h5 | h5 | h5
        · exact hap.1 h5
        · exact hnb j b T ⟨T1, cs1, hx1⟩ n1 h2' h5
        · rw [hcw] at h5; omega
      · have h5 := hcl i1 b T e1 h2'
        have hap := hh.apart i1 b T e1 h5
        refine ⟨hap.1, ?_⟩
        rcases hap.2 with h6 | h6
        · exact (hborE b h6).2
        · rw [hcw] at h6
          have := hI.size
          exact .inr (by omega)
    · have h1' : own2 j = _ := h1
      by_cases e : id ≤ j ∧ j < id + 8
      · have h2 : c'.own (j - id + ids.length) = some (some b, T) := by
          have : own2 j = c'.own (j - id + ids.length) := if_pos e
          rw [← this]; exact h1'
        exact hh.bnd _ b T h2
      · rw [hown2 j e] at h1'
        have := hI.bnd j b T h1'
        have h3 := hh.size
        rw [hcw] at h3
        show b < c'.w.heap.size
        omega
    · have h1 := hI.size
      refine (hh.same b (by rw [hcw]; omega) fun hb2 => ?_).trans (hI.same b hb hB)
      rcases (hborE b hb2).2 with h2 | h2
      · exact hB h2
      · omega
    · rcases hh.s1 b hb with h5 | h5 | h5
      · exact hI.s1 b h5
      · exact .inr (hborE b h5).2
      · rw [hcw] at h5
        have := hI.size
        exact .inr (.inr (by omega))
  exact hK ⟨c'.w, c'.S, own2⟩ _ (Inv.put hI hk _ (fun s => lk_wcall_s s) hh2 o.dst hd fun _ => rep_to (c := c') (c' := ⟨c'.w, c'.S, own2⟩) rfl rfl hto hrep)
theorem RL.czs {P : Program} {c : Cx} {ps : List PV} {vs : Array Value} (h : RL P c ps vs) : RL P c (ps.map cz) vs := by
  refine ⟨by simpa using h.1, fun i hi => ?_⟩
  have hi' : i < ps.length := by simpa using hi
  have := rep_cz (h.2 i hi')
  simpa [List.getD_eq_getElem?_getD, hi'] using this
theorem aCall_ok {E : Env} {o : Oper} {id : Nat} {fx : Operand} {xs : Array Operand} {ts : Array TypeId} {an : Ans} (ho : o.op = .call { callee := .value fx, args := xs, argTypes := ts }) (hd : ∀ x, o.dst = some x → x < E.n) : ActOk E o id (aCall E.P fx xs.toList an id) := by
  intro g p wb h nx c a K Q hn hI hK
  obtain ⟨q, hq, h1⟩ := Res.opd hI h
  obtain ⟨ps, hps, h2⟩ := Res.opdl hI h1
  clear h h1
  have hps' : RL E.P c ps (xs.map a.eval) := by
    have e : (xs.toList.map a.eval).toArray = xs.map a.eval := by apply Array.ext'; simp
    rw [← e]; exact hps
  have key : ∀ {f : FuncId} {fs cs : Array Value}, a.eval fx = .func (.func f) fs cs → FnOk E.P f → (execOp a.eval o).run E.P c.w = .ok (.enter f (fs ++ xs.map a.eval ++ cs)) c.w := by
    rintro f fs cs hv ⟨fn, h1, h2, h3⟩
    have h4 : (callFunc f (fs ++ xs.map a.eval ++ cs)).run E.P c.w = .ok (.enter f (fs ++ xs.map a.eval ++ cs)) c.w := by
      have h2' : ¬ fn.body = none := fun e => by rw [e] at h2; cases h2
      have h3' : ¬ fn.name = "runtime.NumGoroutine" := by simpa using h3
      simp [callFunc, h1, h2, h3', h2']
    simp only [execOp, ho, resolve, hv, Deferred.ofValue, invoke, Sem.run_bind, Sem.run_pure, Result.andThen_ok]
    exact h4
  split at h2
  · rename_i f fs cs ids as H r H'
    exact call_core hd hn hI hK h2 (((avs_rl fs).append hps'.czs).append (avs_rl cs)) (key (rep_av hq))
  · rename_i f fs cs ids as H r H'
    obtain ⟨vs, us, hv, h3, h4, h5, h6⟩ := rep_fn hq
    exact call_core hd hn hI hK h2 (RL.append (RL.append ⟨h3, h5⟩ hps'.czs) ⟨h4, h6⟩) (key hv)
  · exact (Res.fail h2).elim
end Go.Proofs.Ytgkahjaoajjgcaa.Pm
