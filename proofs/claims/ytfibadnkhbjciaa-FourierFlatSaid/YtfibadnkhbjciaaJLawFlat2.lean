/-
  THE VALUE MACHINE (K): a call, by its contract. No program in sight. | THE VALUE MACHINE (V): pointers held against nil; the greatest of three. No program in sight. | THE VALUE MACHINE (X): rows laid down for good, by themselves and at a call. No program in sight. | THE VALUE MACHINE (W): atomic loads and stores (functions without a body). No program in sight. | THE VALUE MACHINE (Z): bytes laid down for good, as a string. No program in sight. | THE VALUE MACHINE (IF): plain values flat; interface values. No program in sight. | THE VALUE MACHINE (Ly): a row that is laid down as soon as it is made. No program in sight. | THE VALUE MACHINE (AT): atomic compare-and-swap that hits, add; marks (functions without a body). No program in sight. | THE VALUE MACHINE (L): regions reckoned; the rules of a walk by values. No program in sight. | THE VALUE MACHINE (M): a walk by values: what is left to run, states said anew, loops, whole functions. No program in sight. | THE VALUE MACHINE (N): rows laid down for good, loops, whole functions. No program in sight. | THE VALUE MACHINE (O): what a function hands back; contracts of the kit's kind as contracts by values; small words for written walks. No program in sight. | THE VALUE MACHINE (R): contracts of the kit's kind over plain values, as contracts by values; small lemmas. No program in sight. | THE VALUE MACHINE (S): open rows of shared cells keep their cells under other numbers. No program in sight. | FOURIER: plain: rows of complex numbers, the waves, the whole transform as a plain function. No program in sight. | FOURIER: plain: bits turned round; the whole transform as a plain function. No program in sight. | FOURIER: plain: how long a number is in bits; powers of two; mirrored, put together, squared, read: as plain functions. No program in sight. | FLOATS: positive numbers of the double format, by their rungs: doubled, halved, multiplied, in order. No program in sight.
-/
import Derived.Test.YtfibadnkhbjciaaJLawFlat1
import Derived.Laws.LoneSync
import Derived.Laws.BytesArg
import GoSem.Core.Float
namespace Go.Proofs.Ytfibadnkhbjciaa.Pm
open Go

theorem lk_wcall_s {σ : Nat → Nat} (s : Nat) : ∀ {H : Hp} {n : Nat}, lk (ks s) (wcall σ n H) = none
  | [], _ => rfl
  | x :: H, n => by
    simp only [wcall, lk, beq_ksb]
    exact lk_wcall_s s
theorem hSt_live {H : Hp} {i : Nat} (h : Live (hSt H) i) : ∃ x, H.getD i none = some x ∧ i < H.length := by
  obtain ⟨T, cs, h⟩ := h
  rw [hSt_b] at h
  cases hx : H.getD i none with
  | none => rw [hx] at h; cases h
  | some x =>
    refine ⟨x, rfl, ?_⟩
    rcases Nat.lt_or_ge i H.length with h1 | h1
    · exact h1
    · rw [List.getD_eq_getElem?_getD, List.getElem?_eq_none h1] at hx; cases hx
/-- How a call ends, for who called. -/
def callEnd (o : Oper) (a : Act) (K : Act → World → Prop) (Q : Exit → Act → World → Prop) : Ending → World → Prop
  | .returned v, w => K (a.put o.dst v) w
  | .panicked ch, w => Q (.panic ch) a w
  | .outgrown, _ => LetsOut Q
/-- What is lent, as the callee sees it. -/
theorem lend_heap {E : Env} {nx : Nat → Prop} {c : Cx} {g : St} {id : Nat} {ids : List Nat} {H : Hp} (hn : ∀ t, t < 8 → ¬ nx (id + t)) (hI : Heap E nx c g) (hb2 : nodupB ids = true) (hlen : ids.length = H.length)
    (hlent : ∀ i, i < ids.length → ∃ T cs, H.getD i none = some (T, cs) ∧ g (kb (ids.getD i 0)) = some (.blk T (renL (sigi ids id) cs))) :
    Heap (cEnv E.P (c.via (sigi ids id)) H) (· < H.length) (c.via (sigi ids id)) (hSt H) := by
  have hfresh : ∀ j x, c.own j = some x → ¬ (id ≤ j ∧ j < id + 8) := fun j x hx ⟨h1, h2⟩ => hn (j - id) (by omega) (by rw [show id + (j - id) = j by omega]; exact hI.ids j x hx)
  have hid : c.own id = none := by
    cases ho : c.own id with
    | none => rfl
    | some x => exact absurd ⟨Nat.le_refl _, by omega⟩ (hfresh id x ho)
  have hsi : ∀ i, i < ids.length → sigi ids id i = ids.getD i 0 := fun i hi => by simp [sigi, List.getD_eq_getElem?_getD, hi]
  have hsi2 : ∀ i, ids.length ≤ i → sigi ids id i = id := fun i hi => by simp [sigi, List.getD_eq_getElem?_getD, hi]
  -- what is lent is live here
  have hlv : ∀ i, Live (hSt H) i → i < ids.length ∧ Live g (ids.getD i 0) := fun i hi => by
    obtain ⟨x, h1, h2⟩ := hSt_live hi
    have h3 : i < ids.length := by omega
    obtain ⟨T, cs, _, h5⟩ := hlent i h3
    exact ⟨h3, T, _, h5⟩
  refine { ids := fun i x hx => ?_, blk := fun i T cs hx => ?_, inj := fun i j b T T' h1 h2 h3 h4 => ?_, apart := fun i b T h1 h2 => ?_, bnd := fun i b T h1 => ?_, sok := hI.sok, os := rfl, tape := rfl, output := rfl, size := Nat.le_refl _,
           same := fun _ _ _ => rfl, laid := hI.laid.mono (c := E.c0) (c' := c.via (sigi ids id)) hI.keep.S, s0 := fun _ h => h, s1 := fun _ h => .inl h, keep := Keep.refl _ }
  · rcases Nat.lt_or_ge i ids.length with h1 | h1
    · show i < H.length; omega
    · have : c.own (sigi ids id i) = some x := hx
      rw [hsi2 i h1, hid] at this
      cases this
  · have hl : Live (hSt H) i := ⟨T, cs, hx⟩
    obtain ⟨h1, _⟩ := hlv i hl
    obtain ⟨T', cs', h3, h4⟩ := hlent i h1
    rw [hSt_b, h3] at hx
    simp only [Option.some.injEq, Val.blk.injEq] at hx
    obtain ⟨rfl, rfl⟩ := hx
    obtain ⟨ob, h5, h6, h7⟩ := hI.blk _ _ _ h4
    refine ⟨ob, by show c.own (sigi ids id i) = _; rw [hsi i h1]; exact h5, ones_renL.1 h6, ?_⟩
    rcases h7 with ⟨h7, h8⟩ | ⟨b, arr, h7, h8, h9, h10⟩
    · refine .inl ⟨h7, ?_⟩
      have := congrArg List.length h8
      rw [renL_length] at this
      exact List.eq_nil_of_length_eq_zero this
    · rw [renL_length] at h9 h10
      exact .inr ⟨b, arr, h7, h8, h9, fun j hj => rep_via (h10 j hj) _ (renL_get _ _ j hj)⟩
  · obtain ⟨e1, l1⟩ := hlv i h1
    obtain ⟨e2, l2⟩ := hlv j h2
    have h3' : c.own (sigi ids id i) = _ := h3
    have h4' : c.own (sigi ids id j) = _ := h4
    rw [hsi i e1] at h3'
    rw [hsi j e2] at h4'
    exact nodup_inj hb2 i j e1 e2 (hI.inj _ _ b T T' l1 l2 h3' h4')
  · obtain ⟨e1, l1⟩ := hlv i h1
    have h2' : c.own (sigi ids id i) = _ := h2
    rw [hsi i e1] at h2'
    exact ⟨(hI.apart _ b T l1 h2').1, .inl ⟨i, T, h1, h2⟩⟩
  · exact hI.bnd _ b T h1
/-- What was lent, taken back. -/
theorem back_heap {E : Env} {nx : Nat → Prop} {c : Cx} {g : St} {id : Nat} {ids : List Nat} {H H' : Hp} (hb1 : H'.length ≤ ids.length + 8) (hHl : H.length ≤ H'.length) (hn : ∀ t, t < 8 → ¬ nx (id + t)) (hI : Heap E nx c g) (hb2 : nodupB ids = true) (hlen : ids.length = H.length)
    (hlent : ∀ i, i < ids.length → ∃ T cs, H.getD i none = some (T, cs) ∧ g (kb (ids.getD i 0)) = some (.blk T (renL (sigi ids id) cs)))
    {c' : Cx} (hh : Heap (cEnv E.P (c.via (sigi ids id)) H) (· < H'.length) c' (hSt H')) :
    ∃ own2, Keep c ⟨c'.w, c'.S, own2⟩ ∧ (∀ i x, c'.own i = some x → own2 (sigo ids id i) = some x) ∧ Heap E (fun j => nx j ∨ (id ≤ j ∧ j < id + 8)) ⟨c'.w, c'.S, own2⟩ (over (wcall (sigo ids id) 0 H') g) := by
  have hfresh : ∀ j x, c.own j = some x → ¬ (id ≤ j ∧ j < id + 8) := fun j x hx ⟨h1, h2⟩ => hn (j - id) (by omega) (by rw [show id + (j - id) = j by omega]; exact hI.ids j x hx)
  have hid : c.own id = none := by
    cases ho : c.own id with
    | none => rfl
    | some x => exact absurd ⟨Nat.le_refl _, by omega⟩ (hfresh id x ho)
  have hsi : ∀ i, i < ids.length → sigi ids id i = ids.getD i 0 := fun i hi => by simp [sigi, List.getD_eq_getElem?_getD, hi]
  have hsi2 : ∀ i, ids.length ≤ i → sigi ids id i = id := fun i hi => by simp [sigi, List.getD_eq_getElem?_getD, hi]
  -- what is lent is live here
  have hlv : ∀ i, Live (hSt H) i → i < ids.length ∧ Live g (ids.getD i 0) := fun i hi => by
    obtain ⟨x, h1, h2⟩ := hSt_live hi
    have h3 : i < ids.length := by omega
    obtain ⟨T, cs, _, h5⟩ := hlent i h3
    exact ⟨h3, T, _, h5⟩
  -- who is lent, by block
  have hbor : ∀ b, (cEnv E.P (c.via (sigi ids id)) H).Bor b → ∃ i T, i < ids.length ∧ Live g (ids.getD i 0) ∧ c.own (ids.getD i 0) = some (some b, T) := by
    rintro b ⟨i, T, h1, h2⟩
    obtain ⟨e1, l1⟩ := hlv i h1
    have h2' : c.own (sigi ids id i) = _ := h2
    rw [hsi i e1] at h2'
    exact ⟨i, T, e1, l1, h2'⟩
  have hborE : ∀ b, (cEnv E.P (c.via (sigi ids id)) H).Bor b → ¬ c.S b ∧ (E.Bor b ∨ E.W.heap.size ≤ b) := fun b hb => by
    obtain ⟨i, T, _, l1, h2⟩ := hbor b hb
    exact hI.apart _ b T l1 h2
  have hk' := hh.keep
  have hcw : (cEnv E.P (c.via (sigi ids id)) H).W = c.w := rfl
  have hso1 : ∀ i, i < ids.length → sigo ids id i = ids.getD i 0 := fun i hi => by
    unfold sigo
    rw [if_pos (by simpa [Nat.blt_eq] using hi)]
    simp [List.getD_eq_getElem?_getD, hi]
  have hso2 : ∀ i, ids.length ≤ i → sigo ids id i = id + (i - ids.length) := fun i hi => by
    unfold sigo
    rw [if_neg (by simp only [Nat.blt_eq]; omega)]
  have hlive : ∀ i, i < ids.length → ∃ x, c.own (ids.getD i 0) = some x := fun i hi => by
    obtain ⟨T, cs, _, h5⟩ := hlent i hi
    obtain ⟨ob, h6, _⟩ := hI.blk _ _ _ h5
    exact ⟨_, h6⟩
  have hinj : ∀ i j, i < 0 + H'.length → j < 0 + H'.length → sigo ids id i = sigo ids id j → i = j := by
    intro i j h1 h2 he
    rcases Nat.lt_or_ge i ids.length with e1 | e1 <;> rcases Nat.lt_or_ge j ids.length with e2 | e2
    · rw [hso1 i e1, hso1 j e2] at he
      exact nodup_inj hb2 i j e1 e2 he
    · rw [hso1 i e1, hso2 j e2] at he
      obtain ⟨x, hx⟩ := hlive i e1
      exact absurd (by omega) (hfresh _ x hx)
    · rw [hso2 i e1, hso1 j e2] at he
      obtain ⟨x, hx⟩ := hlive j e2
      exact absurd (by omega) (hfresh _ x hx)
    · rw [hso2 i e1, hso2 j e2] at he
      omega
  let own2 : Nat → Option (Option Nat × TypeId) := fun j => if id ≤ j ∧ j < id + 8 then c'.own (j - id + ids.length) else c.own j
  have hown2 : ∀ j, ¬ (id ≤ j ∧ j < id + 8) → own2 j = c.own j := fun j hj => if_neg hj
  have hto : ∀ i x, c'.own i = some x → own2 (sigo ids id i) = some x := by
    intro i x hx
    have hi := hh.ids i x hx
    rcases Nat.lt_or_ge i ids.length with e1 | e1
    · rw [hso1 i e1]
      obtain ⟨y, hy⟩ := hlive i e1
      rw [hown2 _ (hfresh _ y hy)]
      have h2 := hk'.own i y (by show c.own (sigi ids id i) = _; rw [hsi i e1]; exact hy)
      rw [hx] at h2
      rw [hy, h2]
    · rw [hso2 i e1]
      show (if _ then _ else _) = _
      rw [if_pos (by have : i < H'.length := hi; omega)]
      rw [show id + (i - ids.length) - id + ids.length = i by omega]
      exact hx
  have hk : Keep c ⟨c'.w, c'.S, own2⟩ := ⟨fun b hb => hk'.S b hb, fun j x hx => (hown2 j (hfresh j x hx)).trans hx, hk'.shape⟩
  have hgo : ∀ j, (over (wcall (sigo ids id) 0 H') g (kb j) = g (kb j) ∧ ∀ i, i < H'.length → j ≠ sigo ids id i) ∨
      ∃ i, i < H'.length ∧ j = sigo ids id i ∧ over (wcall (sigo ids id) 0 H') g (kb j) = match H'.getD i none with | some y => some (.blk y.1 (renL (sigo ids id) y.2)) | none => none := by
    intro j
    rcases lk_wcall (σ := sigo ids id) (H := H') (n := 0) (kb j) hinj with ⟨h1, h2⟩ | ⟨i, _, h2, h3, h4⟩
    · refine .inl ⟨by simp only [over, h1], fun i hi e => ?_⟩
      exact h2 i (Nat.zero_le _) (by omega) (by rw [e])
    · refine .inr ⟨i, by omega, by simp only [kb] at h3; omega, ?_⟩
      simp only [over, h4, Nat.sub_zero]
      try rfl
  -- live behind the call: an old one, or one that the callee tells
  have hlv2 : ∀ j, Live (over (wcall (sigo ids id) 0 H') g) j → (Live g j ∧ ∀ i, i < H'.length → j ≠ sigo ids id i) ∨ ∃ i, Live (hSt H') i ∧ j = sigo ids id i := by
    rintro j ⟨T, cs, hx⟩
    rcases hgo j with ⟨h1, h2⟩ | ⟨i, h1, h2, h3⟩
    · exact .inl ⟨⟨T, cs, by rw [← h1]; exact hx⟩, h2⟩
    · rw [h3] at hx
      cases hy : H'.getD i none with
      | none => rw [hy] at hx; cases hx
      | some y => exact .inr ⟨i, ⟨y.1, y.2, by rw [hSt_b, hy]⟩, h2⟩
  have hnb : ∀ j b T, Live g j → (∀ i, i < H'.length → j ≠ sigo ids id i) → c.own j = some (some b, T) → ¬ (cEnv E.P (c.via (sigi ids id)) H).Bor b := fun j b T l1 h1 h2 hb => by
    obtain ⟨i, T', h3, l2, h4⟩ := hbor b hb
    have e := hI.inj _ _ b T' T l2 l1 h4 h2
    exact h1 i (by omega) (by rw [hso1 i h3]; exact e.symm)
  have hcl : ∀ i b T, Live (hSt H') i → own2 (sigo ids id i) = some (some b, T) → c'.own i = some (some b, T) := fun i b T ⟨T', cs, hx⟩ h1 => by
    obtain ⟨ob, h2, _⟩ := hh.blk i T' cs hx
    have h3 := hto i _ h2
    rw [h1] at h3
    rw [h2, ← h3]
  have hh2 : Heap E (fun j => nx j ∨ (id ≤ j ∧ j < id + 8)) ⟨c'.w, c'.S, own2⟩ (over (wcall (sigo ids id) 0 H') g) := by
    refine { ids := fun j x hx => ?_, blk := fun j T cs hx => ?_, inj := fun j1 j2 b T T' l1 l2 h3 h4 => ?_, apart := fun j b T l1 h2 => ?_, bnd := fun j b T h1 => ?_, sok := hh.sok, os := hh.os.trans hI.os, tape := hh.tape.trans hI.tape, output := hh.output.trans hI.output,
             size := Nat.le_trans hI.size hh.size, same := fun b hb hB => ?_, laid := hI.laid, s0 := fun b hb => (hk'.S b (hI.s0 b hb)).1, s1 := fun b hb => ?_, keep := hI.keep.trans hk }
    · by_cases e : id ≤ j ∧ j < id + 8
      · exact .inr e
      · have hx' : own2 j = _ := hx
        rw [hown2 j e] at hx'
        exact .inl (hI.ids j x hx')
    · rcases hgo j with ⟨h1, h2⟩ | ⟨i, h1, h2, h3⟩
      · rw [h1] at hx
        obtain ⟨ob, h3, h4⟩ := hI.blk j T cs hx
        refine ⟨ob, (hown2 j (hfresh j _ h3)).trans h3, h4.mono hk fun b hb => ?_⟩
        subst hb
        exact hh.same b (hI.bnd j b T h3) (hnb j b T ⟨T, cs, hx⟩ h2 h3)
      · rw [h3] at hx
        cases hy : H'.getD i none with
        | none => rw [hy] at hx; cases hx
        | some y =>
          rw [hy] at hx
          simp only [Option.some.injEq, Val.blk.injEq] at hx
          obtain ⟨rfl, rfl⟩ := hx
          obtain ⟨ob, h4, h5, h6⟩ := hh.blk i y.1 y.2 (by rw [hSt_b, hy])
          refine ⟨ob, by rw [h2]; exact hto i _ h4, ones_renL.2 h5, ?_⟩
          rcases h6 with ⟨h6, h7⟩ | ⟨b, arr, h6, h7, h8, h9⟩
          · exact .inl ⟨h6, by rw [h7]; rfl⟩
          · refine .inr ⟨b, arr, h6, h7, by rw [renL_length]; exact h8, fun j hj => ?_⟩
            rw [renL_length] at hj
            rw [renL_get _ _ j hj]
            exact rep_to (c := c') (c' := ⟨c'.w, c'.S, own2⟩) rfl rfl hto (h9 j hj)
    · have h3' : own2 j1 = _ := h3
      have h4' : own2 j2 = _ := h4
      rcases hlv2 j1 l1 with ⟨e1, n1⟩ | ⟨i1, e1, rfl⟩ <;> rcases hlv2 j2 l2 with ⟨e2, n2⟩ | ⟨i2, e2, rfl⟩
      · obtain ⟨T1, cs1, hx1⟩ := e1
        obtain ⟨T2, cs2, hx2⟩ := e2
        obtain ⟨ob1, q1, _⟩ := hI.blk j1 _ _ hx1
        obtain ⟨ob2, q2, _⟩ := hI.blk j2 _ _ hx2
        rw [hown2 j1 (hfresh j1 _ q1)] at h3'
        rw [hown2 j2 (hfresh j2 _ q2)] at h4'
        exact hI.inj j1 j2 b T T' ⟨T1, cs1, hx1⟩ ⟨T2, cs2, hx2⟩ h3' h4'
      · obtain ⟨T1, cs1, hx1⟩ := e1
        obtain ⟨ob1, q1, _⟩ := hI.blk j1 _ _ hx1
        rw [hown2 j1 (hfresh j1 _ q1)] at h3'
        have h5 := hcl i2 b T' e2 h4'
        rcases (hh.apart i2 b T' e2 h5).2 with h6 | h6
        · exact absurd h6 (hnb j1 b T ⟨T1, cs1, hx1⟩ n1 h3')
        · have := hI.bnd j1 b T h3'
          rw [hcw] at h6
          omega
      · obtain ⟨T1, cs1, hx1⟩ := e2
        obtain ⟨ob1, q1, _⟩ := hI.blk j2 _ _ hx1
        rw [hown2 j2 (hfresh j2 _ q1)] at h4'
        have h5 := hcl i1 b T e1 h3'
        rcases (hh.apart i1 b T e1 h5).2 with h6 | h6
        · exact absurd h6 (hnb j2 b T' ⟨T1, cs1, hx1⟩ n2 h4')
        · have := hI.bnd j2 b T' h4'
          rw [hcw] at h6
          omega
      · have h5 := hcl i1 b T e1 h3'
        have h6 := hcl i2 b T' e2 h4'
        rw [hh.inj i1 i2 b T T' e1 e2 h5 h6]
    · have h2' : own2 j = _ := h2
      rcases hlv2 j l1 with ⟨e1, n1⟩ | ⟨i1, e1, rfl⟩
      · obtain ⟨T1, cs1, hx1⟩ := e1
        obtain ⟨ob1, q1, _⟩ := hI.blk j _ _ hx1
        rw [hown2 j (hfresh j _ q1)] at h2'
        have hap := hI.apart j b T ⟨T1, cs1, hx1⟩ h2'
        have hlt := hI.bnd j b T h2'
        refine ⟨fun hS => ?_, hap.2⟩
        rcases hh.s1 b hS with h5 | h5 | h5
        · exact hap.1 h5
        · exact hnb j b T ⟨T1, cs1, hx1⟩ n1 h2' h5
        · rw [hcw] at h5; omega
      · have h5 := hcl i1 b T e1 h2'
        have hap := hh.apart i1 b T e1 h5
        refine ⟨hap.1, ?_⟩
        rcases hap.2 with h6 | h6
        · exact (hborE b h6).2
        · rw [hcw] at h6
          have := hI.size
          exact .inr (by omega)
    · have h1' : own2 j = _ := h1
      by_cases e : id ≤ j ∧ j < id + 8
      · have h2 : c'.own (j - id + ids.length) = some (some b, T) := by
          have : own2 j = c'.own (j - id + ids.length) := if_pos e
          rw [← this]; exact h1'
        exact hh.bnd _ b T h2
      · rw [hown2 j e] at h1'
        have := hI.bnd j b T h1'
        have h3 := hh.size
        rw [hcw] at h3
        show b < c'.w.heap.size
        omega
    · have h1 := hI.size
      refine (hh.same b (by rw [hcw]; omega) fun hb2 => ?_).trans (hI.same b hb hB)
      rcases (hborE b hb2).2 with h2 | h2
      · exact hB h2
      · omega
    · rcases hh.s1 b hb with h5 | h5 | h5
      · exact hI.s1 b h5
      · exact .inr (hborE b h5).2
      · rw [hcw] at h5
        have := hI.size
        exact .inr (.inr (by omega))
  exact ⟨own2, hk, hto, hh2⟩
theorem call_any {E : Env} {nx : Nat → Prop} {c : Cx} {g : St} {a : Act} {o : Oper} {id : Nat} {K : Act → World → Prop} {Q : Exit → Act → World → Prop} {f : FuncId} {bs : List PV} {ids : List Nat} {H H' : Hp} {vs : Array Value} {G : Ending → Cx → Prop}
    (hn : ∀ t, t < 8 → ¬ nx (id + t)) (hI : Inv E nx c g a) (hb1 : H'.length ≤ ids.length + 8) (hb2 : nodupB ids = true) (hHl : H.length ≤ H'.length) (hlen : ids.length = H.length)
    (hlent : ∀ i, i < ids.length → ∃ T cs, H.getD i none = some (T, cs) ∧ g (kb (ids.getD i 0)) = some (.blk T (renL (sigi ids id) cs)))
    (hpc : ∀ (c : Cx) (vs : Array Value), Heap (cEnv E.P c H) (· < H.length) c (hSt H) → RL E.P c bs vs → Calls E.P f vs c.w fun e w' => ∃ c', c'.w = w' ∧ Heap (cEnv E.P c H) (· < H'.length) c' (hSt H') ∧ G e c')
    (hrl : RL E.P c (renL (sigi ids id) bs) vs) (hex : (execOp a.eval o).run E.P c.w = .ok (.enter f vs) c.w)
    (fin : ∀ e (c' : Cx) own2, G e c' → Keep c ⟨c'.w, c'.S, own2⟩ → (∀ i x, c'.own i = some x → own2 (sigo ids id i) = some x) → Heap E (fun j => nx j ∨ (id ≤ j ∧ j < id + 8)) ⟨c'.w, c'.S, own2⟩ (over (wcall (sigo ids id) 0 H') g) → callEnd o a K Q e c'.w) :
    o.wp E.P a c.w K Q := by
  have hcc := lend_heap hn hI.toHeap hb2 hlen hlent
  have hras : RL E.P (c.via (sigi ids id)) bs vs := by
    refine ⟨by rw [hrl.1, renL_length], fun i hi => ?_⟩
    exact rep_via (hrl.2 i (by rw [renL_length]; exact hi)) _ (renL_get _ _ i hi)
  unfold Oper.wp
  rw [hex, Oper.upon_enter]
  refine Calls.mono (R := fun e w' => callEnd o a K Q e w') ?_ fun e w' h => by cases e <;> exact h
  refine (hpc _ vs hcc hras).mono ?_
  rintro e w' ⟨c', rfl, hh, hG⟩
  obtain ⟨own2, hk, hto, hh2⟩ := back_heap hb1 hHl hn hI.toHeap hb2 hlen hlent hh
  exact fin e c' own2 hG hk hto hh2
theorem call_core {E : Env} {nx : Nat → Prop} {c : Cx} {g : St} {a : Act} {o : Oper} {id : Nat} {K : Act → World → Prop} {Q : Exit → Act → World → Prop} {f : FuncId} {args bs : List PV} {ids : List Nat} {H H' : Hp} {r p : PV} {wb : L} {vs : Array Value}
    (hd : ∀ x, o.dst = some x → x < E.n) (hn : ∀ t, t < 8 → ¬ nx (id + t)) (hI : Inv E nx c g a)
    (hK : ∀ c' a', Inv E (fun j => nx j ∨ (id ≤ j ∧ j < id + 8)) c' (over (wd o.dst p) (over wb g)) a' → K a' c'.w)
    (h : Res g (callP E.P f args id ids bs H r H') p wb) (hrl : RL E.P c args vs) (hex : FnOk E.P f → (execOp a.eval o).run E.P c.w = .ok (.enter f vs) c.w) : o.wp E.P a c.w K Q := by
  unfold callP at h
  split at h
  case h_2 => exact (Res.fail h).elim
  rename_i hb1 hb2
  obtain ⟨⟨hfn, hHl, hpc⟩, h1⟩ := Res.ob h
  obtain ⟨rfl, h2⟩ := Res.ob h1
  obtain ⟨hlen, h3, hlent⟩ := lent_ok h2
  obtain ⟨rfl, rfl⟩ := Res.done h3
  refine call_any (G := fun e c' => ∃ v, e = .returned v ∧ Rep E.P c' r v) hn hI (Nat.le_of_ble_eq_true hb1) hb2 hHl hlen hlent (fun c vs h1 h2 => (hpc c vs h1 h2).mono ?_) hrl (hex hfn) ?_
  · rintro e w' ⟨v, c', rfl, rfl, h4, h5⟩
    exact ⟨c', rfl, h4, v, rfl, h5⟩
  · rintro e c' own2 ⟨v, rfl, hrep⟩ hk hto hh2
    exact hK ⟨c'.w, c'.S, own2⟩ _ (Inv.put hI hk _ (fun s => lk_wcall_s s) hh2 o.dst hd fun _ => rep_to (c := c') (c' := ⟨c'.w, c'.S, own2⟩) rfl rfl hto hrep)
theorem RL.czs {P : Program} {c : Cx} {ps : List PV} {vs : Array Value} (h : RL P c ps vs) : RL P c (ps.map cz) vs := by
  refine ⟨by simpa using h.1, fun i hi => ?_⟩
  have hi' : i < ps.length := by simpa using hi
  have := rep_cz (h.2 i hi')
  simpa [List.getD_eq_getElem?_getD, hi'] using this
theorem aCall_ok {E : Env} {o : Oper} {id : Nat} {fx : Operand} {xs : Array Operand} {ts : Array TypeId} {an : Ans} (ho : o.op = .call { callee := .value fx, args := xs, argTypes := ts }) (hd : ∀ x, o.dst = some x → x < E.n) : ActOk E o id (aCall E.P fx xs.toList an id) := by
  intro g p wb h nx c a K Q hn hI hK
  obtain ⟨q, hq, h1⟩ := Res.opd hI h
  obtain ⟨ps, hps, h2⟩ := Res.opdl hI h1
  clear h h1
  have hps' : RL E.P c ps (xs.map a.eval) := by
    have e : (xs.toList.map a.eval).toArray = xs.map a.eval := by apply Array.ext'; simp
    rw [← e]; exact hps
  have key : ∀ {f : FuncId} {fs cs : Array Value}, a.eval fx = .func (.func f) fs cs → FnOk E.P f → (execOp a.eval o).run E.P c.w = .ok (.enter f (fs ++ xs.map a.eval ++ cs)) c.w := by
    rintro f fs cs hv ⟨fn, h1, h2, h3⟩
    have h4 : (callFunc f (fs ++ xs.map a.eval ++ cs)).run E.P c.w = .ok (.enter f (fs ++ xs.map a.eval ++ cs)) c.w := by
      have h2' : ¬ fn.body = none := fun e => by rw [e] at h2; cases h2
      have h3' : ¬ fn.name = "runtime.NumGoroutine" := by simpa using h3
      simp [callFunc, h1, h3', h2']
    simp only [execOp, ho, resolve, hv, Deferred.ofValue, invoke, Sem.run_bind, Sem.run_pure, Result.andThen_ok]
    exact h4
  split at h2
  · rename_i f fs cs ids bs H r H'
    exact call_core hd hn hI hK h2 (((avs_rl fs).append hps'.czs).append (avs_rl cs)) (key (rep_av hq))
  · rename_i f fs cs ids bs H r H'
    obtain ⟨vs, us, hv, h3, h4, h5, h6⟩ := rep_fn hq
    exact call_core hd hn hI hK h2 (RL.append (RL.append ⟨h3, h5⟩ hps'.czs) ⟨h4, h6⟩) (key hv)
  · exact (Res.fail h2).elim
end Go.Proofs.Ytfibadnkhbjciaa.Pm
namespace Go.Proofs.Ytfibadnkhbjciaa.Pm
open Go

theorem run_equalIn_ptr {P : Program} (w : World) (d : Nat) {T e : TypeId} (hu : P.underlying T = some (.pointer e)) (a : Option Addr) : (Op.equalIn (d + 1) T (.pointer a) (.pointer none)).run P w = .ok a.isNone w := by
  rw [Op.equalIn]
  simp only [Sem.run_bind, run_underlying hu, Result.andThen_ok]
  cases a <;> rfl
theorem run_eq_ptr {P : Program} (w : World) {T e : TypeId} (hu : P.underlying T = some (.pointer e)) (ng : Bool) (a : Option Addr) : (binOp (match ng with | true => .neq | false => .eql) T (.pointer a) (.pointer none)).run P w = .ok (.bool (match ng with | true => !a.isNone | false => a.isNone)) w := by
  cases ng with
  | false =>
    show (do pure (.bool (← Op.equal T (.pointer a) (.pointer none))) : Sem Value).run P w = _
    simp only [Op.equal, show Op.maxDepth = 9999 + 1 from rfl, Sem.run_bind, run_equalIn_ptr w 9999 hu, Result.andThen_ok]
    rfl
  | true =>
    show (do pure (.bool (!(← Op.equal T (.pointer a) (.pointer none)))) : Sem Value).run P w = _
    simp only [Op.equal, show Op.maxDepth = 9999 + 1 from rfl, Sem.run_bind, run_equalIn_ptr w 9999 hu, Result.andThen_ok]
    rfl
theorem run_equalIn_sl {P : Program} (w : World) (d : Nat) {T e : TypeId} (hu : P.underlying T = some (.slice e)) (a : Option Addr) (n m n' m' : Nat) : (Op.equalIn (d + 1) T (.slice a n m) (.slice none n' m')).run P w = .ok a.isNone w := by
  rw [Op.equalIn]
  simp only [Sem.run_bind, run_underlying hu, Result.andThen_ok]
  cases a <;> rfl
theorem run_eq_sl {P : Program} (w : World) {T e : TypeId} (hu : P.underlying T = some (.slice e)) (ng : Bool) (a : Option Addr) (n m n' m' : Nat) : (binOp (match ng with | true => .neq | false => .eql) T (.slice a n m) (.slice none n' m')).run P w = .ok (.bool (match ng with | true => !a.isNone | false => a.isNone)) w := by
  cases ng with
  | false =>
    show (do pure (.bool (← Op.equal T (.slice a n m) (.slice none n' m'))) : Sem Value).run P w = _
    simp only [Op.equal, show Op.maxDepth = 9999 + 1 from rfl, Sem.run_bind, run_equalIn_sl w 9999 hu, Result.andThen_ok]
    rfl
  | true =>
    show (do pure (.bool (!(← Op.equal T (.slice a n m) (.slice none n' m')))) : Sem Value).run P w = _
    simp only [Op.equal, show Op.maxDepth = 9999 + 1 from rfl, Sem.run_bind, run_equalIn_sl w 9999 hu, Result.andThen_ok]
    rfl
def ngB (ng b : Bool) : Bool := match ng with | true => !b | false => b
def aEqP (u : Option TypeDesc) (ng : Bool) (x y : Operand) : Plan := opd x fun p => opd y fun q => match u, p, q with
  | some (.pointer _), .opt _ _, .av (.pointer none) => bit ng
  | some (.pointer _), .spt _ _, .av (.pointer none) => bit ng
  | some (.pointer _), .av (.pointer none), .av (.pointer none) => bit (!ng)
  | some (.slice _), .osl _ _ n, .av (.slice none _ _) => .ob (0 < n) (bit ng)
  | some (.slice _), .ssl _ _ n, .av (.slice none _ _) => .ob (0 < n) (bit ng)
  | some (.slice _), .av (.slice none _ _), .av (.slice none _ _) => bit (!ng)
  | _, _, _ => .fail
theorem aEqP_ok {E : Env} {o : Oper} {id : Nat} {ng : Bool} {T U : TypeId} {x y : Operand} (ho : o.op = .binOp (match ng with | true => .neq | false => .eql) T x y U) (hd : ∀ x, o.dst = some x → x < E.n) : ActOk E o id (aEqP (E.P.underlying T) ng x y) := by
  intro g p wb h nx c a K Q hn hI hK
  obtain ⟨q1, hq1, h1⟩ := Res.opd hI h
  obtain ⟨q2, hq2, h2⟩ := Res.opd hI h1
  clear h h1
  have key : ∀ {e : TypeId} {ad : Option Addr}, E.P.underlying T = some (.pointer e) → a.eval x = .pointer ad → a.eval y = .pointer none → p = .av (.bool (ngB ng ad.isNone)) → wb = [] → o.wp E.P a c.w K Q := by
    intro e ad hu hx hy hp hw
    subst hp; subst hw
    refine pure_step hd hI hK (.sh (.av _)) ?_
    have h3 := run_eq_ptr c.w hu ng ad
    unfold ngB
    have h4 : ∀ op : BinOp, (eqGuard op T x y (.pointer ad) (.pointer none)).run E.P c.w = .ok () c.w := fun op => by cases op <;> simp [eqGuard]
    cases ng with
    | true => simp only at h3 ho; simp [execOp, ho, hx, hy, h4, h3]
    | false => simp only at h3 ho; simp [execOp, ho, hx, hy, h4, h3]
  have keyS : ∀ {e : TypeId} {ad : Option Addr} {n m n' m' : Nat}, E.P.underlying T = some (.slice e) → a.eval x = .slice ad n m → a.eval y = .slice none n' m' → p = .av (.bool (ngB ng ad.isNone)) → wb = [] → o.wp E.P a c.w K Q := by
    intro e ad n m n' m' hu hx hy hp hw
    subst hp; subst hw
    refine pure_step hd hI hK (.sh (.av _)) ?_
    have h3 := run_eq_sl c.w hu ng ad n m n' m'
    unfold ngB
    have h4 : ∀ op : BinOp, (eqGuard op T x y (.slice ad n m) (.slice none n' m')).run E.P c.w = .ok () c.w := fun op => by cases op <;> simp [eqGuard]
    cases ng with
    | true => simp only at h3 ho; simp [execOp, ho, hx, hy, h4, h3]
    | false => simp only at h3 ho; simp [execOp, ho, hx, hy, h4, h3]
  generalize hu : E.P.underlying T = u at h2
  split at h2
  · obtain ⟨rfl, rfl⟩ := Res.done h2
    obtain ⟨b, T', ho1, hv⟩ := rep_opt hq1
    exact key hu hv (rep_av hq2) (by cases ng <;> rfl) rfl
  · obtain ⟨rfl, rfl⟩ := Res.done h2
    obtain ⟨b, a', vf, hv, _⟩ := rep_spt hq1
    exact key hu hv (rep_av hq2) (by cases ng <;> rfl) rfl
  · obtain ⟨rfl, rfl⟩ := Res.done h2
    exact key hu (rep_av hq1) (rep_av hq2) (by cases ng <;> rfl) rfl
  · obtain ⟨h0, h3⟩ := Res.ob h2
    obtain ⟨rfl, rfl⟩ := Res.done h3
    obtain ⟨ob, T2, hown, hv⟩ := rep_osl hq1
    rcases hv with ⟨ad, hv, hn⟩ | ⟨b, cap, cs2, hob, hv, _⟩
    · omega
    · exact keyS hu hv (rep_av hq2) (by cases ng <;> rfl) rfl
  · obtain ⟨h0, h3⟩ := Res.ob h2
    obtain ⟨rfl, rfl⟩ := Res.done h3
    rcases rep_ssl hq1 with ⟨ad, cap, hv, hn⟩ | ⟨b, a', cap, vf, hv, _⟩
    · omega
    · exact keyS hu hv (rep_av hq2) (by cases ng <;> rfl) rfl
  · obtain ⟨rfl, rfl⟩ := Res.done h2
    exact keyS hu (rep_av hq1) (rep_av hq2) (by cases ng <;> rfl) rfl
  · exact (Res.fail h2).elim
def aMax3 (mx : Bool) (x y z : Operand) : Plan := opd x fun p => opd y fun q => opd z fun r => match p, q, r with
  | .av (.int k a), .av (.int _ b), .av (.int _ c) => .done (.av (.int k (match mx with | true => max (max a b) c | false => min (min a b) c))) []
  | _, _, _ => .fail
theorem aMax3_ok {E : Env} {o : Oper} {id : Nat} {x y z : Operand} {ts : Array TypeId} (ho : o.op = .call { callee := .builtin .max, args := #[x, y, z], argTypes := ts }) (hd : ∀ x, o.dst = some x → x < E.n) : ActOk E o id (aMax3 true x y z) := by
  intro g p wb h nx c a K Q hn hI hK
  obtain ⟨q1, hq1, h1⟩ := Res.opd hI h
  obtain ⟨q2, hq2, h2⟩ := Res.opd hI h1
  obtain ⟨q3, hq3, h3⟩ := Res.opd hI h2
  split at h3
  · rename_i k m k2 n k3 l
    obtain ⟨rfl, rfl⟩ := Res.done h3
    refine pure_step hd hI hK (.sh (.av _)) ?_
    have e : max (max m n) l = if l > (if n > m then n else m) then l else (if n > m then n else m) := by split <;> split <;> omega
    simp [execOp, ho, resolve, invoke, builtin, rep_av hq1, rep_av hq2, rep_av hq3, Builtin.max_, Builtin.max2, e]
  · exact (Res.fail h3).elim
theorem aMin3_ok {E : Env} {o : Oper} {id : Nat} {x y z : Operand} {ts : Array TypeId} (ho : o.op = .call { callee := .builtin .min, args := #[x, y, z], argTypes := ts }) (hd : ∀ x, o.dst = some x → x < E.n) : ActOk E o id (aMax3 false x y z) := by
  intro g p wb h nx c a K Q hn hI hK
  obtain ⟨q1, hq1, h1⟩ := Res.opd hI h
  obtain ⟨q2, hq2, h2⟩ := Res.opd hI h1
  obtain ⟨q3, hq3, h3⟩ := Res.opd hI h2
  split at h3
  · rename_i k m k2 n k3 l
    obtain ⟨rfl, rfl⟩ := Res.done h3
    refine pure_step hd hI hK (.sh (.av _)) ?_
    have e : min (min m n) l = if l < (if n < m then n else m) then l else (if n < m then n else m) := by split <;> split <;> omega
    simp [execOp, ho, resolve, invoke, builtin, rep_av hq1, rep_av hq2, rep_av hq3, Builtin.min_, Builtin.min2, e]
  · exact (Res.fail h3).elim
end Go.Proofs.Ytfibadnkhbjciaa.Pm
namespace Go.Proofs.Ytfibadnkhbjciaa.Pm
open Go

/-! ### an own row, laid down for good -/
def PV.shd : PV → Bool
  | .av _ => true
  | .ssl _ _ _ => true
  | .spt _ _ => true
  | .err => true
  | _ => false
def shds (cs : List PV) : Prop := ∀ p ∈ cs, PV.shd p = true
theorem shd_rep {P : Program} {c : Cx} {p : PV} {v : Value} (h : Rep P c p v) (hs : p.shd = true) : SRep c.w c.S p v := by
  cases h with
  | sh h => exact h
  | agg => cases hs
  | tup => cases hs
  | osl => cases hs
  | opt => cases hs
  | opn => cases hs
  | fn => cases hs
mutual
def frz (id : Nat) (cs : List PV) : PV → PV
  | .osl i off len => match Nat.beq i id with | true => .ssl cs off len | false => .osl i off len
  | .opt i off => match Nat.beq i id with | true => .spt cs off | false => .opt i off
  | .opn i off => .opn i off
  | .agg l => .agg (frzL id cs l)
  | .tup l => .tup (frzL id cs l)
  | .fn f l m => .fn f (frzL id cs l) (frzL id cs m)
  | .av v => .av v
  | .ssl l off len => .ssl l off len
  | .spt l off => .spt l off
  | .err => .err
def frzL (id : Nat) (cs : List PV) : List PV → List PV
  | [] => []
  | p :: l => frz id cs p :: frzL id cs l
end
theorem frzL_length (id : Nat) (cs : List PV) : ∀ l, (frzL id cs l).length = l.length
  | [] => rfl
  | _ :: l => by simp [frzL, frzL_length id cs l]
theorem frzL_get (id : Nat) (cs : List PV) : ∀ (l : List PV) (i : Nat), i < l.length → (frzL id cs l).getD i P0 = frz id cs (l.getD i P0)
  | p :: l, 0, _ => rfl
  | p :: l, i + 1, h => by
    have := frzL_get id cs l i (by simpa using h)
    simpa [frzL, List.getD_eq_getElem?_getD] using this
theorem one_frz (id : Nat) (cs : List PV) (p : PV) : (frz id cs p).one = p.one := by
  cases p <;> simp only [frz] <;> first | rfl | (split <;> rfl)
theorem ones_frzL {id : Nat} {cs : List PV} : ∀ {l : List PV}, ones l → ones (frzL id cs l)
  | [], _ => fun p hp => by cases hp
  | p :: l, h => by
    intro q hq
    simp only [frzL, List.mem_cons] at hq
    rcases hq with rfl | hq
    · rw [one_frz]; exact h p (by simp)
    · exact ones_frzL (fun p hp => h p (by simp [hp])) q hq
theorem srep_frz {w : World} {S : Nat → Prop} {id : Nat} {cs : List PV} {p : PV} {v : Value} (h : SRep w S p v) : SRep w S (frz id cs p) v := by
  induction h with
  | av v => exact .av _
  | agg hn _ ih => exact .agg (by rw [frzL_length]; exact hn) fun i hi => by rw [frzL_length] at hi; rw [frzL_get _ _ _ i hi]; exact ih i hi
  | tup hn _ ih => exact .tup (by rw [frzL_length]; exact hn) fun i hi => by rw [frzL_length] at hi; rw [frzL_get _ _ _ i hi]; exact ih i hi
  | emp => exact .emp
  | ssl hS hc h ho hl _ => exact .ssl hS hc h ho hl
  | spt hS hc h ho _ => exact .spt hS hc h ho
  | fn hn _ hm _ ih ik => exact .fn (by rw [frzL_length]; exact hn) (fun i hi => by rw [frzL_length] at hi; rw [frzL_get _ _ _ i hi]; exact ih i hi) (by rw [frzL_length]; exact hm) (fun i hi => by rw [frzL_length] at hi; rw [frzL_get _ _ _ i hi]; exact ik i hi)
  | err t v => exact .err t v
theorem rep_frz {P : Program} {c c' : Cx} {id : Nat} {cs : List PV} {ob : Option Nat} {T : TypeId} (hw : c'.w = c.w) (hS : ∀ b, c.S b → c'.S b) (hown : c'.own = c.own) (ho : c.own id = some (ob, T)) (hone : ones cs)
    (hb : ∀ b, ob = some b → c'.S b ∧ ∃ arr : Array Value, c.w.heap[b]? = some (.cells arr T (0, 0)) ∧ cs.length ≤ arr.size ∧ ∀ j, j < cs.length → SRep c'.w c'.S (cs.getD j P0) (arr.getD j undef)) {p : PV} {v : Value} (h : Rep P c p v) : Rep P c' (frz id cs p) v := by
  induction h with
  | sh h => exact .sh (srep_frz (h.mono fun b hb => ⟨hS b hb, by rw [hw]⟩))
  | agg hn _ ih => exact .agg (by rw [frzL_length]; exact hn) fun i hi => by rw [frzL_length] at hi; rw [frzL_get _ _ _ i hi]; exact ih i hi
  | tup hn _ ih => exact .tup (by rw [frzL_length]; exact hn) fun i hi => by rw [frzL_length] at hi; rw [frzL_get _ _ _ i hi]; exact ih i hi
  | osl h1 h2 =>
    rename_i i off len v ob' T'
    simp only [frz]
    split
    · rename_i e
      have e := Nat.eq_of_beq_eq_true e
      subst e
      rw [ho] at h1
      cases h1
      rcases h2 with ⟨a, rfl, rfl⟩ | ⟨b, cap, arr', rfl, rfl, h3, h4, h5⟩
      · exact .sh .emp
      · obtain ⟨q1, arr, q2, q3, q4⟩ := hb b rfl
        have := SRep.ssl (w := c'.w) (S := c'.S) (cs := cs) (off := off) (len := len) (b := b) (a := 0) (cap := cap) (vf := fun j => arr.getD j undef) q1 (fun j hj => by
          have : j < arr.size := by omega
          rw [hw, Nat.zero_add, cell_of_row c.w _ _ arr _ _ q2]
          simp [Array.getD_eq_getD_getElem?, this]) q4 hone h4
        rw [Nat.zero_add] at this
        exact .sh this
    · exact .osl (by rw [hown]; exact h1) (by rw [hw]; exact h2)
  | opt h1 =>
    rename_i i off b T'
    simp only [frz]
    split
    · rename_i e
      have e := Nat.eq_of_beq_eq_true e
      subst e
      rw [ho] at h1
      cases h1
      obtain ⟨q1, arr, q2, q3, q4⟩ := hb b rfl
      have := SRep.spt (w := c'.w) (S := c'.S) (cs := cs) (off := off) (b := b) (a := 0) (vf := fun j => arr.getD j undef) q1 (fun j hj => by
        have : j < arr.size := by omega
        rw [hw, Nat.zero_add, cell_of_row c.w _ _ arr _ _ q2]
        simp [Array.getD_eq_getD_getElem?, this]) q4 hone
      rw [Nat.zero_add] at this
      exact .sh this
    · exact .opt (by rw [hown]; exact h1)
  | opn h => exact .opn (by rw [hown]; exact h)
  | fn hn _ hm _ ih ik => exact .fn (by rw [frzL_length]; exact hn) (fun i hi => by rw [frzL_length] at hi; rw [frzL_get _ _ _ i hi]; exact ih i hi) (by rw [frzL_length]; exact hm) (fun i hi => by rw [frzL_length] at hi; rw [frzL_get _ _ _ i hi]; exact ik i hi)
theorem over_kb_none {id : Nat} {g : St} (i : Nat) : over [(kb id, none)] g (kb i) = if i = id then none else g (kb i) := over_b id none g i
/-- An own row is laid down; its number is gone. -/
theorem inv_lay {E : Env} {nx : Nat → Prop} {c : Cx} {g : St} {a : Act} (hI : Inv E nx c g a) {id : Nat} {T : TypeId} {cs : List PV} (hg : g (kb id) = some (.blk T cs)) (hs : shds cs) :
    ∃ c', c'.w = c.w ∧ Keep c c' ∧ Inv E nx c' (over [(kb id, none)] g) a ∧ ∀ {p : PV} {v : Value}, Rep E.P c p v → Rep E.P c' (frz id cs p) v := by
  obtain ⟨ob, ho, hone, hbk⟩ := hI.blk id T cs hg
  let cx' : Cx := ⟨c.w, fun b => c.S b ∨ ob = some b, c.own⟩
  have hlive : Live g id := ⟨T, cs, hg⟩
  have hblk : ∀ b, ob = some b → cx'.S b ∧ ∃ arr : Array Value, c.w.heap[b]? = some (.cells arr T (0, 0)) ∧ cs.length ≤ arr.size ∧ ∀ j, j < cs.length → SRep cx'.w cx'.S (cs.getD j P0) (arr.getD j undef) := by
    intro b hb
    rcases hbk with ⟨h1, _⟩ | ⟨b', arr, h1, h2, h3, h4⟩
    · rw [hb] at h1; cases h1
    · obtain rfl : b' = b := by rw [hb] at h1; simpa using h1.symm
      refine ⟨.inr hb, arr, h2, h3, fun j hj => ?_⟩
      have hm : cs.getD j P0 ∈ cs := by simp [List.getD_eq_getElem?_getD, hj]
      exact (shd_rep (h4 j hj) (hs _ hm)).mono fun b hb => ⟨.inl hb, rfl⟩
  have hk : Keep c cx' := ⟨fun b hb => ⟨.inl hb, rfl⟩, fun _ _ h => h, Shape.refl _⟩
  have hl : ∀ i, Live (over [(kb id, none)] g) i → i ≠ id ∧ Live g i := fun i ⟨T', ds, h⟩ => by
    rw [over_kb_none] at h
    by_cases e : i = id
    · rw [if_pos e] at h; cases h
    · rw [if_neg e] at h; exact ⟨e, T', ds, h⟩
  refine ⟨cx', rfl, hk, { ids := hI.ids, blk := fun i T' ds h => ?_, inj := fun i j b T1 T2 l1 l2 => hI.inj i j b T1 T2 (hl i l1).2 (hl j l2).2, apart := fun i b T1 l1 h2 => ?_, bnd := hI.bnd, sok := fun b hb => ?_, os := hI.os, tape := hI.tape, output := hI.output, size := hI.size, same := hI.same, laid := hI.laid, s0 := fun b hb => .inl (hI.s0 b hb), s1 := fun b hb => ?_, keep := hI.keep.trans hk, tmps := hI.tmps, dfr := hI.dfr, slot := fun s p hp => ?_, isv := fun s x hx => ?_ }, fun h => rep_frz (c := c) (c' := cx') rfl (fun _ h => Or.inl h) rfl ho hone hblk h⟩
  · rw [over_kb_none] at h
    by_cases e : i = id
    · rw [if_pos e] at h; cases h
    · rw [if_neg e] at h
      obtain ⟨ob', h3, h4⟩ := hI.blk i T' ds h
      exact ⟨ob', h3, h4.mono hk fun b _ => rfl⟩
  · obtain ⟨h1, h3⟩ := hl i l1
    have hap := hI.apart i b T1 h3 h2
    refine ⟨fun hb => ?_, hap.2⟩
    rcases hb with hb | hb
    · exact hap.1 hb
    · subst hb
      exact h1 (hI.inj i id b T1 T h3 hlive h2 ho)
  · rcases hb with hb | hb
    · exact hI.sok b hb
    · subst hb; exact hI.bnd id b T ho
  · rcases hb with hb | hb
    · exact hI.s1 b hb
    · subst hb; exact .inr (hI.apart id b T hlive ho).2
  · rw [over_s] at hp
    exact (hI.slot s p hp).mono hk
  · rw [over_s] at hx
    exact hI.isv s x hx
def killL (js : List Nat) : L := js.map fun j => (kb j, none)
def frzF1 : List (Nat × List PV) → PV → PV
  | [], p => p
  | (j, cs) :: F, p => frzF1 F (frz j cs p)
theorem killL_s (js : List Nat) (s : Nat) : lk (ks s) (killL js) = none := by
  induction js with
  | nil => rfl
  | cons j js ih => simp only [killL, List.map_cons, lk, beq_ksb] at ih ⊢; exact ih
theorem killL_miss : ∀ {js : List Nat} {i : Nat}, (∀ j ∈ js, j ≠ i) → lk (kb i) (killL js) = none
  | [], _, _ => rfl
  | j :: js, i, h => by
    have ih := killL_miss (js := js) (i := i) fun x hx => h x (by simp [hx])
    simp only [killL, List.map_cons, lk, beq_kb] at ih ⊢
    rw [decide_eq_false (fun e => h j (by simp) e.symm)]
    exact ih
theorem inv_lays {E : Env} {nx : Nat → Prop} {a : Act} : ∀ {F : List (Nat × List PV)} {c : Cx} {g : St}, Inv E nx c g a → nodupB (F.map (·.1)) = true → (∀ x ∈ F, ∃ T, g (kb x.1) = some (.blk T x.2) ∧ shds x.2) →
    ∃ c', c'.w = c.w ∧ Keep c c' ∧ Inv E nx c' (over (killL (F.map (·.1))) g) a ∧ ∀ {p : PV} {v : Value}, Rep E.P c p v → Rep E.P c' (frzF1 F p) v
  | [], c, g, hI, _, _ => ⟨c, rfl, Keep.refl c, hI, fun h => h⟩
  | (j, cs) :: F, c, g, hI, hn, h => by
    simp only [List.map_cons, nodupB, Bool.and_eq_true] at hn
    obtain ⟨T, hg, hs⟩ := h (j, cs) (by simp)
    obtain ⟨c1, e1, k1, i1, r1⟩ := inv_lay hI hg hs
    have hne : ∀ x ∈ F, x.1 ≠ j := fun x hx e => by
      have := List.all_eq_true.1 hn.1 x.1 (List.mem_map.2 ⟨x, hx, rfl⟩)
      rw [e, Nat.beq_refl] at this
      cases this
    obtain ⟨c2, e2, k2, i2, r2⟩ := inv_lays (F := F) i1 hn.2 fun x hx => by
      obtain ⟨T', h1, h2⟩ := h x (by simp [hx])
      exact ⟨T', by rw [over_kb_none, if_neg (hne x hx)]; exact h1, h2⟩
    refine ⟨c2, e2.trans e1, k1.trans k2, ?_, fun hr => r2 (r1 hr)⟩
    have e3 : over (killL (((j, cs) :: F).map (·.1))) g = over (killL (F.map (·.1))) (over [(kb j, none)] g) := by
      funext k
      rw [← over_append]
      simp only [List.map_cons, killL, over]
      -- the key j stands at the head or at the end: the same
      by_cases hk : Nat.beq k (kb j) = true
      · have hk' := Nat.eq_of_beq_eq_true hk
        subst hk'
        have hm := killL_miss (js := F.map (·.1)) (i := j) fun x hx => by
          obtain ⟨y, hy, rfl⟩ := List.mem_map.1 hx
          exact hne y hy
        have h5 : ∀ (l m : L), lk (kb j) l = none → lk (kb j) (l ++ m) = lk (kb j) m := fun l m hl => by
          induction l with
          | nil => rfl
          | cons y l ih =>
            obtain ⟨q, z⟩ := y
            simp only [lk, List.cons_append] at hl ⊢
            by_cases e : Nat.beq (kb j) q = true
            · rw [if_pos e] at hl; cases hl
            · rw [if_neg e] at hl ⊢; exact ih hl
        have h6 := h5 (killL (F.map (·.1))) [(kb j, none)] hm
        simp only [killL] at h6
        rw [h6]
        simp [lk, Nat.beq_refl]
      · have h5 : ∀ l : L, lk k (l ++ [(kb j, none)]) = lk k l := fun l => by
          induction l with
          | nil => simp only [List.nil_append, lk]; rw [if_neg hk]
          | cons y l ih =>
            obtain ⟨q, z⟩ := y
            simp only [lk, List.cons_append]
            rw [ih]
        simp only [lk]
        rw [if_neg hk, h5]
    rw [e3]
    exact i2
/-- A plan that doesn't look at some keys; these are gone behind it. -/
def Plan.avoid (js : List Nat) : Plan → Plan
  | .fail => .fail
  | .look k f => match (js.map kb).contains k with | true => .fail | false => .look k fun v => (f v).avoid js
  | .ob p q => .ob p (q.avoid js)
  | .done pv wb => .done pv (wb ++ killL js)
theorem over_killL {js : List Nat} {g : St} {k : Nat} (h : (js.map kb).contains k = false) : over (killL js) g k = g k := by
  have : lk k (killL js) = none := by
    induction js with
    | nil => rfl
    | cons j js ih =>
      simp only [List.map_cons, List.contains_cons, Bool.or_eq_false_iff] at h
      simp only [killL, List.map_cons, lk] at ih ⊢
      have h1 : Nat.beq k (kb j) = false := by
        rw [Bool.eq_false_iff]
        intro e
        have := Nat.eq_of_beq_eq_true e
        have h2 := h.1
        rw [this] at h2
        simp at h2
      rw [h1]
      exact ih h.2
  simp only [over, this]
theorem Res.avoid {js : List Nat} {g : St} : ∀ {pl : Plan} {p : PV} {wb : L}, Res g (pl.avoid js) p wb → ∃ wb', wb = wb' ++ killL js ∧ Res (over (killL js) g) pl p wb'
  | .fail, p, wb, h => (Res.fail h).elim
  | .look k f, p, wb, h => by
    simp only [Plan.avoid] at h
    split at h
    · exact (Res.fail h).elim
    · rename_i hc
      obtain ⟨v, h1, h2⟩ := Res.look h
      obtain ⟨wb', h3, o, h4, h5, h6, h7⟩ := Res.avoid h2
      refine ⟨wb', h3, { o with reads := k :: o.reads }, ?_, h5, h6, h7⟩
      simp only [run]
      rw [over_killL hc, h1]
      simp only
      rw [h4]
  | .ob q r, p, wb, h => by
    simp only [Plan.avoid] at h
    obtain ⟨h1, h2⟩ := Res.ob h
    obtain ⟨wb', h3, o, h4, h5, h6, h7⟩ := Res.avoid h2
    refine ⟨wb', h3, { o with obs := q :: o.obs }, ?_, h5, h6, fun x hx => ?_⟩
    · simp only [run]; rw [h4]
    · simp only [List.mem_cons] at hx
      rcases hx with rfl | hx
      · exact h1
      · exact h7 x hx
  | .done pv w, p, wb, h => by
    simp only [Plan.avoid] at h
    obtain ⟨rfl, rfl⟩ := Res.done h
    exact ⟨w, rfl, ⟨p, w, [], []⟩, rfl, rfl, rfl, fun _ hq => by cases hq⟩
def layP : List Nat → (List (Nat × List PV) → Plan) → Plan
  | [], k => k []
  | j :: js, k => .look (kb j) fun v => match v with | .blk _ cs => .ob (shds cs) (layP js fun F => k ((j, cs) :: F)) | .pv _ => .fail
theorem layP_ok {g : St} : ∀ {js : List Nat} {k : List (Nat × List PV) → Plan} {p : PV} {wb : L}, Res g (layP js k) p wb → ∃ F, F.map (·.1) = js ∧ (∀ x ∈ F, ∃ T, g (kb x.1) = some (.blk T x.2) ∧ shds x.2) ∧ Res g (k F) p wb
  | [], k, p, wb, h => ⟨[], rfl, (by simp), h⟩
  | j :: js, k, p, wb, h => by
    obtain ⟨v, h1, h2⟩ := Res.look h
    cases v with
    | pv _ => exact (Res.fail h2).elim
    | blk T cs =>
      obtain ⟨h3, h4⟩ := Res.ob h2
      obtain ⟨F, h5, h6, h7⟩ := layP_ok h4
      refine ⟨(j, cs) :: F, by simp [h5], fun x hx => ?_, h7⟩
      rcases List.mem_cons.1 hx with rfl | hx
      · exact ⟨T, h1, h3⟩
      · exact h6 x hx
/-- A call to which own rows are given for good. -/
def callPL (P : Program) (F : List (Nat × List PV)) (id : Nat) (fv : PV) (an : Ans) (args : List PV) : Plan := match fv, an with
  | .av (.func (.func f) fs cs), .call ids bs H r H' => callP P f (fs.toList.map .av ++ (args.map (frzF1 F)).map cz ++ cs.toList.map .av) id ids bs H r H'
  | _, _ => .fail
def aCallL (P : Program) (fx : Operand) (xs : List Operand) (js : List Nat) (an : Ans) (id : Nat) : Plan := match nodupB js with
  | true => layP js fun F => opd fx fun fv => opdl xs fun args => (callPL P F id fv an args).avoid js
  | false => .fail
theorem aCallL_ok {E : Env} {o : Oper} {id : Nat} {fx : Operand} {xs : Array Operand} {ts : Array TypeId} {js : List Nat} {an : Ans} (ho : o.op = .call { callee := .value fx, args := xs, argTypes := ts }) (hd : ∀ x, o.dst = some x → x < E.n) : ActOk E o id (aCallL E.P fx xs.toList js an id) := by
  intro g p wb h nx c a K Q hn hI hK
  unfold aCallL at h
  split at h
  case h_2 => exact (Res.fail h).elim
  rename_i hnd
  obtain ⟨F, hF, hFb, h1⟩ := layP_ok h
  obtain ⟨q, hq, h2⟩ := Res.opd hI h1
  obtain ⟨ps, hps, h3⟩ := Res.opdl hI h2
  clear h h1 h2
  obtain ⟨wb', rfl, h4⟩ := Res.avoid h3
  obtain ⟨c1, e1, k1, i1, r1⟩ := inv_lays hI (by rw [hF]; exact hnd) hFb
  rw [hF] at i1
  have hps' : RL E.P c1 (ps.map (frzF1 F)) (xs.map a.eval) := by
    have e : (xs.toList.map a.eval).toArray = xs.map a.eval := by apply Array.ext'; simp
    rw [← e]
    refine ⟨by simpa using hps.1, fun i hi => ?_⟩
    have hi' : i < ps.length := by simpa using hi
    have := r1 (hps.2 i hi')
    simpa [List.getD_eq_getElem?_getD, hi'] using this
  have key : ∀ {f : FuncId} {fs cs : Array Value}, a.eval fx = .func (.func f) fs cs → FnOk E.P f → (execOp a.eval o).run E.P c.w = .ok (.enter f (fs ++ xs.map a.eval ++ cs)) c.w := by
    rintro f fs cs hv ⟨fn, h1, h2, h3⟩
    have h4 : (callFunc f (fs ++ xs.map a.eval ++ cs)).run E.P c.w = .ok (.enter f (fs ++ xs.map a.eval ++ cs)) c.w := by
      have h2' : ¬ fn.body = none := fun e => by rw [e] at h2; cases h2
      have h3' : ¬ fn.name = "runtime.NumGoroutine" := by simpa using h3
      simp [callFunc, h1, h3', h2']
    simp only [execOp, ho, resolve, hv, Deferred.ofValue, invoke, Sem.run_bind, Sem.run_pure, Result.andThen_ok]
    exact h4
  unfold callPL at h4
  split at h4
  · rename_i f fs cs ids bs H r H'
    have e2 : over (wb' ++ killL js) g = over wb' (over (killL js) g) := over_append _ _ _
    rw [e2] at hK
    have hfn := key (rep_av hq)
    rw [← e1] at hfn ⊢
    exact call_core hd hn i1 hK h4 (((avs_rl fs).append hps'.czs).append (avs_rl cs)) hfn
  · exact (Res.fail h4).elim
end Go.Proofs.Ytfibadnkhbjciaa.Pm
namespace Go.Proofs.Ytfibadnkhbjciaa.Pm
open Go

theorem setCell_row {w : World} {b off : Nat} {cur : Array Value} {T : TypeId} {v : Value} (hb : w.heap[b]? = some (.cells cur T (0, 0))) (ho : off < cur.size) :
    w.setCell ⟨b, off, none⟩ v = w.setRow b (cur.toList.take off ++ [v] ++ cur.toList.drop (off + [v].length)).toArray := by
  unfold World.setCell World.setRow
  congr 1
  apply Array.ext_getElem?
  intro i
  rw [Array.getElem?_modify, Array.getElem?_modify]
  by_cases e : b = i
  · subst e
    rw [if_pos rfl, if_pos rfl, hb]
    simp only [Option.map_some, Option.isSome_none, Bool.false_eq_true, if_false, Option.some.injEq, Obj.cells.injEq, and_true]
    apply Array.ext'
    rw [Array.toList_setIfInBounds, List.set_eq_take_append_cons_drop, if_pos (by simpa using ho)]
    simp
  · rw [if_neg e, if_neg e]
/-- The function loads (stores) a number at a stroke. -/
def IsLoad (P : Program) (f : FuncId) (k : IntKind) : Prop := ∃ fn, P.funcs[f]? = some fn ∧ (fn.name == "runtime.NumGoroutine") = false ∧ fn.body.isNone = true ∧ Extern.findNext fn = none ∧ Extern.find fn = some (Extern.Atomic.loadT (.int k))
def IsStore (P : Program) (f : FuncId) : Prop := ∃ fn, P.funcs[f]? = some fn ∧ (fn.name == "runtime.NumGoroutine") = false ∧ fn.body.isNone = true ∧ Extern.findNext fn = none ∧ Extern.find fn = some Extern.Atomic.storeT
/-- The function tells a float's bits (makes a float of bits). -/
def IsBits (P : Program) (f : FuncId) : Prop := ∃ fn, P.funcs[f]? = some fn ∧ (fn.name == "runtime.NumGoroutine") = false ∧ fn.body.isNone = true ∧ Extern.findNext fn = none ∧ Extern.find fn = some Extern.MathFloatBits.float64bits
def IsFrom (P : Program) (f : FuncId) : Prop := ∃ fn, P.funcs[f]? = some fn ∧ (fn.name == "runtime.NumGoroutine") = false ∧ fn.body.isNone = true ∧ Extern.findNext fn = none ∧ Extern.find fn = some Extern.MathFloatBits.float64frombits
theorem run_call_ext {P : Program} {w : World} {f : FuncId} {fn : Func} {e : Array Value → Sem Value} {args : Array Value} {v : Value} (hf : P.funcs[f]? = some fn) (hname : (fn.name == "runtime.NumGoroutine") = false) (hb : fn.body.isNone = true) (hn : Extern.findNext fn = none)
    (he : Extern.find fn = some e) (hr : (e args).run P w = .ok v w) : (callFunc f args).run P w = .ok (.value v) w := by
  rw [run_callFunc_extern hf hname hb hn he, hr]
  rfl
def aExtL (P : Program) (fx : Operand) (xs : List Operand) : Plan := match fx, xs with
  | .func f, [x] => opd x fun p => match p with
    | .av (.float .f64 b) => .ob (IsBits P f) (.done (.av (.int .u64 b)) [])
    | .av (.int .u64 n) => .ob (IsFrom P f) (.done (.av (.float .f64 n.toNat)) [])
    | .opt id off => .look (kb id) fun v => match v with
      | .blk _ cells => match cells[off]? with
        | some (.av (.int k n)) => .ob (IsLoad P f k) (.done (.av (.int k n)) [])
        | _ => .fail
      | .pv _ => .fail
    | _ => .fail
  | _, _ => .fail
theorem aExtL_ok {E : Env} {o : Oper} {id : Nat} {fx : Operand} {xs : Array Operand} {ts : Array TypeId} (ho : o.op = .call { callee := .value fx, args := xs, argTypes := ts }) (hd : ∀ x, o.dst = some x → x < E.n) : ActOk E o id (aExtL E.P fx xs.toList) := by
  intro g p wb h nx c a K Q hn hI hK
  unfold aExtL at h
  split at h
  case h_2 => exact (Res.fail h).elim
  rename_i f x hx
  obtain ⟨q, hq, h1⟩ := Res.opd hI h
  have hxs1 : xs = #[x] := by apply Array.ext'; simpa using hx
  have ext : ∀ {v1 v : Value} {e : Array Value → Sem Value} {fn : Func}, q = .av v1 → E.P.funcs[f]? = some fn → (fn.name == "runtime.NumGoroutine") = false → fn.body.isNone = true → Extern.findNext fn = none → Extern.find fn = some e →
      (e #[v1]).run E.P c.w = .ok v c.w → p = .av v → wb = [] → o.wp E.P a c.w K Q := by
    intro v1 v e fn e1 f1 f2 f3 f4 f5 hr ep ew
    subst e1; subst ep; subst ew
    refine pure_step hd hI hK (.sh (.av _)) ?_
    simp only [execOp, ho, resolve, Act.eval, Deferred.ofValue, invoke, Sem.run_bind, Sem.run_pure, Result.andThen_ok]
    rw [show (#[] ++ Array.map a.eval xs ++ #[] : Array Value) = #[v1] from by rw [hxs1]; simp [rep_av hq]]
    exact run_call_ext f1 f2 f3 f4 f5 hr
  split at h1
  case h_4 => exact (Res.fail h1).elim
  case h_1 =>
    obtain ⟨⟨fn, f1, f2, f3, f4, f5⟩, h3⟩ := Res.ob h1
    obtain ⟨e1, e2⟩ := Res.done h3
    exact ext rfl f1 f2 f3 f4 f5 rfl e1 e2
  case h_2 =>
    obtain ⟨⟨fn, f1, f2, f3, f4, f5⟩, h3⟩ := Res.ob h1
    obtain ⟨e1, e2⟩ := Res.done h3
    exact ext rfl f1 f2 f3 f4 f5 rfl e1 e2
  rename_i id' off
  obtain ⟨bv, hg, h2⟩ := Res.look h1
  cases bv with
  | pv _ => exact (Res.fail h2).elim
  | blk T cells =>
    simp only at h2
    split at h2
    case h_2 => exact (Res.fail h2).elim
    rename_i k n hcell
    obtain ⟨⟨fn, f1, f2, f3, f4, f5⟩, h3⟩ := Res.ob h2
    obtain ⟨rfl, rfl⟩ := Res.done h3
    obtain ⟨b, T2, hown, hv⟩ := rep_opt hq
    obtain ⟨ob', hown', hone, hb⟩ := hI.blk id' T cells hg
    rw [hown] at hown'
    cases hown'
    have hlt : off < cells.length := (List.getElem?_eq_some_iff.1 hcell).1
    rcases hb with ⟨hb, _⟩ | ⟨b', vs, hb1, hb2, hb3, hb4⟩
    · cases hb
    obtain rfl : b' = b := by simpa using hb1.symm
    have hc := hb4 off hlt
    rw [List.getD_eq_getElem?_getD, hcell] at hc
    have hc := rep_av hc
    have hcl : c.w.cell? ⟨b', off, none⟩ = some (.int k n) := by
      rw [cell_of_row c.w _ _ vs _ _ hb2]
      have : off < vs.size := by omega
      rw [Array.getD_eq_getD_getElem?] at hc
      cases hx : vs[off]? with
      | none => rw [Array.getElem?_eq_none_iff] at hx; omega
      | some y => rw [hx] at hc; simp only [Option.getD_some] at hc; rw [hc]
    refine pure_step hd hI hK (.sh (.av _)) ?_
    have hr := run_call_load (P := E.P) f1 f2 f3 f4 k f5 hcl
    have hxs : xs.map a.eval = #[.pointer (some ⟨b', off, none⟩)] := by
      have : xs = #[x] := by apply Array.ext'; simpa using hx
      rw [this]
      simp [hv]
    simp only [execOp, ho, resolve, Act.eval, Deferred.ofValue, invoke, Sem.run_bind, Sem.run_pure, Result.andThen_ok]
    rw [show (#[] ++ Array.map a.eval xs ++ #[] : Array Value) = #[.pointer (some ⟨b', off, none⟩)] from by rw [hxs]; rfl]
    exact hr
/-- The function, which has no body, gives this of those. -/
def ExtTo (P : Program) (f : FuncId) (ps : List PV) (v : Value) : Prop := ∃ fn e, ∃ vs : List Value, ps = vs.map PV.av ∧ P.funcs[f]? = some fn ∧ (fn.name == "runtime.NumGoroutine") = false ∧ fn.body.isNone = true ∧ Extern.findNext fn = none ∧ Extern.find fn = some e ∧ ∀ w, (e vs.toArray).run P w = .ok v w
def aExtV (P : Program) (fx : Operand) (xs : List Operand) (q : PV) : Plan := match fx, q with
  | .func f, .av v => opdl xs fun ps => .ob (ExtTo P f ps v) (.done (.av v) [])
  | _, _ => .fail
theorem rl_avs {P : Program} {c : Cx} {vs : List Value} {bs : Array Value} (h : RL P c (vs.map PV.av) bs) : bs = vs.toArray := by
  obtain ⟨h1, h2⟩ := h
  apply Array.ext (by simpa using h1)
  intro i hi hj
  have hi' : i < vs.length := by simpa using hj
  have h3 := h2 i (by simpa using hi')
  rw [show (vs.map PV.av).getD i P0 = .av vs[i] from by simp [List.getD_eq_getElem?_getD, hi']] at h3
  have h4 := rep_av h3
  rw [Array.getD_eq_getD_getElem?, Array.getElem?_eq_getElem hi] at h4
  simpa using h4
theorem aExtV_ok {E : Env} {o : Oper} {id : Nat} {fx : Operand} {xs : Array Operand} {ts : Array TypeId} {q : PV} (ho : o.op = .call { callee := .value fx, args := xs, argTypes := ts }) (hd : ∀ x, o.dst = some x → x < E.n) : ActOk E o id (aExtV E.P fx xs.toList q) := by
  intro g p wb h nx c a K Q hn hI hK
  unfold aExtV at h
  split at h
  case h_2 => exact (Res.fail h).elim
  rename_i f v
  obtain ⟨ps, hps, h1⟩ := Res.opdl hI h
  obtain ⟨⟨fn, e, vs, rfl, f1, f2, f3, f4, f5, hr⟩, h3⟩ := Res.ob h1
  obtain ⟨rfl, rfl⟩ := Res.done h3
  have e1 : xs.map a.eval = vs.toArray := by
    have e : (xs.toList.map a.eval).toArray = xs.map a.eval := by apply Array.ext'; simp
    rw [← e]; exact rl_avs hps
  refine pure_step hd hI hK (.sh (.av _)) ?_
  simp only [execOp, ho, resolve, Act.eval, Deferred.ofValue, invoke, Sem.run_bind, Sem.run_pure, Result.andThen_ok]
  rw [show (#[] ++ Array.map a.eval xs ++ #[] : Array Value) = vs.toArray from by rw [e1]; simp]
  exact run_call_ext f1 f2 f3 f4 f5 (hr _)
def aExtS (P : Program) (fx : Operand) (xs : List Operand) : Plan := match fx, xs with
  | .func f, [x, y] => opd x fun p => opd y fun q => match p, q with
    | .opt id off, .av (.int k n) => .look (kb id) fun v => match v with
      | .blk B cells => .ob (IsStore P f) (storeP id B cells off [.av (.int k n)] (.av (.tuple #[])) .no)
      | .pv _ => .fail
    | _, _ => .fail
  | _, _ => .fail
theorem aExtS_ok {E : Env} {o : Oper} {id : Nat} {fx : Operand} {xs : Array Operand} {ts : Array TypeId} (ho : o.op = .call { callee := .value fx, args := xs, argTypes := ts }) (hd : ∀ x, o.dst = some x → x < E.n) : ActOk E o id (aExtS E.P fx xs.toList) := by
  intro g p wb h nx c a K Q hn hI hK
  unfold aExtS at h
  split at h
  case h_2 => exact (Res.fail h).elim
  rename_i f x y hx
  obtain ⟨q1, hq1, h1⟩ := Res.opd hI h
  obtain ⟨q2, hq2, h2⟩ := Res.opd hI h1
  split at h2
  case h_2 => exact (Res.fail h2).elim
  rename_i id1 off k n
  obtain ⟨bv, hg, h3⟩ := Res.look h2
  cases bv with
  | pv _ => exact (Res.fail h3).elim
  | blk B cells =>
    simp only at h3
    obtain ⟨⟨fn, f1, f2, f3, f4, f5⟩, h4⟩ := Res.ob h3
    obtain ⟨hone, hl, rfl, rfl⟩ := storeP_ok h4
    obtain ⟨b, T2, hown, hv⟩ := rep_opt hq1
    obtain ⟨ob', hown', hone2, hb⟩ := hI.blk id1 B cells hg
    have eT : T2 = B := by rw [hown] at hown'; cases hown'; rfl
    subst eT
    have hv2 := rep_av hq2
    have hrl : RL E.P c [.av (.int k n)] [Value.int k n].toArray := ⟨rfl, fun i hi => by
      have : i = 0 := by simp at hi; omega
      subst this
      exact .sh (.av _)⟩
    obtain ⟨cur, hc1, hc2, hKK⟩ := write_step (id := id) (vs := [Value.int k n]) (v := .tuple #[]) hd hI hg hown hone hl hrl hK fun _ => .sh (.av _)
    have hlt : off < cur.size := by simp only [List.length_cons, List.length_nil] at hc2; omega
    rw [← setCell_row hc1 hlt] at hKK
    have hcl : c.w.cell? ⟨b, off, none⟩ = some cur[off] := by
      rw [cell_of_row c.w _ _ cur _ _ hc1]
      simp [hlt]
    have hfr : c.w.frozen? ⟨b, off, none⟩ = false := by simp [World.frozen?, hc1]
    refine ow_val ?_ hKK
    have hr := run_call_store (P := E.P) f1 f2 f3 f4 f5 (k := k) (y := n) hcl hfr
    have hxs : xs.map a.eval = #[.pointer (some ⟨b, off, none⟩), .int k n] := by
      have : xs = #[x, y] := by apply Array.ext'; simpa using hx
      rw [this]
      simp [hv, hv2]
    simp only [execOp, ho, resolve, Act.eval, Deferred.ofValue, invoke, Sem.run_bind, Sem.run_pure, Result.andThen_ok]
    rw [show (#[] ++ Array.map a.eval xs ++ #[] : Array Value) = #[.pointer (some ⟨b, off, none⟩), .int k n] from by rw [hxs]; rfl]
    exact hr

/-! ### calls that leave what was lent as it is -/
theorem Res.mk_ob {g : St} {q : Prop} {r : Plan} {p : PV} {wb : L} (hq : q) (h : Res g r p wb) : Res g (.ob q r) p wb := by
  obtain ⟨o, h1, h2, h3, h4⟩ := h
  exact ⟨{ o with obs := q :: o.obs }, by simp only [run]; rw [h1], h2, h3, fun x hx => by
    simp only [List.mem_cons] at hx
    rcases hx with rfl | hx
    · exact hq
    · exact h4 x hx⟩
theorem Res.mk_look {g : St} {k : Nat} {f : Val → Plan} {v : Val} {p : PV} {wb : L} (hv : g k = some v) (h : Res g (f v) p wb) : Res g (.look k f) p wb := by
  obtain ⟨o, h1, h2, h3, h4⟩ := h
  exact ⟨{ o with reads := k :: o.reads }, by simp only [run]; rw [hv]; simp only; rw [h1], h2, h3, h4⟩
theorem Res.mk_done {g : St} {p : PV} {wb : L} : Res g (.done p wb) p wb := ⟨⟨p, wb, [], []⟩, rfl, rfl, rfl, fun _ hq => by cases hq⟩
theorem lent_swap {g : St} {σ : Nat → Nat} {k k' : Plan} {p p' : PV} {wb wb' : L} : ∀ {ids : List Nat} {H : Hp}, Res g (lentP σ ids H k) p wb → Res g k' p' wb' → Res g (lentP σ ids H k') p' wb'
  | [], [], _, h' => h'
  | id :: ids, some (T, cs) :: H, h, h' => by
    obtain ⟨v, h1, h2⟩ := Res.look h
    refine Res.mk_look h1 ?_
    cases v with
    | pv _ => exact (Res.fail h2).elim
    | blk T' cs' =>
      simp only at h2 ⊢
      split at h2
      · rename_i hT
        obtain ⟨h3, h4⟩ := Res.ob h2
        exact Res.mk_ob h3 (lent_swap h4 h')
      · exact (Res.fail h2).elim
  | [], some _ :: _, h, _ => (Res.fail h).elim
  | [], none :: _, h, _ => (Res.fail h).elim
  | _ :: _, [], h, _ => (Res.fail h).elim
  | _ :: _, none :: _, h, _ => (Res.fail h).elim
theorem over_same {σ : Nat → Nat} {g : St} : ∀ {H : Hp} {n : Nat}, (∀ i, i < H.length → ∃ T cs, H.getD i none = some (T, cs) ∧ g (kb (σ (n + i))) = some (.blk T (renL σ cs))) → over (wcall σ n H) g = g
  | [], n, _ => rfl
  | x :: H, n, h => by
    have ih := over_same (σ := σ) (g := g) (H := H) (n := n + 1) fun i hi => by
      obtain ⟨T, cs, h1, h2⟩ := h (i + 1) (by simpa using hi)
      exact ⟨T, cs, by simpa using h1, by rw [show n + 1 + i = n + (i + 1) by omega]; exact h2⟩
    obtain ⟨T, cs, h1, h2⟩ := h 0 (by simp)
    have h1 : x = some (T, cs) := by simpa using h1
    subst h1
    funext k
    have ihk := congrFun ih k
    simp only [over, wcall, lk] at ihk ⊢
    by_cases e : Nat.beq k (kb (σ n)) = true
    · rw [if_pos e]
      rw [Nat.eq_of_beq_eq_true e]
      rw [Nat.add_zero] at h2
      exact h2.symm
    · rw [if_neg e]
      exact ihk
def callRP (P : Program) (f : FuncId) (args : List PV) (id : Nat) (ids : List Nat) (bs : List PV) (H : Hp) (r : PV) : Plan :=
  match Nat.ble H.length (ids.length + 8), nodupB ids with
  | true, true => .ob (PC P f bs H r H) (.ob (args = renL (sigi ids id) bs) (lentP (sigi ids id) ids H (lentP (sigo ids id) ids H (.done (ren (sigo ids id) r) []))))
  | _, _ => .fail
theorem callR_call {P : Program} {f : FuncId} {args : List PV} {id : Nat} {ids : List Nat} {bs : List PV} {H : Hp} {r : PV} {g : St} {p : PV} {wb : L} (h : Res g (callRP P f args id ids bs H r) p wb) :
    wb = [] ∧ ∃ wb', Res g (callP P f args id ids bs H r H) p wb' ∧ over wb' g = g := by
  unfold callRP at h
  split at h
  case h_2 => exact (Res.fail h).elim
  rename_i hb1 hb2
  obtain ⟨hpc, h1⟩ := Res.ob h
  obtain ⟨hargs, h2⟩ := Res.ob h1
  obtain ⟨hlen, h3, _⟩ := lent_ok h2
  obtain ⟨_, h4, hl⟩ := lent_ok h3
  obtain ⟨rfl, rfl⟩ := Res.done h4
  refine ⟨rfl, wcall (sigo ids id) 0 H, ?_, over_same fun i hi => ?_⟩
  · unfold callP
    rw [hb1, hb2]
    exact Res.mk_ob hpc (Res.mk_ob hargs (lent_swap h2 Res.mk_done))
  · obtain ⟨T, cs, h5, h6⟩ := hl i (by omega)
    refine ⟨T, cs, h5, ?_⟩
    rw [Nat.zero_add]
    have : sigo ids id i = ids.getD i 0 := by
      unfold sigo
      rw [if_pos (by rw [Nat.blt_eq]; omega)]
      simp [List.getD_eq_getElem?_getD, show i < ids.length by omega]
    rw [this]
    exact h6
def callRL (P : Program) (id : Nat) (fv : PV) (ids : List Nat) (bs : List PV) (H : Hp) (r : PV) (args : List PV) : Plan := match fv with
  | .av (.func (.func f) fs cs) => callRP P f (fs.toList.map .av ++ args.map cz ++ cs.toList.map .av) id ids bs H r
  | _ => .fail
def aCallR (P : Program) (fx : Operand) (xs : List Operand) (ids : List Nat) (bs : List PV) (H : Hp) (r : PV) (id : Nat) : Plan := opd fx fun fv => opdl xs fun args => callRL P id fv ids bs H r args
theorem aCallR_ok {E : Env} {o : Oper} {id : Nat} {fx : Operand} {xs : Array Operand} {ts : Array TypeId} {ids : List Nat} {bs : List PV} {H : Hp} {r : PV} (ho : o.op = .call { callee := .value fx, args := xs, argTypes := ts }) (hd : ∀ x, o.dst = some x → x < E.n) : ActOk E o id (aCallR E.P fx xs.toList ids bs H r id) := by
  intro g p wb h nx c a K Q hn hI hK
  obtain ⟨q, hq, h1⟩ := Res.opd hI h
  obtain ⟨ps, hps, h2⟩ := Res.opdl hI h1
  clear h h1
  have hps' : RL E.P c ps (xs.map a.eval) := by
    have e : (xs.toList.map a.eval).toArray = xs.map a.eval := by apply Array.ext'; simp
    rw [← e]; exact hps
  have key : ∀ {f : FuncId} {fs cs : Array Value}, a.eval fx = .func (.func f) fs cs → FnOk E.P f → (execOp a.eval o).run E.P c.w = .ok (.enter f (fs ++ xs.map a.eval ++ cs)) c.w := by
    rintro f fs cs hv ⟨fn, h1, h2, h3⟩
    have h4 : (callFunc f (fs ++ xs.map a.eval ++ cs)).run E.P c.w = .ok (.enter f (fs ++ xs.map a.eval ++ cs)) c.w := by
      have h2' : ¬ fn.body = none := fun e => by rw [e] at h2; cases h2
      have h3' : ¬ fn.name = "runtime.NumGoroutine" := by simpa using h3
      simp [callFunc, h1, h3', h2']
    simp only [execOp, ho, resolve, hv, Deferred.ofValue, invoke, Sem.run_bind, Sem.run_pure, Result.andThen_ok]
    exact h4
  unfold callRL at h2
  split at h2
  · rename_i f fs cs
    obtain ⟨rfl, wb', h3, h4⟩ := callR_call h2
    refine call_core hd hn hI (fun c' a' hh => hK c' a' ?_) h3 (((avs_rl fs).append hps'.czs).append (avs_rl cs)) (key (rep_av hq))
    rw [h4] at hh
    exact hh
  · exact (Res.fail h2).elim
end Go.Proofs.Ytfibadnkhbjciaa.Pm
namespace Go.Proofs.Ytfibadnkhbjciaa.Pm
open Go

def bytesPV (t : ByteArray) : List PV := t.data.toList.map fun x => .av (.int .u8 (x.toNat : Int))
theorem strOfNums_self (t : ByteArray) : strOfNums (t.data.toList.map fun x => (x.toNat : Int)) = t := by
  have h : ((t.data.toList.map fun x => (x.toNat : Int)).map fun n => UInt8.ofNat n.toNat) = t.data.toList := by
    rw [List.map_map]
    refine (List.map_congr_left fun x _ => ?_).trans (List.map_id _)
    simp
  unfold strOfNums
  rw [h]
def aConvB (P : Program) (s d : TypeId) (x : Operand) (an : Ans) : Plan := match P.underlying s with
  | some (.slice e) => match P.underlying e, P.underlying d, an with
    | some (.int .u8), some .string, .val (.av (.string t)) => opd x fun p => match p with
      | .ssl cs off n => .ob (0 < n ∧ off + n ≤ cs.length ∧ (cs.drop off).take n = bytesPV t) (.done (.av (.string t)) [])
      | .osl id off n => .look (kb id) fun v => match v with
        | .blk _ cs => .ob (0 < n ∧ off + n ≤ cs.length ∧ (cs.drop off).take n = bytesPV t) (.done (.av (.string t)) [])
        | .pv _ => .fail
      | _ => .fail
    | _, _, _ => .fail
  | us => aConv us (P.underlying d) x an
theorem convB_run {P : Program} {c : Cx} {s e d : TypeId} {t : ByteArray} (hus : P.underlying s = some (.slice e)) (hue : P.underlying e = some (.int .u8)) (hud : P.underlying d = some .string) {cs : List PV} {off n b a' cap : Nat} {vf : Nat → Value}
    (h2 : off + n ≤ cs.length) (h3 : (cs.drop off).take n = bytesPV t) (hc : ∀ j, j < cs.length → c.w.cell? ⟨b, a' + j, none⟩ = some (vf j)) (hr : ∀ j, j < cs.length → Rep P c (cs.getD j P0) (vf j)) :
    (convert s d (.slice (some ⟨b, a' + off, none⟩) n cap)).run P c.w = .ok (.string t) c.w := by
  obtain ⟨h5, h6⟩ := getD_seg h2 h3
  have hlen : (t.data.toList.map fun x => (x.toNat : Int)).length = n := by rw [← h5]; simp [bytesPV]
  have hcell : ∀ i, i < n → c.w.cell? ⟨b, a' + off + i, none⟩ = some (.int .u8 ((t.data.toList.map fun x => (x.toNat : Int)).getD i 0)) := fun i hi => by
    have h7 := hr (off + i) (by omega)
    rw [← h6 i hi] at h7
    have hi' : i < t.data.toList.length := by rw [List.length_map] at hlen; omega
    have h8 : (bytesPV t).getD i P0 = .av (.int .u8 ((t.data.toList.map fun x => (x.toNat : Int)).getD i 0)) := by
      unfold bytesPV
      rw [List.getD_eq_getElem?_getD, List.getElem?_map, List.getD_eq_getElem?_getD, List.getElem?_map, List.getElem?_eq_getElem hi']
      rfl
    rw [h8] at h7
    rw [Nat.add_assoc, hc (off + i) (by omega), rep_av h7]
  have hrun := run_convert_bytes_arg (P := P) c.w s e hus hue b (a' + off) n cap _ hlen hcell d hud
  rw [strOfNums_self] at hrun
  exact hrun
theorem aConvB_ok {E : Env} {o : Oper} {id : Nat} {s d : TypeId} {x : Operand} {an : Ans} (ho : o.op = .convert s d x) (hd : ∀ x, o.dst = some x → x < E.n) : ActOk E o id (aConvB E.P s d x an) := by
  unfold aConvB
  split
  · rename_i e hus
    split
    · rename_i t hue hud
      intro g p wb h nx c a K Q hn hI hK
      obtain ⟨q, hq, h1⟩ := Res.opd hI h
      clear h
      split at h1
      · rename_i cs off n
        obtain ⟨⟨h0, h2, h3⟩, h4⟩ := Res.ob h1
        obtain ⟨rfl, rfl⟩ := Res.done h4
        rcases rep_ssl hq with ⟨ad, cap, hv, rfl⟩ | ⟨b, a', cap, vf, hv, hS, hc, hr, hone, hl⟩
        · omega
        · have hrun := convB_run (cap := cap) hus hue hud h2 h3 hc fun j hj => .sh (hr j hj)
          refine pure_step hd hI hK (.sh (.av _)) ?_
          simp [execOp, ho, hv, hrun]
      · rename_i id' off n
        obtain ⟨bv, hg, h4⟩ := Res.look h1
        cases bv with
        | pv _ => exact (Res.fail h4).elim
        | blk T' cs =>
          simp only at h4
          obtain ⟨⟨h0, h2, h3⟩, h5⟩ := Res.ob h4
          obtain ⟨rfl, rfl⟩ := Res.done h5
          obtain ⟨ob, T2, hown, hv⟩ := rep_osl hq
          obtain ⟨ob', hown', hone, hb⟩ := hI.blk id' T' cs hg
          rw [hown] at hown'
          cases hown'
          rcases hv with ⟨ad, hv, hn⟩ | ⟨b, cap, cs2, hob, hv, ⟨z4, hb2⟩, hl, hsz2⟩
          · omega
          · rcases hb with ⟨hb, _⟩ | ⟨b', vs, hb1, hb3, hb4, hb5⟩
            · rw [hob] at hb; cases hb
            · obtain rfl : b' = b := by rw [hob] at hb1; simpa using hb1.symm
              have hrun := convB_run (cap := cap) (a' := 0) (vf := fun j => vs.getD j undef) hus hue hud h2 h3 (fun j hj => by
                have : j < vs.size := by omega
                rw [cell_of_row c.w _ _ vs _ _ hb3]
                simp [Array.getD_eq_getD_getElem?, this]) hb5
              rw [Nat.zero_add] at hrun
              refine pure_step hd hI hK (.sh (.av _)) ?_
              simp [execOp, ho, hv, hrun]
      · exact (Res.fail h1).elim
    · intro g p wb h nx c a K Q hn hI hK
      exact (Res.fail h).elim
  · exact aConv_ok ho hd
end Go.Proofs.Ytfibadnkhbjciaa.Pm
namespace Go.Proofs.Ytfibadnkhbjciaa.Pm
open Go

def flat1 : PV → Option Value
  | .av v => some v
  | _ => none
def flat1s : List PV → Option (List Value)
  | [] => some []
  | p :: l => match flat1 p, flat1s l with | some v, some r => some (v :: r) | _, _ => none
def flat2 : PV → Option Value
  | .agg cs => match flat1s cs with | some l => some (.agg l.toArray) | none => none
  | p => flat1 p
def flat2s : List PV → Option (List Value)
  | [] => some []
  | p :: l => match flat2 p, flat2s l with | some v, some r => some (v :: r) | _, _ => none
def flat3 : PV → Option Value
  | .tup cs => match flat2s cs with | some l => some (.tuple l.toArray) | none => none
  | p => flat2 p
theorem flat1_to {P : Program} {c : Cx} {p : PV} {v u : Value} (h : flat1 p = some u) (hr : Rep P c p v) : v = u := by
  cases p <;> simp [flat1] at h
  subst h
  exact rep_av hr
theorem flat1_of {w : World} {S : Nat → Prop} {p : PV} {u : Value} (h : flat1 p = some u) : SRep w S p u := by
  cases p <;> simp [flat1] at h
  subst h
  exact .av _
theorem flats_to {P : Program} {c : Cx} {f : PV → Option Value} {fs : List PV → Option (List Value)} (h0 : fs [] = some []) (hc : ∀ p l, fs (p :: l) = match f p, fs l with | some v, some r => some (v :: r) | _, _ => none)
    (hf : ∀ p v u, f p = some u → Rep P c p v → v = u) : ∀ {l : List PV} {us : List Value} {vs : Array Value}, fs l = some us → RL P c l vs → vs = us.toArray
  | [], us, vs, h, hr => by
    rw [h0] at h
    cases h
    exact Array.eq_empty_of_size_eq_zero hr.1
  | p :: l, us, vs, h, hr => by
    rw [hc] at h
    split at h
    case h_2 => cases h
    rename_i v r h1 h2
    cases h
    have hs := hr.1
    simp only [List.length_cons] at hs
    have e0 : vs.getD 0 undef = v := hf p _ _ h1 (by simpa using hr.2 0 (by simp))
    have ht : RL P c l (vs.toList.tail).toArray := by
      refine ⟨by simp [hs], fun i hi => ?_⟩
      have := hr.2 (i + 1) (by simp; omega)
      have e : ((vs.toList.tail).toArray).getD i undef = vs.getD (i + 1) undef := by
        simp only [Array.getD_eq_getD_getElem?, List.getElem?_toArray, List.getElem?_tail, Array.getElem?_toList]
      rw [e]
      simpa using this
    have ih := flats_to h0 hc hf h2 ht
    have h3 : vs.toList.tail = r := by simpa using ih
    apply Array.ext'
    cases hv : vs.toList with
    | nil =>
      have : vs.size = 0 := by rw [← Array.length_toList, hv]; rfl
      omega
    | cons a b =>
      rw [hv] at h3
      have : vs.getD 0 undef = a := by
        rw [Array.getD_eq_getD_getElem?, ← Array.getElem?_toList, hv]
        rfl
      rw [← e0, this]
      simpa using h3
theorem flats_of {w : World} {S : Nat → Prop} {f : PV → Option Value} {fs : List PV → Option (List Value)} (h0 : fs [] = some []) (hc : ∀ p l, fs (p :: l) = match f p, fs l with | some v, some r => some (v :: r) | _, _ => none)
    (hf : ∀ p u, f p = some u → SRep w S p u) : ∀ {l : List PV} {us : List Value}, fs l = some us → us.length = l.length ∧ ∀ i, i < l.length → SRep w S (l.getD i P0) (us.getD i undef)
  | [], us, h => by
    rw [h0] at h
    cases h
    exact ⟨rfl, fun i hi => by simp at hi⟩
  | p :: l, us, h => by
    rw [hc] at h
    split at h
    case h_2 => cases h
    rename_i v r h1 h2
    cases h
    obtain ⟨h3, h4⟩ := flats_of h0 hc hf h2
    refine ⟨by simp [h3], fun i hi => ?_⟩
    cases i with
    | zero => exact hf p v h1
    | succ i => simpa using h4 i (by simpa using hi)
theorem arr_getD (us : List Value) (i : Nat) : us.toArray.getD i undef = us.getD i undef := by simp [Array.getD_eq_getD_getElem?, List.getD_eq_getElem?_getD]
theorem flat2_to {P : Program} {c : Cx} {p : PV} {v u : Value} (h : flat2 p = some u) (hr : Rep P c p v) : v = u := by
  unfold flat2 at h
  split at h
  · split at h
    case h_2 => cases h
    rename_i cs l hl
    cases h
    obtain ⟨vs, rfl, h1, h2⟩ := rep_agg hr
    rw [flats_to (f := flat1) (fs := flat1s) rfl (fun _ _ => rfl) (fun _ _ _ h k => flat1_to h k) hl ⟨h1, h2⟩]
  · exact flat1_to h hr
theorem flat2_of {w : World} {S : Nat → Prop} {p : PV} {u : Value} (h : flat2 p = some u) : SRep w S p u := by
  unfold flat2 at h
  split at h
  · split at h
    case h_2 => cases h
    rename_i cs l hl
    cases h
    obtain ⟨h1, h2⟩ := flats_of (w := w) (S := S) (f := flat1) (fs := flat1s) rfl (fun _ _ => rfl) (fun _ _ h => flat1_of h) hl
    exact .agg (by simpa using h1) fun i hi => by rw [arr_getD]; exact h2 i hi
  · exact flat1_of h
theorem flat3_of {w : World} {S : Nat → Prop} {p : PV} {u : Value} (h : flat3 p = some u) : SRep w S p u := by
  unfold flat3 at h
  split at h
  · split at h
    case h_2 => cases h
    rename_i cs l hl
    cases h
    obtain ⟨h1, h2⟩ := flats_of (w := w) (S := S) (f := flat2) (fs := flat2s) rfl (fun _ _ => rfl) (fun _ _ h => flat2_of h) hl
    exact .tup (by simpa using h1) fun i hi => by rw [arr_getD]; exact h2 i hi
  · exact flat2_of h
/-! ### interfaces -/
def aIface (u : Option TypeDesc) (T : TypeId) (x : Operand) : Plan := opd x fun p => match u, flat2 p with
  | some (.interface _), _ => .fail
  | some _, some v => .done (.av (.iface T v)) []
  | _, _ => .fail
theorem aIface_ok {E : Env} {o : Oper} {id : Nat} {T : TypeId} {x : Operand} (ho : o.op = .makeInterface T x) (hd : ∀ x, o.dst = some x → x < E.n) : ActOk E o id (aIface (E.P.underlying T) T x) := by
  intro g p wb h nx c a K Q hn hI hK
  obtain ⟨q, hq, h1⟩ := Res.opd hI h
  generalize hu : E.P.underlying T = u at h1
  split at h1
  · exact (Res.fail h1).elim
  · rename_i d v hnu hf
    obtain ⟨rfl, rfl⟩ := Res.done h1
    refine pure_step hd hI hK (.sh (.av _)) ?_
    have e := flat2_to hf hq
    have hu' : (underlying T).run E.P c.w = .ok d c.w := run_underlying hu c.w
    cases d <;> first | (simp [execOp, ho, Instr.makeInterface, hu', e]; done) | exact absurd rfl (hnu _)
  · exact (Res.fail h1).elim
def aEqI (u : Option TypeDesc) (ng : Bool) (x y : Operand) : Plan := match y with
  | .const .nilIface => opd x fun p => match u, p with
    | some (.interface _), .err => bit ng
    | some (.interface _), .av (.iface _ _) => bit ng
    | some (.interface _), .av .nilIface => bit (!ng)
    | _, _ => .fail
  | _ => .fail
def nilB : Value → Bool | .nilIface => true | _ => false
theorem run_equalIn_if {P : Program} (w : World) (d : Nat) {T : TypeId} {ms : Array (String × TypeId)} (hu : P.underlying T = some (.interface ms)) {x : Value} (hx : x = .nilIface ∨ ∃ t u, x = .iface t u) : (Op.equalIn (d + 1) T x .nilIface).run P w = .ok (nilB x) w := by
  rw [Op.equalIn]
  simp only [Sem.run_bind, run_underlying hu, Result.andThen_ok]
  rcases hx with rfl | ⟨t, u, rfl⟩ <;> rfl
theorem run_eq_if {P : Program} (w : World) {T : TypeId} {ms : Array (String × TypeId)} (hu : P.underlying T = some (.interface ms)) (ng : Bool) {x : Value} (hx : x = .nilIface ∨ ∃ t u, x = .iface t u) : (binOp (match ng with | true => .neq | false => .eql) T x .nilIface).run P w = .ok (.bool (ngB ng (nilB x))) w := by
  have h0 := run_equalIn_if w 9999 hu hx
  rcases hx with rfl | ⟨t, u, rfl⟩
  · cases ng with
    | false =>
      show (do pure (.bool (← Op.equal T .nilIface .nilIface)) : Sem Value).run P w = _
      simp only [Op.equal, show Op.maxDepth = 9999 + 1 from rfl, Sem.run_bind, h0, Result.andThen_ok]
      rfl
    | true =>
      show (do pure (.bool (!(← Op.equal T .nilIface .nilIface))) : Sem Value).run P w = _
      simp only [Op.equal, show Op.maxDepth = 9999 + 1 from rfl, Sem.run_bind, h0, Result.andThen_ok]
      rfl
  · cases ng with
    | false =>
      show (do pure (.bool (← Op.equal T (.iface t u) .nilIface)) : Sem Value).run P w = _
      simp only [Op.equal, show Op.maxDepth = 9999 + 1 from rfl, Sem.run_bind, h0, Result.andThen_ok]
      rfl
    | true =>
      show (do pure (.bool (!(← Op.equal T (.iface t u) .nilIface))) : Sem Value).run P w = _
      simp only [Op.equal, show Op.maxDepth = 9999 + 1 from rfl, Sem.run_bind, h0, Result.andThen_ok]
      rfl
theorem aEqI_ok {E : Env} {o : Oper} {id : Nat} {ng : Bool} {T U : TypeId} {x y : Operand} (ho : o.op = .binOp (match ng with | true => .neq | false => .eql) T x y U) (hd : ∀ x, o.dst = some x → x < E.n) : ActOk E o id (aEqI (E.P.underlying T) ng x y) := by
  intro g p wb h nx c a K Q hn hI hK
  unfold aEqI at h
  split at h
  case h_2 => exact (Res.fail h).elim
  obtain ⟨q, hq, h2⟩ := Res.opd hI h
  clear h
  have hy : a.eval (.const .nilIface) = .nilIface := rfl
  have key : ∀ {ms : Array (String × TypeId)} {v : Value} {b : Bool}, E.P.underlying T = some (.interface ms) → a.eval x = v → (v = .nilIface ∨ ∃ t u, v = .iface t u) → Res g (bit b) p wb → b = ngB ng (nilB v) → o.wp E.P a c.w K Q := by
    intro ms v b hu hx hv hb he
    obtain ⟨rfl, rfl⟩ := Res.done hb
    subst he
    refine pure_step hd hI hK (.sh (.av _)) ?_
    have h3 := run_eq_if c.w hu ng hv
    have h4 : ∀ op : BinOp, (eqGuard op T x (.const .nilIface) v .nilIface).run E.P c.w = .ok () c.w := fun op => by rcases hv with rfl | ⟨t, u, rfl⟩ <;> cases op <;> simp [eqGuard]
    cases ng with
    | true => simp only at h3 ho; simp [execOp, ho, hx, hy, h4, h3]
    | false => simp only at h3 ho; simp [execOp, ho, hx, hy, h4, h3]
  generalize hu : E.P.underlying T = u at h2
  split at h2
  · obtain ⟨t, u, hv⟩ := rep_err hq
    exact key hu hv (.inr ⟨t, u, rfl⟩) h2 (by cases ng <;> rfl)
  · exact key hu (rep_av hq) (.inr ⟨_, _, rfl⟩) h2 (by cases ng <;> rfl)
  · exact key hu (rep_av hq) (.inl rfl) h2 (by cases ng <;> rfl)
  · exact (Res.fail h2).elim
/-- A value's type asked, of a type that is no interface; with the answer (comma, ok) where it holds. -/
def aAssert (u : Option TypeDesc) (x : Operand) (T : TypeId) : Plan := opd x fun p => match u, p with
  | some (.interface _), _ => .fail
  | some _, .av (.iface t v) => match Nat.beq t T with | true => .done (.tup [.av v, .av (.bool true)]) [] | false => .fail
  | _, _ => .fail
theorem aAssert_ok {E : Env} {o : Oper} {id : Nat} {S T : TypeId} {x : Operand} (ho : o.op = .typeAssert x S T true) (hd : ∀ x, o.dst = some x → x < E.n) : ActOk E o id (aAssert (E.P.underlying T) x T) := by
  intro g p wb h nx c a K Q hn hI hK
  obtain ⟨q, hq, h1⟩ := Res.opd hI h
  generalize hu : E.P.underlying T = u at h1
  split at h1
  · exact (Res.fail h1).elim
  · rename_i d t v hnu
    split at h1
    · rename_i ht
      have ht := Nat.eq_of_beq_eq_true ht
      obtain ⟨rfl, rfl⟩ := Res.done h1
      have hx := rep_av hq
      have hu' : (underlying T).run E.P c.w = .ok d c.w := run_underlying hu c.w
      refine pure_step (v := .tuple #[v, .bool true]) hd hI hK (.sh (.tup rfl fun i hi => ?_)) ?_
      · match i, hi with
        | 0, _ => exact .av _
        | 1, _ => exact .av _
      · cases d <;> first | (simp [execOp, ho, Instr.typeAssert, hu', hx, ht]; done) | exact absurd rfl (hnu _)
    · exact (Res.fail h1).elim
  · exact (Res.fail h1).elim
end Go.Proofs.Ytfibadnkhbjciaa.Pm
namespace Go.Proofs.Ytfibadnkhbjciaa.Pm
open Go

/-- A row's nil cells, as empty slices. -/
def czr : PV → PV
  | .ssl cs off len => .ssl (cs.map cz1) off len
  | p => p
theorem srep_cz1 {w : World} {S : Nat → Prop} {p : PV} {v : Value} (h : SRep w S p v) : SRep w S (cz1 p) v := by
  unfold cz1
  split
  · cases h
    exact .emp
  · exact h
theorem one_cz1 {p : PV} (h : p.one = true) : (cz1 p).one = true := by
  unfold cz1
  split
  · rfl
  · exact h
theorem srep_czr {w : World} {S : Nat → Prop} {p : PV} {v : Value} (h : SRep w S p v) : SRep w S (czr p) v := by
  unfold czr
  split
  · rename_i cs off len
    cases h with
    | emp => exact .emp
    | ssl hS hc h ho hl =>
      refine .ssl hS (fun j hj => hc j (by simpa using hj)) (fun j hj => ?_) (fun q hq => ?_) hl
      · have hj' : j < cs.length := by simpa using hj
        have := srep_cz1 (h j hj')
        simpa [List.getD_eq_getElem?_getD, hj'] using this
      · obtain ⟨q0, h1, rfl⟩ := List.mem_map.1 hq
        exact one_cz1 (ho q0 h1)
  · exact h
theorem rep_czr {P : Program} {c : Cx} {p : PV} {v : Value} (h : Rep P c p v) : Rep P c (czr p) v := by
  cases p with
  | ssl cs off len =>
    cases h with
    | sh h => exact .sh (srep_czr h)
  | _ => exact h
/-- A plan whose new row is laid down at once. -/
def Plan.settle (id : Nat) : Plan → Plan
  | .fail => .fail
  | .look k f => .look k fun v => (f v).settle id
  | .ob p q => .ob p (q.settle id)
  | .done pv wb => match lk (kb id) wb with
    | some (some (.blk _ cs)) => .ob (shds cs) (.done (czr (frz id cs pv)) ((kb id, none) :: wb))
    | _ => .fail
theorem Res.settle {id : Nat} {g : St} : ∀ {pl : Plan} {p : PV} {wb : L}, Res g (pl.settle id) p wb → ∃ p0 wb0 T cs, Res g pl p0 wb0 ∧ lk (kb id) wb0 = some (some (.blk T cs)) ∧ shds cs ∧ p = czr (frz id cs p0) ∧ wb = (kb id, none) :: wb0
  | .fail, p, wb, h => (Res.fail h).elim
  | .look k f, p, wb, h => by
    obtain ⟨v, h1, h2⟩ := Res.look h
    obtain ⟨p0, wb0, T, cs, ⟨o, h3, h4, h5, h6⟩, h7⟩ := Res.settle h2
    refine ⟨p0, wb0, T, cs, ⟨{ o with reads := k :: o.reads }, ?_, h4, h5, h6⟩, h7⟩
    simp only [run, h1, h3]
  | .ob q r, p, wb, h => by
    obtain ⟨h1, h2⟩ := Res.ob h
    obtain ⟨p0, wb0, T, cs, ⟨o, h3, h4, h5, h6⟩, h7⟩ := Res.settle h2
    refine ⟨p0, wb0, T, cs, ⟨{ o with obs := q :: o.obs }, ?_, h4, h5, fun x hx => ?_⟩, h7⟩
    · simp only [run, h3]
    · simp only [List.mem_cons] at hx
      rcases hx with rfl | hx
      · exact h1
      · exact h6 x hx
  | .done pv w, p, wb, h => by
    simp only [Plan.settle] at h
    split at h
    · rename_i T cs hl
      obtain ⟨h1, h2⟩ := Res.ob h
      obtain ⟨h3, h4⟩ := Res.done h2
      exact ⟨pv, w, T, cs, ⟨⟨pv, w, [], []⟩, rfl, rfl, rfl, fun _ hq => by cases hq⟩, hl, h1, h3, h4⟩
    · exact (Res.fail h).elim
theorem settle_ok {E : Env} {o : Oper} {id : Nat} {pl : Plan} (h : ActOk E o id pl) : ActOk E o id (pl.settle id) := by
  intro g p wb hr nx c a K Q hn hI hK
  obtain ⟨p0, wb0, T, cs, h0, hl, hs, rfl, rfl⟩ := Res.settle hr
  refine h g p0 wb0 h0 nx c a K Q hn hI fun c' a' hi => ?_
  have hg : over (wd o.dst p0) (over wb0 g) (kb id) = some (.blk T cs) := by simp only [over, lk_wd_b, hl]
  obtain ⟨c1, e1, _, i1, r1⟩ := inv_lay hi hg hs
  rw [← e1]
  refine hK c1 a' ?_
  have hb : ∀ i, over (wd o.dst (czr (frz id cs p0))) (over ((kb id, none) :: wb0) g) (kb i) = over [(kb id, none)] (over (wd o.dst p0) (over wb0 g)) (kb i) := fun i => by
    rw [over_b]
    simp only [over, lk_wd_b, lk, beq_kb]
    by_cases e : i = id <;> simp [e]
  have hlv : ∀ i, Live (over (wd o.dst (czr (frz id cs p0))) (over ((kb id, none) :: wb0) g)) i → Live (over [(kb id, none)] (over (wd o.dst p0) (over wb0 g))) i := fun i ⟨T', ds, hx⟩ => ⟨T', ds, by rw [← hb]; exact hx⟩
  have hsl : ∀ s x, over (wd o.dst (czr (frz id cs p0))) (over ((kb id, none) :: wb0) g) (ks s) = some x → (x = .pv (czr (frz id cs p0)) ∧ over (wd o.dst p0) (over wb0 g) (ks s) = some (.pv p0)) ∨ over [(kb id, none)] (over (wd o.dst p0) (over wb0 g)) (ks s) = some x := fun s x hx => by
    rw [over_s]
    cases hd : o.dst with
    | none =>
      rw [hd] at hx
      right
      simpa only [over, wd, lk, beq_ksb, Bool.false_eq_true, if_false] using hx
    | some d =>
      rw [hd] at hx
      simp only [over, wd, lk, beq_ksb, beq_ks, Bool.false_eq_true, if_false] at hx ⊢
      by_cases e : s = d
      · left
        simp only [e, decide_true, if_true, Option.some.injEq] at hx ⊢
        exact ⟨hx.symm, trivial⟩
      · right
        simp only [e, decide_false, Bool.false_eq_true, if_false] at hx ⊢
        exact hx
  refine { ids := i1.ids, blk := fun i T' ds hx => i1.blk i T' ds (by rw [← hb]; exact hx), inj := fun i j b T T' l1 l2 => i1.inj i j b T T' (hlv i l1) (hlv j l2), apart := fun i b T l1 => i1.apart i b T (hlv i l1), bnd := i1.bnd, sok := i1.sok, os := i1.os, tape := i1.tape, output := i1.output, size := i1.size, same := i1.same, laid := i1.laid, s0 := i1.s0, s1 := i1.s1, keep := i1.keep, tmps := i1.tmps, dfr := i1.dfr, slot := fun s q hp => ?_, isv := fun s x hx => ?_ }
  · rcases hsl s _ hp with ⟨h1, h2⟩ | h1
    · cases h1
      exact rep_czr (r1 (hi.slot s p0 h2))
    · exact i1.slot s q h1
  · rcases hsl s x hx with ⟨h1, _⟩ | h1
    · exact ⟨_, h1⟩
    · exact i1.isv s x h1
end Go.Proofs.Ytfibadnkhbjciaa.Pm
namespace Go.Proofs.Ytfibadnkhbjciaa.Pm
open Go

def Bare (P : Program) (f : FuncId) (fn : Func) (e : Array Value → Sem Value) : Prop := P.funcs[f]? = some fn ∧ (fn.name == "runtime.NumGoroutine") = false ∧ fn.body.isNone = true ∧ Extern.findNext fn = none ∧ Extern.find fn = some e
def IsCas (P : Program) (f : FuncId) (k : IntKind) : Prop := ∃ fn, Bare P f fn (Extern.Atomic.casT (.int k))
def IsAdd (P : Program) (f : FuncId) (k : IntKind) : Prop := ∃ fn, Bare P f fn (Extern.Atomic.update (Op.intArith .add) k true)
def IsMark0 (P : Program) (f : FuncId) : Prop := ∃ fn m, Bare P f fn (fun _ => do mark m; pure Extern.Race.none_)
def IsMark1 (P : Program) (f : FuncId) : Prop := ∃ fn m, Bare P f fn (Extern.Race.marked m)
def aExtW (P : Program) (fx : Operand) (xs : List Operand) : Plan := match fx, xs with
  | .func f, [] => .ob (IsMark0 P f) (.done (.av (.tuple #[])) [])
  | .func f, [x] => opd x fun p => match p with
    | .opt _ _ => .ob (IsMark1 P f) (.done (.av (.tuple #[])) [])
    | _ => .fail
  | .func f, [x, y] => opd x fun p => opd y fun q => match p, q with
    | .opt id off, .av (.int k n) => .look (kb id) fun v => match v with
      | .blk B cells => match cells[off]? with
        | some (.av (.int k' m)) => if k' = k then .ob (IsAdd P f k) (.ob (InK k (m + n)) (storeP id B cells off [.av (.int k (m + n))] (.av (.int k (m + n))) .no)) else .fail
        | _ => .fail
      | .pv _ => .fail
    | _, _ => .fail
  | .func f, [x, y, z] => opd x fun p => opd y fun q => opd z fun r => match p, q, r with
    | .opt id off, .av (.int k m), .av (.int k2 n) => .look (kb id) fun v => match v with
      | .blk B cells => match cells[off]? with
        | some (.av (.int k' m')) => if k' = k ∧ k2 = k ∧ m' = m then .ob (IsCas P f k) (storeP id B cells off [.av (.int k n)] (.av (.bool true)) .no) else .fail
        | _ => .fail
      | .pv _ => .fail
    | _, _, _ => .fail
  | _, _ => .fail
/-- A number in a cell of an own block, where it stands. -/
theorem cell_own {E : Env} {nx : Nat → Prop} {c : Cx} {g : St} {a : Act} (hI : Inv E nx c g a) {id off : Nat} {B T2 : TypeId} {cells : List PV} {b : Nat} {k : IntKind} {n : Int} (hg : g (kb id) = some (.blk B cells)) (hown : c.own id = some (some b, T2)) (hcell : cells[off]? = some (.av (.int k n))) :
    c.w.cell? ⟨b, off, none⟩ = some (.int k n) := by
  obtain ⟨ob', hown', hone, hb⟩ := hI.blk id B cells hg
  rw [hown] at hown'
  cases hown'
  have hlt : off < cells.length := (List.getElem?_eq_some_iff.1 hcell).1
  rcases hb with ⟨hb, _⟩ | ⟨b', vs, hb1, hb2, hb3, hb4⟩
  · cases hb
  obtain rfl : b' = b := by simpa using hb1.symm
  have hc := hb4 off hlt
  rw [List.getD_eq_getElem?_getD, hcell] at hc
  have hc := rep_av hc
  rw [cell_of_row c.w _ _ vs _ _ hb2]
  have : off < vs.size := by omega
  rw [Array.getD_eq_getD_getElem?] at hc
  cases hx : vs[off]? with
  | none => rw [Array.getElem?_eq_none_iff] at hx; omega
  | some y => rw [hx] at hc; simp only [Option.getD_some] at hc; rw [hc]
theorem aExtW_ok {E : Env} {o : Oper} {id : Nat} {fx : Operand} {xs : Array Operand} {ts : Array TypeId} (ho : o.op = .call { callee := .value fx, args := xs, argTypes := ts }) (hd : ∀ x, o.dst = some x → x < E.n) : ActOk E o id (aExtW E.P fx xs.toList) := by
  intro g p wb h nx c a K Q hn hI hK
  unfold aExtW at h
  split at h
  case h_5 => exact (Res.fail h).elim
  case h_1 =>
    rename_i f hx
    have hxs1 : xs = #[] := by apply Array.ext'; simpa using hx
    obtain ⟨⟨fn, m, f1, f2, f3, f4, f5⟩, h3⟩ := Res.ob h
    obtain ⟨rfl, rfl⟩ := Res.done h3
    refine pure_step hd hI hK (.sh (.av _)) ?_
    have hr := run_call_mark0 (P := E.P) f1 f2 f3 f4 m f5 c.w
    simp only [execOp, ho, resolve, Act.eval, Deferred.ofValue, invoke, Sem.run_bind, Sem.run_pure, Result.andThen_ok]
    rw [show (#[] ++ Array.map a.eval xs ++ #[] : Array Value) = #[] from by rw [hxs1]; simp]
    exact hr
  case h_2 =>
    rename_i f x hx
    obtain ⟨q, hq, h1⟩ := Res.opd hI h
    have hxs1 : xs = #[x] := by apply Array.ext'; simpa using hx
    split at h1
    case h_2 => exact (Res.fail h1).elim
    rename_i id1 off
    obtain ⟨⟨fn, m, f1, f2, f3, f4, f5⟩, h3⟩ := Res.ob h1
    obtain ⟨rfl, rfl⟩ := Res.done h3
    obtain ⟨b, T2, hown, hv⟩ := rep_opt hq
    refine pure_step hd hI hK (.sh (.av _)) ?_
    have hr := run_call_marked (P := E.P) f1 f2 f3 f4 m f5 ⟨b, off, none⟩ c.w
    simp only [execOp, ho, resolve, Act.eval, Deferred.ofValue, invoke, Sem.run_bind, Sem.run_pure, Result.andThen_ok]
    rw [show (#[] ++ Array.map a.eval xs ++ #[] : Array Value) = #[.pointer (some ⟨b, off, none⟩)] from by rw [hxs1]; simp [hv]]
    exact hr
  case h_3 =>
    rename_i f x y hx
    obtain ⟨q1, hq1, h1⟩ := Res.opd hI h
    obtain ⟨q2, hq2, h2⟩ := Res.opd hI h1
    split at h2
    case h_2 => exact (Res.fail h2).elim
    rename_i id1 off k n
    obtain ⟨bv, hg, h3⟩ := Res.look h2
    cases bv with
    | pv _ => exact (Res.fail h3).elim
    | blk B cells =>
      simp only at h3
      split at h3
      case h_2 => exact (Res.fail h3).elim
      rename_i k' m hcell
      split at h3
      case isFalse => exact (Res.fail h3).elim
      rename_i hk
      subst hk
      obtain ⟨⟨fn, f1, f2, f3, f4, f5⟩, h3⟩ := Res.ob h3
      obtain ⟨hin, h4⟩ := Res.ob h3
      obtain ⟨hone, hl, rfl, rfl⟩ := storeP_ok h4
      obtain ⟨b, T2, hown, hv⟩ := rep_opt hq1
      obtain ⟨ob', hown', hone2, hb⟩ := hI.blk id1 B cells hg
      have eT : T2 = B := by rw [hown] at hown'; cases hown'; rfl
      subst eT
      have hcl := cell_own hI hg hown hcell
      have hv2 := rep_av hq2
      have hrl : RL E.P c [.av (.int k' (m + n))] [Value.int k' (m + n)].toArray := ⟨rfl, fun i hi => by
        have : i = 0 := by simp at hi; omega
        subst this
        exact .sh (.av _)⟩
      obtain ⟨cur, hc1, hc2, hKK⟩ := write_step (id := id) (vs := [Value.int k' (m + n)]) (v := .int k' (m + n)) hd hI hg hown hone hl hrl hK fun _ => .sh (.av _)
      have hlt : off < cur.size := by simp only [List.length_cons, List.length_nil] at hc2; omega
      rw [← setCell_row hc1 hlt] at hKK
      have hfr : c.w.frozen? ⟨b, off, none⟩ = false := by simp [World.frozen?, hc1]
      refine ow_val ?_ hKK
      have hs : (Op.intArith .add k' m n).run E.P c.w = .ok (.int k' (m + n)) c.w := by
        simp [Op.intArith, wrap_in hin]
      have hr := run_call_add (P := E.P) f1 f2 f3 f4 k' f5 hcl hfr hs
      simp only [execOp, ho, resolve, Act.eval, Deferred.ofValue, invoke, Sem.run_bind, Sem.run_pure, Result.andThen_ok]
      rw [show (#[] ++ Array.map a.eval xs ++ #[] : Array Value) = #[.pointer (some ⟨b, off, none⟩), .int k' n] from by
        have : xs = #[x, y] := by apply Array.ext'; simpa using hx
        rw [this]
        simp [hv, hv2]]
      exact hr
  case h_4 =>
    rename_i f x y z hx
    obtain ⟨q1, hq1, h1⟩ := Res.opd hI h
    obtain ⟨q2, hq2, h2⟩ := Res.opd hI h1
    obtain ⟨q3, hq3, h2⟩ := Res.opd hI h2
    split at h2
    case h_2 => exact (Res.fail h2).elim
    rename_i id1 off k m k2 n _x
    obtain ⟨bv, hg, h3⟩ := Res.look h2
    cases bv with
    | pv _ => exact (Res.fail h3).elim
    | blk B cells =>
      simp only at h3
      split at h3
      case h_2 => exact (Res.fail h3).elim
      rename_i k' m' hcell
      split at h3
      case isFalse => exact (Res.fail h3).elim
      rename_i hk
      obtain ⟨e1, e2, e3⟩ := hk
      subst e1; subst e2; subst e3
      obtain ⟨⟨fn, f1, f2, f3, f4, f5⟩, h4⟩ := Res.ob h3
      obtain ⟨hone, hl, rfl, rfl⟩ := storeP_ok h4
      obtain ⟨b, T2, hown, hv⟩ := rep_opt hq1
      obtain ⟨ob', hown', hone2, hb⟩ := hI.blk id1 B cells hg
      have eT : T2 = B := by rw [hown] at hown'; cases hown'; rfl
      subst eT
      have hcl := cell_own hI hg hown hcell
      have hv2 := rep_av hq2
      have hv3 := rep_av hq3
      have hrl : RL E.P c [.av (.int k2 n)] [Value.int k2 n].toArray := ⟨rfl, fun i hi => by
        have : i = 0 := by simp at hi; omega
        subst this
        exact .sh (.av _)⟩
      obtain ⟨cur, hc1, hc2, hKK⟩ := write_step (id := id) (vs := [Value.int k2 n]) (v := .bool true) hd hI hg hown hone hl hrl hK fun _ => .sh (.av _)
      have hlt : off < cur.size := by simp only [List.length_cons, List.length_nil] at hc2; omega
      rw [← setCell_row hc1 hlt] at hKK
      have hfr : c.w.frozen? ⟨b, off, none⟩ = false := by simp [World.frozen?, hc1]
      refine ow_val ?_ hKK
      have hr := run_call_cas_hit (P := E.P) f1 f2 f3 f4 k2 (y := n) f5 hcl hfr
      simp only [execOp, ho, resolve, Act.eval, Deferred.ofValue, invoke, Sem.run_bind, Sem.run_pure, Result.andThen_ok]
      rw [show (#[] ++ Array.map a.eval xs ++ #[] : Array Value) = #[.pointer (some ⟨b, off, none⟩), .int k2 m', .int k2 n] from by
        have : xs = #[x, y, z] := by apply Array.ext'; simpa using hx
        rw [this]
        simp [hv, hv2, hv3]]
      exact hr
theorem cell_any {E : Env} {nx : Nat → Prop} {c : Cx} {g : St} {a : Act} (hI : Inv E nx c g a) {id off : Nat} {B T2 : TypeId} {cells : List PV} {b : Nat} (hg : g (kb id) = some (.blk B cells)) (hown : c.own id = some (some b, T2)) (hlt : off < cells.length) :
    ∃ v, c.w.cell? ⟨b, off, none⟩ = some v := by
  obtain ⟨ob', hown', hone, hb⟩ := hI.blk id B cells hg
  rw [hown] at hown'
  cases hown'
  rcases hb with ⟨hb, _⟩ | ⟨b', vs, hb1, hb2, hb3, hb4⟩
  · cases hb
  obtain rfl : b' = b := by simpa using hb1.symm
  rw [cell_of_row c.w _ _ vs _ _ hb2]
  have : off < vs.size := by omega
  exact ⟨vs[off], by simp [this]⟩
/-- A pointer, as one of no type. -/
def aConvU (P : Program) (t : TypeId) (x : Operand) : Plan := opd x fun p => match p with
  | .opt id off => .look (kb id) fun v => match v with
    | .blk _ cells => .ob (off < cells.length ∧ (P.info? t).map (fun i => decide (i.size = 0)) = some false) (.done (.opt id off) [])
    | .pv _ => .fail
  | _ => .fail
theorem aConvU_ok {E : Env} {o : Oper} {id : Nat} {s d t : TypeId} {x : Operand} (ho : o.op = .convert s d x) (hs : E.P.underlying s = some (.pointer t)) (hu : E.P.underlying d = some .unsafePointer) (hd : ∀ x, o.dst = some x → x < E.n) : ActOk E o id (aConvU E.P t x) := by
  intro g p wb h nx c a K Q hn hI hK
  obtain ⟨q, hq, h1⟩ := Res.opd hI h
  split at h1
  case h_2 => exact (Res.fail h1).elim
  rename_i id1 off
  obtain ⟨bv, hg, h2⟩ := Res.look h1
  cases bv with
  | pv _ => exact (Res.fail h2).elim
  | blk B cells =>
    simp only at h2
    obtain ⟨⟨hlt, hsz⟩, h3⟩ := Res.ob h2
    obtain ⟨rfl, rfl⟩ := Res.done h3
    obtain ⟨b, T2, hown, hv⟩ := rep_opt hq
    obtain ⟨v, hc⟩ := cell_any hI hg hown hlt
    have hr := run_convert_to_unsafe hs hu hsz hc
    exact pure_step hd hI hK hq (by simp [execOp, ho, hv, hr])
end Go.Proofs.Ytfibadnkhbjciaa.Pm
namespace Go.Proofs.Ytfibadnkhbjciaa.Pm
open Go

def aFunc (fn : Fn) (first cap : List Operand) : Plan := opdl first fun ps => opdl cap fun qs => .done (.fn fn ps qs) []
theorem aFunc_ok {E : Env} {o : Oper} {id : Nat} {fn : Fn} {xs ys : Array Operand} (ho : o.op = .makeFunc fn xs ys) (hd : ∀ x, o.dst = some x → x < E.n) : ActOk E o id (aFunc fn xs.toList ys.toList) := by
  intro g p wb h nx c a K Q hn hI hK
  obtain ⟨ps, hps, h1⟩ := Res.opdl hI h
  obtain ⟨qs, hqs, h2⟩ := Res.opdl hI h1
  obtain ⟨rfl, rfl⟩ := Res.done h2
  have e : ∀ zs : Array Operand, (zs.toList.map a.eval).toArray = zs.map a.eval := fun zs => by apply Array.ext'; simp
  rw [e] at hps hqs
  exact pure_step hd hI hK (.fn hps.1 hps.2 hqs.1 hqs.2) (by simp [execOp, ho, Instr.makeFunc])
def aMax (mx : Bool) (x y : Operand) : Plan := opd x fun p => opd y fun q => match p, q with
  | .av (.int k a), .av (.int _ b) => .done (.av (.int k (match mx with | true => max a b | false => min a b))) []
  | _, _ => .fail
theorem aMax_ok {E : Env} {o : Oper} {id : Nat} {x y : Operand} {ts : Array TypeId} (ho : o.op = .call { callee := .builtin .max, args := #[x, y], argTypes := ts }) (hd : ∀ x, o.dst = some x → x < E.n) : ActOk E o id (aMax true x y) := by
  intro g p wb h nx c a K Q hn hI hK
  obtain ⟨q1, hq1, h1⟩ := Res.opd hI h
  obtain ⟨q2, hq2, h2⟩ := Res.opd hI h1
  split at h2
  · rename_i k m k2 n
    obtain ⟨rfl, rfl⟩ := Res.done h2
    refine pure_step hd hI hK (.sh (.av _)) ?_
    have e : max m n = if n > m then n else m := by split <;> omega
    simp [execOp, ho, resolve, invoke, builtin, rep_av hq1, rep_av hq2, Builtin.max_, Builtin.max2, e]
  · exact (Res.fail h2).elim
theorem aMin_ok {E : Env} {o : Oper} {id : Nat} {x y : Operand} {ts : Array TypeId} (ho : o.op = .call { callee := .builtin .min, args := #[x, y], argTypes := ts }) (hd : ∀ x, o.dst = some x → x < E.n) : ActOk E o id (aMax false x y) := by
  intro g p wb h nx c a K Q hn hI hK
  obtain ⟨q1, hq1, h1⟩ := Res.opd hI h
  obtain ⟨q2, hq2, h2⟩ := Res.opd hI h1
  split at h2
  · rename_i k m k2 n
    obtain ⟨rfl, rfl⟩ := Res.done h2
    refine pure_step hd hI hK (.sh (.av _)) ?_
    have e : min m n = if n < m then n else m := by split <;> omega
    simp [execOp, ho, resolve, invoke, builtin, rep_av hq1, rep_av hq2, Builtin.min_, Builtin.min2, e]
  · exact (Res.fail h2).elim

/-- Pairs of floats: their parts; a pair made. -/
def aPart (im : Bool) (x : Operand) : Plan := opd x fun p => match p with
  | .av (.complex k a b) => .done (.av (.float k (match im with | true => b | false => a))) []
  | _ => .fail
def aPair (x y : Operand) : Plan := opd x fun p => opd y fun q => match p, q with
  | .av (.float k a), .av (.float k' b) => if k = k' then .done (.av (.complex k a b)) [] else .fail
  | _, _ => .fail
theorem run_real (ts : Array TypeId) (T : TypeId) (k : FloatKind) (a b : Nat) : Builtin.real_ ts T #[.complex k a b] = pure (.float k a) := rfl
theorem run_imag (ts : Array TypeId) (T : TypeId) (k : FloatKind) (a b : Nat) : Builtin.imag_ ts T #[.complex k a b] = pure (.float k b) := rfl
theorem run_pair (ts : Array TypeId) (T : TypeId) (k : FloatKind) (a b : Nat) : Builtin.complex_ ts T #[.float k a, .float k b] = pure (.complex k a b) := by
  show (if k = k then _ else _) = _
  rw [if_pos rfl]
theorem aReal_ok {E : Env} {o : Oper} {id : Nat} {x : Operand} {ts : Array TypeId} (ho : o.op = .call { callee := .builtin .real, args := #[x], argTypes := ts }) (hd : ∀ x, o.dst = some x → x < E.n) : ActOk E o id (aPart false x) := by
  intro g p wb h nx c a K Q hn hI hK
  obtain ⟨q1, hq1, h1⟩ := Res.opd hI h
  split at h1
  · obtain ⟨rfl, rfl⟩ := Res.done h1
    exact pure_step hd hI hK (.sh (.av _)) (by simp [execOp, ho, resolve, invoke, builtin, rep_av hq1, run_real])
  · exact (Res.fail h1).elim
theorem aImag_ok {E : Env} {o : Oper} {id : Nat} {x : Operand} {ts : Array TypeId} (ho : o.op = .call { callee := .builtin .imag, args := #[x], argTypes := ts }) (hd : ∀ x, o.dst = some x → x < E.n) : ActOk E o id (aPart true x) := by
  intro g p wb h nx c a K Q hn hI hK
  obtain ⟨q1, hq1, h1⟩ := Res.opd hI h
  split at h1
  · obtain ⟨rfl, rfl⟩ := Res.done h1
    exact pure_step hd hI hK (.sh (.av _)) (by simp [execOp, ho, resolve, invoke, builtin, rep_av hq1, run_imag])
  · exact (Res.fail h1).elim
theorem aPair_ok {E : Env} {o : Oper} {id : Nat} {x y : Operand} {ts : Array TypeId} (ho : o.op = .call { callee := .builtin .complex, args := #[x, y], argTypes := ts }) (hd : ∀ x, o.dst = some x → x < E.n) : ActOk E o id (aPair x y) := by
  intro g p wb h nx c a K Q hn hI hK
  obtain ⟨q1, hq1, h1⟩ := Res.opd hI h
  obtain ⟨q2, hq2, h2⟩ := Res.opd hI h1
  split at h2
  · split at h2
    · rename_i hk
      subst hk
      obtain ⟨rfl, rfl⟩ := Res.done h2
      exact pure_step hd hI hK (.sh (.av _)) (by simp [execOp, ho, resolve, invoke, builtin, rep_av hq1, rep_av hq2, run_pair])
    · exact (Res.fail h2).elim
  · exact (Res.fail h2).elim

def plan (P : Program) (o : Oper) (an : Ans) (id : Nat) : Plan := match o.op with
  | .move x => aMove x
  | .assign x => aMove x
  | .pick c x y => aPick c x y an
  | .alloc T => aAlloc P T id
  | .box T x => aBox T x id
  | .build T ps => aBuild P T ps.toList
  | .buildSlice T n ps => match an with | .lay _ _ => (aBuildSlice P T n ps.toList id).settle id | _ => aBuildSlice P T n ps.toList id
  | .load T x => aLoad P T x an
  | .store T x y => aStore P T x y an
  | .nilCheck x => aNilCheck x
  | .binOp op T x y _ => match P.underlying T with
    | some (.struct _) => match op with | .eql => aEqS P false T x y | .neq => aEqS P true T x y | _ => .fail
    | some (.pointer e) => match op with | .eql => aEqP (some (.pointer e)) false x y | .neq => aEqP (some (.pointer e)) true x y | _ => .fail
    | some (.slice e) => match op with | .eql => aEqP (some (.slice e)) false x y | .neq => aEqP (some (.slice e)) true x y | _ => .fail
    | some (.interface ms) => match op with | .eql => aEqI (some (.interface ms)) false x y | .neq => aEqI (some (.interface ms)) true x y | _ => .fail
    | u => aBin op T x y u an
  | .unOp op _ x => aUn op x an
  | .convert s d x => match P.underlying s, P.underlying d with | some (.pointer t), some .unsafePointer => aConvU P t x | _, _ => aConvB P s d x an
  | .makeFunc fn xs ys => aFunc fn xs.toList ys.toList
  | .makeInterface T x => aIface (P.underlying T) T x
  | .typeAssert x _ T true => aAssert (P.underlying T) x T
  | .makeSlice T l c => aMake P T l c an id
  | .slice T x lo hi mx => aSlice P T x lo hi mx an
  | .fieldAddr T x f => aFieldAddr P T x f
  | .field T x f => aField P T x f
  | .indexAddr T x i => aIndexAddr P T x i an
  | .index T x i => aIndex P T x i
  | .extract t i => aExtract t i
  | .call { callee := .builtin .len, args := ⟨[x]⟩, argTypes := ⟨T :: _⟩ } => aLen (P.underlying T) x
  | .call { callee := .builtin .append, args := ⟨[x, y]⟩, argTypes := ⟨[T, U]⟩ } => aAppend P T (P.underlying U) x y an id
  | .call { callee := .builtin .copy, args := ⟨[x, y]⟩, argTypes := ⟨[T, U]⟩ } => aCopy P T (P.underlying U) x y an
  | .call { callee := .builtin .real, args := ⟨[x]⟩, .. } => aPart false x
  | .call { callee := .builtin .imag, args := ⟨[x]⟩, .. } => aPart true x
  | .call { callee := .builtin .complex, args := ⟨[x, y]⟩, .. } => aPair x y
  | .call { callee := .builtin .max, args := ⟨[x, y]⟩, .. } => aMax true x y
  | .call { callee := .builtin .min, args := ⟨[x, y]⟩, .. } => aMax false x y
  | .call { callee := .builtin .max, args := ⟨[x, y, z]⟩, .. } => aMax3 true x y z
  | .call { callee := .builtin .min, args := ⟨[x, y, z]⟩, .. } => aMax3 false x y z
  | .call { callee := .value f, args, .. } => match an with | .lay js an' => aCallL P f args.toList js an' id | .callR ids bs H r => aCallR P f args.toList ids bs H r id | .ext true => aExtL P f args.toList | .ext false => aExtS P f args.toList | .val q => aExtV P f args.toList q | .wrap => aExtW P f args.toList | _ => aCall P f args.toList an id
  | _ => .fail
theorem plan_ok {E : Env} {o : Oper} {id : Nat} {an : Ans} (hd : ∀ x, o.dst = some x → x < E.n) : ActOk E o id (plan E.P o an id) := by
  unfold plan
  split <;> rename_i ho
  · exact aMove_ok (.inl ho) hd
  · exact aMove_ok (.inr ho) hd
  · exact aPick_ok ho hd
  · exact aAlloc_ok ho hd
  · exact aBox_ok ho hd
  · exact aBuild_ok ho hd
  · split
    · exact settle_ok (aBuildSlice_ok ho hd)
    · exact aBuildSlice_ok ho hd
  · exact aLoad_ok ho hd
  · exact aStore_ok ho hd
  · exact aNilCheck_ok ho hd
  · split
    · split
      · exact aEqS_ok (ng := false) ho hd
      · exact aEqS_ok (ng := true) ho hd
      · exact fun g p wb h => (Res.fail h).elim
    · rename_i hu
      rw [← hu]
      split
      · exact aEqP_ok (ng := false) ho hd
      · exact aEqP_ok (ng := true) ho hd
      · exact fun g p wb h => (Res.fail h).elim
    · rename_i hu
      rw [← hu]
      split
      · exact aEqP_ok (ng := false) ho hd
      · exact aEqP_ok (ng := true) ho hd
      · exact fun g p wb h => (Res.fail h).elim
    · rename_i hu
      rw [← hu]
      split
      · exact aEqI_ok (ng := false) ho hd
      · exact aEqI_ok (ng := true) ho hd
      · exact fun g p wb h => (Res.fail h).elim
    · exact aBin_ok ho hd
  · exact aUn_ok ho hd
  · split
    · rename_i h1 h2
      exact aConvU_ok ho h1 h2 hd
    · exact aConvB_ok ho hd
  · exact aFunc_ok ho hd
  · exact aIface_ok ho hd
  · exact aAssert_ok ho hd
  · exact aMake_ok ho hd
  · exact aSlice_ok ho hd
  · exact aFieldAddr_ok ho hd
  · exact aField_ok ho hd
  · exact aIndexAddr_ok ho hd
  · exact aIndex_ok ho hd
  · exact aExtract_ok ho hd
  · exact aLen_ok ho (by simp) hd
  · exact aAppend_ok ho hd
  · exact aCopy_ok ho hd
  · exact aReal_ok ho hd
  · exact aImag_ok ho hd
  · exact aPair_ok ho hd
  · exact aMax_ok ho hd
  · exact aMin_ok ho hd
  · exact aMax3_ok ho hd
  · exact aMin3_ok ho hd
  · split
    · exact aCallL_ok ho hd
    · exact aCallR_ok ho hd
    · exact aExtL_ok ho hd
    · exact aExtS_ok ho hd
    · exact aExtV_ok ho hd
    · exact aExtW_ok ho hd
    · exact aCall_ok ho hd
  · exact fun g p wb h => (Res.fail h).elim

/-- A guarded operation: the answer tells whether its guard holds. -/
def gplan (P : Program) (ops : List Oper) (o : Oper) (an : Ans) (id : Nat) : Plan := match o.guard with
  | none => plan P o an id
  | some (j, want) => match (ops[j]?).bind (·.dst) with
    | some d => .look (ks d) fun v => match v, an with
      | .pv (.av (.bool t)), .gd b an' => .ob (t = b) (match b == want with | true => plan P o an' id | false => .done P0 [])
      | .pv (.av (.tuple _)), _ => .done P0 []
      | _, _ => .fail
    | none => .fail
theorem gplan_ok {E : Env} {l : List Oper} {i : Nat} {o : Oper} {id : Nat} {an : Ans} (ho : l[i]? = some o) (hd : ∀ x, o.dst = some x → x < E.n) {g : St} {out : Out} (hr : run g (gplan E.P l o an id) = some out) (hob : ∀ p ∈ out.obs, p) :
    StepOk E l.toArray i o out id g := by
  intro nx c a K Q hn hI hK
  have hres : Res g (gplan E.P l o an id) out.pv out.wb := ⟨out, hr, rfl, rfl, hob⟩
  have ho' : l.toArray[i]? = some o := by simpa using ho
  have hK' : ∀ c' a', Inv E (fun j => nx j ∨ (id ≤ j ∧ j < id + 8)) c' (over (wd o.dst out.pv) (over out.wb g)) a' → K a' c'.w := fun c' a' h => hK c' a' (by rw [wr, over_append]; exact h)
  unfold wpOp
  simp only [ho']
  unfold gplan at hres
  split at hres
  · rename_i hg
    rw [if_pos (by simp [Region.wanted, hg])]
    exact .inl (plan_ok hd g _ _ hres nx c a K Q hn hI hK')
  · rename_i j want hg
    split at hres
    · rename_i d hj
      obtain ⟨v, hv, h1⟩ := Res.look hres
      split at h1
      · rename_i t b an'
        obtain ⟨rfl, h2⟩ := Res.ob h1
        have h3 := rep_av (hI.slot d _ hv)
        have h4 : a.tmps[d]? = some (.bool t) := by
          rw [Array.getD_eq_getD_getElem?] at h3
          cases hx : a.tmps[d]? with
          | none => rw [hx] at h3; cases h3
          | some x => rw [hx] at h3; simp only [Option.getD_some] at h3; rw [h3]
        have hy : yielded l.toArray a.tmps j = some t := by
          unfold yielded
          have hj' : (l.toArray[j]?).bind (·.dst) = some d := by simpa using hj
          rw [hj']
          simp [h4]
        have hw : Region.wanted o (yielded l.toArray a.tmps) = (t == want) := by
          unfold Region.wanted
          simp only [hg, hy]
          cases t <;> cases want <;> rfl
        split at h2
        · rename_i hbw
          rw [if_pos (by rw [hw]; exact hbw)]
          exact .inl (plan_ok hd g _ _ h2 nx c a K Q hn hI hK')
        · rename_i hbw
          obtain ⟨h5, h6⟩ := Res.done h2
          rw [if_neg (by rw [hw]; simp [hbw])]
          have := hI.pure (nx' := fun j => nx j ∨ (id ≤ j ∧ j < id + 8)) (fun _ h => .inl h) o.dst hd (p := out.pv) (v := undef) fun _ => by rw [h5]; exact .sh (.av _)
          refine hK' c _ ?_
          rw [h6]
          exact this
      · rename_i us _
        obtain ⟨h5, h6⟩ := Res.done h1
        have h3 := rep_av (hI.slot d _ hv)
        have hy : yielded l.toArray a.tmps j = none := by
          unfold yielded
          have hj' : (l.toArray[j]?).bind (·.dst) = some d := by simpa using hj
          rw [hj']
          cases hx : a.tmps[d]? with
          | none => simp [hx]
          | some x =>
            rw [Array.getD_eq_getD_getElem?, hx] at h3
            simp only [Option.getD_some] at h3
            subst h3
            simp [hx]
        have hw : Region.wanted o (yielded l.toArray a.tmps) = false := by
          unfold Region.wanted
          simp only [hg, hy]
          rfl
        rw [if_neg (by rw [hw]; decide)]
        have := hI.pure (nx' := fun j => nx j ∨ (id ≤ j ∧ j < id + 8)) (fun _ h => .inl h) o.dst hd (p := out.pv) (v := undef) fun _ => by rw [h5]; exact .sh (.av _)
        refine hK' c _ ?_
        rw [h6]
        exact this
      · exact (Res.fail h1).elim
    · exact (Res.fail hres).elim

/-! ### a region reckoned -/
def ansAt (ans : List (Nat × Ans)) (i : Nat) : Ans := match lk i ans with | some a => a | none => .no
def dstOk (n : Nat) (o : Oper) : Bool := match o.dst with | some d => Nat.blt d n | none => true
def evs (P : Program) (n : Nat) (ops : List Oper) (n0 : Nat) (ans : List (Nat × Ans)) : List Oper → Nat → L → Option (L × List Prop × List Out)
  | [], _, l => some (l, [], [])
  | o :: r, i, l => match run (get l) (gplan P ops o (ansAt ans i) (n0 + 8 * i)), dstOk n o with
    | some out, true => match evs P n ops n0 ans r (i + 1) (wr o.dst out ++ l) with
      | some (l', obs, outs) => some (l', out.obs ++ obs, out :: outs)
      | none => none
    | _, _ => none
def out0 : Out := ⟨P0, [], [], []⟩
theorem evs_spec {P : Program} {n : Nat} {ops : List Oper} {n0 : Nat} {ans : List (Nat × Ans)} {g0 : St} {tab : Nat → Out} : ∀ {r : List Oper} {i : Nat} {l l' : L} {obs : List Prop} {outs : List Out}, evs P n ops n0 ans r i l = some (l', obs, outs) →
    ops.drop i = r → (∀ j, j < r.length → outs.getD j out0 = tab (i + j)) → get l = fold g0 (Wt ops.toArray tab) (fun j => decide (j < i)) ops.length →
    outs.length = r.length ∧ get l' = fold g0 (Wt ops.toArray tab) (fun _ => true) ops.length ∧
      ∀ j o, i ≤ j → ops[j]? = some o → run (fold g0 (Wt ops.toArray tab) (fun k => decide (k < j)) ops.length) (gplan P ops o (ansAt ans j) (n0 + 8 * j)) = some (tab j) ∧ (∀ p ∈ (tab j).obs, p ∈ obs) ∧ ∀ x, o.dst = some x → x < n
  | [], i, l, l', obs, outs, h, hd, ht, hg => by
    simp only [evs, Option.some.injEq, Prod.mk.injEq] at h
    obtain ⟨rfl, rfl, rfl⟩ := h
    have hi : ops.length ≤ i := by simpa using hd
    refine ⟨rfl, ?_, fun j o hj ho => ?_⟩
    · rw [hg]
      funext k
      exact fold_congr fun j hj _ => by simp; omega
    · rw [List.getElem?_eq_none (by omega)] at ho; cases ho
  | o :: r, i, l, l', obs, outs, h, hd, ht, hg => by
    simp only [evs] at h
    split at h
    case h_2 => cases h
    rename_i out hout hdst
    split at h
    case h_2 => cases h
    rename_i l1 obs1 outs1 he
    simp only [Option.some.injEq, Prod.mk.injEq] at h
    obtain ⟨rfl, rfl, rfl⟩ := h
    have hlt : i < ops.length := by
      rcases Nat.lt_or_ge i ops.length with h1 | h1
      · exact h1
      · rw [List.drop_eq_nil_of_le h1] at hd; cases hd
    have hoi : ops[i]? = some o := by
      have := List.getElem?_drop (xs := ops) (i := i) (j := 0)
      rw [hd] at this
      simpa using this.symm
    have hdr : ops.drop (i + 1) = r := by
      have := List.drop_drop (i := 1) (j := i) (l := ops)
      rw [hd] at this
      simpa [Nat.add_comm] using this.symm
    have htab : tab i = out := by
      have := ht 0 (by simp)
      simpa using this.symm
    have hW : Wt ops.toArray tab i = wr o.dst out := by simp [Wt, hoi, htab]
    have hnext : get (wr o.dst out ++ l) = fold g0 (Wt ops.toArray tab) (fun j => decide (j < i + 1)) ops.length := by
      rw [get_append, hg]
      have e : (fun j => decide (j < i + 1)) = addP (fun j => decide (j < i)) i := by
        funext j
        unfold addP
        by_cases e : j = i
        · subst e; simp
        · simp [e]; omega
      rw [e, fold_add (by simp) hlt fun j x h1 h2 h3 => by simp at h3; omega, hW]
    obtain ⟨h1, h2, h3⟩ := evs_spec he hdr (fun j hj => by
      have := ht (j + 1) (by simp; omega)
      rw [show i + (j + 1) = i + 1 + j by omega] at this
      simpa using this) hnext
    refine ⟨by simp [h1], h2, fun j o' hj ho' => ?_⟩
    by_cases e : j = i
    · subst e
      rw [hoi] at ho'
      cases ho'
      rw [← hg, htab]
      refine ⟨hout, fun p hp => by simp [hp], fun x hx => ?_⟩
      unfold dstOk at hdst
      rw [hx] at hdst
      simpa [Nat.blt_eq] using hdst
    · obtain ⟨h4, h5, h6⟩ := h3 j o' (by omega) ho'
      exact ⟨h4, fun p hp => by simp [h5 p hp], h6⟩
/-- The region's outcome: what is still spoken of behind it; the obligations. -/
def evr (P : Program) (n : Nat) (ops : List Oper) (n0 : Nat) (ans : List (Nat × Ans)) (draw : Bool) (live : List Nat) (l : L) : Option (L × List Prop) :=
  match evs P n ops n0 ans ops 0 l with
  | some (l', obs, outs) => match draw with
    | false => some (live.map fun k => (k, get l' k), obs)
    | true => match befB ops (befs ops), apartB (Wt ops.toArray fun i => outs.getD i out0) (fun i => (outs.getD i out0).reads) (befs ops) ops.length with
      | true, true => some (live.map fun k => (k, get l' k), obs)
      | _, _ => none
  | none => none
theorem Inv.less {E : Env} {nx : Nat → Prop} {c : Cx} {g g' : St} {a : Act} (h : Inv E nx c g a) (hs : ∀ k v, g' k = some v → g k = some v) : Inv E nx c g' a := by
  have hl : ∀ i, Live g' i → Live g i := fun i ⟨T, cs, hx⟩ => ⟨T, cs, hs _ _ hx⟩
  exact { h with blk := fun i T cs hx => h.blk i T cs (hs _ _ hx), inj := fun i j b T T' l1 l2 => h.inj i j b T T' (hl i l1) (hl j l2), apart := fun i b T l1 => h.apart i b T (hl i l1),
                 slot := fun s p hp => h.slot s p (hs _ _ hp), isv := fun s x hx => h.isv s x (hs _ _ hx) }
theorem get_live {live : List Nat} {g : St} : ∀ k v, get (live.map fun k => (k, g k)) k = some v → g k = some v := by
  intro k v h
  induction live with
  | nil => simp [get, lk] at h
  | cons a live ih =>
    simp only [get, List.map_cons, lk] at h ih
    by_cases e : Nat.beq k a = true
    · rw [if_pos e] at h
      rw [Nat.eq_of_beq_eq_true e]
      simpa using h
    · rw [if_neg e] at h
      exact ih h
theorem repl_false (m j : Nat) : (Array.replicate m false).getD j false = false := by
  rw [Array.getD_eq_getD_getElem?, Array.getElem?_replicate]
  by_cases h : j < m <;> simp [h]
theorem region_ok {E : Env} {n0 : Nat} {l l' : L} {id : Nat} {ops : Array Oper} {draw : Bool} {ans : List (Nat × Ans)} {live : List Nat} {obs : List Prop} (hm : draw = true → E.P.follows .mixedOrders = true) (h : evr E.P E.n ops.toList n0 ans draw live l = some (l', obs)) (hob : ∀ p ∈ obs, p)
    {Q : Exit → Act → World → Prop} (hQ : ∀ c a, Inv E (· < n0 + 8 * ops.size) c (get l') a → Q .normal a c.w) {c : Cx} {a : Act} (hI : Inv E (· < n0) c (get l) a) : (Code.region id ops draw).wp E.P Q a c.w := by
  unfold evr at h
  split at h
  case h_2 => cases h
  rename_i l1 obs1 outs he
  obtain ⟨h1, h2, h3⟩ := evs_spec (g0 := get l) (tab := fun i => outs.getD i out0) he (by simp) (fun j _ => by simp) (by
    funext k
    have : ∀ m, fold (get l) (Wt ops.toList.toArray fun i => outs.getD i out0) (fun j => decide (j < 0)) m = get l := fun m => by
      induction m with
      | zero => rfl
      | succ m ih => simp only [fold, Nat.not_lt_zero, decide_false, Bool.false_eq_true, if_false]; exact ih
    rw [this])
  have hops : ops.toList.toArray = ops := by simp
  have hlen : ops.toList.length = ops.size := by simp
  have hstep : obs = obs1 → ∀ i o, ops.toList[i]? = some o → ∀ g, (∀ k ∈ (outs.getD i out0).reads, g k = fold (get l) (Wt ops.toList.toArray fun i => outs.getD i out0) (fun j => decide (j < i)) ops.toList.length k) → StepOk E ops.toList.toArray i o (outs.getD i out0) (n0 + 8 * i) g := by
    intro hobs i o ho g hg
    obtain ⟨h4, h5, h6⟩ := h3 i o (Nat.zero_le _) ho
    exact gplan_ok ho h6 (run_congr h4 hg) fun p hp => hob p (by rw [hobs]; exact h5 p hp)
  have hfin : ∀ {c : Cx} {a : Act}, l' = live.map (fun k => (k, get l1 k)) → Inv E (fun id => id < n0 + 8 * ops.toList.length) c (fold (get l) (Wt ops.toList.toArray fun i => outs.getD i out0) (fun _ => true) ops.toList.length) a → Q .normal a c.w := by
    intro c a hl' h
    rw [← h2, hlen] at h
    refine hQ c a (h.less fun k v hk => ?_)
    rw [hl'] at hk
    exact get_live k v hk
  split at h
  · simp only [Option.some.injEq, Prod.mk.injEq] at h
    obtain ⟨rfl, rfl⟩ := h
    have hs := seq_ops (E := E) (ops := ops.toList.toArray) (g0 := get l) (tab := fun i => outs.getD i out0) (n0 := n0) (fun i o ho => hstep rfl i o (by simpa using ho) _ (fun k _ => by simp)) (Q := Q) (fun c a h => hfin rfl (by simpa using h))
      ops.toList.toArray.size 0 (by simp) c a (by
        have h0 : fold (get l) (Wt ops.toList.toArray fun i => outs.getD i out0) (fun j => decide (j < 0)) ops.toList.toArray.size = get l := by
          generalize ops.toList.toArray.size = m
          induction m with
          | zero => rfl
          | succ m ih => simp only [fold, Nat.not_lt_zero, decide_false, Bool.false_eq_true, if_false]; exact ih
        rw [h0]
        exact hI.more fun i hi => .inl hi)
    rw [hops] at hs
    exact wp_region (by simpa using hs)
  · split at h
    case h_2 => cases h
    rename_i hbf hap
    simp only [Option.some.injEq, Prod.mk.injEq] at h
    obtain ⟨rfl, rfl⟩ := h
    have hs := any_ops (E := E) (l := ops.toList) (g0 := get l) (tab := fun i => outs.getD i out0) (n0 := n0) hbf hap (hstep rfl) (Q := Q) (fun c a h => hfin rfl h)
      ops.toList.length (Array.replicate ops.toList.length false) ⟨{ c.w with drawn := c.w.drawn + 1 }, c.S, c.own⟩ a (by simp) (by
        rw [left_congr (g := fun _ => false) fun i _ => repl_false _ _]
        exact left_false _) (fun j o _ hj => by
        have hj' : (Array.replicate ops.toList.length false).getD j false = true := hj
        rw [repl_false] at hj'
        cases hj') (by
        have h0 : fold (get l) (Wt ops.toList.toArray fun i => outs.getD i out0) (fun j => (Array.replicate ops.toList.length false).getD j false) ops.toList.length = get l := by
          have e : (fun j => (Array.replicate ops.toList.length false).getD j false) = fun _ => false := funext fun j => repl_false _ j
          rw [e]
          have : ∀ m, fold (get l) (Wt ops.toList.toArray fun i => outs.getD i out0) (fun _ => false) m = get l := fun m => by
            induction m with
            | zero => rfl
            | succ m ih => simp only [fold, Bool.false_eq_true, if_false]; exact ih
          exact this _
        rw [h0]
        exact (hI.drawn _).more fun i hi => .inl hi)
    rw [hops] at hs
    refine wp_region_any (hm rfl) ?_
    rw [hlen] at hs
    exact hs
end Go.Proofs.Ytfibadnkhbjciaa.Pm
namespace Go.Proofs.Ytfibadnkhbjciaa.Pm
open Go

inductive Item where
  | code (c : Code)
  | blk (id : Nat)
abbrev Post := Exit → Cx → Act → Prop
/-- What is asked where what runs ends so: the rest still to run, then Q. -/
def WS (E : Env) (Q : Post) : List Item → Post
  | [] => Q
  | .code c :: rs => fun e cx a => match e with
    | .normal => c.wp E.P (fun e a' w' => ∃ cx', cx'.w = w' ∧ WS E Q rs e cx' a') a cx.w
    | e => WS E Q rs e cx a
  | .blk id :: rs => fun e cx a => match e with
    | .exit j => if j = id then WS E Q rs .normal cx a else WS E Q rs (.exit j) cx a
    | e => WS E Q rs e cx a
/-- From any frame and world of which the state tells. -/
def T (P : Program) (n : Nat) (c0 : Cx) (Bor : BorD) (Q : Post) (n0 : Nat) (l : L) (rs : List Item) : Prop :=
  ∀ cx a, Inv ⟨P, n, c0, Bor⟩ (· < n0) cx (get l) a → WS ⟨P, n, c0, Bor⟩ Q rs .normal cx a

section
variable {P : Program} {n : Nat} {c0 : Cx} {Bor : BorD} {Q : Post} {n0 : Nat} {l : L} {rs : List Item}
theorem T_end (h : ∀ cx a, Inv ⟨P, n, c0, Bor⟩ (· < n0) cx (get l) a → Q .normal cx a) : T P n c0 Bor Q n0 l [] := h
theorem T_blk {id : Nat} (h : T P n c0 Bor Q n0 l rs) : T P n c0 Bor Q n0 l (.blk id :: rs) := fun cx a hI => h cx a hI
theorem T_seq {x y : Code} (h : T P n c0 Bor Q n0 l (.code x :: .code y :: rs)) : T P n c0 Bor Q n0 l (.code (.seq x y) :: rs) := fun cx a hI => by
  refine wp_seq (wp_mono (h cx a hI) fun e a' w' h1 => ?_)
  obtain ⟨cx', rfl, h2⟩ := h1
  cases e <;> first | exact h2 | exact ⟨cx', rfl, h2⟩
theorem T_skip (h : T P n c0 Bor Q n0 l rs) : T P n c0 Bor Q n0 l (.code .skip :: rs) := fun cx a hI => wp_skip ⟨cx, rfl, h cx a hI⟩
theorem T_label {k : Nat} (h : T P n c0 Bor Q n0 l rs) : T P n c0 Bor Q n0 l (.code (.label k) :: rs) := fun cx a hI => wp_label ⟨cx, rfl, h cx a hI⟩
theorem T_block {id : Nat} {c : Code} (h : T P n c0 Bor Q n0 l (.code c :: .blk id :: rs)) : T P n c0 Bor Q n0 l (.code (.block id c) :: rs) := fun cx a hI => by
  refine wp_block (wp_mono (h cx a hI) fun e a' w' h1 => ?_)
  obtain ⟨cx', rfl, h2⟩ := h1
  cases e with
  | exit j =>
    simp only [WS, Exit.inBlock] at h2 ⊢
    split at h2
    · rename_i e; rw [if_pos e]; exact ⟨cx', rfl, h2⟩
    · rename_i e; rw [if_neg e]; exact ⟨cx', rfl, h2⟩
  | normal => exact ⟨cx', rfl, h2⟩
  | goto l => exact ⟨cx', rfl, h2⟩
  | ret => exact ⟨cx', rfl, h2⟩
  | panic c => exact ⟨cx', rfl, h2⟩
  | outgrown => exact ⟨cx', rfl, h2⟩
/-- Out of a block. -/
def out (id : Nat) : List Item → Option (List Item)
  | [] => none
  | .code _ :: rs => out id rs
  | .blk j :: rs => match Nat.beq id j with | true => some rs | false => out id rs
theorem ws_out {E : Env} {id : Nat} {cx : Cx} {a : Act} : ∀ {rs rs' : List Item}, out id rs = some rs' → WS E Q rs' .normal cx a → WS E Q rs (.exit id) cx a
  | .code _ :: rs, rs', h, k => by
    simp only [out] at h
    exact ws_out (rs := rs) h k
  | .blk j :: rs, rs', h, k => by
    simp only [out] at h
    show if id = j then _ else _
    split at h
    · rename_i e
      cases h
      rw [if_pos (Nat.eq_of_beq_eq_true e)]
      exact k
    · rename_i e
      rw [if_neg fun h => by rw [h, Nat.beq_refl] at e; cases e]
      exact ws_out (rs := rs) h k
theorem T_exit {id : Nat} {rs' : List Item} (ho : out id rs = some rs') (h : T P n c0 Bor Q n0 l rs') : T P n c0 Bor Q n0 l (.code (.exit id) :: rs) := fun cx a hI =>
  wp_exit ⟨cx, rfl, ws_out ho (h cx a hI)⟩
theorem ws_out_none {E : Env} {id : Nat} {cx : Cx} {a : Act} : ∀ {rs : List Item}, out id rs = none → Q (.exit id) cx a → WS E Q rs (.exit id) cx a
  | [], _, k => k
  | .code _ :: rs, h, k => by
    simp only [out] at h
    exact ws_out_none (rs := rs) h k
  | .blk j :: rs, h, k => by
    simp only [out] at h
    show if id = j then _ else _
    split at h
    · cases h
    · rename_i e
      rw [if_neg fun h => by rw [h, Nat.beq_refl] at e; cases e]
      exact ws_out_none (rs := rs) h k
theorem T_leave {id : Nat} (ho : out id rs = none) (h : ∀ cx a, Inv ⟨P, n, c0, Bor⟩ (· < n0) cx (get l) a → Q (.exit id) cx a) : T P n c0 Bor Q n0 l (.code (.exit id) :: rs) := fun cx a hI =>
  wp_exit ⟨cx, rfl, ws_out_none ho (h cx a hI)⟩
theorem ws_ret {E : Env} {cx : Cx} {a : Act} : ∀ {rs : List Item}, Q .ret cx a → WS E Q rs .ret cx a
  | [], k => k
  | .code _ :: rs, k => ws_ret (rs := rs) k
  | .blk _ :: rs, k => ws_ret (rs := rs) k
theorem T_ret (h : ∀ cx a, Inv ⟨P, n, c0, Bor⟩ (· < n0) cx (get l) a → Q .ret cx a) : T P n c0 Bor Q n0 l (.code .ret :: rs) := fun cx a hI => wp_ret ⟨cx, rfl, ws_ret (h cx a hI)⟩
theorem T_cond {t : Nat} {x y : Code} {b : Bool} (hb : get l (Pm.ks t) = some (.pv (.av (.bool b)))) (h1 : b = true → T P n c0 Bor Q n0 l (.code x :: rs)) (h2 : b = false → T P n c0 Bor Q n0 l (.code y :: rs)) :
    T P n c0 Bor Q n0 l (.code (.cond (.tmp t) x y) :: rs) := fun cx a hI => by
  have hv := rep_av (hI.slot t _ hb)
  cases b with
  | true => exact wp_cond_true hv (h1 rfl cx a hI)
  | false => exact wp_cond_false hv (h2 rfl cx a hI)
theorem T_region {id : Nat} {ops : Array Oper} {draw : Bool} (ans : List (Nat × Ans)) (live : List Nat) {l' : L} {obs : List Prop} (hm : draw = true → P.follows .mixedOrders = true) (h : evr P n ops.toList n0 ans draw live l = some (l', obs)) (hob : ∀ p ∈ obs, p)
    (hT : T P n c0 Bor Q (n0 + 8 * ops.size) l' rs) : T P n c0 Bor Q n0 l (.code (.region id ops draw) :: rs) := fun _ _ hI =>
  region_ok (E := ⟨P, n, c0, Bor⟩) hm h hob (fun c a h => ⟨c, rfl, hT c a h⟩) hI

/-! ### states said anew -/
/-- One state tells no more than another one. -/
def Wk (P : Program) (n : Nat) (c0 : Cx) (Bor : BorD) (n0 : Nat) (l : L) (n1 : Nat) (l' : L) : Prop := ∀ cx a, Inv ⟨P, n, c0, Bor⟩ (· < n0) cx (get l) a → ∃ cx', cx'.w = cx.w ∧ Inv ⟨P, n, c0, Bor⟩ (· < n1) cx' (get l') a
theorem ws_world {E : Env} {cx cx' : Cx} {a : Act} {c : Code} (hw : cx'.w = cx.w) (h : WS E Q (.code c :: rs) .normal cx' a) : WS E Q (.code c :: rs) .normal cx a := by
  show c.wp E.P _ a cx.w
  rw [← hw]
  exact h
theorem T_wk {c : Code} {n1 : Nat} {l' : L} (hw : Wk P n c0 Bor n0 l n1 l') (h : T P n c0 Bor Q n1 l' (.code c :: rs)) : T P n c0 Bor Q n0 l (.code c :: rs) := fun cx a hI => by
  obtain ⟨cx', h1, h2⟩ := hw cx a hI
  exact ws_world h1 (h cx' a h2)
theorem Wk.refl : Wk P n c0 Bor n0 l n0 l := fun cx _ h => ⟨cx, rfl, h⟩
theorem Wk.trans {n1 n2 : Nat} {l1 l2 : L} (h : Wk P n c0 Bor n0 l n1 l1) (k : Wk P n c0 Bor n1 l1 n2 l2) : Wk P n c0 Bor n0 l n2 l2 := fun cx a hI => by
  obtain ⟨c1, e1, h1⟩ := h cx a hI
  obtain ⟨c2, e2, h2⟩ := k c1 a h1
  exact ⟨c2, e2.trans e1, h2⟩
/-- Fewer keys. -/
theorem Wk.less {l' : L} (n1 : Nat) (hn : Nat.ble n0 n1 = true) (h : l'.map (fun x => get l x.1) = l'.map (·.2)) : Wk P n c0 Bor n0 l n1 l' := fun cx a hI => by
  refine ⟨cx, rfl, (hI.more fun i hi => Nat.lt_of_lt_of_le hi (Nat.le_of_ble_eq_true hn)).less fun k v hk => ?_⟩
  have : ∀ (m : L), m.map (fun x => get l x.1) = m.map (·.2) → ∀ k v, get m k = some v → get l k = some v := by
    intro m
    induction m with
    | nil => intro _ k v hk; simp [get, lk] at hk
    | cons x m ih =>
      intro hm k v hk
      simp only [List.map_cons, List.cons.injEq] at hm
      simp only [get, lk] at hk ih
      by_cases e : Nat.beq k x.1 = true
      · rw [if_pos e] at hk
        rw [Nat.eq_of_beq_eq_true e, hm.1]
        simpa using hk
      · rw [if_neg e] at hk
        exact ih hm.2 k v hk
  exact this l' h k v hk
/-- Other numbers for own blocks: number i is what number σ i was. -/
def reSt (σ : Nat → Nat) (n1 : Nat) (l' : L) (g : St) : List Prop := l'.map fun x => match x.2 with
  | some (.pv p) => g x.1 = some (.pv (ren σ p))
  | some (.blk T cs) => x.1 % 2 = 1 ∧ x.1 / 2 < n1 ∧ g (kb (σ (x.1 / 2))) = some (.blk T (renL σ cs))
  | none => True
theorem reSt_spec {σ : Nat → Nat} {n1 : Nat} {g : St} : ∀ {l' : L}, (∀ p ∈ reSt σ n1 l' g, p) → ∀ k v, get l' k = some v → match v with
    | .pv p => g k = some (.pv (ren σ p))
    | .blk T cs => k % 2 = 1 ∧ k / 2 < n1 ∧ g (kb (σ (k / 2))) = some (.blk T (renL σ cs))
  | [], _, k, v, h => by simp [get, lk] at h
  | x :: l', hp, k, v, h => by
    simp only [reSt, List.map_cons, List.mem_cons, forall_eq_or_imp] at hp
    simp only [get, lk] at h
    by_cases e : Nat.beq k x.1 = true
    · rw [if_pos e] at h
      have e' := Nat.eq_of_beq_eq_true e
      subst e'
      have h2 : x.2 = some v := by simpa using h
      have h1 := hp.1
      rw [h2] at h1
      cases v <;> exact h1
    · rw [if_neg e] at h
      exact reSt_spec (l' := l') hp.2 k v h
theorem renL_nil {σ : Nat → Nat} {cs : List PV} (h : renL σ cs = []) : cs = [] := by
  have := congrArg List.length h
  rw [renL_length] at this
  exact List.eq_nil_of_length_eq_zero this
def sgm (n0 : Nat) (σl : List Nat) (i : Nat) : Nat := match Nat.blt i σl.length with | true => σl.getD i 0 | false => n0 + i
/-- m: how many numbers were lent (they stay as they are). -/
theorem Wk.ren {l' : L} (m : Nat) (hc0 : ∀ i x, c0.own i = some x → i < m) (σl : List Nat) (hσ : σl.take m = List.range m) (hnd : nodupB σl = true) (h : ∀ p ∈ reSt (sgm n0 σl) σl.length l' (get l), p) : Wk P n c0 Bor n0 l σl.length l' := fun cx a hI => by
  have hsp := reSt_spec h
  have hs1 : ∀ i, i < σl.length → sgm n0 σl i = σl.getD i 0 := fun i hi => by
    unfold sgm
    rw [show Nat.blt i σl.length = true from by simpa [Nat.blt_eq] using hi]
  have hs2 : ∀ i, σl.length ≤ i → cx.own (sgm n0 σl i) = none := fun i hi => by
    unfold sgm
    rw [show Nat.blt i σl.length = false from by rw [Bool.eq_false_iff, Ne, Nat.blt_eq]; omega]
    cases ho : cx.own (n0 + i) with
    | none => rfl
    | some x => have : n0 + i < n0 := hI.ids _ x ho; omega
  have hlv : ∀ i, Live (get l') i → i < σl.length ∧ Live (get l) (sgm n0 σl i) := fun i ⟨T, cs, hx⟩ => by
    have h1 := hsp _ _ hx
    simp only at h1
    rw [show kb i / 2 = i by simp only [kb]; omega] at h1
    exact ⟨h1.2.1, T, _, h1.2.2⟩
  refine ⟨cx.via (sgm n0 σl), rfl, { ids := fun i x hx => ?_, blk := fun i T cs hx => ?_, inj := fun i j b T T' l1 l2 h3 h4 => ?_, apart := fun i b T l1 h2 => hI.apart _ b T (hlv i l1).2 h2, bnd := fun i b T h1 => hI.bnd _ b T h1, sok := hI.sok, os := hI.os, tape := hI.tape, output := hI.output, size := hI.size, same := hI.same, laid := hI.laid, s0 := hI.s0, s1 := hI.s1, keep := ⟨hI.keep.S, fun i x hx => ?_, hI.keep.shape⟩, tmps := hI.tmps, dfr := hI.dfr, slot := fun s p hp => ?_, isv := fun s x hx => ?_ }⟩
  · show i < σl.length
    rcases Nat.lt_or_ge i σl.length with h1 | h1
    · exact h1
    · have : cx.own (sgm n0 σl i) = some x := hx
      rw [hs2 i h1] at this
      cases this
  · have h1 := hsp _ _ hx
    simp only at h1
    rw [show kb i / 2 = i by simp only [kb]; omega] at h1
    obtain ⟨ob, h5, h6, h7⟩ := hI.blk _ _ _ h1.2.2
    refine ⟨ob, h5, ones_renL.1 h6, ?_⟩
    rcases h7 with ⟨h7, h8⟩ | ⟨b, arr, h7, h8, h9, h10⟩
    · exact .inl ⟨h7, renL_nil h8⟩
    · rw [renL_length] at h9 h10
      exact .inr ⟨b, arr, h7, h8, h9, fun j hj => rep_via (h10 j hj) _ (renL_get _ _ j hj)⟩
  · obtain ⟨e1, l1'⟩ := hlv i l1
    obtain ⟨e2, l2'⟩ := hlv j l2
    have := hI.inj _ _ b T T' l1' l2' h3 h4
    rw [hs1 i e1, hs1 j e2] at this
    exact nodup_inj hnd i j e1 e2 this
  · have h1 := hc0 i x hx
    have h2 : i < σl.length := by
      have := congrArg List.length hσ
      simp at this
      omega
    have h3 : σl.getD i 0 = i := by
      have h4 := List.getElem?_take_of_lt (l := σl) h1
      rw [hσ] at h4
      rw [List.getD_eq_getElem?_getD, ← h4]
      simp [h1]
    show cx.own (sgm n0 σl i) = some x
    rw [hs1 i h2, h3]
    exact hI.keep.own i x hx
  · have h1 := hsp _ _ hp
    exact rep_via (hI.slot s _ h1) _ rfl
  · cases x with
    | pv p => exact ⟨p, rfl⟩
    | blk T cs =>
      have h1 := hsp _ _ hx
      simp only [Pm.ks] at h1
      omega
/-- A slot that holds nil: an own row that has not been made. -/
theorem Wk.nil {s : Nat} (T : TypeId) (hs : get l (Pm.ks s) = some (.pv (.av (.slice none 0 0)))) : Wk P n c0 Bor n0 l (n0 + 1) ([(ks s, some (.pv (.osl n0 0 0))), (kb n0, some (.blk T []))] ++ l) := fun cx a hI => by
  obtain ⟨hk, hh⟩ := heap_virtual hI.toHeap (id := n0) (fun h => absurd h (Nat.lt_irrefl _)) T
  refine ⟨⟨cx.w, cx.S, setOwn cx.own n0 (none, T)⟩, rfl, ?_⟩
  have hge : ∀ k, get ([(ks s, some (.pv (.osl n0 0 0))), (kb n0, some (.blk T []))] ++ l) k = if Nat.beq k (Pm.ks s) then some (.pv (.osl n0 0 0)) else over [(kb n0, some (.blk T []))] (get l) k := fun k => by
    rw [get_append]
    simp only [over, lk]
    by_cases h1 : Nat.beq k (Pm.ks s) = true
    · simp [h1]
    · simp only [h1]; rfl
  have hb : ∀ i, get ([(ks s, some (.pv (.osl n0 0 0))), (kb n0, some (.blk T []))] ++ l) (kb i) = over [(kb n0, some (.blk T []))] (get l) (kb i) := fun i => by
    rw [hge, beq_kbs]; rfl
  have hl : ∀ i, Live (get ([(ks s, some (.pv (.osl n0 0 0))), (kb n0, some (.blk T []))] ++ l)) i → Live (over [(kb n0, some (.blk T []))] (get l)) i := fun i ⟨T', cs, hx⟩ => ⟨T', cs, by rw [← hb]; exact hx⟩
  exact { ids := fun i x hx => by
            rcases hh.ids i x hx with h | h
            · exact Nat.lt_succ_of_lt h
            · subst h; exact Nat.lt_succ_self _
          blk := fun i T' cs hx => hh.blk i T' cs (by rw [← hb]; exact hx), inj := fun i j b T T' l1 l2 => hh.inj i j b T T' (hl i l1) (hl j l2), apart := fun i b T l1 => hh.apart i b T (hl i l1), bnd := hh.bnd, sok := hh.sok,
          os := hh.os, tape := hh.tape, output := hh.output, size := hh.size, same := hh.same, laid := hh.laid, s0 := hh.s0, s1 := hh.s1, keep := hh.keep, tmps := hI.tmps, dfr := hI.dfr
          slot := fun s' p hp => by
            rw [hge, beq_ks] at hp
            by_cases e : s' = s
            · subst e
              rw [decide_eq_true rfl, if_pos rfl] at hp
              cases hp
              have := rep_av (hI.slot s' _ hs)
              rw [this]
              exact .osl setOwn_same (.inl ⟨_, rfl, rfl⟩)
            · rw [decide_eq_false e, if_neg (by simp), over_s] at hp
              exact (hI.slot s' p hp).mono hk
          isv := fun s' x hx => by
            rw [hge, beq_ks] at hx
            by_cases e : s' = s
            · subst e
              rw [decide_eq_true rfl, if_pos rfl] at hx
              cases hx
              exact ⟨_, rfl⟩
            · rw [decide_eq_false e, if_neg (by simp), over_s] at hx
              exact hI.isv s' x hx }
end
end Go.Proofs.Ytfibadnkhbjciaa.Pm
namespace Go.Proofs.Ytfibadnkhbjciaa.Pm
open Go

/-- The state behind it. -/
def frzS (id : Nat) (cs : List PV) : L → L
  | [] => []
  | (k, x) :: l => (k, match x with
    | some (.pv p) => some (.pv (frz id cs p))
    | some (.blk T ds) => match Nat.beq k (kb id) with | true => none | false => some (.blk T (frzL id cs ds))
    | none => none) :: frzS id cs l
theorem get_frzS {id : Nat} {cs : List PV} : ∀ {l : L} (k : Nat), get (frzS id cs l) k = match get l k with
    | some (.pv p) => some (.pv (frz id cs p))
    | some (.blk T ds) => if k = kb id then none else some (.blk T (frzL id cs ds))
    | none => none
  | [], k => rfl
  | (j, x) :: l, k => by
    have ih := get_frzS (id := id) (cs := cs) (l := l) k
    simp only [get, frzS, lk] at ih ⊢
    by_cases e : Nat.beq k j = true
    · have e' := Nat.eq_of_beq_eq_true e
      subst e'
      rw [if_pos e, if_pos e]
      cases x with
      | none => rfl
      | some v =>
        cases v with
        | pv p => rfl
        | blk T ds =>
          simp only [Option.join_some]
          by_cases e2 : k = kb id
          · subst e2; simp [Nat.beq_refl]
          · rw [show Nat.beq k (kb id) = false from by rw [Bool.eq_false_iff]; exact fun h => e2 (Nat.eq_of_beq_eq_true h), if_neg e2]
    · rw [if_neg e, if_neg e]
      exact ih
section
variable {P : Program} {n : Nat} {c0 : Cx} {Bor : BorD} {Q : Post} {n0 : Nat} {l : L} {rs : List Item}
theorem Wk.frz {l' : L} (id : Nat) {T : TypeId} {cs : List PV} (hg : get l (kb id) = some (.blk T cs)) (hs : shds cs) (he : frzS id cs l = l') : Wk P n c0 Bor n0 l n0 l' := fun cx a hI => by
  subst he
  obtain ⟨ob, ho, hone, hbk⟩ := hI.blk id T cs hg
  let cx' : Cx := ⟨cx.w, fun b => cx.S b ∨ ob = some b, cx.own⟩
  have hlive : Live (get l) id := ⟨T, cs, hg⟩
  have hblk : ∀ b, ob = some b → cx'.S b ∧ ∃ arr : Array Value, cx.w.heap[b]? = some (.cells arr T (0, 0)) ∧ cs.length ≤ arr.size ∧ ∀ j, j < cs.length → SRep cx'.w cx'.S (cs.getD j P0) (arr.getD j undef) := by
    intro b hb
    rcases hbk with ⟨h1, _⟩ | ⟨b', arr, h1, h2, h3, h4⟩
    · rw [hb] at h1; cases h1
    · obtain rfl : b' = b := by rw [hb] at h1; simpa using h1.symm
      refine ⟨.inr hb, arr, h2, h3, fun j hj => ?_⟩
      have hm : cs.getD j P0 ∈ cs := by simp [List.getD_eq_getElem?_getD, hj]
      exact (shd_rep (h4 j hj) (hs _ hm)).mono fun b hb => ⟨.inl hb, rfl⟩
  have hrep : ∀ {p : PV} {v : Value}, Rep P cx p v → Rep P cx' (Pm.frz id cs p) v := fun h => rep_frz (c := cx) (c' := cx') rfl (fun _ h => Or.inl h) rfl ho hone hblk h
  have hgb : ∀ i T' ds, get (frzS id cs l) (kb i) = some (.blk T' ds) → i ≠ id ∧ ∃ ds', get l (kb i) = some (.blk T' ds') ∧ ds = frzL id cs ds' := by
    intro i T' ds h
    rw [get_frzS] at h
    cases hx : get l (kb i) with
    | none => rw [hx] at h; cases h
    | some v =>
      rw [hx] at h
      cases v with
      | pv p => cases h
      | blk T2 ds2 =>
        simp only at h
        by_cases e : kb i = kb id
        · rw [if_pos e] at h; cases h
        · rw [if_neg e] at h
          simp only [Option.some.injEq, Val.blk.injEq] at h
          obtain ⟨rfl, rfl⟩ := h
          exact ⟨fun e2 => e (by rw [e2]), _, rfl, rfl⟩
  have hl : ∀ i, Live (get (frzS id cs l)) i → i ≠ id ∧ Live (get l) i := fun i ⟨T', ds, h⟩ => by
    obtain ⟨h1, ds', h2, _⟩ := hgb i T' ds h
    exact ⟨h1, T', ds', h2⟩
  refine ⟨cx', rfl, { ids := hI.ids, blk := fun i T' ds h => ?_, inj := fun i j b T1 T2 l1 l2 => hI.inj i j b T1 T2 (hl i l1).2 (hl j l2).2, apart := fun i b T1 l1 h2 => ?_, bnd := hI.bnd, sok := fun b hb => ?_, os := hI.os, tape := hI.tape, output := hI.output, size := hI.size, same := hI.same, laid := hI.laid, s0 := fun b hb => .inl (hI.s0 b hb), s1 := fun b hb => ?_, keep := ⟨fun b hb => ⟨.inl (hI.keep.S b hb).1, (hI.keep.S b hb).2⟩, hI.keep.own, hI.keep.shape⟩, tmps := hI.tmps, dfr := hI.dfr, slot := fun s p hp => ?_, isv := fun s x hx => ?_ }⟩
  · obtain ⟨h1, ds', h2, rfl⟩ := hgb i T' ds h
    obtain ⟨ob', h3, h4, h5⟩ := hI.blk i T' ds' h2
    refine ⟨ob', h3, ones_frzL h4, ?_⟩
    rcases h5 with ⟨h5, rfl⟩ | ⟨b, arr, h5, h6, h7, h8⟩
    · exact .inl ⟨h5, rfl⟩
    · refine .inr ⟨b, arr, h5, h6, by rw [frzL_length]; exact h7, fun j hj => ?_⟩
      rw [frzL_length] at hj
      rw [frzL_get _ _ _ j hj]
      exact hrep (h8 j hj)
  · obtain ⟨h1, h3⟩ := hl i l1
    have hap := hI.apart i b T1 h3 h2
    refine ⟨fun hb => ?_, hap.2⟩
    rcases hb with hb | hb
    · exact hap.1 hb
    · subst hb
      exact h1 (hI.inj i id b T1 T h3 hlive h2 ho)
  · rcases hb with hb | hb
    · exact hI.sok b hb
    · subst hb; exact hI.bnd id b T ho
  · rcases hb with hb | hb
    · exact hI.s1 b hb
    · subst hb; exact .inr (hI.apart id b T hlive ho).2
  · rw [get_frzS] at hp
    cases hx : get l (ks s) with
    | none => rw [hx] at hp; cases hp
    | some v =>
      rw [hx] at hp
      cases v with
      | pv q =>
        simp only [Option.some.injEq, Val.pv.injEq] at hp
        subst hp
        exact hrep (hI.slot s q hx)
      | blk T2 ds2 => obtain ⟨q, hq⟩ := hI.isv s _ hx; cases hq
  · rw [get_frzS] at hx
    cases hy : get l (ks s) with
    | none => rw [hy] at hx; cases hx
    | some v =>
      rw [hy] at hx
      cases v with
      | pv q => exact ⟨_, by simpa using hx.symm⟩
      | blk T2 ds2 => obtain ⟨q, hq⟩ := hI.isv s _ hy; cases hq

/-! ### loops -/
def leastP (p : Nat → Prop) (m : Nat) : Prop := p m ∧ ∀ k, k < m → ¬ p k
theorem least_of {p : Nat → Prop} : ∀ m, p m → ∃ k, leastP p k := by
  intro m
  induction m using Nat.strongRecOn with
  | ind m ih =>
    intro h
    by_cases e : ∃ k, k < m ∧ p k
    · obtain ⟨k, h1, h2⟩ := e
      exact ih k h1 h2
    · exact ⟨m, h, fun k h1 h2 => e ⟨k, h1, h2⟩⟩
/-- What a round must end in: the loop's states again, with less to do; or out. -/
def loopQ {α : Type} (P : Program) (n : Nat) (c0 : Cx) (Bor : BorD) (Q : Post) (rs : List Item) (n1 : Nat) (I : α → L) (μ : α → Nat) (x : α) : Post := fun e cx a => match e with
  | .normal => ∃ y cx', cx'.w = cx.w ∧ Inv ⟨P, n, c0, Bor⟩ (· < n1) cx' (get (I y)) a ∧ μ y < μ x
  | e => WS ⟨P, n, c0, Bor⟩ Q rs e cx a
theorem T_loop {α : Type} {body : Code} (I : α → L) (μ : α → Nat) (n1 : Nat) (x0 : α) (h0 : Wk P n c0 Bor n0 l n1 (I x0)) (h : ∀ x, T P n c0 Bor (loopQ P n c0 Bor Q rs n1 I μ x) n1 (I x) [.code body]) : T P n c0 Bor Q n0 l (.code (.loop body) :: rs) := fun cx a hI => by
  obtain ⟨cx0, hw0, hI0⟩ := h0 cx a hI
  let p : Act → World → Nat → Prop := fun a w m => ∃ x cx, cx.w = w ∧ Inv ⟨P, n, c0, Bor⟩ (· < n1) cx (get (I x)) a ∧ μ x = m
  have key := wp_loop (P := P) (Q := fun e a' w' => ∃ cx', cx'.w = w' ∧ WS ⟨P, n, c0, Bor⟩ Q rs e cx' a') (c := body) (a := a) (w := cx.w) (fun a w => ∃ m, leastP (p a w) m) (fun a w => Classical.epsilon (leastP (p a w)))
    (least_of (μ x0) ⟨x0, cx0, hw0, hI0, rfl⟩) ?_
  · exact key
  · intro a w hm
    have hsp := Classical.epsilon_spec hm
    obtain ⟨⟨x, cx1, rfl, h1, h2⟩, hleast⟩ := hsp
    refine wp_mono (h x cx1 a h1) ?_
    rintro e a' w' ⟨cx', rfl, h3⟩
    cases e with
    | normal =>
      obtain ⟨y, cx2, h4, h5, h6⟩ := h3
      have hex := least_of (p := p a' cx'.w) (μ y) ⟨y, cx2, h4, h5, rfl⟩
      refine ⟨hex, ?_⟩
      have hsp2 := Classical.epsilon_spec hex
      have hle : Classical.epsilon (leastP (p a' cx'.w)) ≤ μ y := by
        rcases Nat.lt_or_ge (μ y) (Classical.epsilon (leastP (p a' cx'.w))) with h7 | h7
        · exact absurd ⟨y, cx2, h4, h5, rfl⟩ (hsp2.2 _ h7)
        · exact h7
      show Classical.epsilon (leastP (p a' cx'.w)) < Classical.epsilon (leastP (p a cx1.w))
      rw [← h2]
      omega
    | exit id => exact ⟨cx', rfl, h3⟩
    | goto l => exact ⟨cx', rfl, h3⟩
    | ret => exact ⟨cx', rfl, h3⟩
    | panic c => exact ⟨cx', rfl, h3⟩
    | outgrown => exact ⟨cx', rfl, h3⟩
theorem T_back {α : Type} {I : α → L} {μ : α → Nat} {n1 : Nat} {x : α} (y : α) (hw : Wk P n c0 Bor n0 l n1 (I y)) (hm : μ y < μ x) : T P n c0 Bor (loopQ P n c0 Bor Q rs n1 I μ x) n0 l [] := fun cx a hI => by
  obtain ⟨cx', h1, h2⟩ := hw cx a hI
  exact ⟨y, cx', h1, h2, hm⟩
theorem T_break {α : Type} {I : α → L} {μ : α → Nat} {n1 : Nat} {x : α} {id : Nat} {ks rs' : List Item} (h1 : out id ks = none) (h2 : out id rs = some rs') (h : T P n c0 Bor Q n0 l rs') : T P n c0 Bor (loopQ P n c0 Bor Q rs n1 I μ x) n0 l (.code (.exit id) :: ks) :=
  T_leave h1 fun cx a hI => ws_out h2 (h cx a hI)
theorem loop_ret {α : Type} {I : α → L} {μ : α → Nat} {n1 : Nat} {x : α} {cx : Cx} {a : Act} (h : Q .ret cx a) : loopQ P n c0 Bor Q rs n1 I μ x .ret cx a := ws_ret h

/-! ### whole functions -/
def resPV : List PV → PV
  | [p] => cz p
  | ps => .tup (ps.map cz)
def retQ (P : Program) (fn : Func) (c0 : Cx) (Bor : BorD) (r : PV) (H' : Hp) : Post := fun e cx a => (e = .normal ∨ e = .ret) ∧ a.defers = Bor.ds ∧ ∃ v cx', cx'.w = cx.w ∧ (results fn a.tmps).run P cx.w = .ok v cx.w ∧ Rep P cx' r v ∧ Heap ⟨P, 0, c0, Bor⟩ (· < H'.length) cx' (hSt H')
theorem Heap.env {nx : Nat → Prop} {m : Nat} {c : Cx} {g : St} (h : Heap ⟨P, n, c0, Bor⟩ nx c g) : Heap ⟨P, m, c0, Bor⟩ nx c g :=
  { ids := h.ids, blk := h.blk, inj := h.inj, apart := h.apart, bnd := h.bnd, sok := h.sok, os := h.os, tape := h.tape, output := h.output, size := h.size, same := h.same, laid := h.laid, s0 := h.s0, s1 := h.s1, keep := h.keep }
theorem Heap.less {E : Env} {nx : Nat → Prop} {c : Cx} {g g' : St} (h : Heap E nx c g) (hs : ∀ i T cs, g' (kb i) = some (.blk T cs) → g (kb i) = some (.blk T cs)) : Heap E nx c g' := by
  have hl : ∀ i, Live g' i → Live g i := fun i ⟨T, cs, hx⟩ => ⟨T, cs, hs _ _ _ hx⟩
  exact { h with blk := fun i T cs hx => h.blk i T cs (hs _ _ _ hx), inj := fun i j b T T' l1 l2 => h.inj i j b T T' (hl i l1) (hl j l2), apart := fun i b T l1 => h.apart i b T (hl i l1) }
theorem run_res1 {fn : Func} {t : Nat} (hres : fn.results = #[.tmp t]) (tmps : Array Value) (w : World) : (results fn tmps).run P w = .ok (tmps.getD t undef) w := by simp [results, hres]
theorem run_res2 {fn : Func} {t u : Nat} (hres : fn.results = #[.tmp t, .tmp u]) (tmps : Array Value) (w : World) : (results fn tmps).run P w = .ok (.tuple #[tmps.getD t undef, tmps.getD u undef]) w := by simp [results, hres]
theorem run_res3 {fn : Func} {t u x : Nat} (hres : fn.results = #[.tmp t, .tmp u, .tmp x]) (tmps : Array Value) (w : World) : (results fn tmps).run P w = .ok (.tuple #[tmps.getD t undef, tmps.getD u undef, tmps.getD x undef]) w := by simp [results, hres]
theorem run_res0 {fn : Func} (hres : fn.results = #[]) (tmps : Array Value) (w : World) : (results fn tmps).run P w = .ok (.tuple #[]) w := by simp [results, hres]
/-- What is left of the blocks. -/
def blksB (l : L) : Nat → Hp → List Prop
  | _, [] => []
  | i, some (T, cs) :: H => (get l (kb i) = some (.blk T cs)) :: blksB l (i + 1) H
  | i, none :: H => blksB l (i + 1) H
theorem blksB_spec {l : L} : ∀ {H : Hp} {n : Nat}, (∀ p ∈ blksB l n H, p) → ∀ i x, H.getD i none = some x → get l (kb (n + i)) = some (.blk x.1 x.2)
  | [], n, _, i, x, h => by simp at h
  | none :: H, n, hp, 0, x, h => by simp at h
  | none :: H, n, hp, i + 1, x, h => by
    have := blksB_spec (H := H) (n := n + 1) hp i x (by simpa using h)
    rwa [show n + 1 + i = n + (i + 1) by omega] at this
  | some y :: H, n, hp, 0, x, h => by
    obtain ⟨T, cs⟩ := y
    have : (T, cs) = x := by simpa using h
    subst this
    exact hp _ (by simp [blksB])
  | some y :: H, n, hp, i + 1, x, h => by
    obtain ⟨T, cs⟩ := y
    have := blksB_spec (l := l) (H := H) (n := n + 1) (fun p hp' => hp p (by simp [blksB, hp'])) i x (by simpa using h)
    rwa [show n + 1 + i = n + (i + 1) by omega] at this
theorem ret_ok {fn : Func} {r : PV} {H' : Hp} {n1 : Nat} {l' : L} {e : Exit} (he : e = .normal ∨ e = .ret) (hw : Wk P n c0 Bor n0 l n1 l') (hn : n1 = H'.length) (hb : ∀ p ∈ blksB l' 0 H', p)
    (hr : ∀ (cx : Cx) (a : Act), Inv ⟨P, n, c0, Bor⟩ (· < n1) cx (get l') a → ∃ v, (results fn a.tmps).run P cx.w = .ok v cx.w ∧ Rep P cx r v) {cx : Cx} {a : Act} (hI : Inv ⟨P, n, c0, Bor⟩ (· < n0) cx (get l) a) : retQ P fn c0 Bor r H' e cx a := by
  obtain ⟨cx', h1, h2⟩ := hw cx a hI
  obtain ⟨v, h3, h4⟩ := hr cx' a h2
  refine ⟨he, hI.dfr, v, cx', h1, by rw [← h1]; exact h3, h4, ?_⟩
  subst hn
  refine (h2.toHeap.env).less fun i T cs hx => ?_
  rw [hSt_b] at hx
  cases hy : H'.getD i none with
  | none => rw [hy] at hx; cases hx
  | some y =>
    rw [hy] at hx
    simp only [Option.some.injEq, Val.blk.injEq] at hx
    obtain ⟨rfl, rfl⟩ := hx
    have := blksB_spec hb i y hy
    rwa [Nat.zero_add] at this
theorem ret0 {fn : Func} {l' : L} (hres : fn.results = #[]) (cx : Cx) (a : Act) (_ : Inv ⟨P, n, c0, Bor⟩ (· < n0) cx (get l') a) : ∃ v, (results fn a.tmps).run P cx.w = .ok v cx.w ∧ Rep P cx (.tup []) v :=
  ⟨_, run_res0 hres _ _, .tup rfl fun i hi => by simp at hi⟩
theorem ret1 {fn : Func} {l' : L} {t : Nat} {p r : PV} (hres : fn.results = #[.tmp t]) (hp : get l' (ks t) = some (.pv p)) (hr : cz p = r) (cx : Cx) (a : Act) (hI : Inv ⟨P, n, c0, Bor⟩ (· < n0) cx (get l') a) : ∃ v, (results fn a.tmps).run P cx.w = .ok v cx.w ∧ Rep P cx r v :=
  ⟨_, run_res1 hres _ _, hr ▸ rep_cz (hI.slot t p hp)⟩
theorem ret2 {fn : Func} {l' : L} {t u : Nat} {p q r s : PV} (hres : fn.results = #[.tmp t, .tmp u]) (hp : get l' (ks t) = some (.pv p)) (hq : get l' (ks u) = some (.pv q)) (hr : cz p = r) (hs : cz q = s) (cx : Cx) (a : Act)
    (hI : Inv ⟨P, n, c0, Bor⟩ (· < n0) cx (get l') a) : ∃ v, (results fn a.tmps).run P cx.w = .ok v cx.w ∧ Rep P cx (.tup [r, s]) v := by
  subst hr; subst hs
  refine ⟨_, run_res2 hres _ _, .tup rfl fun i hi => ?_⟩
  match i, hi with
  | 0, _ => exact rep_cz (hI.slot t p hp)
  | 1, _ => exact rep_cz (hI.slot u q hq)
theorem ret3 {fn : Func} {l' : L} {t u x : Nat} {p q z r s y : PV} (hres : fn.results = #[.tmp t, .tmp u, .tmp x]) (hp : get l' (ks t) = some (.pv p)) (hq : get l' (ks u) = some (.pv q)) (hz : get l' (ks x) = some (.pv z)) (hr : cz p = r) (hs : cz q = s) (hy : cz z = y) (cx : Cx) (a : Act)
    (hI : Inv ⟨P, n, c0, Bor⟩ (· < n0) cx (get l') a) : ∃ v, (results fn a.tmps).run P cx.w = .ok v cx.w ∧ Rep P cx (.tup [r, s, y]) v := by
  subst hr; subst hs; subst hy
  refine ⟨_, run_res3 hres _ _, .tup rfl fun i hi => ?_⟩
  match i, hi with
  | 0, _ => exact rep_cz (hI.slot t p hp)
  | 1, _ => exact rep_cz (hI.slot u q hq)
  | 2, _ => exact rep_cz (hI.slot x z hz)
/-- The state that a call begins in. -/
def initA : Nat → List PV → L
  | _, [] => []
  | i, p :: ps => (ks i, some (.pv p)) :: initA (i + 1) ps
def initB : Nat → Hp → L
  | _, [] => []
  | i, x :: H => (kb i, match x with | some y => some (.blk y.1 y.2) | none => none) :: initB (i + 1) H
theorem get_initA_b (i : Nat) : ∀ (ps : List PV) (n : Nat), lk (kb i) (initA n ps) = none
  | [], _ => rfl
  | p :: ps, n => by simp only [initA, lk, beq_kbs]; exact get_initA_b i ps (n + 1)
theorem get_initB_s (s : Nat) : ∀ (H : Hp) (n : Nat), lk (ks s) (initB n H) = none
  | [], _ => rfl
  | x :: H, n => by simp only [initB, lk, beq_ksb]; exact get_initB_s s H (n + 1)
theorem lk_initA : ∀ (ps : List PV) (n s : Nat) (x : Option Val), lk (ks s) (initA n ps) = some x → n ≤ s ∧ s < n + ps.length ∧ x = some (.pv (ps.getD (s - n) P0))
  | p :: ps, n, s, x, h => by
    simp only [initA, lk, beq_ks] at h
    by_cases e : s = n
    · subst e
      rw [decide_eq_true rfl, if_pos rfl] at h
      cases h
      exact ⟨Nat.le_refl _, by simp, by rw [Nat.sub_self]; rfl⟩
    · rw [decide_eq_false e, if_neg (by simp)] at h
      obtain ⟨h1, h2, h3⟩ := lk_initA ps (n + 1) s x h
      refine ⟨by omega, by simp; omega, ?_⟩
      rw [h3, show s - n = (s - (n + 1)) + 1 by omega]
      rfl
theorem lk_initB : ∀ (H : Hp) (n i : Nat) (T : TypeId) (cs : List PV), lk (kb i) (initB n H) = some (some (.blk T cs)) → n ≤ i ∧ H.getD (i - n) none = some (T, cs)
  | x :: H, n, i, T, cs, h => by
    simp only [initB, lk, beq_kb] at h
    by_cases e : i = n
    · subst e
      rw [decide_eq_true rfl, if_pos rfl] at h
      cases x with
      | none => cases h
      | some y =>
        simp only [Option.some.injEq, Val.blk.injEq] at h
        obtain ⟨rfl, rfl⟩ := h
        exact ⟨Nat.le_refl _, by rw [Nat.sub_self]; rfl⟩
    · rw [decide_eq_false e, if_neg (by simp)] at h
      obtain ⟨h1, h2⟩ := lk_initB H (n + 1) i T cs h
      refine ⟨by omega, ?_⟩
      rw [show i - n = (i - (n + 1)) + 1 by omega]
      exact h2
theorem init_inv {fn : Func} {args : List PV} {H : Hp} {l0 : L} (hn : args.length ≤ fn.ntmps) (hl0 : initA 0 args ++ initB 0 H = l0)
    (c : Cx) (vs : Array Value) (hh : Heap (cEnv P c H) (· < H.length) c (hSt H)) (hrl : RL P c args vs) :
    Inv ⟨P, fn.ntmps, c, (cEnv P c H).Bor⟩ (· < H.length) c (get l0) { tmps := vs ++ Array.replicate (fn.ntmps - vs.size) undef, defers := [] } := by
  have hvs := hrl.1
  subst hl0
  have hgb : ∀ i T cs, get (initA 0 args ++ initB 0 H) (kb i) = some (.blk T cs) → hSt H (kb i) = some (.blk T cs) := by
    intro i T cs hx
    rw [get_append] at hx
    simp only [over, get_initA_b, get] at hx
    have h2 : lk (kb i) (initB 0 H) = some (some (.blk T cs)) := by
      cases hy : lk (kb i) (initB 0 H) with
      | none => rw [hy] at hx; cases hx
      | some y => rw [hy] at hx; simpa using hx
    obtain ⟨_, h3⟩ := lk_initB H 0 i T cs h2
    rw [Nat.sub_zero] at h3
    rw [hSt_b, h3]
  have hgs : ∀ s x, get (initA 0 args ++ initB 0 H) (ks s) = some x → s < args.length ∧ x = .pv (args.getD s P0) := by
    intro s x hx
    rw [get_append] at hx
    simp only [over, get, get_initB_s] at hx
    cases hy : lk (ks s) (initA 0 args) with
    | none => rw [hy] at hx; cases hx
    | some y =>
      rw [hy] at hx
      obtain ⟨_, h2, h3⟩ := lk_initA args 0 s y hy
      simp only [Nat.sub_zero] at h3
      rw [h3] at hx
      exact ⟨by omega, by simpa using hx.symm⟩
  have hh1 : Heap ⟨P, fn.ntmps, c, (cEnv P c H).Bor⟩ (· < H.length) c (hSt H) := hh.env
  exact { hh1.less hgb with
    tmps := by simp; omega
    dfr := rfl
    slot := fun s p hp => by
      obtain ⟨h1, h2⟩ := hgs s _ hp
      cases h2
      have h3 := hrl.2 s h1
      have h4 : s < vs.size := by omega
      have e : (vs ++ Array.replicate (fn.ntmps - vs.size) undef).getD s undef = vs.getD s undef := by
        rw [Array.getD_eq_getD_getElem?, Array.getElem?_append_left h4, Array.getD_eq_getD_getElem?]
      show Rep P c _ ((vs ++ Array.replicate (fn.ntmps - vs.size) undef).getD s undef)
      rw [e]
      exact h3
    isv := fun s x hx => ⟨_, (hgs s x hx).2⟩ }
theorem body_intro {fn : Func} {code : Code} {args : List PV} {H : Hp} {l0 : L} {Q : Cx → (Nat → Prop) → Post}
    (hn : Nat.ble args.length fn.ntmps = true) (hl0 : initA 0 args ++ initB 0 H = l0) (h : ∀ c0 (Bor : Nat → Prop), (∀ i x, c0.own i = some x → i < H.length) → T P fn.ntmps c0 ⟨Bor, []⟩ (Q c0 Bor) H.length l0 [.code code])
    (c : Cx) (vs : Array Value) (hh : Heap (cEnv P c H) (· < H.length) c (hSt H)) (hrl : RL P c args vs) :
    code.wp P (fun e a' w' => ∃ cx', cx'.w = w' ∧ Q c (cEnv P c H).Bor.bor e cx' a') { tmps := vs ++ Array.replicate (fn.ntmps - vs.size) undef, defers := [] } c.w := by
  have hn := Nat.le_of_ble_eq_true hn
  exact h c (cEnv P c H).Bor.bor (fun i x hx => hh.ids i x hx) c _ (init_inv hn hl0 c vs hh hrl)
theorem pc_intro {f : FuncId} {fn : Func} {code : Code} {args : List PV} {H H' : Hp} {r : PV} {l0 : L} (hf : P.funcs[f]? = some fn) (hb : fn.body = some code) (hname : (fn.name == "runtime.NumGoroutine") = false) (hlen : H.length ≤ H'.length)
    (hn : Nat.ble args.length fn.ntmps = true) (hl0 : initA 0 args ++ initB 0 H = l0) (h : ∀ c0 (Bor : Nat → Prop), (∀ i x, c0.own i = some x → i < H.length) → T P fn.ntmps c0 ⟨Bor, []⟩ (retQ P fn c0 ⟨Bor, []⟩ r H') H.length l0 [.code code]) : PC P f args H r H' := by
  refine ⟨⟨fn, hf, by rw [hb]; rfl, hname⟩, hlen, fun c vs hh hrl => ?_⟩
  refine calls_of_wp hf hb ?_
  have key := body_intro hn hl0 h c vs hh hrl
  refine wp_mono key ?_
  rintro e a' w' ⟨cx', rfl, he, hd, v, cx2, h1, h2, h3, h4⟩
  rcases he with rfl | rfl
  · exact ⟨hd, v, h2, v, cx2, rfl, h1, h4, h3⟩
  · exact ⟨hd, v, h2, v, cx2, rfl, h1, h4, h3⟩
/-- A function that is lent nothing and hands back one plain value: as the walks of the kit say it. -/
theorem pc_calls {f : FuncId} {args : List PV} {v : Value} {w : World} {vs : Array Value} (h : PC P f args [] (.av v) []) (hn : vs.size = args.length) (hr : ∀ i, i < args.length → SRep w (fun b => b < w.heap.size) (args.getD i P0) (vs.getD i undef))
    (hL : Laid w (fun b => b < w.heap.size) := by (exact ⟨fun x hx => absurd hx (List.not_mem_nil (a := x)), trivial⟩)) :
    Calls P f vs w fun e w' => e = .returned v ∧ RowKit.Below w.heap.size w w' := by
  obtain ⟨_, _, h⟩ := h
  let c : Cx := ⟨w, fun b => b < w.heap.size, fun _ => none⟩
  have hh : Heap (cEnv P c []) (· < ([] : Hp).length) c (hSt []) := by
    refine { ids := fun i x hx => (by cases hx), blk := fun i T cs hx => (by rw [hSt_b] at hx; simp at hx), inj := fun i j b T T' l1 => ?_, apart := fun i b T l1 => ?_, bnd := fun i b T hx => (by cases hx), sok := fun b hb => hb, os := rfl, tape := rfl, output := rfl, size := Nat.le_refl _, same := fun _ _ _ => rfl, laid := hL, s0 := fun _ h => h, s1 := fun _ h => .inl h, keep := Keep.refl _ }
    · obtain ⟨T, cs, hx⟩ := l1
      rw [hSt_b] at hx; simp at hx
    · obtain ⟨T, cs, hx⟩ := l1
      rw [hSt_b] at hx; simp at hx
  refine (h c vs hh ⟨hn, fun i hi => .sh (hr i hi)⟩).mono ?_
  rintro e w' ⟨u, c', rfl, rfl, h1, h2⟩
  rw [rep_av h2]
  refine ⟨rfl, h1.os, h1.tape, h1.output, h1.size, fun k hk => h1.same k hk ?_⟩
  rintro ⟨i, T, ⟨T', cs, hx⟩, _⟩
  rw [hSt_b] at hx
  simp at hx
end
end Go.Proofs.Ytfibadnkhbjciaa.Pm
namespace Go.Proofs.Ytfibadnkhbjciaa.Pm
open Go

/-- What is handed back: slots, or what stands in a box. -/
def resP (P : Program) : List ResultVar → (List PV → Plan) → Plan
  | [], k => k []
  | .tmp t :: rs, k => .look (ks t) fun v => match v with | .pv p => resP P rs fun ps => k (p :: ps) | .blk _ _ => .fail
  | .cell t T :: rs, k => .look (ks t) fun v => match v with
    | .pv (.opt id off) => .look (kb id) fun v => match v with
      | .blk _ cs => match isAggD (P.underlying T), P.info? T with
        | some true, some ti => seg cs off ti.size .no fun l => resP P rs fun ps => k (.agg l :: ps)
        | some false, some _ => seg cs off 1 .no fun l => one1 l fun p => resP P rs fun ps => k (p :: ps)
        | _, _ => .fail
      | .pv _ => .fail
    | _ => .fail
abbrev resF (tmps : Array Value) : ResultVar → Sem Value := fun x => match x with
  | .tmp t => pure (tmps.getD t undef)
  | .cell a t => do loadVar t (← asAddr (tmps.getD a undef))
theorem resP_ok {E : Env} {nx : Nat → Prop} {c : Cx} {g : St} {a : Act} (hI : Inv E nx c g a) : ∀ {rs : List ResultVar} {k : List PV → Plan} {p : PV} {wb : L}, Res g (resP E.P rs k) p wb →
    ∃ ps vs, RL E.P c ps (List.toArray vs) ∧ (rs.mapM (resF a.tmps)).run E.P c.w = .ok vs c.w ∧ Res g (k ps) p wb
  | [], k, p, wb, h => ⟨[], [], ⟨rfl, fun i hi => by simp at hi⟩, by simp, h⟩
  | .tmp t :: rs, k, p, wb, h => by
    obtain ⟨v, h1, h2⟩ := Res.look h
    cases v with
    | blk T cs => exact (Res.fail h2).elim
    | pv q =>
      obtain ⟨ps, vs, h3, h4, h5⟩ := resP_ok hI h2
      refine ⟨q :: ps, a.tmps.getD t undef :: vs, ?_, ?_, h5⟩
      · have := (one_rl (hI.slot t q h1)).append h3
        simpa using this
      · simp [List.mapM_cons, h4, resF]
  | .cell t T :: rs, k, p, wb, h => by
    obtain ⟨v, h1, h2⟩ := Res.look h
    split at h2
    case h_2 => exact (Res.fail h2).elim
    rename_i id off
    obtain ⟨bv, hg, h3⟩ := Res.look h2
    cases bv with
    | pv _ => exact (Res.fail h3).elim
    | blk T' cs =>
      simp only at h3
      obtain ⟨b, T2, hown, hv⟩ := rep_opt (hI.slot t _ h1)
      obtain ⟨ob', hown', hone, hb⟩ := hI.blk id T' cs hg
      rw [hown] at hown'
      cases hown'
      rcases hb with ⟨hb, _⟩ | ⟨b', arr, hb1, hb2, hb3, hb4⟩
      · cases hb
      obtain rfl : b' = b := by simpa using hb1.symm
      have hcell : ∀ j, j < cs.length → c.w.cell? ⟨b', 0 + j, none⟩ = some (arr.getD j undef) := fun j hj => by
        have : j < arr.size := by omega
        rw [Nat.zero_add, cell_of_row c.w _ _ arr _ _ hb2]
        simp [Array.getD_eq_getD_getElem?, this]
      -- one value loaded, the rest behind it
      have key : ∀ {q : PV} {u : Value} {r : Plan}, Rep E.P c q u → (loadVar T ⟨b', 0 + off, none⟩).run E.P c.w = .ok u c.w → Res g (resP E.P rs fun ps => k (q :: ps)) p wb →
          ∃ ps vs, RL E.P c ps (List.toArray vs) ∧ ((ResultVar.cell t T :: rs).mapM (resF a.tmps)).run E.P c.w = .ok vs c.w ∧ Res g (k ps) p wb := by
        intro q u r hq hu hr
        obtain ⟨ps, vs, h5, h6, h7⟩ := resP_ok hI hr
        refine ⟨q :: ps, u :: vs, ?_, ?_, h7⟩
        · have := (one_rl hq).append h5
          simpa using this
        · rw [Nat.zero_add] at hu
          have e : (resF a.tmps (.cell t T)).run E.P c.w = .ok u c.w := by
            have hv2 : a.tmps.getD t undef = .pointer (some ⟨b', off, none⟩) := hv
            simp only [resF, Sem.run_bind, hv2, asAddr, Sem.run_pure, Result.andThen_ok, hu]
          rw [List.mapM_cons]
          simp only [Sem.run_bind, e, h6, Result.andThen_ok, Sem.run_pure]
      split at h3
      · rename_i ti hag hin
        have h4 : Res g (loadCs cs off ti.size true .no) (.agg ((cs.drop off).take ti.size)) [] ∧ Res g (resP E.P rs fun ps => k (.agg ((cs.drop off).take ti.size) :: ps)) p wb := by
          unfold seg at h3
          simp only at h3
          split at h3
          · rename_i hb5
            refine ⟨?_, h3⟩
            simp only [loadCs, seg, hb5]
            exact ⟨_, rfl, rfl, rfl, fun q hq => by cases hq⟩
          · exact (Res.fail h3).elim
        obtain ⟨_, u, h5, h6⟩ := load_run (c := c) (a := 0) hag hin h4.1 hcell hb4
        exact key (r := .fail) h5 h6 h4.2
      · rename_i ti hag hin
        unfold seg at h3
        simp only at h3
        split at h3
        · rename_i hb5
          unfold one1 at h3
          split at h3
          · rename_i q heq
            have h4 : Res g (loadCs cs off ti.size false .no) q [] := by
              simp only [loadCs, seg, hb5, heq, one1]
              exact ⟨_, rfl, rfl, rfl, fun q hq => by cases hq⟩
            obtain ⟨_, u, h5, h6⟩ := load_run (c := c) (a := 0) hag hin h4 hcell hb4
            exact key (r := .fail) h5 h6 h3
          · exact (Res.fail h3).elim
        · exact (Res.fail h3).elim
      · exact (Res.fail h3).elim
def runv (g : St) (p : Plan) : Option (PV × List Prop) := match run g p with | some o => some (o.pv, o.obs) | none => none
theorem ret_res {P : Program} {n : Nat} {c0 : Cx} {Bor : BorD} {n0 : Nat} {fn : Func} {l' : L} {r : PV} (h : runv (get l') (resP P fn.results.toList fun ps => .done (resPV ps) []) = some (r, [])) (cx : Cx) (a : Act)
    (hI : Inv ⟨P, n, c0, Bor⟩ (· < n0) cx (get l') a) : ∃ v, (results fn a.tmps).run P cx.w = .ok v cx.w ∧ Rep P cx r v := by
  unfold runv at h
  split at h
  case h_2 => cases h
  rename_i o h0
  simp only [Option.some.injEq, Prod.mk.injEq] at h
  obtain ⟨hr, ho⟩ := h
  obtain ⟨ps, vs, h1, h2, h3⟩ := resP_ok hI (p := r) (wb := o.wb) ⟨o, h0, hr, rfl, fun q hq => by rw [ho] at hq; cases hq⟩
  obtain ⟨rfl, _⟩ := Res.done h3
  have e : (results fn a.tmps).run P cx.w = .ok (if hs : vs.toArray.size = 1 then vs.toArray[0] else .tuple vs.toArray) cx.w := by
    have e0 : results fn a.tmps = (do let vs ← fn.results.mapM (resF a.tmps); pure (if h : vs.size = 1 then vs[0] else .tuple vs)) := rfl
    rw [e0, Array.mapM_eq_mapM_toList]
    simp only [Sem.run_bind, Sem.run_map, h2, Result.andThen_ok]
    rfl
  refine ⟨_, e, ?_⟩
  have hlen : vs.length = ps.length := by simpa using h1.1
  unfold resPV
  split
  · rename_i p
    have h5 : vs.toArray.size = 1 := by simpa using hlen
    rw [dif_pos h5]
    have := h1.2 0 (by simp)
    have h6 : (0 : Nat) < vs.length := by simpa using hlen ▸ Nat.one_pos
    simp [Array.getD_eq_getD_getElem?, h6] at this
    exact rep_cz (by simpa using this)
  · rename_i hne
    have h5 : ¬ vs.toArray.size = 1 := fun e => by
      have : ps.length = 1 := by simp at e; omega
      obtain ⟨q, rfl⟩ := List.length_eq_one_iff.1 this
      exact hne q rfl
    rw [dif_neg h5]
    refine .tup (by simp [hlen]) fun i hi => ?_
    have hi' : i < ps.length := by simpa using hi
    have := rep_cz (h1.2 i hi')
    simpa [List.getD_eq_getElem?_getD, hi'] using this

/-! ### contracts of the kit's kind -/
/-- A callee that is lent nothing, tells its result by plain values, and at most makes blocks. -/
theorem pc_ofL {P : Program} {f : FuncId} {args : List PV} {r : PV} (hf : FnOk P f) (hr : ∀ w vs, Laid w (fun b => b < w.heap.size) → RL P ⟨w, fun b => b < w.heap.size, fun _ => none⟩ args vs → Calls P f vs w fun e w' => ∃ v, e = .returned v ∧ RowKit.Below w.heap.size w w' ∧ ∀ c, Rep P c r v)
    (hargs : ∀ c vs, RL P c args vs → RL P ⟨c.w, fun b => b < c.w.heap.size, fun _ => none⟩ args vs) : PC P f args [] r [] := by
  refine ⟨hf, Nat.le_refl _, fun c vs hh hrl => (hr c.w vs ⟨fun x hx => hh.sok _ (hh.laid.1 x hx), hh.laid.2⟩ (hargs c vs hrl)).mono ?_⟩
  rintro e w' ⟨v, rfl, hb, hv⟩
  have hbl : ∀ b, b < c.w.heap.size → w'.heap[b]? = c.w.heap[b]? := hb.block
  have hno : ∀ i, ¬ Live (hSt []) i := fun i ⟨T, cs, hx⟩ => by rw [hSt_b] at hx; simp at hx
  have hk : Keep c ⟨w', c.S, c.own⟩ := ⟨fun b hb => ⟨hb, hbl b (hh.sok b hb)⟩, fun _ _ h => h, fun b cs T z h => ⟨cs, z, by rw [hbl b (some_lt h)]; exact h, rfl⟩⟩
  exact ⟨v, ⟨w', c.S, c.own⟩, rfl, rfl, { ids := hh.ids, blk := fun i T cs hx => absurd ⟨T, cs, hx⟩ (hno i), inj := fun i j b T T' l1 => absurd l1 (hno i), apart := fun i b T l1 => absurd l1 (hno i), bnd := fun i b T hx => Nat.lt_of_lt_of_le (hh.bnd i b T hx) hb.size, sok := fun b hS => Nat.lt_of_lt_of_le (hh.sok b hS) hb.size, os := hb.os, tape := hb.tape, output := hb.output, size := hb.size, same := fun b hb' _ => hbl b hb', laid := hh.laid, s0 := fun _ h => h, s1 := fun _ h => .inl h, keep := hk }, hv _⟩

theorem pc_of {P : Program} {f : FuncId} {args : List PV} {r : PV} (hf : FnOk P f) (hr : ∀ w vs, RL P ⟨w, fun b => b < w.heap.size, fun _ => none⟩ args vs → Calls P f vs w fun e w' => ∃ v, e = .returned v ∧ RowKit.Below w.heap.size w w' ∧ ∀ c, Rep P c r v)
    (hargs : ∀ c vs, RL P c args vs → RL P ⟨c.w, fun b => b < c.w.heap.size, fun _ => none⟩ args vs) : PC P f args [] r [] := pc_ofL hf (fun w vs _ h => hr w vs h) hargs

/-! ### small words -/
section
variable {P : Program} {n : Nat} {c0 : Cx} {Bor : BorD} {Q : Post} {n0 : Nat} {l : L} {rs : List Item}
theorem T_then {t : Nat} {x y : Code} {b : Bool} (hb : get l (ks t) = some (.pv (.av (.bool b)))) (hv : b = true) (h : T P n c0 Bor Q n0 l (.code x :: rs)) : T P n c0 Bor Q n0 l (.code (.cond (.tmp t) x y) :: rs) :=
  T_cond hb (fun _ => h) fun e => by rw [hv] at e; cases e
theorem T_else {t : Nat} {x y : Code} {b : Bool} (hb : get l (ks t) = some (.pv (.av (.bool b)))) (hv : b = false) (h : T P n c0 Bor Q n0 l (.code y :: rs)) : T P n c0 Bor Q n0 l (.code (.cond (.tmp t) x y) :: rs) :=
  T_cond hb (fun e => by rw [hv] at e; cases e) fun _ => h
end
theorem obs_nil : ∀ p ∈ ([] : List Prop), p := fun p hp => by cases hp
theorem obs_cons {p : Prop} {l : List Prop} (h : p) (k : ∀ q ∈ l, q) : ∀ q ∈ p :: l, q := fun q hq => by
  rcases List.mem_cons.1 hq with rfl | hq
  · exact h
  · exact k q hq
theorem Wk.eq {P : Program} {n : Nat} {c0 : Cx} {Bor : BorD} {n0 : Nat} {l l' : L} (h : l = l') : Wk P n c0 Bor n0 l n0 l' := h ▸ Wk.refl
abbrev iv (n : Int) : PV := .av (.int .i64 n)
abbrev bv (b : Bool) : PV := .av (.bool b)
abbrev sv (s : ByteArray) : PV := .av (.string s)
abbrev ps (s : Nat) (p : PV) : Nat × Option Val := (ks s, some (.pv p))
abbrev pb (i : Nat) (T : TypeId) (cs : List PV) : Nat × Option Val := (kb i, some (.blk T cs))
/-- Numbers, as cells. -/
def ints (l : List Int) : List PV := l.flatMap fun n => [iv n]
theorem flat_len {α : Type} (f : α → List PV) (s : Nat) (hf : ∀ x, (f x).length = s) : ∀ l : List α, (l.flatMap f).length = l.length * s
  | [] => by simp
  | x :: l => by rw [List.flatMap_cons, List.length_append, hf, flat_len f s hf l, List.length_cons, Nat.succ_mul]; omega
theorem flat_at {α : Type} (f : α → List PV) (s : Nat) (hf : ∀ x, (f x).length = s) (d : α) : ∀ (l : List α) (k j m : Nat), k < l.length → j + m ≤ s →
    k * s + j + m ≤ (l.flatMap f).length ∧ ((l.flatMap f).drop (k * s + j)).take m = ((f (l.getD k d)).drop j).take m
  | x :: l, 0, j, m, _, hj => by
    refine ⟨by rw [flat_len f s hf, List.length_cons, Nat.succ_mul]; omega, ?_⟩
    rw [Nat.zero_mul, Nat.zero_add, List.flatMap_cons, List.drop_append_of_le_length (by rw [hf]; omega), List.take_append_of_le_length (by rw [List.length_drop, hf]; omega)]
    rfl
  | x :: l, k + 1, j, m, hk, hj => by
    have hk' : k < l.length := by simpa using hk
    obtain ⟨h1, h2⟩ := flat_at f s hf d l k j m hk' hj
    refine ⟨by rw [List.flatMap_cons, List.length_append, hf, Nat.succ_mul]; omega, ?_⟩
    have e : (k + 1) * s + j = s + (k * s + j) := by rw [Nat.succ_mul]; omega
    rw [List.flatMap_cons, e, ← List.drop_drop, show s = (f x).length from (hf x).symm, List.drop_left, hf x, h2]
    rfl
theorem ints_at {l : List Int} {k : Nat} (h : k < l.length) : k + 1 ≤ (ints l).length ∧ ((ints l).drop k).take 1 = [iv (l.getD k 0)] := by
  have := flat_at (fun n => [iv n]) 1 (fun _ => rfl) 0 l k 0 1 h (by omega)
  simpa [ints] using this
theorem ints_len (l : List Int) : (ints l).length = l.length := by rw [ints, flat_len _ 1 (fun _ => rfl), Nat.mul_one]
end Go.Proofs.Ytfibadnkhbjciaa.Pm
namespace Go.Proofs.Ytfibadnkhbjciaa.Pm
open Go

/-- A contract of the kit's kind: plain values in, plain values out, blocks made at most. -/
theorem pc_flatL {P : Program} {f : FuncId} {args : List PV} {r : PV} {us : List Value} {v : Value} (hf : FnOk P f) (ha : flat2s args = some us) (hr : flat3 r = some v)
    (h : ∀ w, Laid w (fun b => b < w.heap.size) → Calls P f us.toArray w fun e w' => e = .returned v ∧ RowKit.Below w.heap.size w w') : PC P f args [] r [] := by
  refine pc_ofL hf (fun w vs hL hrl => ?_) fun c vs hrl => ?_
  · rw [flats_to (f := flat2) (fs := flat2s) rfl (fun _ _ => rfl) (fun _ _ _ h k => flat2_to h k) ha hrl]
    exact (h w hL).mono fun e w' ⟨he, hb⟩ => ⟨v, he, hb, fun c => .sh (flat3_of hr)⟩
  · rw [flats_to (f := flat2) (fs := flat2s) rfl (fun _ _ => rfl) (fun _ _ _ h k => flat2_to h k) ha hrl]
    obtain ⟨h1, h2⟩ := flats_of (w := c.w) (S := fun b => b < c.w.heap.size) (f := flat2) (fs := flat2s) rfl (fun _ _ => rfl) (fun _ _ h => flat2_of h) ha
    exact ⟨by simpa using h1, fun i hi => by rw [arr_getD]; exact .sh (h2 i hi)⟩
theorem pc_flat {P : Program} {f : FuncId} {args : List PV} {r : PV} {us : List Value} {v : Value} (hf : FnOk P f) (ha : flat2s args = some us) (hr : flat3 r = some v)
    (h : ∀ w, Calls P f us.toArray w fun e w' => e = .returned v ∧ RowKit.Below w.heap.size w w') : PC P f args [] r [] := pc_flatL hf ha hr fun w _ => h w
theorem fn_ok {P : Program} {f : FuncId} {fn : Func} (hf : P.funcs[f]? = some fn) (hb : fn.body.isNone = false) (hn : (fn.name == "runtime.NumGoroutine") = false) : FnOk P f := ⟨fn, hf, hb, hn⟩
theorem flat_app {α : Type} (f : α → List PV) (l m : List α) : (l ++ m).flatMap f = l.flatMap f ++ m.flatMap f := List.flatMap_append
def rkey (σ : Nat → Nat) (k : Nat) : Nat := match Nat.beq (k % 2) 1 with | true => kb (σ (k / 2)) | false => k
def rval (σ : Nat → Nat) : Option Val → Option Val
  | some (.pv p) => some (.pv (ren σ p))
  | some (.blk T cs) => some (.blk T (renL σ cs))
  | none => none
def shapeB (n1 : Nat) (l : L) : Bool := l.all fun x => match x.2 with | some (.blk _ _) => Nat.beq (x.1 % 2) 1 && Nat.blt (x.1 / 2) n1 | some (.pv _) => Nat.beq (x.1 % 2) 0 | none => true
theorem reSt_of {σ : Nat → Nat} {n1 : Nat} {g : St} : ∀ {l : L}, l.map (fun x => g (rkey σ x.1)) = l.map (fun x => rval σ x.2) → shapeB n1 l = true → ∀ p ∈ reSt σ n1 l g, p
  | [], _, _, p, hp => by cases hp
  | x :: l, h, hb, p, hp => by
    simp only [List.map_cons, List.cons.injEq] at h
    simp only [shapeB, List.all_cons, Bool.and_eq_true] at hb
    simp only [reSt, List.map_cons, List.mem_cons] at hp
    rcases hp with rfl | hp
    · obtain ⟨k, v⟩ := x
      cases v with
      | none => trivial
      | some v =>
        cases v with
        | pv p =>
          have h0 : k % 2 = 0 := Nat.eq_of_beq_eq_true hb.1
          have h1 := h.1
          simp only [rkey, rval, h0] at h1
          exact h1
        | blk T cs =>
          have hb1 := hb.1
          simp only [Bool.and_eq_true, Nat.blt_eq] at hb1
          have h0 : k % 2 = 1 := Nat.eq_of_beq_eq_true hb1.1
          have h1 := h.1
          simp only [rkey, rval, h0, Nat.beq_refl] at h1
          exact ⟨h0, hb1.2, h1⟩
    · exact reSt_of h.2 hb.2 p hp
theorem Wk.ren2 {P : Program} {n : Nat} {c0 : Cx} {Bor : BorD} {n0 : Nat} {l : L} (l' : L) (m : Nat) (hc0 : ∀ i x, c0.own i = some x → i < m) (σl : List Nat) (hσ : σl.take m = List.range m) (hnd : nodupB σl = true) (hb : shapeB σl.length l' = true)
    (h : l'.map (fun x => get l (rkey (sgm n0 σl) x.1)) = l'.map (fun x => rval (sgm n0 σl) x.2)) : Wk P n c0 Bor n0 l σl.length l' := Wk.ren m hc0 σl hσ hnd (reSt_of h hb)
theorem flat_at1 {α : Type} (f : α → List PV) (hf : ∀ x, (f x).length = 1) (d : α) (l : List α) (k : Nat) (h : k < l.length) : k + 1 ≤ (l.flatMap f).length ∧ ((l.flatMap f).drop k).take 1 = f (l.getD k d) := by
  have := flat_at f 1 hf d l k 0 1 h (by omega)
  simp only [Nat.mul_one, Nat.add_zero, List.drop_zero] at this
  refine ⟨this.1, this.2.trans ?_⟩
  rw [← hf (l.getD k d), List.take_length]
theorem ints_shd (l : List Int) : shds (ints l) := fun p hp => by
  obtain ⟨x, _, hx⟩ := List.mem_flatMap.1 hp
  simp only [List.mem_singleton] at hx
  subst hx
  rfl
theorem zeros_ints : ∀ n, zeros [iv 0] n = ints (List.replicate n 0)
  | 0 => rfl
  | n + 1 => by rw [zeros, zeros_ints n, List.replicate_succ]; rfl
theorem ints_splice {l : List Int} {k : Nat} {v : Int} (h : k < l.length) : k + 1 ≤ (ints l).length ∧ splice (ints l) k [iv v] = ints (l.set k v) := by
  refine ⟨by rw [ints_len]; omega, ?_⟩
  unfold splice
  have e : ∀ (l : List Int), ints l = l.map iv := fun l => by
    unfold ints
    induction l with
    | nil => rfl
    | cons a l ih => rw [List.flatMap_cons, ih]; rfl
  rw [e, e, List.set_eq_take_append_cons_drop, if_pos h, List.map_append, List.map_cons, List.map_take, List.map_drop]
  simp
/-- Trailing dead numbers, dropped. -/
theorem pc_trim {P : Program} {f : FuncId} {args : List PV} {r : PV} {v : Value} (H' : Hp) (hr : flat3 r = some v) (_hd : ∀ i, H'.getD i none = none) (h : PC P f args [] r H') : PC P f args [] r [] := by
  obtain ⟨h1, _, h2⟩ := h
  refine ⟨h1, Nat.le_refl _, fun c vs hh hrl => (h2 c vs hh hrl).mono ?_⟩
  rintro e w' ⟨u, c', rfl, rfl, h3, h4⟩
  have hno : ∀ (H : Hp), (∀ i, H.getD i none = none) → ∀ i, ¬ Live (hSt H) i := fun H hH i ⟨T, cs, hx⟩ => by rw [hSt_b, hH] at hx; cases hx
  have hno0 := hno [] (fun i => by simp)
  have hown : ∀ i x, c.own i = some x → False := fun i x hx => by have : i < 0 := hh.ids i x hx; omega
  have hk := h3.keep
  refine ⟨u, ⟨c'.w, c'.S, fun _ => none⟩, rfl, rfl, { ids := fun i x hx => (by cases hx), blk := fun i T cs hx => absurd ⟨T, cs, hx⟩ (hno0 i), inj := fun i j b T T' l1 => absurd l1 (hno0 i), apart := fun i b T l1 => absurd l1 (hno0 i), bnd := fun i b T hx => (by cases hx), sok := h3.sok, os := h3.os, tape := h3.tape, output := h3.output, size := h3.size, same := h3.same, laid := h3.laid, s0 := h3.s0, s1 := h3.s1, keep := ⟨hk.S, fun i x hx => (hown i x hx).elim, hk.shape⟩ }, ?_⟩
  have e : u = v := by
    unfold flat3 at hr
    split at hr
    · split at hr
      case h_2 => cases hr
      rename_i cs l hl
      cases hr
      obtain ⟨vs2, rfl, q1, q2⟩ := rep_tup h4
      rw [flats_to (f := flat2) (fs := flat2s) rfl (fun _ _ => rfl) (fun _ _ _ h k => flat2_to h k) hl ⟨q1, q2⟩]
    · exact flat2_to hr h4
  rw [e]
  exact .sh (flat3_of hr)
end Go.Proofs.Ytfibadnkhbjciaa.Pm
namespace Go.Proofs.Ytfibadnkhbjciaa.Pm
open Go

abbrev rowC (l : List Int) : List PV := [.ssl (ints l) 0 l.length]
abbrev rows (T : List (List Int)) : List PV := T.flatMap rowC
theorem ren_shd {σ : Nat → Nat} {p : PV} (h : p.shd = true) : ren σ p = p := by
  cases p <;> first | rfl | cases h
theorem renL_shd {σ : Nat → Nat} : ∀ {cs : List PV}, shds cs → renL σ cs = cs
  | [], _ => rfl
  | p :: l, h => by
    rw [renL, ren_shd (h p (by simp)), renL_shd (fun q hq => h q (by simp [hq]))]
theorem flat_shd {α : Type} (f : α → List PV) (hf : ∀ x, (f x).all PV.shd = true) (l : List α) : shds (l.flatMap f) := fun p hp => by
  obtain ⟨x, _, hx⟩ := List.mem_flatMap.1 hp
  exact List.all_eq_true.1 (hf x) p hx
theorem flat_splice {α : Type} (f : α → List PV) (s : Nat) (hf : ∀ x, (f x).length = s) {l : List α} {k : Nat} {v : α} (h : k < l.length) : k * s + s ≤ (l.flatMap f).length ∧ splice (l.flatMap f) (k * s) (f v) = (l.set k v).flatMap f := by
  have hl : ∀ l : List α, (l.flatMap f).length = l.length * s := flat_len f s hf
  have h1 : k * s + s ≤ l.length * s := by
    have := Nat.mul_le_mul_right s (show k + 1 ≤ l.length from h)
    rw [Nat.add_mul, Nat.one_mul] at this
    exact this
  refine ⟨by rw [hl]; exact h1, ?_⟩
  have he : l.flatMap f = (l.take k).flatMap f ++ (f (l[k]) ++ (l.drop (k + 1)).flatMap f) := by
    rw [← List.flatMap_cons, ← flat_app, ← List.drop_eq_getElem_cons h, List.take_append_drop]
  have hk : ((l.take k).flatMap f).length = k * s := by rw [hl, List.length_take, Nat.min_eq_left (by omega)]
  rw [List.set_eq_take_append_cons_drop, if_pos h, flat_app, List.flatMap_cons, he]
  unfold splice
  rw [List.take_append_of_le_length (by omega), List.take_of_length_le (by omega), hf, List.drop_append, List.drop_of_length_le (by omega), hk, List.nil_append, Nat.add_sub_cancel_left, List.drop_append, List.drop_of_length_le (by rw [hf]; exact Nat.le_refl _), hf, Nat.sub_self, List.nil_append, List.drop_zero, List.append_assoc]
theorem flat_splice1 {α : Type} (f : α → List PV) (hf : ∀ x, (f x).length = 1) {l : List α} {k : Nat} {v : α} (h : k < l.length) : k + 1 ≤ (l.flatMap f).length ∧ splice (l.flatMap f) k (f v) = (l.set k v).flatMap f := by
  have := flat_splice f 1 hf (v := v) h
  rw [Nat.mul_one] at this
  exact this
def lf (k : Nat) : List (Nat × List PV) → Option (List PV)
  | [] => none
  | x :: F => match Nat.beq k x.1 with | true => some x.2 | false => lf k F
def fixF (F : List (Nat × List PV)) (x : Nat × Option Val) : Option Val := match x.2 with
  | some (.blk T cs) => match lf x.1 F with | some ds => some (.blk T ds) | none => some (.blk T cs)
  | some (.pv p) => some (.pv p)
  | none => none
def rvalF (σ : Nat → Nat) (F : List (Nat × List PV)) (x : Nat × Option Val) : Option Val := match x.2 with
  | some (.blk T cs) => match lf x.1 F with | some ds => some (.blk T ds) | none => some (.blk T (renL σ cs))
  | some (.pv p) => some (.pv (ren σ p))
  | none => none
theorem lf_shd {k : Nat} {cs : List PV} : ∀ {F : List (Nat × List PV)}, (∀ q ∈ F.map (fun x => shds x.2), q) → lf k F = some cs → shds cs
  | [], _, h => by cases h
  | x :: F, hF, h => by
    simp only [lf] at h
    split at h
    · cases h
      exact hF _ (by simp)
    · exact lf_shd (F := F) (fun q hq => hF q (by simp only [List.map_cons, List.mem_cons]; exact .inr hq)) h
theorem Wk.ren3 {P : Program} {n : Nat} {c0 : Cx} {Bor : BorD} {n0 : Nat} {l : L} (l' : L) (m : Nat) (hc0 : ∀ i x, c0.own i = some x → i < m) (σl : List Nat) (F : List (Nat × List PV)) (hF : ∀ q ∈ F.map (fun x => shds x.2), q) (hx : l'.map (fixF F) = l'.map (fun x => x.2)) (hσ : σl.take m = List.range m) (hnd : nodupB σl = true) (hb : shapeB σl.length l' = true)
    (h : l'.map (fun x => get l (rkey (sgm n0 σl) x.1)) = l'.map (rvalF (sgm n0 σl) F)) : Wk P n c0 Bor n0 l σl.length l' :=
  Wk.ren2 l' m hc0 σl hσ hnd hb (h.trans (List.map_congr_left fun x hxl => by
    have h1 := List.map_inj_left.1 hx x hxl
    obtain ⟨k, v⟩ := x
    cases v with
    | none => rfl
    | some v =>
      cases v with
      | pv p => rfl
      | blk T cs =>
        simp only [fixF, rvalF, rval] at h1 ⊢
        cases hl : lf k F with
        | none => rfl
        | some ds =>
          rw [hl] at h1
          simp only [Option.some.injEq, Val.blk.injEq] at h1
          simp only [Option.some.injEq, Val.blk.injEq, true_and]
          rw [← h1.2, renL_shd (lf_shd hF hl)]))
theorem frz_shd {id : Nat} {cs : List PV} {p : PV} (h : p.shd = true) : frz id cs p = p := by
  cases p <;> first | rfl | cases h
theorem frzL_shd {id : Nat} {cs : List PV} : ∀ {ds : List PV}, shds ds → frzL id cs ds = ds
  | [], _ => rfl
  | p :: l, h => by
    rw [frzL, frz_shd (h p (by simp)), frzL_shd (fun q hq => h q (by simp [hq]))]
def frzF (id : Nat) (cs : List PV) (F : List (Nat × List PV)) : L → L
  | [] => []
  | (k, x) :: l => (k, match x with
    | some (.pv p) => some (.pv (frz id cs p))
    | some (.blk T ds) => match Nat.beq k (kb id) with | true => none | false => match lf k F with | some es => some (.blk T es) | none => some (.blk T (frzL id cs ds))
    | none => none) :: frzF id cs F l
theorem frzF_eq {id : Nat} {cs : List PV} {F : List (Nat × List PV)} (hF : ∀ q ∈ F.map (fun x => shds x.2), q) : ∀ {l : L}, l.map (fixF F) = l.map (fun x => x.2) → frzS id cs l = frzF id cs F l
  | [], _ => rfl
  | (k, x) :: l, h => by
    simp only [List.map_cons, List.cons.injEq] at h
    simp only [frzS, frzF, List.cons.injEq, Prod.mk.injEq, true_and]
    refine ⟨?_, frzF_eq hF h.2⟩
    cases x with
    | none => rfl
    | some v =>
      cases v with
      | pv p => rfl
      | blk T ds =>
        have h1 := h.1
        simp only [fixF] at h1 ⊢
        cases hl : lf k F with
        | none => rfl
        | some es =>
          rw [hl] at h1
          simp only [Option.some.injEq, Val.blk.injEq, true_and] at h1
          have hs := lf_shd hF hl
          subst h1
          cases Nat.beq k (kb id) <;> simp [frzL_shd hs]
theorem Wk.frz2 {P : Program} {n : Nat} {c0 : Cx} {Bor : BorD} {n0 : Nat} {l l' : L} (id : Nat) {T : TypeId} {cs : List PV} (F : List (Nat × List PV)) (hF : ∀ q ∈ F.map (fun x => shds x.2), q) (hx : l.map (fixF F) = l.map (fun x => x.2)) (hg : get l (kb id) = some (.blk T cs)) (hs : shds cs) (he : frzF id cs F l = l') : Wk P n c0 Bor n0 l n0 l' :=
  Wk.frz id hg hs ((frzF_eq hF hx).trans he)
/-- What a slot holds, told otherwise. -/
theorem Wk.slot {P : Program} {n : Nat} {c0 : Cx} {Bor : BorD} {n0 : Nat} {l : L} (s : Nat) (p q : PV) (hs : get l (Pm.ks s) = some (.pv p)) (hpq : ∀ c v, Rep P c p v → Rep P c q v) : Wk P n c0 Bor n0 l n0 ([(ks s, some (.pv q))] ++ l) := fun cx a hI => by
  have hge : ∀ k, get ([(Pm.ks s, some (.pv q))] ++ l) k = if Nat.beq k (Pm.ks s) then some (.pv q) else get l k := fun k => by
    rw [get_append]
    simp only [over, lk]
    by_cases h1 : Nat.beq k (Pm.ks s) = true
    · simp [h1]
    · simp only [h1]; rfl
  have hb : ∀ i, get ([(Pm.ks s, some (.pv q))] ++ l) (kb i) = get l (kb i) := fun i => by
    rw [hge, beq_kbs]; rfl
  have hl : ∀ i, Live (get ([(Pm.ks s, some (.pv q))] ++ l)) i → Live (get l) i := fun i ⟨T', cs, hx⟩ => ⟨T', cs, by rw [← hb]; exact hx⟩
  refine ⟨cx, rfl, { ids := hI.ids, blk := fun i T' cs hx => hI.blk i T' cs (by rw [← hb]; exact hx), inj := fun i j b T T' l1 l2 => hI.inj i j b T T' (hl i l1) (hl j l2), apart := fun i b T l1 => hI.apart i b T (hl i l1), bnd := hI.bnd, sok := hI.sok, os := hI.os, tape := hI.tape, output := hI.output, size := hI.size, same := hI.same, laid := hI.laid, s0 := hI.s0, s1 := hI.s1, keep := hI.keep, tmps := hI.tmps, dfr := hI.dfr, slot := fun s' p' hp => ?_, isv := fun s' x hx => ?_ }⟩
  · rw [hge, beq_ks] at hp
    by_cases e : s' = s
    · subst e
      rw [decide_eq_true rfl, if_pos rfl] at hp
      cases hp
      exact hpq _ _ (hI.slot s' _ hs)
    · rw [decide_eq_false e, if_neg (by simp)] at hp
      exact hI.slot s' p' hp
  · rw [hge, beq_ks] at hx
    by_cases e : s' = s
    · subst e
      rw [decide_eq_true rfl, if_pos rfl] at hx
      cases hx
      exact ⟨_, rfl⟩
    · rw [decide_eq_false e, if_neg (by simp)] at hx
      exact hI.isv s' x hx
/-- A slice of given cells is a slice of the fewer cells. -/
theorem ssl_cut {P : Program} {cs ds : List PV} {off len m : Nat} (h1 : off + m ≤ cs.length) (h2 : (cs.drop off).take m = ds) (c : Cx) (v : Value) (h : Rep P c (.ssl cs off len) v) : Rep P c (.ssl ds 0 len) v := by
  obtain ⟨h6, h7⟩ := getD_seg h1 h2
  rcases rep_ssl h with ⟨a, cap, hv, hn⟩ | ⟨b, a, cap, vf, hv, hS, hc, hr, ho, hl⟩
  · subst hv; subst hn; exact .sh .emp
  · subst hv
    refine .sh (SRep.ssl (a := a + off) (vf := fun j => vf (off + j)) hS (fun j hj => ?_) (fun j hj => ?_) (seg_ones ho h2) hl)
    · rw [Nat.add_assoc]; exact hc _ (by omega)
    · rw [h7 j (by omega)]; exact hr _ (by omega)
theorem T_elsec {P : Program} {n : Nat} {c0 : Cx} {Bor : BorD} {Q : Post} {n0 : Nat} {l : L} {rs : List Item} {x y : Code} (h : T P n c0 Bor Q n0 l (.code y :: rs)) : T P n c0 Bor Q n0 l (.code (.cond (.const (.bool false)) x y) :: rs) := fun cx a hI => wp_cond_false rfl (h cx a hI)
theorem T_thenc {P : Program} {n : Nat} {c0 : Cx} {Bor : BorD} {Q : Post} {n0 : Nat} {l : L} {rs : List Item} {x y : Code} (h : T P n c0 Bor Q n0 l (.code x :: rs)) : T P n c0 Bor Q n0 l (.code (.cond (.const (.bool true)) x y) :: rs) := fun cx a hI => wp_cond_true rfl (h cx a hI)
theorem and_bits (k : IntKind) (a b : Int) : IntKind.wrap k ((BitVec.ofInt (IntKind.bits k) a) &&& (BitVec.ofInt (IntKind.bits k) b)).toNat = Go.bits .and k a b := rfl
end Go.Proofs.Ytfibadnkhbjciaa.Pm
namespace Go.Proofs.Ytfibadnkhbjciaa.Pm
open Go

abbrev FC := Nat × Nat
def cxC (p : FC) : List PV := [.av (.complex .f64 p.1 p.2)]
def cxs (l : List FC) : List PV := l.flatMap cxC
theorem cxs_shd (l : List FC) : shds (cxs l) := flat_shd cxC (fun _ => rfl) l
theorem cxs_len (l : List FC) : (cxs l).length = l.length := by rw [cxs, flat_len _ 1 (fun _ => rfl), Nat.mul_one]
theorem zeros_cxs : ∀ n, zeros [.av (.complex .f64 0 0)] n = cxs (List.replicate n (0, 0))
  | 0 => rfl
  | n + 1 => by rw [zeros, zeros_cxs n, List.replicate_succ]; rfl
def rwC (l : List FC) : List PV := [.ssl (cxs l) 0 l.length]
def rws (t : List (List FC)) : List PV := t.flatMap rwC
theorem rwC_shd (l : List FC) : (rwC l).all PV.shd = true := rfl
theorem rws_shd (t : List (List FC)) : shds (rws t) := flat_shd rwC rwC_shd t
theorem rws_len (t : List (List FC)) : (rws t).length = t.length := by rw [rws, flat_len _ 1 (fun _ => rfl), Nat.mul_one]
/-- The powers of a half's root. -/
def powL (l k : Nat) : List FC := (List.range k).map (powR l)
theorem powL_len (l k : Nat) : (powL l k).length = k := by simp [powL]
theorem powL_at {l k i : Nat} (h : i < k) : (powL l k).getD i (0, 0) = powR l i := by
  simp [powL, List.getD_eq_getElem?_getD, h]
def waves (L : Nat) : List (List FC) := (List.range L).map fun l => powL l (2 ^ l)
theorem waves_len (L : Nat) : (waves L).length = L := by simp [waves]
theorem waves_at {L l : Nat} (h : l < L) : (waves L).getD l [] = powL l (2 ^ l) := by
  simp [waves, List.getD_eq_getElem?_getD, h]
theorem waves_rl (L : Nat) : (rws (waves L)).length = L * 1 := by rw [rws_len, waves_len, Nat.mul_one]
/-- A row that is being filled. -/
def fillL (l k : Nat) : List FC := powL l k ++ List.replicate (2 ^ l - k) (0, 0)
theorem fillL_len {l k : Nat} (h : k ≤ 2 ^ l) : (fillL l k).length = 2 ^ l := by
  simp [fillL, powL_len]; omega
theorem fill_set {l k : Nat} (h : k < 2 ^ l) : (fillL l k).set k (powR l k) = fillL l (k + 1) := by
  unfold fillL
  obtain ⟨m, hm⟩ : ∃ m, 2 ^ l - k = m + 1 := ⟨2 ^ l - k - 1, by omega⟩
  rw [hm, show 2 ^ l - (k + 1) = m from by omega, List.set_append_right _ _ (by rw [powL_len]; omega), powL_len, Nat.sub_self, List.replicate_succ, List.set_cons_zero]
  simp [powL, List.range_succ]
theorem fill_zero (l : Nat) : fillL l 0 = List.replicate (2 ^ l) (0, 0) := by simp [fillL, powL]
theorem fill_full (l : Nat) : fillL l (2 ^ l) = powL l (2 ^ l) := by simp [fillL]
theorem fill_store {l k : Nat} (h : k < 2 ^ l) : k + 1 ≤ (cxs (fillL l k)).length ∧ splice (cxs (fillL l k)) k [.av (.complex .f64 (powR l k).1 (powR l k).2)] = cxs (fillL l (k + 1)) := by
  rw [← fill_set h]
  exact flat_splice1 cxC (fun _ => rfl) (v := powR l k) (by rw [fillL_len (by omega)]; exact h)
theorem waves_app (l : Nat) : rws (waves l) ++ [.ssl (cxs (fillL l (2 ^ l))) 0 (2 ^ l)] = rws (waves (l + 1)) := by
  rw [fill_full]
  unfold waves rws
  rw [List.range_succ, List.map_append, List.flatMap_append]
  simp only [List.map_cons, List.map_nil, List.flatMap_cons, List.flatMap_nil, rwC, powL_len, List.append_nil]
theorem p2n (l : Nat) : ((1 : Int) * 2 ^ ((l : Nat) : Int).toNat).toNat = 2 ^ l := by
  rw [Int.one_mul, Int.toNat_natCast]
  exact congrArg Int.toNat (Int.natCast_pow 2 l).symm
theorem p2i (l : Nat) : (1 : Int) * 2 ^ ((l : Nat) : Int).toNat = ((2 ^ l : Nat) : Int) := by
  rw [Int.one_mul, Int.toNat_natCast]
  exact (Int.natCast_pow 2 l).symm
theorem p2_le {l : Nat} (h : l ≤ 12) : 2 ^ l ≤ 4096 := Nat.pow_le_pow_right (by decide) h
theorem p2_in {l : Nat} (h : l ≤ 12) : InK .i64 ((1 : Int) * 2 ^ ((l : Nat) : Int).toNat) := by
  rw [p2i]
  have := p2_le h
  generalize 2 ^ l = m at this ⊢
  simp only [InK]
  omega
theorem p2_make {l : Nat} (h : l ≤ 12) : (0 : Int) ≤ (1 : Int) * 2 ^ ((l : Nat) : Int).toNat ∧ (1 : Int) * 2 ^ ((l : Nat) : Int).toNat ≤ (1 : Int) * 2 ^ ((l : Nat) : Int).toNat ∧ (1 : Int) * 2 ^ ((l : Nat) : Int).toNat ≤ 140737488355328 ∧ ((16 : Nat) : Int) * ((1 : Int) * 2 ^ ((l : Nat) : Int).toNat) ≤ 140737488355328 := by
  rw [p2i]
  have := p2_le h
  generalize 2 ^ l = m at this ⊢
  omega
theorem zeros_p2 (l : Nat) : zeros [.av (.complex .f64 0 0)] ((1 : Int) * 2 ^ ((l : Nat) : Int).toNat).toNat = cxs (fillL l 0) := by
  rw [p2n, zeros_cxs, fill_zero]
end Go.Proofs.Ytfibadnkhbjciaa.Pm
namespace Go.Proofs.Ytfibadnkhbjciaa.Pm
open Go

/-! ### bits turned round, as the library does it -/
def an32 (x m : Int) : Int := IntKind.wrap .u32 (BitVec.ofInt (IntKind.bits .u32) x &&& BitVec.ofInt (IntKind.bits .u32) m).toNat
def or32 (x y : Int) : Int := IntKind.wrap .u32 (BitVec.ofInt (IntKind.bits .u32) x ||| BitVec.ofInt (IntKind.bits .u32) y).toNat
def rvA (x : Int) : Int := or32 (an32 (x.fdiv (2 ^ (1 : Int).toNat)) 1431655765) (an32 x 1431655765 * 2 ^ (1 : Int).toNat)
def rvB (x : Int) : Int := or32 (an32 (x.fdiv (2 ^ (2 : Int).toNat)) 858993459) (an32 x 858993459 * 2 ^ (2 : Int).toNat)
def rvC (x : Int) : Int := or32 (an32 (x.fdiv (2 ^ (4 : Int).toNat)) 252645135) (an32 x 252645135 * 2 ^ (4 : Int).toNat)
def rvD (x : Int) : Int := or32 (an32 (x.fdiv (2 ^ (8 : Int).toNat)) 16711935) (an32 x 16711935 * 2 ^ (8 : Int).toNat)
def rvE (x : Int) : Int := or32 (x.fdiv (2 ^ (16 : Int).toNat)) (IntKind.wrap .u32 (x * 2 ^ (16 : Int).toNat))
def rev32 (x : Int) : Int := rvE (rvD (rvC (rvB (rvA x))))
theorem an32_eq (x : Int) (m : Nat) (_hm : m < 4294967296) : 0 ≤ an32 x m ∧ an32 x m ≤ m := by
  have h1 : (BitVec.ofInt 32 x &&& BitVec.ofInt 32 (m : Int)).toNat ≤ m := by
    rw [BitVec.toNat_and]
    refine Nat.le_trans Nat.and_le_right ?_
    rw [BitVec.ofInt_natCast, BitVec.toNat_ofNat]
    exact Nat.mod_le _ _
  have h2 : an32 x m = (((BitVec.ofInt 32 x &&& BitVec.ofInt 32 (m : Int)).toNat : Nat) : Int) := wrap_in (show InK .u32 (((BitVec.ofInt 32 x &&& BitVec.ofInt 32 (m : Int)).toNat : Nat) : Int) by simp only [InK]; omega)
  rw [h2]
  omega
theorem an32_shl {x : Int} {m s : Nat} (hm : m < 4294967296) (hs : m * 2 ^ s < 4294967296) : InK .u32 (an32 x m * 2 ^ ((s : Nat) : Int).toNat) := by
  obtain ⟨h1, h2⟩ := an32_eq x m hm
  simp only [InK]
  rw [Int.toNat_natCast]
  have hp : (0 : Int) ≤ 2 ^ s := Int.le_of_lt (Int.pow_pos (by decide))
  have h3 := Int.mul_le_mul_of_nonneg_right h2 hp
  have h4 := Int.mul_nonneg h1 hp
  have h5 : ((m : Nat) : Int) * 2 ^ s = ((m * 2 ^ s : Nat) : Int) := by push_cast; rfl
  omega
/-- Bits turned round. -/
def brev : Nat → Nat → Nat
  | 0, _ => 0
  | L + 1, j => 2 * brev L (j % 2 ^ L) + j / 2 ^ L
def revI (L i : Nat) : Int := an32 ((rev32 ((i : Nat) : Int)).fdiv (2 ^ (32 - ((L : Nat) : Int)).toNat)) (((2 ^ L : Nat) : Int) - 1)
def revOk : Bool := (List.range 13).all fun L => (List.range (2 ^ L)).all fun i => decide (revI L i = ((brev L i : Nat) : Int)) && Nat.blt (brev L i) (2 ^ L) && Nat.beq (brev L (brev L i)) i
theorem rev_ok : revOk = true := by decide +kernel
theorem rev_at {L i : Nat} (hL : L ≤ 12) (hi : i < 2 ^ L) : revI L i = ((brev L i : Nat) : Int) ∧ brev L i < 2 ^ L ∧ brev L (brev L i) = i := by
  have h := List.all_eq_true.1 (List.all_eq_true.1 rev_ok L (List.mem_range.2 (by omega))) i (List.mem_range.2 hi)
  rw [Bool.and_eq_true, Bool.and_eq_true, decide_eq_true_iff, Nat.blt_eq] at h
  exact ⟨h.1.1, h.1.2, Nat.eq_of_beq_eq_true h.2⟩
/-- So far laid. -/
def ldL (L : Nat) (v : List FC) (i : Nat) : List FC := (List.range (2 ^ L)).map fun j => if brev L j < i then v.getD (brev L j) (0, 0) else (0, 0)
def loadL (L : Nat) (v : List FC) : List FC := (List.range (2 ^ L)).map fun j => v.getD (brev L j) (0, 0)
theorem ldL_len (L : Nat) (v : List FC) (i : Nat) : (ldL L v i).length = 2 ^ L := by simp [ldL]
theorem loadL_len (L : Nat) (v : List FC) : (loadL L v).length = 2 ^ L := by simp [loadL]
theorem ld_zero (L : Nat) (v : List FC) : List.replicate (2 ^ L) ((0, 0) : FC) = ldL L v 0 := by
  apply List.ext_getElem (by simp [ldL])
  intro k h1 h2
  simp [ldL]
theorem ld_full {L : Nat} (v : List FC) (hL : L ≤ 12) : ldL L v (2 ^ L) = loadL L v := by
  unfold ldL loadL
  apply List.map_congr_left
  intro j hj
  rw [if_pos (rev_at hL (List.mem_range.1 hj)).2.1]
theorem ld_set {L i : Nat} (v : List FC) (hL : L ≤ 12) (hi : i < 2 ^ L) : (ldL L v i).set (brev L i) (v.getD i (0, 0)) = ldL L v (i + 1) := by
  obtain ⟨_, h1, h2⟩ := rev_at hL hi
  apply List.ext_getElem (by rw [List.length_set, ldL_len, ldL_len])
  intro k h3 h4
  rw [List.length_set, ldL_len] at h3
  obtain ⟨_, h5, h6⟩ := rev_at hL h3
  rw [List.getElem_set]
  simp only [ldL, List.getElem_map, List.getElem_range]
  by_cases c : brev L i = k
  · rw [if_pos c, ← c, h2, if_pos (Nat.lt_succ_self i)]
  · have hne : brev L k ≠ i := fun e => c (by rw [← e]; exact h6)
    rw [if_neg c]
    by_cases d : brev L k < i
    · rw [if_pos d, if_pos (by omega)]
    · rw [if_neg d, if_neg (by omega)]
theorem ld_store {L i : Nat} (v : List FC) (hL : L ≤ 12) (hi : i < 2 ^ L) : brev L i + 1 ≤ (cxs (ldL L v i)).length ∧ splice (cxs (ldL L v i)) (brev L i) [.av (.complex .f64 (v.getD i (0, 0)).1 (v.getD i (0, 0)).2)] = cxs (ldL L v (i + 1)) := by
  rw [← ld_set v hL hi]
  exact flat_splice1 cxC (fun _ => rfl) (v := v.getD i (0, 0)) (by rw [ldL_len]; exact (rev_at hL hi).2.1)

/-! ### the whole transform -/
def bfly (w : FC) (p q : Nat) (o : List FC) : Option (List FC) := match cMul w.1 w.2 (o.getD q (0, 0)).1 (o.getD q (0, 0)).2 with
  | some t => match cAdd (o.getD p (0, 0)).1 (o.getD p (0, 0)).2 t.1 t.2 with
    | some a => match cSub (o.getD p (0, 0)).1 (o.getD p (0, 0)).2 t.1 t.2 with
      | some b => some ((o.set p a).set q b)
      | none => none
    | none => none
  | none => none
/-- m steps from k on, in the block at c. -/
def kRun (l c : Nat) : Nat → Nat → List FC → Option (List FC)
  | 0, _, o => some o
  | m + 1, k, o => (bfly (powR l k) (c + k) (c + k + 2 ^ l) o).bind fun o' => kRun l c m (k + 1) o'
/-- m blocks from c on. -/
def aRun (l : Nat) : Nat → Nat → List FC → Option (List FC)
  | 0, _, o => some o
  | m + 1, c, o => (kRun l c (2 ^ l) 0 o).bind fun o' => aRun l m (c + 2 * 2 ^ l) o'
/-- m levels from l on. -/
def lRun (L : Nat) : Nat → Nat → List FC → Option (List FC)
  | 0, _, o => some o
  | m + 1, l, o => (aRun l (2 ^ (L - 1 - l)) 0 o).bind fun o' => lRun L m (l + 1) o'
def apartO (L : Nat) (v : List FC) : Option (List FC) := lRun L L 0 (loadL L v)
theorem bind_some {α β : Type} {o : Option α} {f : α → Option β} {r : β} (h : o.bind f = some r) : ∃ a, o = some a ∧ f a = some r := Option.bind_eq_some_iff.1 h
theorem bfly_ok {w : FC} {p q : Nat} {o o' : List FC} (h : bfly w p q o = some o') : ∃ t a b : FC, cMul w.1 w.2 (o.getD q (0, 0)).1 (o.getD q (0, 0)).2 = some (t.1, t.2) ∧ cAdd (o.getD p (0, 0)).1 (o.getD p (0, 0)).2 t.1 t.2 = some (a.1, a.2) ∧ cSub (o.getD p (0, 0)).1 (o.getD p (0, 0)).2 t.1 t.2 = some (b.1, b.2) ∧ o' = (o.set p a).set q b := by
  unfold bfly at h
  split at h
  · rename_i t ht
    split at h
    · rename_i a ha
      split at h
      · rename_i b hb
        cases h
        exact ⟨t, a, b, ht, ha, hb, rfl⟩
      · cases h
    · cases h
  · cases h
theorem kRun_step {l c k n : Nat} {o r : List FC} {f : List FC → Option (List FC)} (hk : k < n) (h : (kRun l c (n - k) k o).bind f = some r) : ∃ t a b : FC, cMul (powR l k).1 (powR l k).2 (o.getD (c + k + 2 ^ l) (0, 0)).1 (o.getD (c + k + 2 ^ l) (0, 0)).2 = some (t.1, t.2) ∧ cAdd (o.getD (c + k) (0, 0)).1 (o.getD (c + k) (0, 0)).2 t.1 t.2 = some (a.1, a.2) ∧ cSub (o.getD (c + k) (0, 0)).1 (o.getD (c + k) (0, 0)).2 t.1 t.2 = some (b.1, b.2) ∧ (kRun l c (n - (k + 1)) (k + 1) ((o.set (c + k) a).set (c + k + 2 ^ l) b)).bind f = some r := by
  rw [show n - k = n - (k + 1) + 1 from by omega, kRun, Option.bind_assoc] at h
  obtain ⟨o', h1, h2⟩ := bind_some h
  obtain ⟨t, a, b, h3, h4, h5, rfl⟩ := bfly_ok h1
  exact ⟨t, a, b, h3, h4, h5, h2⟩
theorem kRun_end {l c k n : Nat} {o r : List FC} {f : List FC → Option (List FC)} (hk : n ≤ k) (h : (kRun l c (n - k) k o).bind f = some r) : f o = some r := by
  rw [show n - k = 0 from by omega] at h
  exact h
theorem aRun_step {l c m n : Nat} {o r : List FC} {f : List FC → Option (List FC)} (hm : m < n) (h : (aRun l (n - m) c o).bind f = some r) : (kRun l c (2 ^ l - 0) 0 o).bind (fun o' => (aRun l (n - (m + 1)) (c + 2 * 2 ^ l) o').bind f) = some r := by
  rw [show n - m = n - (m + 1) + 1 from by omega, aRun, Option.bind_assoc] at h
  exact h
theorem aRun_end {l c m n : Nat} {o r : List FC} {f : List FC → Option (List FC)} (hm : n ≤ m) (h : (aRun l (n - m) c o).bind f = some r) : f o = some r := by
  rw [show n - m = 0 from by omega] at h
  exact h
theorem lRun_step {L l : Nat} {o r : List FC} (hl : l < L) (h : lRun L (L - l) l o = some r) : (aRun l (2 ^ (L - 1 - l) - 0) 0 o).bind (lRun L (L - (l + 1)) (l + 1)) = some r := by
  rw [show L - l = L - (l + 1) + 1 from by omega, lRun] at h
  exact h
theorem lRun_end {L l : Nat} {o r : List FC} (hl : L ≤ l) (h : lRun L (L - l) l o = some r) : o = r := by
  rw [show L - l = 0 from by omega] at h
  exact Option.some.inj h
theorem p2_split {L l : Nat} (h : l < L) : 2 ^ (L - 1 - l) * (2 * 2 ^ l) = 2 ^ L := by
  rw [show 2 * 2 ^ l = 2 ^ (l + 1) from by rw [Nat.pow_succ, Nat.mul_comm], ← Nat.pow_add, show L - 1 - l + (l + 1) = L from by omega]
/-- There is one block more. -/
theorem blk_more {L l m c : Nat} (h : l < L) (hc : c = m * (2 * 2 ^ l)) : (c < 2 ^ L → m < 2 ^ (L - 1 - l) ∧ c + 2 * 2 ^ l ≤ 2 ^ L) ∧ (¬ c < 2 ^ L → 2 ^ (L - 1 - l) ≤ m) := by
  have h1 := p2_split h
  have h2 : 0 < 2 * 2 ^ l := Nat.mul_pos (by decide) (Nat.pow_pos (by decide))
  refine ⟨fun g => ?_, fun g => ?_⟩
  · have h3 : m < 2 ^ (L - 1 - l) := by
      rw [← h1, hc] at g
      exact Nat.lt_of_mul_lt_mul_right g
    refine ⟨h3, ?_⟩
    have h4 := Nat.mul_le_mul_right (2 * 2 ^ l) h3
    rw [h1, Nat.succ_mul] at h4
    omega
  · rw [← h1, hc] at g
    exact Nat.le_of_mul_le_mul_right (Nat.le_of_not_lt g) h2
theorem c_next {c m A : Nat} (h : c = m * A) : c + A = (m + 1) * A := by rw [h, Nat.succ_mul]
theorem set_len {o : List FC} {n p q : Nat} (a b : FC) (h : o.length = n) : ((o.set p a).set q b).length = n := by rw [List.length_set, List.length_set, h]
theorem set_at1 {o : List FC} {n p : Nat} (a : FC) (h : o.length = n) (hp : p < n) : p + 1 ≤ (cxs o).length ∧ splice (cxs o) p [.av (.complex .f64 a.1 a.2)] = cxs (o.set p a) := flat_splice1 cxC (fun _ => rfl) (v := a) (by rw [h]; exact hp)
theorem bfly_len {w : FC} {p q : Nat} {o r : List FC} (h : bfly w p q o = some r) : r.length = o.length := by
  obtain ⟨_, a, b, _, _, _, rfl⟩ := bfly_ok h
  rw [List.length_set, List.length_set]
theorem kRun_len (l c : Nat) : ∀ (m k : Nat) {o r : List FC}, kRun l c m k o = some r → r.length = o.length
  | 0, _, o, r, h => by cases h; rfl
  | m + 1, k, o, r, h => by
    obtain ⟨o', h1, h2⟩ := bind_some h
    exact (kRun_len l c m _ h2).trans (bfly_len h1)
theorem aRun_len (l : Nat) : ∀ (m c : Nat) {o r : List FC}, aRun l m c o = some r → r.length = o.length
  | 0, _, o, r, h => by cases h; rfl
  | m + 1, c, o, r, h => by
    obtain ⟨o', h1, h2⟩ := bind_some h
    exact (aRun_len l m _ h2).trans (kRun_len l c _ _ h1)
theorem lRun_len (L : Nat) : ∀ (m l : Nat) {o r : List FC}, lRun L m l o = some r → r.length = o.length
  | 0, _, o, r, h => by cases h; rfl
  | m + 1, l, o, r, h => by
    obtain ⟨o', h1, h2⟩ := bind_some h
    exact (lRun_len L m _ h2).trans (aRun_len l _ _ h1)
theorem apartO_len {L : Nat} {v r : List FC} (h : apartO L v = some r) : r.length = 2 ^ L := (lRun_len L _ _ h).trans (loadL_len L v)
end Go.Proofs.Ytfibadnkhbjciaa.Pm
namespace Go.Proofs.Ytfibadnkhbjciaa.Pm
open Go

def tab8 : List UInt8 := [0, 1, 2, 2, 3, 3, 3, 3, 4, 4, 4, 4, 4, 4, 4, 4, 5, 5, 5, 5, 5, 5, 5, 5, 5, 5, 5, 5, 5, 5, 5, 5, 6, 6, 6, 6, 6, 6, 6, 6, 6, 6, 6, 6, 6, 6, 6, 6, 6, 6, 6, 6, 6, 6, 6, 6, 6, 6, 6, 6, 6, 6, 6, 6, 7, 7, 7, 7, 7, 7, 7, 7, 7, 7, 7, 7, 7, 7, 7, 7, 7, 7, 7, 7, 7, 7, 7, 7, 7, 7, 7, 7, 7, 7, 7, 7, 7, 7, 7, 7, 7, 7, 7, 7, 7, 7, 7, 7, 7, 7, 7, 7, 7, 7, 7, 7, 7, 7, 7, 7, 7, 7, 7, 7, 7, 7, 7, 7, 8, 8, 8, 8, 8, 8, 8, 8, 8, 8, 8, 8, 8, 8, 8, 8, 8, 8, 8, 8, 8, 8, 8, 8, 8, 8, 8, 8, 8, 8, 8, 8, 8, 8, 8, 8, 8, 8, 8, 8, 8, 8, 8, 8, 8, 8, 8, 8, 8, 8, 8, 8, 8, 8, 8, 8, 8, 8, 8, 8, 8, 8, 8, 8, 8, 8, 8, 8, 8, 8, 8, 8, 8, 8, 8, 8, 8, 8, 8, 8, 8, 8, 8, 8, 8, 8, 8, 8, 8, 8, 8, 8, 8, 8, 8, 8, 8, 8, 8, 8, 8, 8, 8, 8, 8, 8, 8, 8, 8, 8, 8, 8, 8, 8, 8, 8, 8, 8, 8, 8, 8, 8, 8, 8, 8, 8, 8, 8]
def lenN (x : Nat) : Nat := if x < 256 then (tab8.getD x 0).toNat else 8 + (tab8.getD (x / 256) 0).toNat
def lenOk : Bool := (List.range 13).all (fun L => Nat.beq (lenN (2 ^ L)) (L + 1)) && (List.range 1024).all (fun x => Nat.blt x (2 ^ lenN x) && Nat.ble (lenN x) 10)
theorem len_ok : lenOk = true := by decide +kernel
theorem len_p2 {L : Nat} (h : L ≤ 12) : lenN (2 ^ L) = L + 1 := by
  have h1 := len_ok
  unfold lenOk at h1
  rw [Bool.and_eq_true] at h1
  exact Nat.eq_of_beq_eq_true (List.all_eq_true.1 h1.1 L (List.mem_range.2 (by omega)))
theorem len_fit {x : Nat} (h : x < 1024) : x < 2 ^ lenN x ∧ lenN x ≤ 10 := by
  have h1 := len_ok
  unfold lenOk at h1
  rw [Bool.and_eq_true] at h1
  have h2 := List.all_eq_true.1 h1.2 x (List.mem_range.2 h)
  rw [Bool.and_eq_true, Nat.blt_eq] at h2
  exact ⟨h2.1, Nat.le_of_ble_eq_true h2.2⟩
theorem fdiv8 (x : Nat) : ((x : Nat) : Int).fdiv (2 ^ (8 : Int).toNat) = ((x / 256 : Nat) : Int) := by
  rw [Int.fdiv_eq_ediv_of_nonneg _ (by decide)]
  rfl
theorem suc_sub (L : Nat) : ((L + 1 : Nat) : Int) - 1 = ((L : Nat) : Int) := by omega
def andI (n : Int) : Int := IntKind.wrap .i64 (BitVec.ofInt (IntKind.bits .i64) n &&& BitVec.ofInt (IntKind.bits .i64) (n - 1)).toNat
def andOk : Bool := (List.range 4097).all fun n => Nat.beq n 0 || (decide (andI ((n : Nat) : Int) = 0) == (List.range 13).any fun L => Nat.beq n (2 ^ L))
theorem and_ok : andOk = true := by decide +kernel
theorem and_at {n : Nat} (h0 : 1 ≤ n) (h : n ≤ 4096) : (andI ((n : Nat) : Int) = 0 → ∃ L, L ≤ 12 ∧ n = 2 ^ L) ∧ ((∃ L, L ≤ 12 ∧ n = 2 ^ L) → andI ((n : Nat) : Int) = 0) := by
  have h1 := List.all_eq_true.1 and_ok n (List.mem_range.2 (by omega))
  have h2 : Nat.beq n 0 = false := by rw [Bool.eq_false_iff]; intro e; have := Nat.eq_of_beq_eq_true e; omega
  rw [h2, Bool.false_or, beq_iff_eq] at h1
  constructor
  · intro h3
    rw [decide_eq_true h3] at h1
    obtain ⟨L, h4, h5⟩ := List.any_eq_true.1 h1.symm
    exact ⟨L, by have := List.mem_range.1 h4; omega, Nat.eq_of_beq_eq_true h5⟩
  · rintro ⟨L, h3, h4⟩
    have h5 : ((List.range 13).any fun L => Nat.beq n (2 ^ L)) = true := List.any_eq_true.2 ⟨L, List.mem_range.2 (by omega), by rw [h4]; exact Nat.beq_refl _⟩
    rw [h5] at h1
    exact of_decide_eq_true h1

/-! ### mirrored -/
def mirC (p : FC) : FC := (p.1, Op.negFloat .f64 p.2)
def mirL (v : List FC) : List FC := v.map mirC
def mirD (v : List FC) (i : Nat) : List FC := (List.range v.length).map fun j => if j < i then mirC (v.getD j (0, 0)) else (0, 0)
theorem mirL_len (v : List FC) : (mirL v).length = v.length := by simp [mirL]
theorem mirD_len (v : List FC) (i : Nat) : (mirD v i).length = v.length := by simp [mirD]
theorem mirD_zero (v : List FC) : List.replicate v.length ((0, 0) : FC) = mirD v 0 := by
  apply List.ext_getElem (by simp [mirD])
  intro k h1 h2
  simp [mirD]
theorem mirD_full (v : List FC) : mirD v v.length = mirL v := by
  apply List.ext_getElem (by rw [mirD_len, mirL_len])
  intro k h1 h2
  rw [mirD_len] at h1
  simp [mirD, mirL, h1, List.getD_eq_getElem?_getD]
theorem mirD_set {v : List FC} {i : Nat} (_h : i < v.length) : (mirD v i).set i (mirC (v.getD i (0, 0))) = mirD v (i + 1) := by
  apply List.ext_getElem (by rw [List.length_set, mirD_len, mirD_len])
  intro k h1 h2
  rw [mirD_len] at h2
  rw [List.getElem_set]
  simp only [mirD, List.getElem_map, List.getElem_range]
  by_cases c : i = k
  · subst c
    rw [if_pos rfl, if_pos (by omega)]
  · rw [if_neg c]
    by_cases d : k < i
    · rw [if_pos d, if_pos (by omega)]
    · rw [if_neg d, if_neg (by omega)]
theorem mirD_store {v : List FC} {i : Nat} (h : i < v.length) : i + 1 ≤ (cxs (mirD v i)).length ∧ splice (cxs (mirD v i)) i [.av (.complex .f64 (v.getD i (0, 0)).1 (Op.negFloat .f64 (v.getD i (0, 0)).2))] = cxs (mirD v (i + 1)) := by
  rw [← mirD_set h]
  exact flat_splice1 cxC (fun _ => rfl) (v := mirC (v.getD i (0, 0))) (by rw [mirD_len]; exact h)

/-! ### a row changed in each place -/
/-- m places from i on, each by f. -/
def chO (f : FC → Option FC) : Nat → Nat → List FC → Option (List FC)
  | 0, _, o => some o
  | m + 1, i, o => (f (o.getD i (0, 0))).bind fun p => chO f m (i + 1) (o.set i p)
theorem chO_step {f : FC → Option FC} {i n : Nat} {o r : List FC} (hi : i < n) (h : chO f (n - i) i o = some r) : ∃ p, f (o.getD i (0, 0)) = some p ∧ chO f (n - (i + 1)) (i + 1) (o.set i p) = some r := by
  rw [show n - i = n - (i + 1) + 1 from by omega, chO] at h
  exact bind_some h
theorem chO_end {f : FC → Option FC} {i n : Nat} {o r : List FC} (hi : n ≤ i) (h : chO f (n - i) i o = some r) : o = r := by
  rw [show n - i = 0 from by omega] at h
  exact Option.some.inj h
def divC (nf : Nat) (p : FC) : Option FC := (FloatKind.f64.format.div p.1 nf).bind fun x => (FloatKind.f64.format.div (Op.negFloat .f64 p.2) nf).bind fun y => some (x, y)
theorem divC_ok {nf : Nat} {p q : FC} (h : divC nf p = some q) : FloatKind.f64.format.div p.1 nf = some q.1 ∧ FloatKind.f64.format.div (Op.negFloat .f64 p.2) nf = some q.2 := by
  obtain ⟨x, h1, h2⟩ := bind_some h
  obtain ⟨y, h3, h4⟩ := bind_some h2
  cases h4
  exact ⟨h1, h3⟩
def sqC (p : FC) : Option FC := cMul p.1 p.2 p.1 p.2
def nfL (L : Nat) : Nat := FloatKind.f64.nearest ((2 ^ L : Nat) : Int)
def togO (L : Nat) (v : List FC) : Option (List FC) := (apartO L (mirL v)).bind (chO (divC (nfL L)) (2 ^ L) 0)
/-- What two factors become. -/
def fl0 (a : List Int) (i : Nat) : Nat := if i < a.length then FloatKind.f64.nearest (a.getD i 0) else 0
def bothD (a b : List Int) (n i : Nat) : List FC := (List.range n).map fun j => if j < i then (fl0 a j, fl0 b j) else (0, 0)
theorem bothD_len (a b : List Int) (n i : Nat) : (bothD a b n i).length = n := by simp [bothD]
theorem bothD_zero (a b : List Int) (n : Nat) : List.replicate n ((0, 0) : FC) = bothD a b n 0 := by
  apply List.ext_getElem (by simp [bothD])
  intro k h1 h2
  simp [bothD]
theorem bothD_set {a b : List Int} {n i : Nat} (_h : i < n) : (bothD a b n i).set i (fl0 a i, fl0 b i) = bothD a b n (i + 1) := by
  apply List.ext_getElem (by rw [List.length_set, bothD_len, bothD_len])
  intro k h1 h2
  rw [bothD_len] at h2
  rw [List.getElem_set]
  simp only [bothD, List.getElem_map, List.getElem_range]
  by_cases c : i = k
  · subst c
    rw [if_pos rfl, if_pos (by omega)]
  · rw [if_neg c]
    by_cases d : k < i
    · rw [if_pos d, if_pos (by omega)]
    · rw [if_neg d, if_neg (by omega)]
theorem bothD_store {a b : List Int} {n i x y : Nat} (h : i < n) (hx : fl0 a i = x) (hy : fl0 b i = y) : i + 1 ≤ (cxs (bothD a b n i)).length ∧ splice (cxs (bothD a b n i)) i [.av (.complex .f64 x y)] = cxs (bothD a b n (i + 1)) := by
  rw [← bothD_set h, ← hx, ← hy]
  exact flat_splice1 cxC (fun _ => rfl) (v := (fl0 a i, fl0 b i)) (by rw [bothD_len]; exact h)
def lgN (a b : List Int) : Nat := lenN (a.length + b.length - 1 - 1)
/-- The three passes: apart, squared, together. -/
def waveO (a b : List Int) : Option (List FC) := (apartO (lgN a b) (bothD a b (2 ^ lgN a b) (2 ^ lgN a b))).bind fun f => (chO sqC (2 ^ lgN a b) 0 f).bind (togO (lgN a b))
theorem chO_len (f : FC → Option FC) : ∀ (m i : Nat) {o r : List FC}, chO f m i o = some r → r.length = o.length
  | 0, _, o, r, h => by cases h; rfl
  | m + 1, i, o, r, h => by
    obtain ⟨p, h1, h2⟩ := bind_some h
    exact (chO_len f m _ h2).trans (List.length_set ..)
theorem togO_len {L : Nat} {v r : List FC} (h : togO L v = some r) : r.length = 2 ^ L := by
  obtain ⟨f, h1, h2⟩ := bind_some h
  exact (chO_len _ _ _ h2).trans (apartO_len h1)
end Go.Proofs.Ytfibadnkhbjciaa.Pm
namespace Go.Proofs.Ytfibadnkhbjciaa.Fl
open Go Ieee

abbrev F := Ieee.double
theorem D_binade : F.binade = 4503599627370496 := rfl
theorem D_inf : F.infRung = 9218868437227405312 := rfl
theorem D_least : F.leastPlace = -1074 := rfl
theorem D_sign : F.signWeight = 9223372036854775808 := rfl
/-- A positive normal number. -/
def Nrm (r : Nat) : Prop := 4503599627370496 ≤ r ∧ r < 9218868437227405312
/-- Its digits, and its last digit's place. -/
def mnt (r : Nat) : Nat := 4503599627370496 + r % 4503599627370496
def plc (r : Nat) : Int := -1074 + ((r / 4503599627370496 - 1 : Nat) : Int)
theorem mnt_bd (r : Nat) : 4503599627370496 ≤ mnt r ∧ mnt r < 9007199254740992 := by unfold mnt; omega
theorem rung_of {r : Nat} (h : Nrm r) : r = (plc r + 1074).toNat * 4503599627370496 + mnt r := by unfold Nrm at h; unfold plc mnt; omega
theorem read_nrm {r : Nat} (h : Nrm r) : F.read r = .number false (mnt r) (plc r) := by
  unfold Nrm at h
  unfold Format.read
  rw [D_binade, D_inf, D_least, D_sign]
  have e1 : r % 9223372036854775808 = r := Nat.mod_eq_of_lt (by omega)
  have e2 : (r / 9223372036854775808 % 2 == 1) = false := by rw [Nat.div_eq_of_lt (by omega)]; rfl
  simp only [e1, e2]
  rw [if_neg (by omega), if_pos (by omega)]
  rfl
theorem log2_of {n k : Nat} (h1 : 2 ^ k ≤ n) (h2 : n < 2 ^ (k + 1)) : n.log2 = k := by
  have hn : n ≠ 0 := by intro e; subst e; have := Nat.pow_pos (n := k) (show 0 < 2 by decide); omega
  exact (Nat.log2_eq_iff hn).2 ⟨h1, h2⟩
/-- A cut where nothing is left over. -/
theorem cut_exact (m s : Nat) (hm : 1 ≤ m) : Toward.even.cut false (m * 2 ^ s) s = m := by
  have hs : s ≤ (m * 2 ^ s).log2 + 2 := by
    have : s ≤ (m * 2 ^ s).log2 := by
      apply (Nat.le_log2 (by have := Nat.pow_pos (n := s) (show 0 < 2 by decide); exact Nat.mul_ne_zero (by omega) (by omega))).2
      exact Nat.le_mul_of_pos_left _ (by omega)
    omega
  unfold Toward.cut
  rw [Nat.min_eq_left hs, Nat.one_shiftLeft]
  have hp := Nat.pow_pos (n := s) (show 0 < 2 by decide)
  simp only [Nat.mul_div_cancel _ hp, Nat.mul_mod_left]
  have h1 : decide (2 ^ s < 2 * 0) = false := by simp
  have h2 : (2 ^ s == 2 * 0) = false := by rw [beq_eq_false_iff_ne]; omega
  simp [h2]
/-- A number that the format has is written as it is. -/
theorem nearest_exact {m s : Nat} {p : Int} (h1 : 4503599627370496 ≤ m) (h2 : m < 9007199254740992) (hp : -1074 ≤ p + s) (hi : (p + s + 1074).toNat * 4503599627370496 + m ≤ 9218868437227405312) :
    F.nearest false (m * 2 ^ s) p = (p + s + 1074).toNat * 4503599627370496 + m := by
  have hs := Nat.pow_pos (n := s) (show 0 < 2 by decide)
  have hl : (m * 2 ^ s).log2 = 52 + s := log2_of (by rw [Nat.pow_add]; exact Nat.mul_le_mul_right _ h1) (by
    rw [show 52 + s + 1 = 53 + s from by omega, Nat.pow_add]
    exact Nat.mul_lt_mul_of_pos_right h2 hs)
  unfold Format.nearest
  rw [if_neg (Nat.mul_ne_zero (by omega) (by omega)), hl, D_least, D_inf, D_binade]
  have e : max (p + ((52 + s : Nat) : Int) - ((F.fractionBits : Nat) : Int)) (-1074) = p + s := by
    rw [show ((F.fractionBits : Nat) : Int) = 52 from rfl]; omega
  rw [e]
  simp only [show (p - (p + (s : Int))).toNat = 0 from by omega, show (p + (s : Int) - p).toNat = s from by omega, Nat.shiftLeft_zero]
  rw [cut_exact m s (by omega), show p + (s : Int) - -1074 = p + s + 1074 from by omega, Nat.min_eq_left hi]
  rfl
theorem one_nrm : F.read 4607182418800017408 = .number false 4503599627370496 (-52) := by decide +kernel
theorem two_nrm : F.read 4611686018427387904 = .number false 4503599627370496 (-51) := by decide +kernel
theorem pow52 : (4503599627370496 : Nat) = 2 ^ 52 := by decide
/-- Once. -/
theorem mul_one_l {r : Nat} (h : Nrm r) : F.mul 4607182418800017408 r = some r := by
  unfold Format.mul
  rw [one_nrm, read_nrm h]
  show some (F.nearest false (4503599627370496 * mnt r) (-52 + plc r)) = some r
  have hb := mnt_bd r
  have hr := rung_of h
  rw [Nat.mul_comm, show mnt r * 4503599627370496 = mnt r * 2 ^ 52 from rfl, nearest_exact hb.1 hb.2 (by unfold plc; omega) (by unfold Nrm at h; rw [show -52 + plc r + ((52 : Nat) : Int) + 1074 = plc r + 1074 from by omega, ← hr]; omega)]
  rw [show -52 + plc r + ((52 : Nat) : Int) + 1074 = plc r + 1074 from by omega, ← hr]
/-- Twice. -/
theorem mul_two {r : Nat} (h : Nrm r) (h2 : Nrm (r + 4503599627370496)) : F.mul r 4611686018427387904 = some (r + 4503599627370496) := by
  unfold Format.mul
  rw [two_nrm, read_nrm h]
  show some (F.nearest false (mnt r * 4503599627370496) (plc r + -51)) = some _
  have hb := mnt_bd r
  have hr := rung_of h
  have e : (plc r + -51 + ((52 : Nat) : Int) + 1074).toNat * 4503599627370496 + mnt r = r + 4503599627370496 := by
    unfold plc at *; omega
  unfold Nrm at h2
  rw [show mnt r * 4503599627370496 = mnt r * 2 ^ 52 from rfl, nearest_exact hb.1 hb.2 (by unfold plc; omega) (by rw [e]; omega), e]
/-- A half. -/
theorem div_two {r : Nat} (h : Nrm (r + 4503599627370496)) (h1 : Nrm r) : F.div (r + 4503599627370496) 4611686018427387904 = some r := by
  unfold Format.div
  rw [two_nrm, read_nrm h]
  have hb := mnt_bd (r + 4503599627370496)
  have hl : (mnt (r + 4503599627370496)).log2 = 52 := log2_of (by omega) (by omega)
  have hm : mnt (r + 4503599627370496) = mnt r := by unfold mnt; omega
  have hb' := mnt_bd r
  have hr := rung_of h1
  show some (F.write (.number (false ^^ false) (2 * ((mnt (r + 4503599627370496) <<< (F.fractionBits + 2 + (4503599627370496 : Nat).log2 - (mnt (r + 4503599627370496)).log2)) / 4503599627370496) + ((mnt (r + 4503599627370496) <<< (F.fractionBits + 2 + (4503599627370496 : Nat).log2 - (mnt (r + 4503599627370496)).log2)) % 4503599627370496 != 0).toNat) (plc (r + 4503599627370496) - -51 - ((F.fractionBits + 2 + (4503599627370496 : Nat).log2 - (mnt (r + 4503599627370496)).log2 : Nat) : Int) - 1))) = some r
  rw [hl, show (4503599627370496 : Nat).log2 = 52 from by decide +kernel, show F.fractionBits + 2 + 52 - 52 = 54 from rfl, Nat.shiftLeft_eq, hm]
  have e1 : mnt r * 2 ^ 54 = mnt r * 4 * 4503599627370496 := by rw [Nat.mul_assoc, show 4 * 4503599627370496 = 2 ^ 54 from by decide]
  rw [e1, Nat.mul_div_cancel _ (by decide), Nat.mul_mod_left]
  show some (F.nearest false (2 * (mnt r * 4) + 0) _) = some r
  have e2 : 2 * (mnt r * 4) + 0 = mnt r * 2 ^ 3 := by rw [show (2 : Nat) ^ 3 = 8 from by decide]; omega
  have hp : plc (r + 4503599627370496) = plc r + 1 := by
    unfold Nrm at h1
    unfold plc
    clear e1 e2 hr hl hm
    omega
  have hq : (-1074 : Int) ≤ plc r := by unfold plc; omega
  clear e1
  have e3 : (plc (r + 4503599627370496) - -51 - ((54 : Nat) : Int) - 1 + ((3 : Nat) : Int) + 1074).toNat * 4503599627370496 + mnt r = r := by
    rw [hp, show plc r + 1 - -51 - ((54 : Nat) : Int) - 1 + ((3 : Nat) : Int) + 1074 = plc r + 1074 from by omega, ← hr]
  rw [e2, nearest_exact hb'.1 hb'.2 (by rw [hp]; omega) (by rw [e3]; unfold Nrm at h1; omega), e3]
end Go.Proofs.Ytfibadnkhbjciaa.Fl
