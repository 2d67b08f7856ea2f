/-
  THE VALUE MACHINE (U): states said anew: numbers that take another one's place; a cell that holds nil. No program in sight.
-/
import Derived.Test.YtgkahjaoajjgcaaPmS
namespace Go.Proofs.Ytgkahjaoajjgcaa.Pm
open Go

def liveK (σl : List Nat) (l : L) : List Nat := l.filterMap fun x => match x.2 with | some (.blk _ _) => some (σl.getD (x.1 / 2) 0) | _ => none
theorem liveK_mem {σl : List Nat} {l : L} {k : Nat} {T : TypeId} {cs : List PV} (h : get l k = some (.blk T cs)) : ∃ i, ∃ h : i < l.length, (l[i]).1 = k ∧ ∃ T cs, (l[i]).2 = some (.blk T cs) := by
  induction l with
  | nil => simp [get, lk] at h
  | cons x l ih =>
    simp only [get, lk] at h ih
    by_cases e : Nat.beq k x.1 = true
    · rw [if_pos e] at h
      exact ⟨0, by simp, (Nat.eq_of_beq_eq_true e).symm, T, cs, by simpa using h⟩
    · rw [if_neg e] at h
      obtain ⟨i, hi, h1, h2⟩ := ih h
      exact ⟨i + 1, by simp; omega, h1, h2⟩
theorem liveK_inj {σl : List Nat} : ∀ {l : L}, nodupB (liveK σl l) = true → ∀ i j (hi : i < l.length) (hj : j < l.length), (∃ T cs, (l[i]).2 = some (.blk T cs)) → (∃ T cs, (l[j]).2 = some (.blk T cs)) → σl.getD ((l[i]).1 / 2) 0 = σl.getD ((l[j]).1 / 2) 0 → i = j
  | [], _, i, _, hi, _, _, _, _ => absurd hi (Nat.not_lt_zero _)
  | x :: l, h, i, j, hi, hj, ⟨T1, c1, h1⟩, ⟨T2, c2, h2⟩, he => by
    have mem : ∀ q (hq : q < l.length), (∃ T cs, (l[q]).2 = some (.blk T cs)) → σl.getD ((l[q]).1 / 2) 0 ∈ liveK σl l := fun q hq ⟨T, cs, hh⟩ =>
      List.mem_filterMap.2 ⟨l[q], List.getElem_mem hq, by rw [hh]⟩
    cases i with
    | zero =>
      cases j with
      | zero => rfl
      | succ j =>
        exfalso
        simp only [List.getElem_cons_zero, List.getElem_cons_succ] at h1 h2 he
        have hm := mem j (by simpa using hj) ⟨T2, c2, h2⟩
        simp only [liveK, List.filterMap_cons, h1] at h
        rw [← he] at hm
        simp only [nodupB, Bool.and_eq_true] at h
        have := List.all_eq_true.1 h.1 _ hm
        rw [Nat.beq_refl] at this
        cases this
    | succ i =>
      have hl : nodupB (liveK σl l) = true := by
        simp only [liveK, List.filterMap_cons] at h
        split at h
        · exact h
        · simp only [nodupB, Bool.and_eq_true] at h
          exact h.2
      cases j with
      | zero =>
        exfalso
        simp only [List.getElem_cons_zero, List.getElem_cons_succ] at h1 h2 he
        have hm := mem i (by simpa using hi) ⟨T1, c1, h1⟩
        simp only [liveK, List.filterMap_cons, h2] at h
        rw [he] at hm
        simp only [nodupB, Bool.and_eq_true] at h
        have := List.all_eq_true.1 h.1 _ hm
        rw [Nat.beq_refl] at this
        cases this
      | succ j =>
        have := liveK_inj hl i j (by simpa using hi) (by simpa using hj) ⟨T1, c1, h1⟩ ⟨T2, c2, h2⟩ he
        omega
section
variable {P : Program} {n : Nat} {c0 : Cx} {Bor : Nat → Prop} {n0 : Nat} {l : L}
/-- As Wk.ren; only numbers that live must be apart. -/
theorem Wk.renD {l' : L} (m : Nat) (hc0 : ∀ i x, c0.own i = some x → i < m) (σl : List Nat) (hσ : σl.take m = List.range m) (hnd : nodupB (liveK σl l') = true) (h : ∀ p ∈ reSt (sgm n0 σl) σl.length l' (get l), p) : Wk P n c0 Bor n0 l σl.length l' := fun cx a hI => by
  have hsp := reSt_spec h
  have hs1 : ∀ i, i < σl.length → sgm n0 σl i = σl.getD i 0 := fun i hi => by
    unfold sgm
    rw [show Nat.blt i σl.length = true from by simpa [Nat.blt_eq] using hi]
  have hs2 : ∀ i, σl.length ≤ i → cx.own (sgm n0 σl i) = none := fun i hi => by
    unfold sgm
    rw [show Nat.blt i σl.length = false from by rw [Bool.eq_false_iff, Ne, Nat.blt_eq]; omega]
    cases ho : cx.own (n0 + i) with
    | none => rfl
    | some x => have : n0 + i < n0 := hI.ids _ x ho; omega
  have hlv : ∀ i, Live (get l') i → i < σl.length ∧ Live (get l) (sgm n0 σl i) := fun i ⟨T, cs, hx⟩ => by
    have h1 := hsp _ _ hx
    simp only at h1
    rw [show kb i / 2 = i by simp only [kb]; omega] at h1
    exact ⟨h1.2.1, T, _, h1.2.2⟩
  refine ⟨cx.via (sgm n0 σl), rfl, { ids := fun i x hx => ?_, blk := fun i T cs hx => ?_, inj := fun i j b T T' l1 l2 h3 h4 => ?_, apart := fun i b T l1 h2 => hI.apart _ b T (hlv i l1).2 h2, bnd := fun i b T h1 => hI.bnd _ b T h1, sok := hI.sok, os := hI.os, tape := hI.tape, output := hI.output, size := hI.size, same := hI.same, s0 := hI.s0, s1 := hI.s1, keep := ⟨hI.keep.S, fun i x hx => ?_, hI.keep.shape⟩, tmps := hI.tmps, dfr := hI.dfr, slot := fun s p hp => ?_, isv := fun s x hx => ?_ }⟩
  · show i < σl.length
    rcases Nat.lt_or_ge i σl.length with h1 | h1
    · exact h1
    · have : cx.own (sgm n0 σl i) = some x := hx
      rw [hs2 i h1] at this
      cases this
  · have h1 := hsp _ _ hx
    simp only at h1
    rw [show kb i / 2 = i by simp only [kb]; omega] at h1
    obtain ⟨ob, h5, h6, h7⟩ := hI.blk _ _ _ h1.2.2
    refine ⟨ob, h5, ones_renL.1 h6, ?_⟩
    rcases h7 with ⟨h7, h8⟩ | ⟨b, arr, h7, h8, h9, h10⟩
    · exact .inl ⟨h7, renL_nil h8⟩
    · rw [renL_length] at h9 h10
      exact .inr ⟨b, arr, h7, h8, h9, fun j hj => rep_via (h10 j hj) _ (renL_get _ _ j hj)⟩
  · obtain ⟨e1, l1'⟩ := hlv i l1
    obtain ⟨e2, l2'⟩ := hlv j l2
    have h5 := hI.inj _ _ b T T' l1' l2' h3 h4
    rw [hs1 i e1, hs1 j e2] at h5
    obtain ⟨_, _, hx1⟩ := l1
    obtain ⟨_, _, hx2⟩ := l2
    obtain ⟨p, hp, h6, h7⟩ := liveK_mem (σl := σl) hx1
    obtain ⟨q, hq, h8, h9⟩ := liveK_mem (σl := σl) hx2
    have h10 := liveK_inj hnd p q hp hq h7 h9 (by rw [h6, h8, show kb i / 2 = i by simp only [kb]; omega, show kb j / 2 = j by simp only [kb]; omega]; exact h5)
    subst h10
    rw [h6] at h8
    simp only [kb] at h8
    omega
  · have h1 := hc0 i x hx
    have h2 : i < σl.length := by
      have := congrArg List.length hσ
      simp at this
      omega
    have h3 : σl.getD i 0 = i := by
      have h4 := List.getElem?_take_of_lt (l := σl) h1
      rw [hσ] at h4
      rw [List.getD_eq_getElem?_getD, ← h4]
      simp [h1]
    show cx.own (sgm n0 σl i) = some x
    rw [hs1 i h2, h3]
    exact hI.keep.own i x hx
  · have h1 := hsp _ _ hp
    exact rep_via (hI.slot s _ h1) _ rfl
  · cases x with
    | pv p => exact ⟨p, rfl⟩
    | blk T cs =>
      have h1 := hsp _ _ hx
      simp only [Pm.ks] at h1
      omega
theorem Wk.ren2D (l' : L) (m : Nat) (hc0 : ∀ i x, c0.own i = some x → i < m) (σl : List Nat) (hσ : σl.take m = List.range m) (hnd : nodupB (liveK σl l') = true) (hb : shapeB σl.length l' = true)
    (h : l'.map (fun x => get l (rkey (sgm n0 σl) x.1)) = l'.map (fun x => rval (sgm n0 σl) x.2)) : Wk P n c0 Bor n0 l σl.length l' := Wk.renD m hc0 σl hσ hnd (reSt_of h hb)
theorem Wk.ren3D (l' : L) (m : Nat) (hc0 : ∀ i x, c0.own i = some x → i < m) (σl : List Nat) (F : List (Nat × List PV)) (hF : ∀ q ∈ F.map (fun x => shds x.2), q) (hx : l'.map (fixF F) = l'.map (fun x => x.2)) (hσ : σl.take m = List.range m) (hnd : nodupB (liveK σl l') = true) (hb : shapeB σl.length l' = true)
    (h : l'.map (fun x => get l (rkey (sgm n0 σl) x.1)) = l'.map (rvalF (sgm n0 σl) F)) : Wk P n c0 Bor n0 l σl.length l' :=
  Wk.ren2D l' m hc0 σl hσ hnd hb (h.trans (List.map_congr_left fun x hxl => by
    have h1 := List.map_inj_left.1 hx x hxl
    obtain ⟨k, v⟩ := x
    cases v with
    | none => rfl
    | some v =>
      cases v with
      | pv p => rfl
      | blk T cs =>
        simp only [fixF, rvalF, rval] at h1 ⊢
        cases hl : lf k F with
        | none => rfl
        | some ds =>
          rw [hl] at h1
          simp only [Option.some.injEq, Val.blk.injEq] at h1
          simp only [Option.some.injEq, Val.blk.injEq, true_and]
          rw [← h1.2, renL_shd (lf_shd hF hl)]))
/-- A cell that holds nil: an own row that has not been made. -/
theorem Wk.nilc (id j : Nat) (T : TypeId) {B : TypeId} {cells : List PV} (hs : get l (kb id) = some (.blk B cells)) (hj : cells[j]? = some (.av (.slice none 0 0))) : Wk P n c0 Bor n0 l (n0 + 1) ([(kb id, some (.blk B (cells.set j (.osl n0 0 0)))), (kb n0, some (.blk T []))] ++ l) := fun cx a hI => by
  obtain ⟨hk, hh⟩ := heap_virtual hI.toHeap (id := n0) (fun h => absurd h (Nat.lt_irrefl _)) T
  obtain ⟨ob0, ho0, _⟩ := hI.blk id B cells hs
  have hid : id < n0 := hI.ids id _ ho0
  have hg : over [(kb n0, some (.blk T []))] (get l) (kb id) = some (.blk B cells) := by rw [over_b, if_neg (by omega)]; exact hs
  refine ⟨⟨cx.w, cx.S, setOwn cx.own n0 (none, T)⟩, rfl, ?_⟩
  have hge : ∀ k, get ([(kb id, some (.blk B (cells.set j (.osl n0 0 0)))), (kb n0, some (.blk T []))] ++ l) k = if Nat.beq k (kb id) then some (.blk B (cells.set j (.osl n0 0 0))) else over [(kb n0, some (.blk T []))] (get l) k := fun k => by
    rw [get_append]
    simp only [over, lk]
    by_cases h1 : Nat.beq k (kb id) = true
    · simp [h1]
    · simp only [h1]; rfl
  have hb : ∀ i, get ([(kb id, some (.blk B (cells.set j (.osl n0 0 0)))), (kb n0, some (.blk T []))] ++ l) (kb i) = if i = id then some (.blk B (cells.set j (.osl n0 0 0))) else over [(kb n0, some (.blk T []))] (get l) (kb i) := fun i => by
    rw [hge, beq_kb]; by_cases e : i = id <;> simp [e]
  have hsl : ∀ s, get ([(kb id, some (.blk B (cells.set j (.osl n0 0 0)))), (kb n0, some (.blk T []))] ++ l) (Pm.ks s) = get l (Pm.ks s) := fun s => by
    rw [hge, beq_ksb, if_neg (by simp), over_s]
  have hl : ∀ i, Live (get ([(kb id, some (.blk B (cells.set j (.osl n0 0 0)))), (kb n0, some (.blk T []))] ++ l)) i → Live (over [(kb n0, some (.blk T []))] (get l)) i := fun i ⟨T', cs, hx⟩ => by
    rw [hb] at hx
    by_cases e : i = id
    · subst e; exact ⟨B, cells, hg⟩
    · rw [if_neg e] at hx; exact ⟨T', cs, hx⟩
  exact { ids := fun i x hx => by
            rcases hh.ids i x hx with h | h
            · exact Nat.lt_succ_of_lt h
            · subst h; exact Nat.lt_succ_self _
          blk := fun i T' cs hx => by
            rw [hb] at hx
            by_cases e : i = id
            · subst e
              rw [if_pos rfl] at hx
              cases hx
              obtain ⟨ob, h1, h2, h3⟩ := hh.blk i B cells hg
              refine ⟨ob, h1, fun p hp => ?_, ?_⟩
              · rcases List.mem_or_eq_of_mem_set hp with h | h
                · exact h2 p h
                · rw [h]; rfl
              · rcases h3 with ⟨_, h4⟩ | ⟨b, arr, h4, h5, h6, h7⟩
                · rw [h4] at hj; simp at hj
                · refine .inr ⟨b, arr, h4, h5, by rw [List.length_set]; exact h6, fun q hq => ?_⟩
                  rw [List.length_set] at hq
                  by_cases e : q = j
                  · subst e
                    have h8 := h7 q hq
                    have e2 : cells.getD q P0 = .av (.slice none 0 0) := by rw [List.getD_eq_getElem?_getD, hj]; rfl
                    rw [e2] at h8
                    rw [show (cells.set q (.osl n0 0 0)).getD q P0 = .osl n0 0 0 from by rw [List.getD_eq_getElem?_getD, List.getElem?_set_self hq]; rfl, rep_av h8]
                    exact .osl setOwn_same (.inl ⟨_, rfl, rfl⟩)
                  · rw [show (cells.set j (.osl n0 0 0)).getD q P0 = cells.getD q P0 from by rw [List.getD_eq_getElem?_getD, List.getD_eq_getElem?_getD, List.getElem?_set_ne (Ne.symm e)]]
                    exact h7 q hq
            · rw [if_neg e] at hx
              exact hh.blk i T' cs hx
          inj := fun i j b T T' l1 l2 => hh.inj i j b T T' (hl i l1) (hl j l2), apart := fun i b T l1 => hh.apart i b T (hl i l1), bnd := hh.bnd, sok := hh.sok,
          os := hh.os, tape := hh.tape, output := hh.output, size := hh.size, same := hh.same, s0 := hh.s0, s1 := hh.s1, keep := hh.keep, tmps := hI.tmps, dfr := hI.dfr
          slot := fun s' p hp => by
            rw [hsl] at hp
            exact (hI.slot s' p hp).mono hk
          isv := fun s' x hx => by
            rw [hsl] at hx
            exact hI.isv s' x hx }
end
end Go.Proofs.Ytgkahjaoajjgcaa.Pm
