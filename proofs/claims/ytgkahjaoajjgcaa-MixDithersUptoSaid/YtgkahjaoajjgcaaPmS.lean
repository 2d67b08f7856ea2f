/-
  THE VALUE MACHINE (S): open rows of shared cells keep their cells under other numbers. No program in sight.
-/
import Derived.Test.YtgkahjaoajjgcaaPmR
namespace Go.Proofs.Ytgkahjaoajjgcaa.Pm
open Go

abbrev rowC (l : List Int) : List PV := [.ssl (ints l) 0 l.length]
abbrev rows (T : List (List Int)) : List PV := T.flatMap rowC
theorem ren_shd {σ : Nat → Nat} {p : PV} (h : p.shd = true) : ren σ p = p := by
  cases p <;> first | rfl | cases h
theorem renL_shd {σ : Nat → Nat} : ∀ {cs : List PV}, shds cs → renL σ cs = cs
  | [], _ => rfl
  | p :: l, h => by
    rw [renL, ren_shd (h p (by simp)), renL_shd (fun q hq => h q (by simp [hq]))]
theorem flat_shd {α : Type} (f : α → List PV) (hf : ∀ x, (f x).all PV.shd = true) (l : List α) : shds (l.flatMap f) := fun p hp => by
  obtain ⟨x, _, hx⟩ := List.mem_flatMap.1 hp
  exact List.all_eq_true.1 (hf x) p hx
theorem flat_splice {α : Type} (f : α → List PV) (s : Nat) (hf : ∀ x, (f x).length = s) {l : List α} {k : Nat} {v : α} (h : k < l.length) : k * s + s ≤ (l.flatMap f).length ∧ splice (l.flatMap f) (k * s) (f v) = (l.set k v).flatMap f := by
  have hl : ∀ l : List α, (l.flatMap f).length = l.length * s := flat_len f s hf
  have h1 : k * s + s ≤ l.length * s := by
    have := Nat.mul_le_mul_right s (show k + 1 ≤ l.length from h)
    rw [Nat.add_mul, Nat.one_mul] at this
    exact this
  refine ⟨by rw [hl]; exact h1, ?_⟩
  have he : l.flatMap f = (l.take k).flatMap f ++ (f (l[k]) ++ (l.drop (k + 1)).flatMap f) := by
    rw [← List.flatMap_cons, ← flat_app, ← List.drop_eq_getElem_cons h, List.take_append_drop]
  have hk : ((l.take k).flatMap f).length = k * s := by rw [hl, List.length_take, Nat.min_eq_left (by omega)]
  rw [List.set_eq_take_append_cons_drop, if_pos h, flat_app, List.flatMap_cons, he]
  unfold splice
  rw [List.take_append_of_le_length (by omega), List.take_of_length_le (by omega), hf, List.drop_append, List.drop_of_length_le (by omega), hk, List.nil_append, Nat.add_sub_cancel_left, List.drop_append, List.drop_of_length_le (by rw [hf]; exact Nat.le_refl _), hf, Nat.sub_self, List.nil_append, List.drop_zero, List.append_assoc]
theorem flat_splice1 {α : Type} (f : α → List PV) (hf : ∀ x, (f x).length = 1) {l : List α} {k : Nat} {v : α} (h : k < l.length) : k + 1 ≤ (l.flatMap f).length ∧ splice (l.flatMap f) k (f v) = (l.set k v).flatMap f := by
  have := flat_splice f 1 hf (v := v) h
  rw [Nat.mul_one] at this
  exact this
def lf (k : Nat) : List (Nat × List PV) → Option (List PV)
  | [] => none
  | x :: F => match Nat.beq k x.1 with | true => some x.2 | false => lf k F
def fixF (F : List (Nat × List PV)) (x : Nat × Option Val) : Option Val := match x.2 with
  | some (.blk T cs) => match lf x.1 F with | some ds => some (.blk T ds) | none => some (.blk T cs)
  | some (.pv p) => some (.pv p)
  | none => none
def rvalF (σ : Nat → Nat) (F : List (Nat × List PV)) (x : Nat × Option Val) : Option Val := match x.2 with
  | some (.blk T cs) => match lf x.1 F with | some ds => some (.blk T ds) | none => some (.blk T (renL σ cs))
  | some (.pv p) => some (.pv (ren σ p))
  | none => none
theorem lf_shd {k : Nat} {cs : List PV} : ∀ {F : List (Nat × List PV)}, (∀ q ∈ F.map (fun x => shds x.2), q) → lf k F = some cs → shds cs
  | [], _, h => by cases h
  | x :: F, hF, h => by
    simp only [lf] at h
    split at h
    · cases h
      exact hF _ (by simp)
    · exact lf_shd (F := F) (fun q hq => hF q (by simp only [List.map_cons, List.mem_cons]; exact .inr hq)) h
theorem Wk.ren3 {P : Program} {n : Nat} {c0 : Cx} {Bor : Nat → Prop} {n0 : Nat} {l : L} (l' : L) (m : Nat) (hc0 : ∀ i x, c0.own i = some x → i < m) (σl : List Nat) (F : List (Nat × List PV)) (hF : ∀ q ∈ F.map (fun x => shds x.2), q) (hx : l'.map (fixF F) = l'.map (fun x => x.2)) (hσ : σl.take m = List.range m) (hnd : nodupB σl = true) (hb : shapeB σl.length l' = true)
    (h : l'.map (fun x => get l (rkey (sgm n0 σl) x.1)) = l'.map (rvalF (sgm n0 σl) F)) : Wk P n c0 Bor n0 l σl.length l' :=
  Wk.ren2 l' m hc0 σl hσ hnd hb (h.trans (List.map_congr_left fun x hxl => by
    have h1 := List.map_inj_left.1 hx x hxl
    obtain ⟨k, v⟩ := x
    cases v with
    | none => rfl
    | some v =>
      cases v with
      | pv p => rfl
      | blk T cs =>
        simp only [fixF, rvalF, rval] at h1 ⊢
        cases hl : lf k F with
        | none => rfl
        | some ds =>
          rw [hl] at h1
          simp only [Option.some.injEq, Val.blk.injEq] at h1
          simp only [Option.some.injEq, Val.blk.injEq, true_and]
          rw [← h1.2, renL_shd (lf_shd hF hl)]))
theorem frz_shd {id : Nat} {cs : List PV} {p : PV} (h : p.shd = true) : frz id cs p = p := by
  cases p <;> first | rfl | cases h
theorem frzL_shd {id : Nat} {cs : List PV} : ∀ {ds : List PV}, shds ds → frzL id cs ds = ds
  | [], _ => rfl
  | p :: l, h => by
    rw [frzL, frz_shd (h p (by simp)), frzL_shd (fun q hq => h q (by simp [hq]))]
def frzF (id : Nat) (cs : List PV) (F : List (Nat × List PV)) : L → L
  | [] => []
  | (k, x) :: l => (k, match x with
    | some (.pv p) => some (.pv (frz id cs p))
    | some (.blk T ds) => match Nat.beq k (kb id) with | true => none | false => match lf k F with | some es => some (.blk T es) | none => some (.blk T (frzL id cs ds))
    | none => none) :: frzF id cs F l
theorem frzF_eq {id : Nat} {cs : List PV} {F : List (Nat × List PV)} (hF : ∀ q ∈ F.map (fun x => shds x.2), q) : ∀ {l : L}, l.map (fixF F) = l.map (fun x => x.2) → frzS id cs l = frzF id cs F l
  | [], _ => rfl
  | (k, x) :: l, h => by
    simp only [List.map_cons, List.cons.injEq] at h
    simp only [frzS, frzF, List.cons.injEq, Prod.mk.injEq, true_and]
    refine ⟨?_, frzF_eq hF h.2⟩
    cases x with
    | none => rfl
    | some v =>
      cases v with
      | pv p => rfl
      | blk T ds =>
        have h1 := h.1
        simp only [fixF] at h1 ⊢
        cases hl : lf k F with
        | none => rfl
        | some es =>
          rw [hl] at h1
          simp only [Option.some.injEq, Val.blk.injEq, true_and] at h1
          have hs := lf_shd hF hl
          subst h1
          cases Nat.beq k (kb id) <;> simp [frzL_shd hs]
theorem Wk.frz2 {P : Program} {n : Nat} {c0 : Cx} {Bor : Nat → Prop} {n0 : Nat} {l l' : L} (id : Nat) {T : TypeId} {cs : List PV} (F : List (Nat × List PV)) (hF : ∀ q ∈ F.map (fun x => shds x.2), q) (hx : l.map (fixF F) = l.map (fun x => x.2)) (hg : get l (kb id) = some (.blk T cs)) (hs : shds cs) (he : frzF id cs F l = l') : Wk P n c0 Bor n0 l n0 l' :=
  Wk.frz id hg hs ((frzF_eq hF hx).trans he)
/-- What a slot holds, told otherwise. -/
theorem Wk.slot {P : Program} {n : Nat} {c0 : Cx} {Bor : Nat → Prop} {n0 : Nat} {l : L} (s : Nat) (p q : PV) (hs : get l (Pm.ks s) = some (.pv p)) (hpq : ∀ c v, Rep P c p v → Rep P c q v) : Wk P n c0 Bor n0 l n0 ([(ks s, some (.pv q))] ++ l) := fun cx a hI => by
  have hge : ∀ k, get ([(Pm.ks s, some (.pv q))] ++ l) k = if Nat.beq k (Pm.ks s) then some (.pv q) else get l k := fun k => by
    rw [get_append]
    simp only [over, lk]
    by_cases h1 : Nat.beq k (Pm.ks s) = true
    · simp [h1]
    · simp only [h1]; rfl
  have hb : ∀ i, get ([(Pm.ks s, some (.pv q))] ++ l) (kb i) = get l (kb i) := fun i => by
    rw [hge, beq_kbs]; rfl
  have hl : ∀ i, Live (get ([(Pm.ks s, some (.pv q))] ++ l)) i → Live (get l) i := fun i ⟨T', cs, hx⟩ => ⟨T', cs, by rw [← hb]; exact hx⟩
  refine ⟨cx, rfl, { ids := hI.ids, blk := fun i T' cs hx => hI.blk i T' cs (by rw [← hb]; exact hx), inj := fun i j b T T' l1 l2 => hI.inj i j b T T' (hl i l1) (hl j l2), apart := fun i b T l1 => hI.apart i b T (hl i l1), bnd := hI.bnd, sok := hI.sok, os := hI.os, tape := hI.tape, output := hI.output, size := hI.size, same := hI.same, s0 := hI.s0, s1 := hI.s1, keep := hI.keep, tmps := hI.tmps, dfr := hI.dfr, slot := fun s' p' hp => ?_, isv := fun s' x hx => ?_ }⟩
  · rw [hge, beq_ks] at hp
    by_cases e : s' = s
    · subst e
      rw [decide_eq_true rfl, if_pos rfl] at hp
      cases hp
      exact hpq _ _ (hI.slot s' _ hs)
    · rw [decide_eq_false e, if_neg (by simp)] at hp
      exact hI.slot s' p' hp
  · rw [hge, beq_ks] at hx
    by_cases e : s' = s
    · subst e
      rw [decide_eq_true rfl, if_pos rfl] at hx
      cases hx
      exact ⟨_, rfl⟩
    · rw [decide_eq_false e, if_neg (by simp)] at hx
      exact hI.isv s' x hx
/-- A slice of given cells is a slice of the fewer cells. -/
theorem ssl_cut {P : Program} {cs ds : List PV} {off len m : Nat} (h1 : off + m ≤ cs.length) (h2 : (cs.drop off).take m = ds) (c : Cx) (v : Value) (h : Rep P c (.ssl cs off len) v) : Rep P c (.ssl ds 0 len) v := by
  obtain ⟨h6, h7⟩ := getD_seg h1 h2
  rcases rep_ssl h with ⟨a, cap, hv, hn⟩ | ⟨b, a, cap, vf, hv, hS, hc, hr, ho, hl⟩
  · subst hv; subst hn; exact .sh .emp
  · subst hv
    refine .sh (SRep.ssl (a := a + off) (vf := fun j => vf (off + j)) hS (fun j hj => ?_) (fun j hj => ?_) (seg_ones ho h2) hl)
    · rw [Nat.add_assoc]; exact hc _ (by omega)
    · rw [h7 j (by omega)]; exact hr _ (by omega)
theorem T_elsec {P : Program} {n : Nat} {c0 : Cx} {Bor : Nat → Prop} {Q : Post} {n0 : Nat} {l : L} {rs : List Item} {x y : Code} (h : T P n c0 Bor Q n0 l (.code y :: rs)) : T P n c0 Bor Q n0 l (.code (.cond (.const (.bool false)) x y) :: rs) := fun cx a hI => wp_cond_false rfl (h cx a hI)
theorem T_thenc {P : Program} {n : Nat} {c0 : Cx} {Bor : Nat → Prop} {Q : Post} {n0 : Nat} {l : L} {rs : List Item} {x y : Code} (h : T P n c0 Bor Q n0 l (.code x :: rs)) : T P n c0 Bor Q n0 l (.code (.cond (.const (.bool true)) x y) :: rs) := fun cx a hI => wp_cond_true rfl (h cx a hI)
theorem and_bits (k : IntKind) (a b : Int) : IntKind.wrap k ((BitVec.ofInt (IntKind.bits k) a) &&& (BitVec.ofInt (IntKind.bits k) b)).toNat = Go.bits .and k a b := rfl
end Go.Proofs.Ytgkahjaoajjgcaa.Pm
