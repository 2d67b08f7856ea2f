/-
  THE VALUE MACHINE (R): contracts of the kit's kind over plain values, as contracts by values; small lemmas. No program in sight.
-/
import Derived.Test.YtgkahjaoajjgcaaPmO
namespace Go.Proofs.Ytgkahjaoajjgcaa.Pm
open Go

def flat1 : PV → Option Value
  | .av v => some v
  | _ => none
def flat1s : List PV → Option (List Value)
  | [] => some []
  | p :: l => match flat1 p, flat1s l with | some v, some r => some (v :: r) | _, _ => none
def flat2 : PV → Option Value
  | .agg cs => match flat1s cs with | some l => some (.agg l.toArray) | none => none
  | p => flat1 p
def flat2s : List PV → Option (List Value)
  | [] => some []
  | p :: l => match flat2 p, flat2s l with | some v, some r => some (v :: r) | _, _ => none
def flat3 : PV → Option Value
  | .tup cs => match flat2s cs with | some l => some (.tuple l.toArray) | none => none
  | p => flat2 p
theorem flat1_to {P : Program} {c : Cx} {p : PV} {v u : Value} (h : flat1 p = some u) (hr : Rep P c p v) : v = u := by
  cases p <;> simp [flat1] at h
  subst h
  exact rep_av hr
theorem flat1_of {w : World} {S : Nat → Prop} {p : PV} {u : Value} (h : flat1 p = some u) : SRep w S p u := by
  cases p <;> simp [flat1] at h
  subst h
  exact .av _
theorem flats_to {P : Program} {c : Cx} {f : PV → Option Value} {fs : List PV → Option (List Value)} (h0 : fs [] = some []) (hc : ∀ p l, fs (p :: l) = match f p, fs l with | some v, some r => some (v :: r) | _, _ => none)
    (hf : ∀ p v u, f p = some u → Rep P c p v → v = u) : ∀ {l : List PV} {us : List Value} {vs : Array Value}, fs l = some us → RL P c l vs → vs = us.toArray
  | [], us, vs, h, hr => by
    rw [h0] at h
    cases h
    exact Array.eq_empty_of_size_eq_zero hr.1
  | p :: l, us, vs, h, hr => by
    rw [hc] at h
    split at h
    case h_2 => cases h
    rename_i v r h1 h2
    cases h
    have hs := hr.1
    simp only [List.length_cons] at hs
    have e0 : vs.getD 0 undef = v := hf p _ _ h1 (by simpa using hr.2 0 (by simp))
    have ht : RL P c l (vs.toList.tail).toArray := by
      refine ⟨by simp [hs], fun i hi => ?_⟩
      have := hr.2 (i + 1) (by simp; omega)
      have e : ((vs.toList.tail).toArray).getD i undef = vs.getD (i + 1) undef := by
        simp only [Array.getD_eq_getD_getElem?, List.getElem?_toArray, List.getElem?_tail, Array.getElem?_toList]
      rw [e]
      simpa using this
    have ih := flats_to h0 hc hf h2 ht
    have h3 : vs.toList.tail = r := by simpa using ih
    apply Array.ext'
    cases hv : vs.toList with
    | nil =>
      have : vs.size = 0 := by rw [← Array.length_toList, hv]; rfl
      omega
    | cons a b =>
      rw [hv] at h3
      have : vs.getD 0 undef = a := by
        rw [Array.getD_eq_getD_getElem?, ← Array.getElem?_toList, hv]
        rfl
      rw [← e0, this]
      simpa using h3
theorem flats_of {w : World} {S : Nat → Prop} {f : PV → Option Value} {fs : List PV → Option (List Value)} (h0 : fs [] = some []) (hc : ∀ p l, fs (p :: l) = match f p, fs l with | some v, some r => some (v :: r) | _, _ => none)
    (hf : ∀ p u, f p = some u → SRep w S p u) : ∀ {l : List PV} {us : List Value}, fs l = some us → us.length = l.length ∧ ∀ i, i < l.length → SRep w S (l.getD i P0) (us.getD i undef)
  | [], us, h => by
    rw [h0] at h
    cases h
    exact ⟨rfl, fun i hi => by simp at hi⟩
  | p :: l, us, h => by
    rw [hc] at h
    split at h
    case h_2 => cases h
    rename_i v r h1 h2
    cases h
    obtain ⟨h3, h4⟩ := flats_of h0 hc hf h2
    refine ⟨by simp [h3], fun i hi => ?_⟩
    cases i with
    | zero => exact hf p v h1
    | succ i => simpa using h4 i (by simpa using hi)
theorem arr_getD (us : List Value) (i : Nat) : us.toArray.getD i undef = us.getD i undef := by simp [Array.getD_eq_getD_getElem?, List.getD_eq_getElem?_getD]
theorem flat2_to {P : Program} {c : Cx} {p : PV} {v u : Value} (h : flat2 p = some u) (hr : Rep P c p v) : v = u := by
  unfold flat2 at h
  split at h
  · split at h
    case h_2 => cases h
    rename_i cs l hl
    cases h
    obtain ⟨vs, rfl, h1, h2⟩ := rep_agg hr
    rw [flats_to (f := flat1) (fs := flat1s) rfl (fun _ _ => rfl) (fun _ _ _ h k => flat1_to h k) hl ⟨h1, h2⟩]
  · exact flat1_to h hr
theorem flat2_of {w : World} {S : Nat → Prop} {p : PV} {u : Value} (h : flat2 p = some u) : SRep w S p u := by
  unfold flat2 at h
  split at h
  · split at h
    case h_2 => cases h
    rename_i cs l hl
    cases h
    obtain ⟨h1, h2⟩ := flats_of (w := w) (S := S) (f := flat1) (fs := flat1s) rfl (fun _ _ => rfl) (fun _ _ h => flat1_of h) hl
    exact .agg (by simpa using h1) fun i hi => by rw [arr_getD]; exact h2 i hi
  · exact flat1_of h
theorem flat3_of {w : World} {S : Nat → Prop} {p : PV} {u : Value} (h : flat3 p = some u) : SRep w S p u := by
  unfold flat3 at h
  split at h
  · split at h
    case h_2 => cases h
    rename_i cs l hl
    cases h
    obtain ⟨h1, h2⟩ := flats_of (w := w) (S := S) (f := flat2) (fs := flat2s) rfl (fun _ _ => rfl) (fun _ _ h => flat2_of h) hl
    exact .tup (by simpa using h1) fun i hi => by rw [arr_getD]; exact h2 i hi
  · exact flat2_of h
/-- A contract of the kit's kind: plain values in, plain values out, blocks made at most. -/
theorem pc_flat {P : Program} {f : FuncId} {args : List PV} {r : PV} {us : List Value} {v : Value} (hf : FnOk P f) (ha : flat2s args = some us) (hr : flat3 r = some v)
    (h : ∀ w, Calls P f us.toArray w fun e w' => e = .returned v ∧ RowKit.Below w.heap.size w w') : PC P f args [] r [] := by
  refine pc_of hf (fun w vs hrl => ?_) fun c vs hrl => ?_
  · rw [flats_to (f := flat2) (fs := flat2s) rfl (fun _ _ => rfl) (fun _ _ _ h k => flat2_to h k) ha hrl]
    exact (h w).mono fun e w' ⟨he, hb⟩ => ⟨v, he, hb, fun c => .sh (flat3_of hr)⟩
  · rw [flats_to (f := flat2) (fs := flat2s) rfl (fun _ _ => rfl) (fun _ _ _ h k => flat2_to h k) ha hrl]
    obtain ⟨h1, h2⟩ := flats_of (w := c.w) (S := fun b => b < c.w.heap.size) (f := flat2) (fs := flat2s) rfl (fun _ _ => rfl) (fun _ _ h => flat2_of h) ha
    exact ⟨by simpa using h1, fun i hi => by rw [arr_getD]; exact .sh (h2 i hi)⟩
theorem fn_ok {P : Program} {f : FuncId} {fn : Func} (hf : P.funcs[f]? = some fn) (hb : fn.body.isNone = false) (hn : (fn.name == "runtime.NumGoroutine") = false) : FnOk P f := ⟨fn, hf, hb, hn⟩
theorem flat_app {α : Type} (f : α → List PV) (l m : List α) : (l ++ m).flatMap f = l.flatMap f ++ m.flatMap f := List.flatMap_append
def rkey (σ : Nat → Nat) (k : Nat) : Nat := match Nat.beq (k % 2) 1 with | true => kb (σ (k / 2)) | false => k
def rval (σ : Nat → Nat) : Option Val → Option Val
  | some (.pv p) => some (.pv (ren σ p))
  | some (.blk T cs) => some (.blk T (renL σ cs))
  | none => none
def shapeB (n1 : Nat) (l : L) : Bool := l.all fun x => match x.2 with | some (.blk _ _) => Nat.beq (x.1 % 2) 1 && Nat.blt (x.1 / 2) n1 | some (.pv _) => Nat.beq (x.1 % 2) 0 | none => true
theorem reSt_of {σ : Nat → Nat} {n1 : Nat} {g : St} : ∀ {l : L}, l.map (fun x => g (rkey σ x.1)) = l.map (fun x => rval σ x.2) → shapeB n1 l = true → ∀ p ∈ reSt σ n1 l g, p
  | [], _, _, p, hp => by cases hp
  | x :: l, h, hb, p, hp => by
    simp only [List.map_cons, List.cons.injEq] at h
    simp only [shapeB, List.all_cons, Bool.and_eq_true] at hb
    simp only [reSt, List.map_cons, List.mem_cons] at hp
    rcases hp with rfl | hp
    · obtain ⟨k, v⟩ := x
      cases v with
      | none => trivial
      | some v =>
        cases v with
        | pv p =>
          have h0 : k % 2 = 0 := Nat.eq_of_beq_eq_true hb.1
          have h1 := h.1
          simp only [rkey, rval, h0] at h1
          exact h1
        | blk T cs =>
          have hb1 := hb.1
          simp only [Bool.and_eq_true, Nat.blt_eq] at hb1
          have h0 : k % 2 = 1 := Nat.eq_of_beq_eq_true hb1.1
          have h1 := h.1
          simp only [rkey, rval, h0, Nat.beq_refl] at h1
          exact ⟨h0, hb1.2, h1⟩
    · exact reSt_of h.2 hb.2 p hp
theorem Wk.ren2 {P : Program} {n : Nat} {c0 : Cx} {Bor : Nat → Prop} {n0 : Nat} {l : L} (l' : L) (m : Nat) (hc0 : ∀ i x, c0.own i = some x → i < m) (σl : List Nat) (hσ : σl.take m = List.range m) (hnd : nodupB σl = true) (hb : shapeB σl.length l' = true)
    (h : l'.map (fun x => get l (rkey (sgm n0 σl) x.1)) = l'.map (fun x => rval (sgm n0 σl) x.2)) : Wk P n c0 Bor n0 l σl.length l' := Wk.ren m hc0 σl hσ hnd (reSt_of h hb)
theorem flat_at1 {α : Type} (f : α → List PV) (hf : ∀ x, (f x).length = 1) (d : α) (l : List α) (k : Nat) (h : k < l.length) : k + 1 ≤ (l.flatMap f).length ∧ ((l.flatMap f).drop k).take 1 = f (l.getD k d) := by
  have := flat_at f 1 hf d l k 0 1 h (by omega)
  simp only [Nat.mul_one, Nat.add_zero, List.drop_zero] at this
  refine ⟨this.1, this.2.trans ?_⟩
  rw [← hf (l.getD k d), List.take_length]
theorem ints_shd (l : List Int) : shds (ints l) := fun p hp => by
  obtain ⟨x, _, hx⟩ := List.mem_flatMap.1 hp
  simp only [List.mem_singleton] at hx
  subst hx
  rfl
theorem zeros_ints : ∀ n, zeros [iv 0] n = ints (List.replicate n 0)
  | 0 => rfl
  | n + 1 => by rw [zeros, zeros_ints n, List.replicate_succ]; rfl
theorem ints_splice {l : List Int} {k : Nat} {v : Int} (h : k < l.length) : k + 1 ≤ (ints l).length ∧ splice (ints l) k [iv v] = ints (l.set k v) := by
  refine ⟨by rw [ints_len]; omega, ?_⟩
  unfold splice
  have e : ∀ (l : List Int), ints l = l.map iv := fun l => by
    unfold ints
    induction l with
    | nil => rfl
    | cons a l ih => rw [List.flatMap_cons, ih]; rfl
  rw [e, e, List.set_eq_take_append_cons_drop, if_pos h, List.map_append, List.map_cons, List.map_take, List.map_drop]
  simp
/-- Trailing dead numbers, dropped. -/
theorem pc_trim {P : Program} {f : FuncId} {args : List PV} {r : PV} {v : Value} (H' : Hp) (hr : flat3 r = some v) (hd : ∀ i, H'.getD i none = none) (h : PC P f args [] r H') : PC P f args [] r [] := by
  obtain ⟨h1, _, h2⟩ := h
  refine ⟨h1, Nat.le_refl _, fun c vs hh hrl => (h2 c vs hh hrl).mono ?_⟩
  rintro e w' ⟨u, c', rfl, rfl, h3, h4⟩
  have hno : ∀ (H : Hp), (∀ i, H.getD i none = none) → ∀ i, ¬ Live (hSt H) i := fun H hH i ⟨T, cs, hx⟩ => by rw [hSt_b, hH] at hx; cases hx
  have hno0 := hno [] (fun i => by simp)
  have hown : ∀ i x, c.own i = some x → False := fun i x hx => by have : i < 0 := hh.ids i x hx; omega
  have hk := h3.keep
  refine ⟨u, ⟨c'.w, c'.S, fun _ => none⟩, rfl, rfl, { ids := fun i x hx => (by cases hx), blk := fun i T cs hx => absurd ⟨T, cs, hx⟩ (hno0 i), inj := fun i j b T T' l1 => absurd l1 (hno0 i), apart := fun i b T l1 => absurd l1 (hno0 i), bnd := fun i b T hx => (by cases hx), sok := h3.sok, os := h3.os, tape := h3.tape, output := h3.output, size := h3.size, same := h3.same, s0 := h3.s0, s1 := h3.s1, keep := ⟨hk.S, fun i x hx => (hown i x hx).elim, hk.shape⟩ }, ?_⟩
  have e : u = v := by
    unfold flat3 at hr
    split at hr
    · split at hr
      case h_2 => cases hr
      rename_i cs l hl
      cases hr
      obtain ⟨vs2, rfl, q1, q2⟩ := rep_tup h4
      rw [flats_to (f := flat2) (fs := flat2s) rfl (fun _ _ => rfl) (fun _ _ _ h k => flat2_to h k) hl ⟨q1, q2⟩]
    · exact flat2_to hr h4
  rw [e]
  exact .sh (flat3_of hr)
end Go.Proofs.Ytgkahjaoajjgcaa.Pm
