/-
  THE VALUE MACHINE (X): rows laid down for good, by themselves and at a call. No program in sight. | THE VALUE MACHINE (L): regions reckoned; the rules of a walk by values. No program in sight. | THE VALUE MACHINE (M): a walk by values: what is left to run, states said anew, loops, whole functions. No program in sight. | THE VALUE MACHINE (N): rows laid down for good, loops, whole functions. No program in sight. | THE VALUE MACHINE (O): what a function hands back; contracts of the kit's kind as contracts by values; small words for written walks. No program in sight. | THE VALUE MACHINE (R): contracts of the kit's kind over plain values, as contracts by values; small lemmas. No program in sight. | Small lemmas for all walks of this seat. | The plain arithmetic of greatest common divisors: Euclid's way, the binary way. No program in sight. | THE WALKS of the divisors: package frac's gcd and small, the reference's Divisor and Abs. | The plain law of fractions: what Make, Plus, Minus, Times, Over, Order, Floor answer, and that they go together. No program in sight. | THE WALKS of fractions: Right, Make, Floor of the package and of the reference. | THE WALKS of fractions, Make: of the package and of the reference. | THE WALKS of fractions: both, Plus, Minus, Times, Over: of the package. (Printed by gen/reck.py.) | THE WALKS of fractions: Order, Floor, Sign: of the package and of the reference. | THE WALKS of fractions: Plus, Minus, Times, Over: of the reference. (Printed by gen/reck.py.) | Fractions: the kit's kind of contracts, as contracts by values. | THE VALUE MACHINE (S): open rows of shared cells keep their cells under other numbers. No program in sight. | THE VALUE MACHINE (U): states said anew: numbers that take another one's place; a cell that holds nil. No program in sight. | SPANS: plain: beats as trees, what is wrong with them, how time is shared out.
-/
import Derived.Test.YtccpefbfjahfnaaJLawSums1
import Derived.Test.YtccpefbfjahfnaaRows
import Derived.WalkKit
import Derived.WalkSpells
import Derived.WalkLawsBesides
import Derived.Deep.QuietTactic
import Derived.BigQuiet
import Derived.Lib.Hide
namespace Go.Proofs.Ytccpefbfjahfnaa.Pm
open Go

/-! ### an own row, laid down for good -/
def PV.shd : PV → Bool
  | .av _ => true
  | .ssl _ _ _ => true
  | .spt _ _ => true
  | _ => false
def shds (cs : List PV) : Prop := ∀ p ∈ cs, PV.shd p = true
theorem shd_rep {P : Program} {c : Cx} {p : PV} {v : Value} (h : Rep P c p v) (hs : p.shd = true) : SRep c.w c.S p v := by
  cases h with
  | sh h => exact h
  | agg => cases hs
  | tup => cases hs
  | osl => cases hs
  | opt => cases hs
  | fn => cases hs
mutual
def frz (id : Nat) (cs : List PV) : PV → PV
  | .osl i off len => match Nat.beq i id with | true => .ssl cs off len | false => .osl i off len
  | .opt i off => match Nat.beq i id with | true => .spt cs off | false => .opt i off
  | .agg l => .agg (frzL id cs l)
  | .tup l => .tup (frzL id cs l)
  | .fn f l m => .fn f (frzL id cs l) (frzL id cs m)
  | .av v => .av v
  | .ssl l off len => .ssl l off len
  | .spt l off => .spt l off
def frzL (id : Nat) (cs : List PV) : List PV → List PV
  | [] => []
  | p :: l => frz id cs p :: frzL id cs l
end
theorem frzL_length (id : Nat) (cs : List PV) : ∀ l, (frzL id cs l).length = l.length
  | [] => rfl
  | _ :: l => by simp [frzL, frzL_length id cs l]
theorem frzL_get (id : Nat) (cs : List PV) : ∀ (l : List PV) (i : Nat), i < l.length → (frzL id cs l).getD i P0 = frz id cs (l.getD i P0)
  | p :: l, 0, _ => rfl
  | p :: l, i + 1, h => by
    have := frzL_get id cs l i (by simpa using h)
    simpa [frzL, List.getD_eq_getElem?_getD] using this
theorem one_frz (id : Nat) (cs : List PV) (p : PV) : (frz id cs p).one = p.one := by
  cases p <;> simp only [frz] <;> first | rfl | (split <;> rfl)
theorem ones_frzL {id : Nat} {cs : List PV} : ∀ {l : List PV}, ones l → ones (frzL id cs l)
  | [], _ => fun p hp => by cases hp
  | p :: l, h => by
    intro q hq
    simp only [frzL, List.mem_cons] at hq
    rcases hq with rfl | hq
    · rw [one_frz]; exact h p (by simp)
    · exact ones_frzL (fun p hp => h p (by simp [hp])) q hq
theorem srep_frz {w : World} {S : Nat → Prop} {id : Nat} {cs : List PV} {p : PV} {v : Value} (h : SRep w S p v) : SRep w S (frz id cs p) v := by
  induction h with
  | av v => exact .av _
  | agg hn _ ih => exact .agg (by rw [frzL_length]; exact hn) fun i hi => by rw [frzL_length] at hi; rw [frzL_get _ _ _ i hi]; exact ih i hi
  | tup hn _ ih => exact .tup (by rw [frzL_length]; exact hn) fun i hi => by rw [frzL_length] at hi; rw [frzL_get _ _ _ i hi]; exact ih i hi
  | emp => exact .emp
  | ssl hS hc h ho hl _ => exact .ssl hS hc h ho hl
  | spt hS hc h ho _ => exact .spt hS hc h ho
  | fn hn _ hm _ ih ik => exact .fn (by rw [frzL_length]; exact hn) (fun i hi => by rw [frzL_length] at hi; rw [frzL_get _ _ _ i hi]; exact ih i hi) (by rw [frzL_length]; exact hm) (fun i hi => by rw [frzL_length] at hi; rw [frzL_get _ _ _ i hi]; exact ik i hi)
theorem rep_frz {P : Program} {c c' : Cx} {id : Nat} {cs : List PV} {ob : Option Nat} {T : TypeId} (hw : c'.w = c.w) (hS : ∀ b, c.S b → c'.S b) (hown : c'.own = c.own) (ho : c.own id = some (ob, T)) (hone : ones cs)
    (hb : ∀ b, ob = some b → c'.S b ∧ ∃ arr : Array Value, c.w.heap[b]? = some (.cells arr T (0, 0)) ∧ cs.length ≤ arr.size ∧ ∀ j, j < cs.length → SRep c'.w c'.S (cs.getD j P0) (arr.getD j undef)) {p : PV} {v : Value} (h : Rep P c p v) : Rep P c' (frz id cs p) v := by
  induction h with
  | sh h => exact .sh (srep_frz (h.mono fun b hb => ⟨hS b hb, by rw [hw]⟩))
  | agg hn _ ih => exact .agg (by rw [frzL_length]; exact hn) fun i hi => by rw [frzL_length] at hi; rw [frzL_get _ _ _ i hi]; exact ih i hi
  | tup hn _ ih => exact .tup (by rw [frzL_length]; exact hn) fun i hi => by rw [frzL_length] at hi; rw [frzL_get _ _ _ i hi]; exact ih i hi
  | osl h1 h2 =>
    rename_i i off len v ob' T'
    simp only [frz]
    split
    · rename_i e
      have e := Nat.eq_of_beq_eq_true e
      subst e
      rw [ho] at h1
      cases h1
      rcases h2 with ⟨a, rfl, rfl⟩ | ⟨b, cap, arr', rfl, rfl, h3, h4, h5⟩
      · exact .sh .emp
      · obtain ⟨q1, arr, q2, q3, q4⟩ := hb b rfl
        have := SRep.ssl (w := c'.w) (S := c'.S) (cs := cs) (off := off) (len := len) (b := b) (a := 0) (cap := cap) (vf := fun j => arr.getD j undef) q1 (fun j hj => by
          have : j < arr.size := by omega
          rw [hw, Nat.zero_add, cell_of_row c.w _ _ arr _ _ q2]
          simp [Array.getD_eq_getD_getElem?, this]) q4 hone h4
        rw [Nat.zero_add] at this
        exact .sh this
    · exact .osl (by rw [hown]; exact h1) (by rw [hw]; exact h2)
  | opt h1 =>
    rename_i i off b T'
    simp only [frz]
    split
    · rename_i e
      have e := Nat.eq_of_beq_eq_true e
      subst e
      rw [ho] at h1
      cases h1
      obtain ⟨q1, arr, q2, q3, q4⟩ := hb b rfl
      have := SRep.spt (w := c'.w) (S := c'.S) (cs := cs) (off := off) (b := b) (a := 0) (vf := fun j => arr.getD j undef) q1 (fun j hj => by
        have : j < arr.size := by omega
        rw [hw, Nat.zero_add, cell_of_row c.w _ _ arr _ _ q2]
        simp [Array.getD_eq_getD_getElem?, this]) q4 hone
      rw [Nat.zero_add] at this
      exact .sh this
    · exact .opt (by rw [hown]; exact h1)
  | fn hn _ hm _ ih ik => exact .fn (by rw [frzL_length]; exact hn) (fun i hi => by rw [frzL_length] at hi; rw [frzL_get _ _ _ i hi]; exact ih i hi) (by rw [frzL_length]; exact hm) (fun i hi => by rw [frzL_length] at hi; rw [frzL_get _ _ _ i hi]; exact ik i hi)
theorem over_kb_none {id : Nat} {g : St} (i : Nat) : over [(kb id, none)] g (kb i) = if i = id then none else g (kb i) := over_b id none g i
/-- An own row is laid down; its number is gone. -/
theorem inv_lay {E : Env} {nx : Nat → Prop} {c : Cx} {g : St} {a : Act} (hI : Inv E nx c g a) {id : Nat} {T : TypeId} {cs : List PV} (hg : g (kb id) = some (.blk T cs)) (hs : shds cs) :
    ∃ c', c'.w = c.w ∧ Keep c c' ∧ Inv E nx c' (over [(kb id, none)] g) a ∧ ∀ {p : PV} {v : Value}, Rep E.P c p v → Rep E.P c' (frz id cs p) v := by
  obtain ⟨ob, ho, hone, hbk⟩ := hI.blk id T cs hg
  let cx' : Cx := ⟨c.w, fun b => c.S b ∨ ob = some b, c.own⟩
  have hlive : Live g id := ⟨T, cs, hg⟩
  have hblk : ∀ b, ob = some b → cx'.S b ∧ ∃ arr : Array Value, c.w.heap[b]? = some (.cells arr T (0, 0)) ∧ cs.length ≤ arr.size ∧ ∀ j, j < cs.length → SRep cx'.w cx'.S (cs.getD j P0) (arr.getD j undef) := by
    intro b hb
    rcases hbk with ⟨h1, _⟩ | ⟨b', arr, h1, h2, h3, h4⟩
    · rw [hb] at h1; cases h1
    · obtain rfl : b' = b := by rw [hb] at h1; simpa using h1.symm
      refine ⟨.inr hb, arr, h2, h3, fun j hj => ?_⟩
      have hm : cs.getD j P0 ∈ cs := by simp [List.getD_eq_getElem?_getD, hj]
      exact (shd_rep (h4 j hj) (hs _ hm)).mono fun b hb => ⟨.inl hb, rfl⟩
  have hk : Keep c cx' := ⟨fun b hb => ⟨.inl hb, rfl⟩, fun _ _ h => h, Shape.refl _⟩
  have hl : ∀ i, Live (over [(kb id, none)] g) i → i ≠ id ∧ Live g i := fun i ⟨T', ds, h⟩ => by
    rw [over_kb_none] at h
    by_cases e : i = id
    · rw [if_pos e] at h; cases h
    · rw [if_neg e] at h; exact ⟨e, T', ds, h⟩
  refine ⟨cx', rfl, hk, { ids := hI.ids, blk := fun i T' ds h => ?_, inj := fun i j b T1 T2 l1 l2 => hI.inj i j b T1 T2 (hl i l1).2 (hl j l2).2, apart := fun i b T1 l1 h2 => ?_, bnd := hI.bnd, sok := fun b hb => ?_, os := hI.os, tape := hI.tape, output := hI.output, size := hI.size, same := hI.same, s0 := fun b hb => .inl (hI.s0 b hb), s1 := fun b hb => ?_, keep := hI.keep.trans hk, tmps := hI.tmps, dfr := hI.dfr, slot := fun s p hp => ?_, isv := fun s x hx => ?_ }, fun h => rep_frz (c := c) (c' := cx') rfl (fun _ h => Or.inl h) rfl ho hone hblk h⟩
  · rw [over_kb_none] at h
    by_cases e : i = id
    · rw [if_pos e] at h; cases h
    · rw [if_neg e] at h
      obtain ⟨ob', h3, h4⟩ := hI.blk i T' ds h
      exact ⟨ob', h3, h4.mono hk fun b _ => rfl⟩
  · obtain ⟨h1, h3⟩ := hl i l1
    have hap := hI.apart i b T1 h3 h2
    refine ⟨fun hb => ?_, hap.2⟩
    rcases hb with hb | hb
    · exact hap.1 hb
    · subst hb
      exact h1 (hI.inj i id b T1 T h3 hlive h2 ho)
  · rcases hb with hb | hb
    · exact hI.sok b hb
    · subst hb; exact hI.bnd id b T ho
  · rcases hb with hb | hb
    · exact hI.s1 b hb
    · subst hb; exact .inr (hI.apart id b T hlive ho).2
  · rw [over_s] at hp
    exact (hI.slot s p hp).mono hk
  · rw [over_s] at hx
    exact hI.isv s x hx
def killL (js : List Nat) : L := js.map fun j => (kb j, none)
def frzF1 : List (Nat × List PV) → PV → PV
  | [], p => p
  | (j, cs) :: F, p => frzF1 F (frz j cs p)
theorem killL_s (js : List Nat) (s : Nat) : lk (ks s) (killL js) = none := by
  induction js with
  | nil => rfl
  | cons j js ih => simp only [killL, List.map_cons, lk, beq_ksb] at ih ⊢; exact ih
theorem killL_miss : ∀ {js : List Nat} {i : Nat}, (∀ j ∈ js, j ≠ i) → lk (kb i) (killL js) = none
  | [], _, _ => rfl
  | j :: js, i, h => by
    have ih := killL_miss (js := js) (i := i) fun x hx => h x (by simp [hx])
    simp only [killL, List.map_cons, lk, beq_kb] at ih ⊢
    rw [decide_eq_false (fun e => h j (by simp) e.symm)]
    exact ih
theorem inv_lays {E : Env} {nx : Nat → Prop} {a : Act} : ∀ {F : List (Nat × List PV)} {c : Cx} {g : St}, Inv E nx c g a → nodupB (F.map (·.1)) = true → (∀ x ∈ F, ∃ T, g (kb x.1) = some (.blk T x.2) ∧ shds x.2) →
    ∃ c', c'.w = c.w ∧ Keep c c' ∧ Inv E nx c' (over (killL (F.map (·.1))) g) a ∧ ∀ {p : PV} {v : Value}, Rep E.P c p v → Rep E.P c' (frzF1 F p) v
  | [], c, g, hI, _, _ => ⟨c, rfl, Keep.refl c, hI, fun h => h⟩
  | (j, cs) :: F, c, g, hI, hn, h => by
    simp only [List.map_cons, nodupB, Bool.and_eq_true] at hn
    obtain ⟨T, hg, hs⟩ := h (j, cs) (by simp)
    obtain ⟨c1, e1, k1, i1, r1⟩ := inv_lay hI hg hs
    have hne : ∀ x ∈ F, x.1 ≠ j := fun x hx e => by
      have := List.all_eq_true.1 hn.1 x.1 (List.mem_map.2 ⟨x, hx, rfl⟩)
      rw [e, Nat.beq_refl] at this
      cases this
    obtain ⟨c2, e2, k2, i2, r2⟩ := inv_lays (F := F) i1 hn.2 fun x hx => by
      obtain ⟨T', h1, h2⟩ := h x (by simp [hx])
      exact ⟨T', by rw [over_kb_none, if_neg (hne x hx)]; exact h1, h2⟩
    refine ⟨c2, e2.trans e1, k1.trans k2, ?_, fun hr => r2 (r1 hr)⟩
    have e3 : over (killL (((j, cs) :: F).map (·.1))) g = over (killL (F.map (·.1))) (over [(kb j, none)] g) := by
      funext k
      rw [← over_append]
      simp only [List.map_cons, killL, over]
      -- the key j stands at the head or at the end: the same
      by_cases hk : Nat.beq k (kb j) = true
      · have hk' := Nat.eq_of_beq_eq_true hk
        subst hk'
        have hm := killL_miss (js := F.map (·.1)) (i := j) fun x hx => by
          obtain ⟨y, hy, rfl⟩ := List.mem_map.1 hx
          exact hne y hy
        have h5 : ∀ (l m : L), lk (kb j) l = none → lk (kb j) (l ++ m) = lk (kb j) m := fun l m hl => by
          induction l with
          | nil => rfl
          | cons y l ih =>
            obtain ⟨q, z⟩ := y
            simp only [lk, List.cons_append] at hl ⊢
            by_cases e : Nat.beq (kb j) q = true
            · rw [if_pos e] at hl; cases hl
            · rw [if_neg e] at hl ⊢; exact ih hl
        have h6 := h5 (killL (F.map (·.1))) [(kb j, none)] hm
        simp only [killL] at h6
        rw [h6]
        simp [lk, Nat.beq_refl]
      · have h5 : ∀ l : L, lk k (l ++ [(kb j, none)]) = lk k l := fun l => by
          induction l with
          | nil => simp only [List.nil_append, lk]; rw [if_neg hk]
          | cons y l ih =>
            obtain ⟨q, z⟩ := y
            simp only [lk, List.cons_append]
            rw [ih]
        simp only [lk]
        rw [if_neg hk, h5]
    rw [e3]
    exact i2
/-- A plan that doesn't look at some keys; these are gone behind it. -/
def Plan.avoid (js : List Nat) : Plan → Plan
  | .fail => .fail
  | .look k f => match (js.map kb).contains k with | true => .fail | false => .look k fun v => (f v).avoid js
  | .ob p q => .ob p (q.avoid js)
  | .done pv wb => .done pv (wb ++ killL js)
theorem over_killL {js : List Nat} {g : St} {k : Nat} (h : (js.map kb).contains k = false) : over (killL js) g k = g k := by
  have : lk k (killL js) = none := by
    induction js with
    | nil => rfl
    | cons j js ih =>
      simp only [List.map_cons, List.contains_cons, Bool.or_eq_false_iff] at h
      simp only [killL, List.map_cons, lk] at ih ⊢
      have h1 : Nat.beq k (kb j) = false := by
        rw [Bool.eq_false_iff]
        intro e
        have := Nat.eq_of_beq_eq_true e
        have h2 := h.1
        rw [this] at h2
        simp at h2
      rw [h1]
      exact ih h.2
  simp only [over, this]
theorem Res.avoid {js : List Nat} {g : St} : ∀ {pl : Plan} {p : PV} {wb : L}, Res g (pl.avoid js) p wb → ∃ wb', wb = wb' ++ killL js ∧ Res (over (killL js) g) pl p wb'
  | .fail, p, wb, h => (Res.fail h).elim
  | .look k f, p, wb, h => by
    simp only [Plan.avoid] at h
    split at h
    · exact (Res.fail h).elim
    · rename_i hc
      obtain ⟨v, h1, h2⟩ := Res.look h
      obtain ⟨wb', h3, o, h4, h5, h6, h7⟩ := Res.avoid h2
      refine ⟨wb', h3, { o with reads := k :: o.reads }, ?_, h5, h6, h7⟩
      simp only [run]
      rw [over_killL hc, h1]
      simp only
      rw [h4]
  | .ob q r, p, wb, h => by
    simp only [Plan.avoid] at h
    obtain ⟨h1, h2⟩ := Res.ob h
    obtain ⟨wb', h3, o, h4, h5, h6, h7⟩ := Res.avoid h2
    refine ⟨wb', h3, { o with obs := q :: o.obs }, ?_, h5, h6, fun x hx => ?_⟩
    · simp only [run]; rw [h4]
    · simp only [List.mem_cons] at hx
      rcases hx with rfl | hx
      · exact h1
      · exact h7 x hx
  | .done pv w, p, wb, h => by
    simp only [Plan.avoid] at h
    obtain ⟨rfl, rfl⟩ := Res.done h
    exact ⟨w, rfl, ⟨p, w, [], []⟩, rfl, rfl, rfl, fun _ hq => by cases hq⟩
def layP : List Nat → (List (Nat × List PV) → Plan) → Plan
  | [], k => k []
  | j :: js, k => .look (kb j) fun v => match v with | .blk _ cs => .ob (shds cs) (layP js fun F => k ((j, cs) :: F)) | .pv _ => .fail
theorem layP_ok {g : St} : ∀ {js : List Nat} {k : List (Nat × List PV) → Plan} {p : PV} {wb : L}, Res g (layP js k) p wb → ∃ F, F.map (·.1) = js ∧ (∀ x ∈ F, ∃ T, g (kb x.1) = some (.blk T x.2) ∧ shds x.2) ∧ Res g (k F) p wb
  | [], k, p, wb, h => ⟨[], rfl, (by simp), h⟩
  | j :: js, k, p, wb, h => by
    obtain ⟨v, h1, h2⟩ := Res.look h
    cases v with
    | pv _ => exact (Res.fail h2).elim
    | blk T cs =>
      obtain ⟨h3, h4⟩ := Res.ob h2
      obtain ⟨F, h5, h6, h7⟩ := layP_ok h4
      refine ⟨(j, cs) :: F, by simp [h5], fun x hx => ?_, h7⟩
      rcases List.mem_cons.1 hx with rfl | hx
      · exact ⟨T, h1, h3⟩
      · exact h6 x hx
/-- A call to which own rows are given for good. -/
def callPL (P : Program) (F : List (Nat × List PV)) (id : Nat) (fv : PV) (an : Ans) (args : List PV) : Plan := match fv, an with
  | .av (.func (.func f) fs cs), .call ids bs H r H' => callP P f (fs.toList.map .av ++ (args.map (frzF1 F)).map cz ++ cs.toList.map .av) id ids bs H r H'
  | _, _ => .fail
def aCallL (P : Program) (fx : Operand) (xs : List Operand) (js : List Nat) (an : Ans) (id : Nat) : Plan := match nodupB js with
  | true => layP js fun F => opd fx fun fv => opdl xs fun args => (callPL P F id fv an args).avoid js
  | false => .fail
theorem aCallL_ok {E : Env} {o : Oper} {id : Nat} {fx : Operand} {xs : Array Operand} {ts : Array TypeId} {js : List Nat} {an : Ans} (ho : o.op = .call { callee := .value fx, args := xs, argTypes := ts }) (hd : ∀ x, o.dst = some x → x < E.n) : ActOk E o id (aCallL E.P fx xs.toList js an id) := by
  intro g p wb h nx c a K Q hn hI hK
  unfold aCallL at h
  split at h
  case h_2 => exact (Res.fail h).elim
  rename_i hnd
  obtain ⟨F, hF, hFb, h1⟩ := layP_ok h
  obtain ⟨q, hq, h2⟩ := Res.opd hI h1
  obtain ⟨ps, hps, h3⟩ := Res.opdl hI h2
  clear h h1 h2
  obtain ⟨wb', rfl, h4⟩ := Res.avoid h3
  obtain ⟨c1, e1, k1, i1, r1⟩ := inv_lays hI (by rw [hF]; exact hnd) hFb
  rw [hF] at i1
  have hps' : RL E.P c1 (ps.map (frzF1 F)) (xs.map a.eval) := by
    have e : (xs.toList.map a.eval).toArray = xs.map a.eval := by apply Array.ext'; simp
    rw [← e]
    refine ⟨by simpa using hps.1, fun i hi => ?_⟩
    have hi' : i < ps.length := by simpa using hi
    have := r1 (hps.2 i hi')
    simpa [List.getD_eq_getElem?_getD, hi'] using this
  have key : ∀ {f : FuncId} {fs cs : Array Value}, a.eval fx = .func (.func f) fs cs → FnOk E.P f → (execOp a.eval o).run E.P c.w = .ok (.enter f (fs ++ xs.map a.eval ++ cs)) c.w := by
    rintro f fs cs hv ⟨fn, h1, h2, h3⟩
    have h4 : (callFunc f (fs ++ xs.map a.eval ++ cs)).run E.P c.w = .ok (.enter f (fs ++ xs.map a.eval ++ cs)) c.w := by
      have h2' : ¬ fn.body = none := fun e => by rw [e] at h2; cases h2
      have h3' : ¬ fn.name = "runtime.NumGoroutine" := by simpa using h3
      simp [callFunc, h1, h3', h2']
    simp only [execOp, ho, resolve, hv, Deferred.ofValue, invoke, Sem.run_bind, Sem.run_pure, Result.andThen_ok]
    exact h4
  unfold callPL at h4
  split at h4
  · rename_i f fs cs ids bs H r H'
    have e2 : over (wb' ++ killL js) g = over wb' (over (killL js) g) := over_append _ _ _
    rw [e2] at hK
    have hfn := key (rep_av hq)
    rw [← e1] at hfn ⊢
    exact call_core hd hn i1 hK h4 (((avs_rl fs).append hps'.czs).append (avs_rl cs)) hfn
  · exact (Res.fail h4).elim
end Go.Proofs.Ytccpefbfjahfnaa.Pm
namespace Go.Proofs.Ytccpefbfjahfnaa.Pm
open Go

def aFunc (fn : Fn) (first cap : List Operand) : Plan := opdl first fun ps => opdl cap fun qs => .done (.fn fn ps qs) []
theorem aFunc_ok {E : Env} {o : Oper} {id : Nat} {fn : Fn} {xs ys : Array Operand} (ho : o.op = .makeFunc fn xs ys) (hd : ∀ x, o.dst = some x → x < E.n) : ActOk E o id (aFunc fn xs.toList ys.toList) := by
  intro g p wb h nx c a K Q hn hI hK
  obtain ⟨ps, hps, h1⟩ := Res.opdl hI h
  obtain ⟨qs, hqs, h2⟩ := Res.opdl hI h1
  obtain ⟨rfl, rfl⟩ := Res.done h2
  have e : ∀ zs : Array Operand, (zs.toList.map a.eval).toArray = zs.map a.eval := fun zs => by apply Array.ext'; simp
  rw [e] at hps hqs
  exact pure_step hd hI hK (.fn hps.1 hps.2 hqs.1 hqs.2) (by simp [execOp, ho, Instr.makeFunc])
def aMax (mx : Bool) (x y : Operand) : Plan := opd x fun p => opd y fun q => match p, q with
  | .av (.int k a), .av (.int _ b) => .done (.av (.int k (match mx with | true => max a b | false => min a b))) []
  | _, _ => .fail
theorem aMax_ok {E : Env} {o : Oper} {id : Nat} {x y : Operand} {ts : Array TypeId} (ho : o.op = .call { callee := .builtin .max, args := #[x, y], argTypes := ts }) (hd : ∀ x, o.dst = some x → x < E.n) : ActOk E o id (aMax true x y) := by
  intro g p wb h nx c a K Q hn hI hK
  obtain ⟨q1, hq1, h1⟩ := Res.opd hI h
  obtain ⟨q2, hq2, h2⟩ := Res.opd hI h1
  split at h2
  · rename_i k m k2 n
    obtain ⟨rfl, rfl⟩ := Res.done h2
    refine pure_step hd hI hK (.sh (.av _)) ?_
    have e : max m n = if n > m then n else m := by split <;> omega
    simp [execOp, ho, resolve, invoke, builtin, rep_av hq1, rep_av hq2, Builtin.max_, Builtin.max2, e]
  · exact (Res.fail h2).elim
theorem aMin_ok {E : Env} {o : Oper} {id : Nat} {x y : Operand} {ts : Array TypeId} (ho : o.op = .call { callee := .builtin .min, args := #[x, y], argTypes := ts }) (hd : ∀ x, o.dst = some x → x < E.n) : ActOk E o id (aMax false x y) := by
  intro g p wb h nx c a K Q hn hI hK
  obtain ⟨q1, hq1, h1⟩ := Res.opd hI h
  obtain ⟨q2, hq2, h2⟩ := Res.opd hI h1
  split at h2
  · rename_i k m k2 n
    obtain ⟨rfl, rfl⟩ := Res.done h2
    refine pure_step hd hI hK (.sh (.av _)) ?_
    have e : min m n = if n < m then n else m := by split <;> omega
    simp [execOp, ho, resolve, invoke, builtin, rep_av hq1, rep_av hq2, Builtin.min_, Builtin.min2, e]
  · exact (Res.fail h2).elim

def plan (P : Program) (o : Oper) (an : Ans) (id : Nat) : Plan := match o.op with
  | .move x => aMove x
  | .assign x => aMove x
  | .pick c x y => aPick c x y an
  | .alloc T => aAlloc P T id
  | .box T x => aBox T x id
  | .build T ps => aBuild P T ps.toList
  | .buildSlice T n ps => aBuildSlice P T n ps.toList id
  | .load T x => aLoad P T x an
  | .store T x y => aStore P T x y an
  | .nilCheck x => aNilCheck x
  | .binOp op T x y _ => match P.underlying T with
    | some (.struct _) => match op with | .eql => aEqS P false T x y | .neq => aEqS P true T x y | _ => .fail
    | some (.pointer e) => match op with | .eql => aEqP (some (.pointer e)) false x y | .neq => aEqP (some (.pointer e)) true x y | _ => .fail
    | u => aBin op T x y u an
  | .unOp op _ x => aUn op x an
  | .convert s d x => aConv (P.underlying s) (P.underlying d) x an
  | .makeFunc fn xs ys => aFunc fn xs.toList ys.toList
  | .makeSlice T l c => aMake P T l c an id
  | .slice T x lo hi mx => aSlice P T x lo hi mx an
  | .fieldAddr T x f => aFieldAddr P T x f
  | .field T x f => aField P T x f
  | .indexAddr T x i => aIndexAddr P T x i an
  | .index T x i => aIndex P T x i
  | .extract t i => aExtract t i
  | .call { callee := .builtin .len, args := ⟨[x]⟩, argTypes := ⟨T :: _⟩ } => aLen (P.underlying T) x
  | .call { callee := .builtin .append, args := ⟨[x, y]⟩, argTypes := ⟨[T, U]⟩ } => aAppend P T (P.underlying U) x y an id
  | .call { callee := .builtin .copy, args := ⟨[x, y]⟩, argTypes := ⟨[T, U]⟩ } => aCopy P T (P.underlying U) x y an
  | .call { callee := .builtin .max, args := ⟨[x, y]⟩, .. } => aMax true x y
  | .call { callee := .builtin .min, args := ⟨[x, y]⟩, .. } => aMax false x y
  | .call { callee := .builtin .max, args := ⟨[x, y, z]⟩, .. } => aMax3 true x y z
  | .call { callee := .builtin .min, args := ⟨[x, y, z]⟩, .. } => aMax3 false x y z
  | .call { callee := .value f, args, .. } => match an with | .lay js an' => aCallL P f args.toList js an' id | _ => aCall P f args.toList an id
  | _ => .fail
theorem plan_ok {E : Env} {o : Oper} {id : Nat} {an : Ans} (hd : ∀ x, o.dst = some x → x < E.n) : ActOk E o id (plan E.P o an id) := by
  unfold plan
  split <;> rename_i ho
  · exact aMove_ok (.inl ho) hd
  · exact aMove_ok (.inr ho) hd
  · exact aPick_ok ho hd
  · exact aAlloc_ok ho hd
  · exact aBox_ok ho hd
  · exact aBuild_ok ho hd
  · exact aBuildSlice_ok ho hd
  · exact aLoad_ok ho hd
  · exact aStore_ok ho hd
  · exact aNilCheck_ok ho hd
  · split
    · split
      · exact aEqS_ok (ng := false) ho hd
      · exact aEqS_ok (ng := true) ho hd
      · exact fun g p wb h => (Res.fail h).elim
    · rename_i hu
      rw [← hu]
      split
      · exact aEqP_ok (ng := false) ho hd
      · exact aEqP_ok (ng := true) ho hd
      · exact fun g p wb h => (Res.fail h).elim
    · exact aBin_ok ho hd
  · exact aUn_ok ho hd
  · exact aConv_ok ho hd
  · exact aFunc_ok ho hd
  · exact aMake_ok ho hd
  · exact aSlice_ok ho hd
  · exact aFieldAddr_ok ho hd
  · exact aField_ok ho hd
  · exact aIndexAddr_ok ho hd
  · exact aIndex_ok ho hd
  · exact aExtract_ok ho hd
  · exact aLen_ok ho (by simp) hd
  · exact aAppend_ok ho hd
  · exact aCopy_ok ho hd
  · exact aMax_ok ho hd
  · exact aMin_ok ho hd
  · exact aMax3_ok ho hd
  · exact aMin3_ok ho hd
  · split
    · exact aCallL_ok ho hd
    · exact aCall_ok ho hd
  · exact fun g p wb h => (Res.fail h).elim

/-- A guarded operation: the answer tells whether its guard holds. -/
def gplan (P : Program) (ops : List Oper) (o : Oper) (an : Ans) (id : Nat) : Plan := match o.guard with
  | none => plan P o an id
  | some (j, want) => match (ops[j]?).bind (·.dst) with
    | some d => .look (ks d) fun v => match v, an with
      | .pv (.av (.bool t)), .gd b an' => .ob (t = b) (match b == want with | true => plan P o an' id | false => .done P0 [])
      | .pv (.av (.tuple _)), _ => .done P0 []
      | _, _ => .fail
    | none => .fail
theorem gplan_ok {E : Env} {l : List Oper} {i : Nat} {o : Oper} {id : Nat} {an : Ans} (ho : l[i]? = some o) (hd : ∀ x, o.dst = some x → x < E.n) {g : St} {out : Out} (hr : run g (gplan E.P l o an id) = some out) (hob : ∀ p ∈ out.obs, p) :
    StepOk E l.toArray i o out id g := by
  intro nx c a K Q hn hI hK
  have hres : Res g (gplan E.P l o an id) out.pv out.wb := ⟨out, hr, rfl, rfl, hob⟩
  have ho' : l.toArray[i]? = some o := by simpa using ho
  have hK' : ∀ c' a', Inv E (fun j => nx j ∨ (id ≤ j ∧ j < id + 8)) c' (over (wd o.dst out.pv) (over out.wb g)) a' → K a' c'.w := fun c' a' h => hK c' a' (by rw [wr, over_append]; exact h)
  unfold wpOp
  simp only [ho']
  unfold gplan at hres
  split at hres
  · rename_i hg
    rw [if_pos (by simp [Region.wanted, hg])]
    exact .inl (plan_ok hd g _ _ hres nx c a K Q hn hI hK')
  · rename_i j want hg
    split at hres
    · rename_i d hj
      obtain ⟨v, hv, h1⟩ := Res.look hres
      split at h1
      · rename_i t b an'
        obtain ⟨rfl, h2⟩ := Res.ob h1
        have h3 := rep_av (hI.slot d _ hv)
        have h4 : a.tmps[d]? = some (.bool t) := by
          rw [Array.getD_eq_getD_getElem?] at h3
          cases hx : a.tmps[d]? with
          | none => rw [hx] at h3; cases h3
          | some x => rw [hx] at h3; simp only [Option.getD_some] at h3; rw [h3]
        have hy : yielded l.toArray a.tmps j = some t := by
          unfold yielded
          have hj' : (l.toArray[j]?).bind (·.dst) = some d := by simpa using hj
          rw [hj']
          simp [h4]
        have hw : Region.wanted o (yielded l.toArray a.tmps) = (t == want) := by
          unfold Region.wanted
          simp only [hg, hy]
          cases t <;> cases want <;> rfl
        split at h2
        · rename_i hbw
          rw [if_pos (by rw [hw]; exact hbw)]
          exact .inl (plan_ok hd g _ _ h2 nx c a K Q hn hI hK')
        · rename_i hbw
          obtain ⟨h5, h6⟩ := Res.done h2
          rw [if_neg (by rw [hw]; simp [hbw])]
          have := hI.pure (nx' := fun j => nx j ∨ (id ≤ j ∧ j < id + 8)) (fun _ h => .inl h) o.dst hd (p := out.pv) (v := undef) fun _ => by rw [h5]; exact .sh (.av _)
          refine hK' c _ ?_
          rw [h6]
          exact this
      · rename_i us _
        obtain ⟨h5, h6⟩ := Res.done h1
        have h3 := rep_av (hI.slot d _ hv)
        have hy : yielded l.toArray a.tmps j = none := by
          unfold yielded
          have hj' : (l.toArray[j]?).bind (·.dst) = some d := by simpa using hj
          rw [hj']
          cases hx : a.tmps[d]? with
          | none => simp [hx]
          | some x =>
            rw [Array.getD_eq_getD_getElem?, hx] at h3
            simp only [Option.getD_some] at h3
            subst h3
            simp [hx]
        have hw : Region.wanted o (yielded l.toArray a.tmps) = false := by
          unfold Region.wanted
          simp only [hg, hy]
          rfl
        rw [if_neg (by rw [hw]; decide)]
        have := hI.pure (nx' := fun j => nx j ∨ (id ≤ j ∧ j < id + 8)) (fun _ h => .inl h) o.dst hd (p := out.pv) (v := undef) fun _ => by rw [h5]; exact .sh (.av _)
        refine hK' c _ ?_
        rw [h6]
        exact this
      · exact (Res.fail h1).elim
    · exact (Res.fail hres).elim

/-! ### a region reckoned -/
def ansAt (ans : List (Nat × Ans)) (i : Nat) : Ans := match lk i ans with | some a => a | none => .no
def dstOk (n : Nat) (o : Oper) : Bool := match o.dst with | some d => Nat.blt d n | none => true
def evs (P : Program) (n : Nat) (ops : List Oper) (n0 : Nat) (ans : List (Nat × Ans)) : List Oper → Nat → L → Option (L × List Prop × List Out)
  | [], _, l => some (l, [], [])
  | o :: r, i, l => match run (get l) (gplan P ops o (ansAt ans i) (n0 + 8 * i)), dstOk n o with
    | some out, true => match evs P n ops n0 ans r (i + 1) (wr o.dst out ++ l) with
      | some (l', obs, outs) => some (l', out.obs ++ obs, out :: outs)
      | none => none
    | _, _ => none
def out0 : Out := ⟨P0, [], [], []⟩
theorem evs_spec {P : Program} {n : Nat} {ops : List Oper} {n0 : Nat} {ans : List (Nat × Ans)} {g0 : St} {tab : Nat → Out} : ∀ {r : List Oper} {i : Nat} {l l' : L} {obs : List Prop} {outs : List Out}, evs P n ops n0 ans r i l = some (l', obs, outs) →
    ops.drop i = r → (∀ j, j < r.length → outs.getD j out0 = tab (i + j)) → get l = fold g0 (Wt ops.toArray tab) (fun j => decide (j < i)) ops.length →
    outs.length = r.length ∧ get l' = fold g0 (Wt ops.toArray tab) (fun _ => true) ops.length ∧
      ∀ j o, i ≤ j → ops[j]? = some o → run (fold g0 (Wt ops.toArray tab) (fun k => decide (k < j)) ops.length) (gplan P ops o (ansAt ans j) (n0 + 8 * j)) = some (tab j) ∧ (∀ p ∈ (tab j).obs, p ∈ obs) ∧ ∀ x, o.dst = some x → x < n
  | [], i, l, l', obs, outs, h, hd, ht, hg => by
    simp only [evs, Option.some.injEq, Prod.mk.injEq] at h
    obtain ⟨rfl, rfl, rfl⟩ := h
    have hi : ops.length ≤ i := by simpa using hd
    refine ⟨rfl, ?_, fun j o hj ho => ?_⟩
    · rw [hg]
      funext k
      exact fold_congr fun j hj _ => by simp; omega
    · rw [List.getElem?_eq_none (by omega)] at ho; cases ho
  | o :: r, i, l, l', obs, outs, h, hd, ht, hg => by
    simp only [evs] at h
    split at h
    case h_2 => cases h
    rename_i out hout hdst
    split at h
    case h_2 => cases h
    rename_i l1 obs1 outs1 he
    simp only [Option.some.injEq, Prod.mk.injEq] at h
    obtain ⟨rfl, rfl, rfl⟩ := h
    have hlt : i < ops.length := by
      rcases Nat.lt_or_ge i ops.length with h1 | h1
      · exact h1
      · rw [List.drop_eq_nil_of_le h1] at hd; cases hd
    have hoi : ops[i]? = some o := by
      have := List.getElem?_drop (xs := ops) (i := i) (j := 0)
      rw [hd] at this
      simpa using this.symm
    have hdr : ops.drop (i + 1) = r := by
      have := List.drop_drop (i := 1) (j := i) (l := ops)
      rw [hd] at this
      simpa [Nat.add_comm] using this.symm
    have htab : tab i = out := by
      have := ht 0 (by simp)
      simpa using this.symm
    have hW : Wt ops.toArray tab i = wr o.dst out := by simp [Wt, hoi, htab]
    have hnext : get (wr o.dst out ++ l) = fold g0 (Wt ops.toArray tab) (fun j => decide (j < i + 1)) ops.length := by
      rw [get_append, hg]
      have e : (fun j => decide (j < i + 1)) = addP (fun j => decide (j < i)) i := by
        funext j
        unfold addP
        by_cases e : j = i
        · subst e; simp
        · simp [e]; omega
      rw [e, fold_add (by simp) hlt fun j x h1 h2 h3 => by simp at h3; omega, hW]
    obtain ⟨h1, h2, h3⟩ := evs_spec he hdr (fun j hj => by
      have := ht (j + 1) (by simp; omega)
      rw [show i + (j + 1) = i + 1 + j by omega] at this
      simpa using this) hnext
    refine ⟨by simp [h1], h2, fun j o' hj ho' => ?_⟩
    by_cases e : j = i
    · subst e
      rw [hoi] at ho'
      cases ho'
      rw [← hg, htab]
      refine ⟨hout, fun p hp => by simp [hp], fun x hx => ?_⟩
      unfold dstOk at hdst
      rw [hx] at hdst
      simpa [Nat.blt_eq] using hdst
    · obtain ⟨h4, h5, h6⟩ := h3 j o' (by omega) ho'
      exact ⟨h4, fun p hp => by simp [h5 p hp], h6⟩
/-- The region's outcome: what is still spoken of behind it; the obligations. -/
def evr (P : Program) (n : Nat) (ops : List Oper) (n0 : Nat) (ans : List (Nat × Ans)) (draw : Bool) (live : List Nat) (l : L) : Option (L × List Prop) :=
  match evs P n ops n0 ans ops 0 l with
  | some (l', obs, outs) => match draw with
    | false => some (live.map fun k => (k, get l' k), obs)
    | true => match befB ops (befs ops), apartB (Wt ops.toArray fun i => outs.getD i out0) (fun i => (outs.getD i out0).reads) (befs ops) ops.length with
      | true, true => some (live.map fun k => (k, get l' k), obs)
      | _, _ => none
  | none => none
theorem Inv.less {E : Env} {nx : Nat → Prop} {c : Cx} {g g' : St} {a : Act} (h : Inv E nx c g a) (hs : ∀ k v, g' k = some v → g k = some v) : Inv E nx c g' a := by
  have hl : ∀ i, Live g' i → Live g i := fun i ⟨T, cs, hx⟩ => ⟨T, cs, hs _ _ hx⟩
  exact { h with blk := fun i T cs hx => h.blk i T cs (hs _ _ hx), inj := fun i j b T T' l1 l2 => h.inj i j b T T' (hl i l1) (hl j l2), apart := fun i b T l1 => h.apart i b T (hl i l1),
                 slot := fun s p hp => h.slot s p (hs _ _ hp), isv := fun s x hx => h.isv s x (hs _ _ hx) }
theorem get_live {live : List Nat} {g : St} : ∀ k v, get (live.map fun k => (k, g k)) k = some v → g k = some v := by
  intro k v h
  induction live with
  | nil => simp [get, lk] at h
  | cons a live ih =>
    simp only [get, List.map_cons, lk] at h ih
    by_cases e : Nat.beq k a = true
    · rw [if_pos e] at h
      rw [Nat.eq_of_beq_eq_true e]
      simpa using h
    · rw [if_neg e] at h
      exact ih h
theorem repl_false (m j : Nat) : (Array.replicate m false).getD j false = false := by
  rw [Array.getD_eq_getD_getElem?, Array.getElem?_replicate]
  by_cases h : j < m <;> simp [h]
theorem region_ok {E : Env} {n0 : Nat} {l l' : L} {id : Nat} {ops : Array Oper} {draw : Bool} {ans : List (Nat × Ans)} {live : List Nat} {obs : List Prop} (hm : draw = true → E.P.follows .mixedOrders = true) (h : evr E.P E.n ops.toList n0 ans draw live l = some (l', obs)) (hob : ∀ p ∈ obs, p)
    {Q : Exit → Act → World → Prop} (hQ : ∀ c a, Inv E (· < n0 + 8 * ops.size) c (get l') a → Q .normal a c.w) {c : Cx} {a : Act} (hI : Inv E (· < n0) c (get l) a) : (Code.region id ops draw).wp E.P Q a c.w := by
  unfold evr at h
  split at h
  case h_2 => cases h
  rename_i l1 obs1 outs he
  obtain ⟨h1, h2, h3⟩ := evs_spec (g0 := get l) (tab := fun i => outs.getD i out0) he (by simp) (fun j _ => by simp) (by
    funext k
    have : ∀ m, fold (get l) (Wt ops.toList.toArray fun i => outs.getD i out0) (fun j => decide (j < 0)) m = get l := fun m => by
      induction m with
      | zero => rfl
      | succ m ih => simp only [fold, Nat.not_lt_zero, decide_false, Bool.false_eq_true, if_false]; exact ih
    rw [this])
  have hops : ops.toList.toArray = ops := by simp
  have hlen : ops.toList.length = ops.size := by simp
  have hstep : obs = obs1 → ∀ i o, ops.toList[i]? = some o → ∀ g, (∀ k ∈ (outs.getD i out0).reads, g k = fold (get l) (Wt ops.toList.toArray fun i => outs.getD i out0) (fun j => decide (j < i)) ops.toList.length k) → StepOk E ops.toList.toArray i o (outs.getD i out0) (n0 + 8 * i) g := by
    intro hobs i o ho g hg
    obtain ⟨h4, h5, h6⟩ := h3 i o (Nat.zero_le _) ho
    exact gplan_ok ho h6 (run_congr h4 hg) fun p hp => hob p (by rw [hobs]; exact h5 p hp)
  have hfin : ∀ {c : Cx} {a : Act}, l' = live.map (fun k => (k, get l1 k)) → Inv E (fun id => id < n0 + 8 * ops.toList.length) c (fold (get l) (Wt ops.toList.toArray fun i => outs.getD i out0) (fun _ => true) ops.toList.length) a → Q .normal a c.w := by
    intro c a hl' h
    rw [← h2, hlen] at h
    refine hQ c a (h.less fun k v hk => ?_)
    rw [hl'] at hk
    exact get_live k v hk
  split at h
  · simp only [Option.some.injEq, Prod.mk.injEq] at h
    obtain ⟨rfl, rfl⟩ := h
    have hs := seq_ops (E := E) (ops := ops.toList.toArray) (g0 := get l) (tab := fun i => outs.getD i out0) (n0 := n0) (fun i o ho => hstep rfl i o (by simpa using ho) _ (fun k _ => by simp)) (Q := Q) (fun c a h => hfin rfl (by simpa using h))
      ops.toList.toArray.size 0 (by simp) c a (by
        have h0 : fold (get l) (Wt ops.toList.toArray fun i => outs.getD i out0) (fun j => decide (j < 0)) ops.toList.toArray.size = get l := by
          generalize ops.toList.toArray.size = m
          induction m with
          | zero => rfl
          | succ m ih => simp only [fold, Nat.not_lt_zero, decide_false, Bool.false_eq_true, if_false]; exact ih
        rw [h0]
        exact hI.more fun i hi => .inl hi)
    rw [hops] at hs
    exact wp_region (by simpa using hs)
  · split at h
    case h_2 => cases h
    rename_i hbf hap
    simp only [Option.some.injEq, Prod.mk.injEq] at h
    obtain ⟨rfl, rfl⟩ := h
    have hs := any_ops (E := E) (l := ops.toList) (g0 := get l) (tab := fun i => outs.getD i out0) (n0 := n0) hbf hap (hstep rfl) (Q := Q) (fun c a h => hfin rfl h)
      ops.toList.length (Array.replicate ops.toList.length false) ⟨{ c.w with drawn := c.w.drawn + 1 }, c.S, c.own⟩ a (by simp) (by
        rw [left_congr (g := fun _ => false) fun i _ => repl_false _ _]
        exact left_false _) (fun j o _ hj => by
        have hj' : (Array.replicate ops.toList.length false).getD j false = true := hj
        rw [repl_false] at hj'
        cases hj') (by
        have h0 : fold (get l) (Wt ops.toList.toArray fun i => outs.getD i out0) (fun j => (Array.replicate ops.toList.length false).getD j false) ops.toList.length = get l := by
          have e : (fun j => (Array.replicate ops.toList.length false).getD j false) = fun _ => false := funext fun j => repl_false _ j
          rw [e]
          have : ∀ m, fold (get l) (Wt ops.toList.toArray fun i => outs.getD i out0) (fun _ => false) m = get l := fun m => by
            induction m with
            | zero => rfl
            | succ m ih => simp only [fold, Bool.false_eq_true, if_false]; exact ih
          exact this _
        rw [h0]
        exact (hI.drawn _).more fun i hi => .inl hi)
    rw [hops] at hs
    refine wp_region_any (hm rfl) ?_
    rw [hlen] at hs
    exact hs
end Go.Proofs.Ytccpefbfjahfnaa.Pm
namespace Go.Proofs.Ytccpefbfjahfnaa.Pm
open Go

inductive Item where
  | code (c : Code)
  | blk (id : Nat)
abbrev Post := Exit → Cx → Act → Prop
/-- What is asked where what runs ends so: the rest still to run, then Q. -/
def WS (E : Env) (Q : Post) : List Item → Post
  | [] => Q
  | .code c :: rs => fun e cx a => match e with
    | .normal => c.wp E.P (fun e a' w' => ∃ cx', cx'.w = w' ∧ WS E Q rs e cx' a') a cx.w
    | e => WS E Q rs e cx a
  | .blk id :: rs => fun e cx a => match e with
    | .exit j => if j = id then WS E Q rs .normal cx a else WS E Q rs (.exit j) cx a
    | e => WS E Q rs e cx a
/-- From any frame and world of which the state tells. -/
def T (P : Program) (n : Nat) (c0 : Cx) (Bor : Nat → Prop) (Q : Post) (n0 : Nat) (l : L) (rs : List Item) : Prop :=
  ∀ cx a, Inv ⟨P, n, c0, Bor⟩ (· < n0) cx (get l) a → WS ⟨P, n, c0, Bor⟩ Q rs .normal cx a

section
variable {P : Program} {n : Nat} {c0 : Cx} {Bor : Nat → Prop} {Q : Post} {n0 : Nat} {l : L} {rs : List Item}
theorem T_end (h : ∀ cx a, Inv ⟨P, n, c0, Bor⟩ (· < n0) cx (get l) a → Q .normal cx a) : T P n c0 Bor Q n0 l [] := h
theorem T_blk {id : Nat} (h : T P n c0 Bor Q n0 l rs) : T P n c0 Bor Q n0 l (.blk id :: rs) := fun cx a hI => h cx a hI
theorem T_seq {x y : Code} (h : T P n c0 Bor Q n0 l (.code x :: .code y :: rs)) : T P n c0 Bor Q n0 l (.code (.seq x y) :: rs) := fun cx a hI => by
  refine wp_seq (wp_mono (h cx a hI) fun e a' w' h1 => ?_)
  obtain ⟨cx', rfl, h2⟩ := h1
  cases e <;> first | exact h2 | exact ⟨cx', rfl, h2⟩
theorem T_skip (h : T P n c0 Bor Q n0 l rs) : T P n c0 Bor Q n0 l (.code .skip :: rs) := fun cx a hI => wp_skip ⟨cx, rfl, h cx a hI⟩
theorem T_label {k : Nat} (h : T P n c0 Bor Q n0 l rs) : T P n c0 Bor Q n0 l (.code (.label k) :: rs) := fun cx a hI => wp_label ⟨cx, rfl, h cx a hI⟩
theorem T_block {id : Nat} {c : Code} (h : T P n c0 Bor Q n0 l (.code c :: .blk id :: rs)) : T P n c0 Bor Q n0 l (.code (.block id c) :: rs) := fun cx a hI => by
  refine wp_block (wp_mono (h cx a hI) fun e a' w' h1 => ?_)
  obtain ⟨cx', rfl, h2⟩ := h1
  cases e with
  | exit j =>
    simp only [WS, Exit.inBlock] at h2 ⊢
    split at h2
    · rename_i e; rw [if_pos e]; exact ⟨cx', rfl, h2⟩
    · rename_i e; rw [if_neg e]; exact ⟨cx', rfl, h2⟩
  | normal => exact ⟨cx', rfl, h2⟩
  | goto l => exact ⟨cx', rfl, h2⟩
  | ret => exact ⟨cx', rfl, h2⟩
  | panic c => exact ⟨cx', rfl, h2⟩
  | outgrown => exact ⟨cx', rfl, h2⟩
/-- Out of a block. -/
def out (id : Nat) : List Item → Option (List Item)
  | [] => none
  | .code _ :: rs => out id rs
  | .blk j :: rs => match Nat.beq id j with | true => some rs | false => out id rs
theorem ws_out {E : Env} {id : Nat} {cx : Cx} {a : Act} : ∀ {rs rs' : List Item}, out id rs = some rs' → WS E Q rs' .normal cx a → WS E Q rs (.exit id) cx a
  | .code _ :: rs, rs', h, k => by
    simp only [out] at h
    exact ws_out (rs := rs) h k
  | .blk j :: rs, rs', h, k => by
    simp only [out] at h
    show if id = j then _ else _
    split at h
    · rename_i e
      cases h
      rw [if_pos (Nat.eq_of_beq_eq_true e)]
      exact k
    · rename_i e
      rw [if_neg fun h => by rw [h, Nat.beq_refl] at e; cases e]
      exact ws_out (rs := rs) h k
theorem T_exit {id : Nat} {rs' : List Item} (ho : out id rs = some rs') (h : T P n c0 Bor Q n0 l rs') : T P n c0 Bor Q n0 l (.code (.exit id) :: rs) := fun cx a hI =>
  wp_exit ⟨cx, rfl, ws_out ho (h cx a hI)⟩
theorem ws_out_none {E : Env} {id : Nat} {cx : Cx} {a : Act} : ∀ {rs : List Item}, out id rs = none → Q (.exit id) cx a → WS E Q rs (.exit id) cx a
  | [], _, k => k
  | .code _ :: rs, h, k => by
    simp only [out] at h
    exact ws_out_none (rs := rs) h k
  | .blk j :: rs, h, k => by
    simp only [out] at h
    show if id = j then _ else _
    split at h
    · cases h
    · rename_i e
      rw [if_neg fun h => by rw [h, Nat.beq_refl] at e; cases e]
      exact ws_out_none (rs := rs) h k
theorem T_leave {id : Nat} (ho : out id rs = none) (h : ∀ cx a, Inv ⟨P, n, c0, Bor⟩ (· < n0) cx (get l) a → Q (.exit id) cx a) : T P n c0 Bor Q n0 l (.code (.exit id) :: rs) := fun cx a hI =>
  wp_exit ⟨cx, rfl, ws_out_none ho (h cx a hI)⟩
theorem ws_ret {E : Env} {cx : Cx} {a : Act} : ∀ {rs : List Item}, Q .ret cx a → WS E Q rs .ret cx a
  | [], k => k
  | .code _ :: rs, k => ws_ret (rs := rs) k
  | .blk _ :: rs, k => ws_ret (rs := rs) k
theorem T_ret (h : ∀ cx a, Inv ⟨P, n, c0, Bor⟩ (· < n0) cx (get l) a → Q .ret cx a) : T P n c0 Bor Q n0 l (.code .ret :: rs) := fun cx a hI => wp_ret ⟨cx, rfl, ws_ret (h cx a hI)⟩
theorem T_cond {t : Nat} {x y : Code} {b : Bool} (hb : get l (Pm.ks t) = some (.pv (.av (.bool b)))) (h1 : b = true → T P n c0 Bor Q n0 l (.code x :: rs)) (h2 : b = false → T P n c0 Bor Q n0 l (.code y :: rs)) :
    T P n c0 Bor Q n0 l (.code (.cond (.tmp t) x y) :: rs) := fun cx a hI => by
  have hv := rep_av (hI.slot t _ hb)
  cases b with
  | true => exact wp_cond_true hv (h1 rfl cx a hI)
  | false => exact wp_cond_false hv (h2 rfl cx a hI)
theorem T_region {id : Nat} {ops : Array Oper} {draw : Bool} (ans : List (Nat × Ans)) (live : List Nat) {l' : L} {obs : List Prop} (hm : draw = true → P.follows .mixedOrders = true) (h : evr P n ops.toList n0 ans draw live l = some (l', obs)) (hob : ∀ p ∈ obs, p)
    (hT : T P n c0 Bor Q (n0 + 8 * ops.size) l' rs) : T P n c0 Bor Q n0 l (.code (.region id ops draw) :: rs) := fun cx a hI =>
  region_ok (E := ⟨P, n, c0, Bor⟩) hm h hob (fun c a h => ⟨c, rfl, hT c a h⟩) hI

/-! ### states said anew -/
/-- One state tells no more than another one. -/
def Wk (P : Program) (n : Nat) (c0 : Cx) (Bor : Nat → Prop) (n0 : Nat) (l : L) (n1 : Nat) (l' : L) : Prop := ∀ cx a, Inv ⟨P, n, c0, Bor⟩ (· < n0) cx (get l) a → ∃ cx', cx'.w = cx.w ∧ Inv ⟨P, n, c0, Bor⟩ (· < n1) cx' (get l') a
theorem ws_world {E : Env} {cx cx' : Cx} {a : Act} {c : Code} (hw : cx'.w = cx.w) (h : WS E Q (.code c :: rs) .normal cx' a) : WS E Q (.code c :: rs) .normal cx a := by
  show c.wp E.P _ a cx.w
  rw [← hw]
  exact h
theorem T_wk {c : Code} {n1 : Nat} {l' : L} (hw : Wk P n c0 Bor n0 l n1 l') (h : T P n c0 Bor Q n1 l' (.code c :: rs)) : T P n c0 Bor Q n0 l (.code c :: rs) := fun cx a hI => by
  obtain ⟨cx', h1, h2⟩ := hw cx a hI
  exact ws_world h1 (h cx' a h2)
theorem Wk.refl : Wk P n c0 Bor n0 l n0 l := fun cx _ h => ⟨cx, rfl, h⟩
theorem Wk.trans {n1 n2 : Nat} {l1 l2 : L} (h : Wk P n c0 Bor n0 l n1 l1) (k : Wk P n c0 Bor n1 l1 n2 l2) : Wk P n c0 Bor n0 l n2 l2 := fun cx a hI => by
  obtain ⟨c1, e1, h1⟩ := h cx a hI
  obtain ⟨c2, e2, h2⟩ := k c1 a h1
  exact ⟨c2, e2.trans e1, h2⟩
/-- Fewer keys. -/
theorem Wk.less {l' : L} (n1 : Nat) (hn : Nat.ble n0 n1 = true) (h : l'.map (fun x => get l x.1) = l'.map (·.2)) : Wk P n c0 Bor n0 l n1 l' := fun cx a hI => by
  refine ⟨cx, rfl, (hI.more fun i hi => Nat.lt_of_lt_of_le hi (Nat.le_of_ble_eq_true hn)).less fun k v hk => ?_⟩
  have : ∀ (m : L), m.map (fun x => get l x.1) = m.map (·.2) → ∀ k v, get m k = some v → get l k = some v := by
    intro m
    induction m with
    | nil => intro _ k v hk; simp [get, lk] at hk
    | cons x m ih =>
      intro hm k v hk
      simp only [List.map_cons, List.cons.injEq] at hm
      simp only [get, lk] at hk ih
      by_cases e : Nat.beq k x.1 = true
      · rw [if_pos e] at hk
        rw [Nat.eq_of_beq_eq_true e, hm.1]
        simpa using hk
      · rw [if_neg e] at hk
        exact ih hm.2 k v hk
  exact this l' h k v hk
/-- Other numbers for own blocks: number i is what number σ i was. -/
def reSt (σ : Nat → Nat) (n1 : Nat) (l' : L) (g : St) : List Prop := l'.map fun x => match x.2 with
  | some (.pv p) => g x.1 = some (.pv (ren σ p))
  | some (.blk T cs) => x.1 % 2 = 1 ∧ x.1 / 2 < n1 ∧ g (kb (σ (x.1 / 2))) = some (.blk T (renL σ cs))
  | none => True
theorem reSt_spec {σ : Nat → Nat} {n1 : Nat} {g : St} : ∀ {l' : L}, (∀ p ∈ reSt σ n1 l' g, p) → ∀ k v, get l' k = some v → match v with
    | .pv p => g k = some (.pv (ren σ p))
    | .blk T cs => k % 2 = 1 ∧ k / 2 < n1 ∧ g (kb (σ (k / 2))) = some (.blk T (renL σ cs))
  | [], _, k, v, h => by simp [get, lk] at h
  | x :: l', hp, k, v, h => by
    simp only [reSt, List.map_cons, List.mem_cons, forall_eq_or_imp] at hp
    simp only [get, lk] at h
    by_cases e : Nat.beq k x.1 = true
    · rw [if_pos e] at h
      have e' := Nat.eq_of_beq_eq_true e
      subst e'
      have h2 : x.2 = some v := by simpa using h
      have h1 := hp.1
      rw [h2] at h1
      cases v <;> exact h1
    · rw [if_neg e] at h
      exact reSt_spec (l' := l') hp.2 k v h
theorem renL_nil {σ : Nat → Nat} {cs : List PV} (h : renL σ cs = []) : cs = [] := by
  have := congrArg List.length h
  rw [renL_length] at this
  exact List.eq_nil_of_length_eq_zero this
def sgm (n0 : Nat) (σl : List Nat) (i : Nat) : Nat := match Nat.blt i σl.length with | true => σl.getD i 0 | false => n0 + i
/-- m: how many numbers were lent (they stay as they are). -/
theorem Wk.ren {l' : L} (m : Nat) (hc0 : ∀ i x, c0.own i = some x → i < m) (σl : List Nat) (hσ : σl.take m = List.range m) (hnd : nodupB σl = true) (h : ∀ p ∈ reSt (sgm n0 σl) σl.length l' (get l), p) : Wk P n c0 Bor n0 l σl.length l' := fun cx a hI => by
  have hsp := reSt_spec h
  have hs1 : ∀ i, i < σl.length → sgm n0 σl i = σl.getD i 0 := fun i hi => by
    unfold sgm
    rw [show Nat.blt i σl.length = true from by simpa [Nat.blt_eq] using hi]
  have hs2 : ∀ i, σl.length ≤ i → cx.own (sgm n0 σl i) = none := fun i hi => by
    unfold sgm
    rw [show Nat.blt i σl.length = false from by rw [Bool.eq_false_iff, Ne, Nat.blt_eq]; omega]
    cases ho : cx.own (n0 + i) with
    | none => rfl
    | some x => have : n0 + i < n0 := hI.ids _ x ho; omega
  have hlv : ∀ i, Live (get l') i → i < σl.length ∧ Live (get l) (sgm n0 σl i) := fun i ⟨T, cs, hx⟩ => by
    have h1 := hsp _ _ hx
    simp only at h1
    rw [show kb i / 2 = i by simp only [kb]; omega] at h1
    exact ⟨h1.2.1, T, _, h1.2.2⟩
  refine ⟨cx.via (sgm n0 σl), rfl, { ids := fun i x hx => ?_, blk := fun i T cs hx => ?_, inj := fun i j b T T' l1 l2 h3 h4 => ?_, apart := fun i b T l1 h2 => hI.apart _ b T (hlv i l1).2 h2, bnd := fun i b T h1 => hI.bnd _ b T h1, sok := hI.sok, os := hI.os, tape := hI.tape, output := hI.output, size := hI.size, same := hI.same, s0 := hI.s0, s1 := hI.s1, keep := ⟨hI.keep.S, fun i x hx => ?_, hI.keep.shape⟩, tmps := hI.tmps, dfr := hI.dfr, slot := fun s p hp => ?_, isv := fun s x hx => ?_ }⟩
  · show i < σl.length
    rcases Nat.lt_or_ge i σl.length with h1 | h1
    · exact h1
    · have : cx.own (sgm n0 σl i) = some x := hx
      rw [hs2 i h1] at this
      cases this
  · have h1 := hsp _ _ hx
    simp only at h1
    rw [show kb i / 2 = i by simp only [kb]; omega] at h1
    obtain ⟨ob, h5, h6, h7⟩ := hI.blk _ _ _ h1.2.2
    refine ⟨ob, h5, ones_renL.1 h6, ?_⟩
    rcases h7 with ⟨h7, h8⟩ | ⟨b, arr, h7, h8, h9, h10⟩
    · exact .inl ⟨h7, renL_nil h8⟩
    · rw [renL_length] at h9 h10
      exact .inr ⟨b, arr, h7, h8, h9, fun j hj => rep_via (h10 j hj) _ (renL_get _ _ j hj)⟩
  · obtain ⟨e1, l1'⟩ := hlv i l1
    obtain ⟨e2, l2'⟩ := hlv j l2
    have := hI.inj _ _ b T T' l1' l2' h3 h4
    rw [hs1 i e1, hs1 j e2] at this
    exact nodup_inj hnd i j e1 e2 this
  · have h1 := hc0 i x hx
    have h2 : i < σl.length := by
      have := congrArg List.length hσ
      simp at this
      omega
    have h3 : σl.getD i 0 = i := by
      have h4 := List.getElem?_take_of_lt (l := σl) h1
      rw [hσ] at h4
      rw [List.getD_eq_getElem?_getD, ← h4]
      simp [h1]
    show cx.own (sgm n0 σl i) = some x
    rw [hs1 i h2, h3]
    exact hI.keep.own i x hx
  · have h1 := hsp _ _ hp
    exact rep_via (hI.slot s _ h1) _ rfl
  · cases x with
    | pv p => exact ⟨p, rfl⟩
    | blk T cs =>
      have h1 := hsp _ _ hx
      simp only [Pm.ks] at h1
      omega
/-- A slot that holds nil: an own row that has not been made. -/
theorem Wk.nil {s : Nat} (T : TypeId) (hs : get l (Pm.ks s) = some (.pv (.av (.slice none 0 0)))) : Wk P n c0 Bor n0 l (n0 + 1) ([(ks s, some (.pv (.osl n0 0 0))), (kb n0, some (.blk T []))] ++ l) := fun cx a hI => by
  obtain ⟨hk, hh⟩ := heap_virtual hI.toHeap (id := n0) (fun h => absurd h (Nat.lt_irrefl _)) T
  refine ⟨⟨cx.w, cx.S, setOwn cx.own n0 (none, T)⟩, rfl, ?_⟩
  have hge : ∀ k, get ([(ks s, some (.pv (.osl n0 0 0))), (kb n0, some (.blk T []))] ++ l) k = if Nat.beq k (Pm.ks s) then some (.pv (.osl n0 0 0)) else over [(kb n0, some (.blk T []))] (get l) k := fun k => by
    rw [get_append]
    simp only [over, lk]
    by_cases h1 : Nat.beq k (Pm.ks s) = true
    · simp [h1]
    · simp only [h1]; rfl
  have hb : ∀ i, get ([(ks s, some (.pv (.osl n0 0 0))), (kb n0, some (.blk T []))] ++ l) (kb i) = over [(kb n0, some (.blk T []))] (get l) (kb i) := fun i => by
    rw [hge, beq_kbs]; rfl
  have hl : ∀ i, Live (get ([(ks s, some (.pv (.osl n0 0 0))), (kb n0, some (.blk T []))] ++ l)) i → Live (over [(kb n0, some (.blk T []))] (get l)) i := fun i ⟨T', cs, hx⟩ => ⟨T', cs, by rw [← hb]; exact hx⟩
  exact { ids := fun i x hx => by
            rcases hh.ids i x hx with h | h
            · exact Nat.lt_succ_of_lt h
            · subst h; exact Nat.lt_succ_self _
          blk := fun i T' cs hx => hh.blk i T' cs (by rw [← hb]; exact hx), inj := fun i j b T T' l1 l2 => hh.inj i j b T T' (hl i l1) (hl j l2), apart := fun i b T l1 => hh.apart i b T (hl i l1), bnd := hh.bnd, sok := hh.sok,
          os := hh.os, tape := hh.tape, output := hh.output, size := hh.size, same := hh.same, s0 := hh.s0, s1 := hh.s1, keep := hh.keep, tmps := hI.tmps, dfr := hI.dfr
          slot := fun s' p hp => by
            rw [hge, beq_ks] at hp
            by_cases e : s' = s
            · subst e
              rw [decide_eq_true rfl, if_pos rfl] at hp
              cases hp
              have := rep_av (hI.slot s' _ hs)
              rw [this]
              exact .osl setOwn_same (.inl ⟨_, rfl, rfl⟩)
            · rw [decide_eq_false e, if_neg (by simp), over_s] at hp
              exact (hI.slot s' p hp).mono hk
          isv := fun s' x hx => by
            rw [hge, beq_ks] at hx
            by_cases e : s' = s
            · subst e
              rw [decide_eq_true rfl, if_pos rfl] at hx
              cases hx
              exact ⟨_, rfl⟩
            · rw [decide_eq_false e, if_neg (by simp), over_s] at hx
              exact hI.isv s' x hx }
end
end Go.Proofs.Ytccpefbfjahfnaa.Pm
namespace Go.Proofs.Ytccpefbfjahfnaa.Pm
open Go

/-- The state behind it. -/
def frzS (id : Nat) (cs : List PV) : L → L
  | [] => []
  | (k, x) :: l => (k, match x with
    | some (.pv p) => some (.pv (frz id cs p))
    | some (.blk T ds) => match Nat.beq k (kb id) with | true => none | false => some (.blk T (frzL id cs ds))
    | none => none) :: frzS id cs l
theorem get_frzS {id : Nat} {cs : List PV} : ∀ {l : L} (k : Nat), get (frzS id cs l) k = match get l k with
    | some (.pv p) => some (.pv (frz id cs p))
    | some (.blk T ds) => if k = kb id then none else some (.blk T (frzL id cs ds))
    | none => none
  | [], k => rfl
  | (j, x) :: l, k => by
    have ih := get_frzS (id := id) (cs := cs) (l := l) k
    simp only [get, frzS, lk] at ih ⊢
    by_cases e : Nat.beq k j = true
    · have e' := Nat.eq_of_beq_eq_true e
      subst e'
      rw [if_pos e, if_pos e]
      cases x with
      | none => rfl
      | some v =>
        cases v with
        | pv p => rfl
        | blk T ds =>
          simp only [Option.join_some]
          by_cases e2 : k = kb id
          · subst e2; simp [Nat.beq_refl]
          · rw [show Nat.beq k (kb id) = false from by rw [Bool.eq_false_iff]; exact fun h => e2 (Nat.eq_of_beq_eq_true h), if_neg e2]
    · rw [if_neg e, if_neg e]
      exact ih
section
variable {P : Program} {n : Nat} {c0 : Cx} {Bor : Nat → Prop} {Q : Post} {n0 : Nat} {l : L} {rs : List Item}
theorem Wk.frz {l' : L} (id : Nat) {T : TypeId} {cs : List PV} (hg : get l (kb id) = some (.blk T cs)) (hs : shds cs) (he : frzS id cs l = l') : Wk P n c0 Bor n0 l n0 l' := fun cx a hI => by
  subst he
  obtain ⟨ob, ho, hone, hbk⟩ := hI.blk id T cs hg
  let cx' : Cx := ⟨cx.w, fun b => cx.S b ∨ ob = some b, cx.own⟩
  have hlive : Live (get l) id := ⟨T, cs, hg⟩
  have hblk : ∀ b, ob = some b → cx'.S b ∧ ∃ arr : Array Value, cx.w.heap[b]? = some (.cells arr T (0, 0)) ∧ cs.length ≤ arr.size ∧ ∀ j, j < cs.length → SRep cx'.w cx'.S (cs.getD j P0) (arr.getD j undef) := by
    intro b hb
    rcases hbk with ⟨h1, _⟩ | ⟨b', arr, h1, h2, h3, h4⟩
    · rw [hb] at h1; cases h1
    · obtain rfl : b' = b := by rw [hb] at h1; simpa using h1.symm
      refine ⟨.inr hb, arr, h2, h3, fun j hj => ?_⟩
      have hm : cs.getD j P0 ∈ cs := by simp [List.getD_eq_getElem?_getD, hj]
      exact (shd_rep (h4 j hj) (hs _ hm)).mono fun b hb => ⟨.inl hb, rfl⟩
  have hrep : ∀ {p : PV} {v : Value}, Rep P cx p v → Rep P cx' (Pm.frz id cs p) v := fun h => rep_frz (c := cx) (c' := cx') rfl (fun _ h => Or.inl h) rfl ho hone hblk h
  have hgb : ∀ i T' ds, get (frzS id cs l) (kb i) = some (.blk T' ds) → i ≠ id ∧ ∃ ds', get l (kb i) = some (.blk T' ds') ∧ ds = frzL id cs ds' := by
    intro i T' ds h
    rw [get_frzS] at h
    cases hx : get l (kb i) with
    | none => rw [hx] at h; cases h
    | some v =>
      rw [hx] at h
      cases v with
      | pv p => cases h
      | blk T2 ds2 =>
        simp only at h
        by_cases e : kb i = kb id
        · rw [if_pos e] at h; cases h
        · rw [if_neg e] at h
          simp only [Option.some.injEq, Val.blk.injEq] at h
          obtain ⟨rfl, rfl⟩ := h
          exact ⟨fun e2 => e (by rw [e2]), _, rfl, rfl⟩
  have hl : ∀ i, Live (get (frzS id cs l)) i → i ≠ id ∧ Live (get l) i := fun i ⟨T', ds, h⟩ => by
    obtain ⟨h1, ds', h2, _⟩ := hgb i T' ds h
    exact ⟨h1, T', ds', h2⟩
  refine ⟨cx', rfl, { ids := hI.ids, blk := fun i T' ds h => ?_, inj := fun i j b T1 T2 l1 l2 => hI.inj i j b T1 T2 (hl i l1).2 (hl j l2).2, apart := fun i b T1 l1 h2 => ?_, bnd := hI.bnd, sok := fun b hb => ?_, os := hI.os, tape := hI.tape, output := hI.output, size := hI.size, same := hI.same, s0 := fun b hb => .inl (hI.s0 b hb), s1 := fun b hb => ?_, keep := ⟨fun b hb => ⟨.inl (hI.keep.S b hb).1, (hI.keep.S b hb).2⟩, hI.keep.own, hI.keep.shape⟩, tmps := hI.tmps, dfr := hI.dfr, slot := fun s p hp => ?_, isv := fun s x hx => ?_ }⟩
  · obtain ⟨h1, ds', h2, rfl⟩ := hgb i T' ds h
    obtain ⟨ob', h3, h4, h5⟩ := hI.blk i T' ds' h2
    refine ⟨ob', h3, ones_frzL h4, ?_⟩
    rcases h5 with ⟨h5, rfl⟩ | ⟨b, arr, h5, h6, h7, h8⟩
    · exact .inl ⟨h5, rfl⟩
    · refine .inr ⟨b, arr, h5, h6, by rw [frzL_length]; exact h7, fun j hj => ?_⟩
      rw [frzL_length] at hj
      rw [frzL_get _ _ _ j hj]
      exact hrep (h8 j hj)
  · obtain ⟨h1, h3⟩ := hl i l1
    have hap := hI.apart i b T1 h3 h2
    refine ⟨fun hb => ?_, hap.2⟩
    rcases hb with hb | hb
    · exact hap.1 hb
    · subst hb
      exact h1 (hI.inj i id b T1 T h3 hlive h2 ho)
  · rcases hb with hb | hb
    · exact hI.sok b hb
    · subst hb; exact hI.bnd id b T ho
  · rcases hb with hb | hb
    · exact hI.s1 b hb
    · subst hb; exact .inr (hI.apart id b T hlive ho).2
  · rw [get_frzS] at hp
    cases hx : get l (ks s) with
    | none => rw [hx] at hp; cases hp
    | some v =>
      rw [hx] at hp
      cases v with
      | pv q =>
        simp only [Option.some.injEq, Val.pv.injEq] at hp
        subst hp
        exact hrep (hI.slot s q hx)
      | blk T2 ds2 => obtain ⟨q, hq⟩ := hI.isv s _ hx; cases hq
  · rw [get_frzS] at hx
    cases hy : get l (ks s) with
    | none => rw [hy] at hx; cases hx
    | some v =>
      rw [hy] at hx
      cases v with
      | pv q => exact ⟨_, by simpa using hx.symm⟩
      | blk T2 ds2 => obtain ⟨q, hq⟩ := hI.isv s _ hy; cases hq

/-! ### loops -/
def leastP (p : Nat → Prop) (m : Nat) : Prop := p m ∧ ∀ k, k < m → ¬ p k
theorem least_of {p : Nat → Prop} : ∀ m, p m → ∃ k, leastP p k := by
  intro m
  induction m using Nat.strongRecOn with
  | ind m ih =>
    intro h
    by_cases e : ∃ k, k < m ∧ p k
    · obtain ⟨k, h1, h2⟩ := e
      exact ih k h1 h2
    · exact ⟨m, h, fun k h1 h2 => e ⟨k, h1, h2⟩⟩
/-- What a round must end in: the loop's states again, with less to do; or out. -/
def loopQ {α : Type} (P : Program) (n : Nat) (c0 : Cx) (Bor : Nat → Prop) (Q : Post) (rs : List Item) (n1 : Nat) (I : α → L) (μ : α → Nat) (x : α) : Post := fun e cx a => match e with
  | .normal => ∃ y cx', cx'.w = cx.w ∧ Inv ⟨P, n, c0, Bor⟩ (· < n1) cx' (get (I y)) a ∧ μ y < μ x
  | e => WS ⟨P, n, c0, Bor⟩ Q rs e cx a
theorem T_loop {α : Type} {body : Code} (I : α → L) (μ : α → Nat) (n1 : Nat) (x0 : α) (h0 : Wk P n c0 Bor n0 l n1 (I x0)) (h : ∀ x, T P n c0 Bor (loopQ P n c0 Bor Q rs n1 I μ x) n1 (I x) [.code body]) : T P n c0 Bor Q n0 l (.code (.loop body) :: rs) := fun cx a hI => by
  obtain ⟨cx0, hw0, hI0⟩ := h0 cx a hI
  let p : Act → World → Nat → Prop := fun a w m => ∃ x cx, cx.w = w ∧ Inv ⟨P, n, c0, Bor⟩ (· < n1) cx (get (I x)) a ∧ μ x = m
  have key := wp_loop (P := P) (Q := fun e a' w' => ∃ cx', cx'.w = w' ∧ WS ⟨P, n, c0, Bor⟩ Q rs e cx' a') (c := body) (a := a) (w := cx.w) (fun a w => ∃ m, leastP (p a w) m) (fun a w => Classical.epsilon (leastP (p a w)))
    (least_of (μ x0) ⟨x0, cx0, hw0, hI0, rfl⟩) ?_
  · exact key
  · intro a w hm
    have hsp := Classical.epsilon_spec hm
    obtain ⟨⟨x, cx1, rfl, h1, h2⟩, hleast⟩ := hsp
    refine wp_mono (h x cx1 a h1) ?_
    rintro e a' w' ⟨cx', rfl, h3⟩
    cases e with
    | normal =>
      obtain ⟨y, cx2, h4, h5, h6⟩ := h3
      have hex := least_of (p := p a' cx'.w) (μ y) ⟨y, cx2, h4, h5, rfl⟩
      refine ⟨hex, ?_⟩
      have hsp2 := Classical.epsilon_spec hex
      have hle : Classical.epsilon (leastP (p a' cx'.w)) ≤ μ y := by
        rcases Nat.lt_or_ge (μ y) (Classical.epsilon (leastP (p a' cx'.w))) with h7 | h7
        · exact absurd ⟨y, cx2, h4, h5, rfl⟩ (hsp2.2 _ h7)
        · exact h7
      show Classical.epsilon (leastP (p a' cx'.w)) < Classical.epsilon (leastP (p a cx1.w))
      rw [← h2]
      omega
    | exit id => exact ⟨cx', rfl, h3⟩
    | goto l => exact ⟨cx', rfl, h3⟩
    | ret => exact ⟨cx', rfl, h3⟩
    | panic c => exact ⟨cx', rfl, h3⟩
    | outgrown => exact ⟨cx', rfl, h3⟩
theorem T_back {α : Type} {I : α → L} {μ : α → Nat} {n1 : Nat} {x : α} (y : α) (hw : Wk P n c0 Bor n0 l n1 (I y)) (hm : μ y < μ x) : T P n c0 Bor (loopQ P n c0 Bor Q rs n1 I μ x) n0 l [] := fun cx a hI => by
  obtain ⟨cx', h1, h2⟩ := hw cx a hI
  exact ⟨y, cx', h1, h2, hm⟩
theorem T_break {α : Type} {I : α → L} {μ : α → Nat} {n1 : Nat} {x : α} {id : Nat} {ks rs' : List Item} (h1 : out id ks = none) (h2 : out id rs = some rs') (h : T P n c0 Bor Q n0 l rs') : T P n c0 Bor (loopQ P n c0 Bor Q rs n1 I μ x) n0 l (.code (.exit id) :: ks) :=
  T_leave h1 fun cx a hI => ws_out h2 (h cx a hI)
theorem loop_ret {α : Type} {I : α → L} {μ : α → Nat} {n1 : Nat} {x : α} {cx : Cx} {a : Act} (h : Q .ret cx a) : loopQ P n c0 Bor Q rs n1 I μ x .ret cx a := ws_ret h

/-! ### whole functions -/
def resPV : List PV → PV
  | [p] => cz p
  | ps => .tup (ps.map cz)
def retQ (P : Program) (fn : Func) (c0 : Cx) (Bor : Nat → Prop) (r : PV) (H' : Hp) : Post := fun e cx a => (e = .normal ∨ e = .ret) ∧ a.defers = [] ∧ ∃ v cx', cx'.w = cx.w ∧ (results fn a.tmps).run P cx.w = .ok v cx.w ∧ Rep P cx' r v ∧ Heap ⟨P, 0, c0, Bor⟩ (· < H'.length) cx' (hSt H')
theorem Heap.env {nx : Nat → Prop} {m : Nat} {c : Cx} {g : St} (h : Heap ⟨P, n, c0, Bor⟩ nx c g) : Heap ⟨P, m, c0, Bor⟩ nx c g :=
  { ids := h.ids, blk := h.blk, inj := h.inj, apart := h.apart, bnd := h.bnd, sok := h.sok, os := h.os, tape := h.tape, output := h.output, size := h.size, same := h.same, s0 := h.s0, s1 := h.s1, keep := h.keep }
theorem Heap.less {E : Env} {nx : Nat → Prop} {c : Cx} {g g' : St} (h : Heap E nx c g) (hs : ∀ i T cs, g' (kb i) = some (.blk T cs) → g (kb i) = some (.blk T cs)) : Heap E nx c g' := by
  have hl : ∀ i, Live g' i → Live g i := fun i ⟨T, cs, hx⟩ => ⟨T, cs, hs _ _ _ hx⟩
  exact { h with blk := fun i T cs hx => h.blk i T cs (hs _ _ _ hx), inj := fun i j b T T' l1 l2 => h.inj i j b T T' (hl i l1) (hl j l2), apart := fun i b T l1 => h.apart i b T (hl i l1) }
theorem run_res1 {fn : Func} {t : Nat} (hres : fn.results = #[.tmp t]) (tmps : Array Value) (w : World) : (results fn tmps).run P w = .ok (tmps.getD t undef) w := by simp [results, hres]
theorem run_res2 {fn : Func} {t u : Nat} (hres : fn.results = #[.tmp t, .tmp u]) (tmps : Array Value) (w : World) : (results fn tmps).run P w = .ok (.tuple #[tmps.getD t undef, tmps.getD u undef]) w := by simp [results, hres]
theorem run_res3 {fn : Func} {t u x : Nat} (hres : fn.results = #[.tmp t, .tmp u, .tmp x]) (tmps : Array Value) (w : World) : (results fn tmps).run P w = .ok (.tuple #[tmps.getD t undef, tmps.getD u undef, tmps.getD x undef]) w := by simp [results, hres]
theorem run_res0 {fn : Func} (hres : fn.results = #[]) (tmps : Array Value) (w : World) : (results fn tmps).run P w = .ok (.tuple #[]) w := by simp [results, hres]
/-- What is left of the blocks. -/
def blksB (l : L) : Nat → Hp → List Prop
  | _, [] => []
  | i, some (T, cs) :: H => (get l (kb i) = some (.blk T cs)) :: blksB l (i + 1) H
  | i, none :: H => blksB l (i + 1) H
theorem blksB_spec {l : L} : ∀ {H : Hp} {n : Nat}, (∀ p ∈ blksB l n H, p) → ∀ i x, H.getD i none = some x → get l (kb (n + i)) = some (.blk x.1 x.2)
  | [], n, _, i, x, h => by simp at h
  | none :: H, n, hp, 0, x, h => by simp at h
  | none :: H, n, hp, i + 1, x, h => by
    have := blksB_spec (H := H) (n := n + 1) hp i x (by simpa using h)
    rwa [show n + 1 + i = n + (i + 1) by omega] at this
  | some y :: H, n, hp, 0, x, h => by
    obtain ⟨T, cs⟩ := y
    have : (T, cs) = x := by simpa using h
    subst this
    exact hp _ (by simp [blksB])
  | some y :: H, n, hp, i + 1, x, h => by
    obtain ⟨T, cs⟩ := y
    have := blksB_spec (l := l) (H := H) (n := n + 1) (fun p hp' => hp p (by simp [blksB, hp'])) i x (by simpa using h)
    rwa [show n + 1 + i = n + (i + 1) by omega] at this
theorem ret_ok {fn : Func} {r : PV} {H' : Hp} {n1 : Nat} {l' : L} {e : Exit} (he : e = .normal ∨ e = .ret) (hw : Wk P n c0 Bor n0 l n1 l') (hn : n1 = H'.length) (hb : ∀ p ∈ blksB l' 0 H', p)
    (hr : ∀ (cx : Cx) (a : Act), Inv ⟨P, n, c0, Bor⟩ (· < n1) cx (get l') a → ∃ v, (results fn a.tmps).run P cx.w = .ok v cx.w ∧ Rep P cx r v) {cx : Cx} {a : Act} (hI : Inv ⟨P, n, c0, Bor⟩ (· < n0) cx (get l) a) : retQ P fn c0 Bor r H' e cx a := by
  obtain ⟨cx', h1, h2⟩ := hw cx a hI
  obtain ⟨v, h3, h4⟩ := hr cx' a h2
  refine ⟨he, hI.dfr, v, cx', h1, by rw [← h1]; exact h3, h4, ?_⟩
  subst hn
  refine (h2.toHeap.env).less fun i T cs hx => ?_
  rw [hSt_b] at hx
  cases hy : H'.getD i none with
  | none => rw [hy] at hx; cases hx
  | some y =>
    rw [hy] at hx
    simp only [Option.some.injEq, Val.blk.injEq] at hx
    obtain ⟨rfl, rfl⟩ := hx
    have := blksB_spec hb i y hy
    rwa [Nat.zero_add] at this
theorem ret0 {fn : Func} {l' : L} (hres : fn.results = #[]) (cx : Cx) (a : Act) (_ : Inv ⟨P, n, c0, Bor⟩ (· < n0) cx (get l') a) : ∃ v, (results fn a.tmps).run P cx.w = .ok v cx.w ∧ Rep P cx (.tup []) v :=
  ⟨_, run_res0 hres _ _, .tup rfl fun i hi => by simp at hi⟩
theorem ret1 {fn : Func} {l' : L} {t : Nat} {p r : PV} (hres : fn.results = #[.tmp t]) (hp : get l' (ks t) = some (.pv p)) (hr : cz p = r) (cx : Cx) (a : Act) (hI : Inv ⟨P, n, c0, Bor⟩ (· < n0) cx (get l') a) : ∃ v, (results fn a.tmps).run P cx.w = .ok v cx.w ∧ Rep P cx r v :=
  ⟨_, run_res1 hres _ _, hr ▸ rep_cz (hI.slot t p hp)⟩
theorem ret2 {fn : Func} {l' : L} {t u : Nat} {p q r s : PV} (hres : fn.results = #[.tmp t, .tmp u]) (hp : get l' (ks t) = some (.pv p)) (hq : get l' (ks u) = some (.pv q)) (hr : cz p = r) (hs : cz q = s) (cx : Cx) (a : Act)
    (hI : Inv ⟨P, n, c0, Bor⟩ (· < n0) cx (get l') a) : ∃ v, (results fn a.tmps).run P cx.w = .ok v cx.w ∧ Rep P cx (.tup [r, s]) v := by
  subst hr; subst hs
  refine ⟨_, run_res2 hres _ _, .tup rfl fun i hi => ?_⟩
  match i, hi with
  | 0, _ => exact rep_cz (hI.slot t p hp)
  | 1, _ => exact rep_cz (hI.slot u q hq)
theorem ret3 {fn : Func} {l' : L} {t u x : Nat} {p q z r s y : PV} (hres : fn.results = #[.tmp t, .tmp u, .tmp x]) (hp : get l' (ks t) = some (.pv p)) (hq : get l' (ks u) = some (.pv q)) (hz : get l' (ks x) = some (.pv z)) (hr : cz p = r) (hs : cz q = s) (hy : cz z = y) (cx : Cx) (a : Act)
    (hI : Inv ⟨P, n, c0, Bor⟩ (· < n0) cx (get l') a) : ∃ v, (results fn a.tmps).run P cx.w = .ok v cx.w ∧ Rep P cx (.tup [r, s, y]) v := by
  subst hr; subst hs; subst hy
  refine ⟨_, run_res3 hres _ _, .tup rfl fun i hi => ?_⟩
  match i, hi with
  | 0, _ => exact rep_cz (hI.slot t p hp)
  | 1, _ => exact rep_cz (hI.slot u q hq)
  | 2, _ => exact rep_cz (hI.slot x z hz)
/-- The state that a call begins in. -/
def initA : Nat → List PV → L
  | _, [] => []
  | i, p :: ps => (ks i, some (.pv p)) :: initA (i + 1) ps
def initB : Nat → Hp → L
  | _, [] => []
  | i, x :: H => (kb i, match x with | some y => some (.blk y.1 y.2) | none => none) :: initB (i + 1) H
theorem get_initA_b (i : Nat) : ∀ (ps : List PV) (n : Nat), lk (kb i) (initA n ps) = none
  | [], _ => rfl
  | p :: ps, n => by simp only [initA, lk, beq_kbs]; exact get_initA_b i ps (n + 1)
theorem get_initB_s (s : Nat) : ∀ (H : Hp) (n : Nat), lk (ks s) (initB n H) = none
  | [], _ => rfl
  | x :: H, n => by simp only [initB, lk, beq_ksb]; exact get_initB_s s H (n + 1)
theorem lk_initA : ∀ (ps : List PV) (n s : Nat) (x : Option Val), lk (ks s) (initA n ps) = some x → n ≤ s ∧ s < n + ps.length ∧ x = some (.pv (ps.getD (s - n) P0))
  | p :: ps, n, s, x, h => by
    simp only [initA, lk, beq_ks] at h
    by_cases e : s = n
    · subst e
      rw [decide_eq_true rfl, if_pos rfl] at h
      cases h
      exact ⟨Nat.le_refl _, by simp, by rw [Nat.sub_self]; rfl⟩
    · rw [decide_eq_false e, if_neg (by simp)] at h
      obtain ⟨h1, h2, h3⟩ := lk_initA ps (n + 1) s x h
      refine ⟨by omega, by simp; omega, ?_⟩
      rw [h3, show s - n = (s - (n + 1)) + 1 by omega]
      rfl
theorem lk_initB : ∀ (H : Hp) (n i : Nat) (T : TypeId) (cs : List PV), lk (kb i) (initB n H) = some (some (.blk T cs)) → n ≤ i ∧ H.getD (i - n) none = some (T, cs)
  | x :: H, n, i, T, cs, h => by
    simp only [initB, lk, beq_kb] at h
    by_cases e : i = n
    · subst e
      rw [decide_eq_true rfl, if_pos rfl] at h
      cases x with
      | none => cases h
      | some y =>
        simp only [Option.some.injEq, Val.blk.injEq] at h
        obtain ⟨rfl, rfl⟩ := h
        exact ⟨Nat.le_refl _, by rw [Nat.sub_self]; rfl⟩
    · rw [decide_eq_false e, if_neg (by simp)] at h
      obtain ⟨h1, h2⟩ := lk_initB H (n + 1) i T cs h
      refine ⟨by omega, ?_⟩
      rw [show i - n = (i - (n + 1)) + 1 by omega]
      exact h2
theorem pc_intro {f : FuncId} {fn : Func} {code : Code} {args : List PV} {H H' : Hp} {r : PV} {l0 : L} (hf : P.funcs[f]? = some fn) (hb : fn.body = some code) (hname : (fn.name == "runtime.NumGoroutine") = false) (hlen : H.length ≤ H'.length)
    (hn : Nat.ble args.length fn.ntmps = true) (hl0 : initA 0 args ++ initB 0 H = l0) (h : ∀ c0 Bor, (∀ i x, c0.own i = some x → i < H.length) → T P fn.ntmps c0 Bor (retQ P fn c0 Bor r H') H.length l0 [.code code]) : PC P f args H r H' := by
  refine ⟨⟨fn, hf, by rw [hb]; rfl, hname⟩, hlen, fun c vs hh hrl => ?_⟩
  have hn := Nat.le_of_ble_eq_true hn
  have hvs := hrl.1
  refine calls_of_wp hf hb ?_
  have hI : Inv ⟨P, fn.ntmps, c, (cEnv P c H).Bor⟩ (· < H.length) c (get l0) { tmps := vs ++ Array.replicate (fn.ntmps - vs.size) undef, defers := [] } := by
    subst hl0
    have hgb : ∀ i T cs, get (initA 0 args ++ initB 0 H) (kb i) = some (.blk T cs) → hSt H (kb i) = some (.blk T cs) := by
      intro i T cs hx
      rw [get_append] at hx
      simp only [over, get_initA_b, get] at hx
      have h2 : lk (kb i) (initB 0 H) = some (some (.blk T cs)) := by
        cases hy : lk (kb i) (initB 0 H) with
        | none => rw [hy] at hx; cases hx
        | some y => rw [hy] at hx; simpa using hx
      obtain ⟨_, h3⟩ := lk_initB H 0 i T cs h2
      rw [Nat.sub_zero] at h3
      rw [hSt_b, h3]
    have hgs : ∀ s x, get (initA 0 args ++ initB 0 H) (ks s) = some x → s < args.length ∧ x = .pv (args.getD s P0) := by
      intro s x hx
      rw [get_append] at hx
      simp only [over, get, get_initB_s] at hx
      cases hy : lk (ks s) (initA 0 args) with
      | none => rw [hy] at hx; cases hx
      | some y =>
        rw [hy] at hx
        obtain ⟨_, h2, h3⟩ := lk_initA args 0 s y hy
        simp only [Nat.sub_zero] at h3
        rw [h3] at hx
        exact ⟨by omega, by simpa using hx.symm⟩
    have hh1 : Heap ⟨P, fn.ntmps, c, (cEnv P c H).Bor⟩ (· < H.length) c (hSt H) := hh.env
    exact { hh1.less hgb with
      tmps := by simp; omega
      dfr := rfl
      slot := fun s p hp => by
        obtain ⟨h1, h2⟩ := hgs s _ hp
        cases h2
        have h3 := hrl.2 s h1
        have h4 : s < vs.size := by omega
        have e : (vs ++ Array.replicate (fn.ntmps - vs.size) undef).getD s undef = vs.getD s undef := by
          rw [Array.getD_eq_getD_getElem?, Array.getElem?_append_left h4, Array.getD_eq_getD_getElem?]
        show Rep P c _ ((vs ++ Array.replicate (fn.ntmps - vs.size) undef).getD s undef)
        rw [e]
        exact h3
      isv := fun s x hx => ⟨_, (hgs s x hx).2⟩ }
  have key := h c (cEnv P c H).Bor (fun i x hx => hh.ids i x hx) c _ hI
  refine wp_mono key ?_
  rintro e a' w' ⟨cx', rfl, he, hd, v, cx2, h1, h2, h3, h4⟩
  rcases he with rfl | rfl
  · exact ⟨hd, v, h2, v, cx2, rfl, h1, h4, h3⟩
  · exact ⟨hd, v, h2, v, cx2, rfl, h1, h4, h3⟩
/-- A function that is lent nothing and hands back one plain value: as the walks of the kit say it. -/
theorem pc_calls {f : FuncId} {args : List PV} {v : Value} {w : World} {vs : Array Value} (h : PC P f args [] (.av v) []) (hn : vs.size = args.length) (hr : ∀ i, i < args.length → SRep w (fun b => b < w.heap.size) (args.getD i P0) (vs.getD i undef)) :
    Calls P f vs w fun e w' => e = .returned v ∧ RowKit.Below w.heap.size w w' := by
  obtain ⟨_, _, h⟩ := h
  let c : Cx := ⟨w, fun b => b < w.heap.size, fun _ => none⟩
  have hh : Heap (cEnv P c []) (· < ([] : Hp).length) c (hSt []) := by
    refine { ids := fun i x hx => (by cases hx), blk := fun i T cs hx => (by rw [hSt_b] at hx; simp at hx), inj := fun i j b T T' l1 => ?_, apart := fun i b T l1 => ?_, bnd := fun i b T hx => (by cases hx), sok := fun b hb => hb, os := rfl, tape := rfl, output := rfl, size := Nat.le_refl _, same := fun _ _ _ => rfl, s0 := fun _ h => h, s1 := fun _ h => .inl h, keep := Keep.refl _ }
    · obtain ⟨T, cs, hx⟩ := l1
      rw [hSt_b] at hx; simp at hx
    · obtain ⟨T, cs, hx⟩ := l1
      rw [hSt_b] at hx; simp at hx
  refine (h c vs hh ⟨hn, fun i hi => .sh (hr i hi)⟩).mono ?_
  rintro e w' ⟨u, c', rfl, rfl, h1, h2⟩
  rw [rep_av h2]
  refine ⟨rfl, h1.os, h1.tape, h1.output, h1.size, fun k hk => h1.same k hk ?_⟩
  rintro ⟨i, T, ⟨T', cs, hx⟩, _⟩
  rw [hSt_b] at hx
  simp at hx
end
end Go.Proofs.Ytccpefbfjahfnaa.Pm
namespace Go.Proofs.Ytccpefbfjahfnaa.Pm
open Go

/-- What is handed back: slots, or what stands in a box. -/
def resP (P : Program) : List ResultVar → (List PV → Plan) → Plan
  | [], k => k []
  | .tmp t :: rs, k => .look (ks t) fun v => match v with | .pv p => resP P rs fun ps => k (p :: ps) | .blk _ _ => .fail
  | .cell t T :: rs, k => .look (ks t) fun v => match v with
    | .pv (.opt id off) => .look (kb id) fun v => match v with
      | .blk _ cs => match isAggD (P.underlying T), P.info? T with
        | some true, some ti => seg cs off ti.size .no fun l => resP P rs fun ps => k (.agg l :: ps)
        | some false, some _ => seg cs off 1 .no fun l => one1 l fun p => resP P rs fun ps => k (p :: ps)
        | _, _ => .fail
      | .pv _ => .fail
    | _ => .fail
abbrev resF (tmps : Array Value) : ResultVar → Sem Value := fun x => match x with
  | .tmp t => pure (tmps.getD t undef)
  | .cell a t => do loadVar t (← asAddr (tmps.getD a undef))
theorem resP_ok {E : Env} {nx : Nat → Prop} {c : Cx} {g : St} {a : Act} (hI : Inv E nx c g a) : ∀ {rs : List ResultVar} {k : List PV → Plan} {p : PV} {wb : L}, Res g (resP E.P rs k) p wb →
    ∃ ps vs, RL E.P c ps (List.toArray vs) ∧ (rs.mapM (resF a.tmps)).run E.P c.w = .ok vs c.w ∧ Res g (k ps) p wb
  | [], k, p, wb, h => ⟨[], [], ⟨rfl, fun i hi => by simp at hi⟩, by simp, h⟩
  | .tmp t :: rs, k, p, wb, h => by
    obtain ⟨v, h1, h2⟩ := Res.look h
    cases v with
    | blk T cs => exact (Res.fail h2).elim
    | pv q =>
      obtain ⟨ps, vs, h3, h4, h5⟩ := resP_ok hI h2
      refine ⟨q :: ps, a.tmps.getD t undef :: vs, ?_, ?_, h5⟩
      · have := (one_rl (hI.slot t q h1)).append h3
        simpa using this
      · simp [List.mapM_cons, h4, resF]
  | .cell t T :: rs, k, p, wb, h => by
    obtain ⟨v, h1, h2⟩ := Res.look h
    split at h2
    case h_2 => exact (Res.fail h2).elim
    rename_i id off
    obtain ⟨bv, hg, h3⟩ := Res.look h2
    cases bv with
    | pv _ => exact (Res.fail h3).elim
    | blk T' cs =>
      simp only at h3
      obtain ⟨b, T2, hown, hv⟩ := rep_opt (hI.slot t _ h1)
      obtain ⟨ob', hown', hone, hb⟩ := hI.blk id T' cs hg
      rw [hown] at hown'
      cases hown'
      rcases hb with ⟨hb, _⟩ | ⟨b', arr, hb1, hb2, hb3, hb4⟩
      · cases hb
      obtain rfl : b' = b := by simpa using hb1.symm
      have hcell : ∀ j, j < cs.length → c.w.cell? ⟨b', 0 + j, none⟩ = some (arr.getD j undef) := fun j hj => by
        have : j < arr.size := by omega
        rw [Nat.zero_add, cell_of_row c.w _ _ arr _ _ hb2]
        simp [Array.getD_eq_getD_getElem?, this]
      -- one value loaded, the rest behind it
      have key : ∀ {q : PV} {u : Value} {r : Plan}, Rep E.P c q u → (loadVar T ⟨b', 0 + off, none⟩).run E.P c.w = .ok u c.w → Res g (resP E.P rs fun ps => k (q :: ps)) p wb →
          ∃ ps vs, RL E.P c ps (List.toArray vs) ∧ ((ResultVar.cell t T :: rs).mapM (resF a.tmps)).run E.P c.w = .ok vs c.w ∧ Res g (k ps) p wb := by
        intro q u r hq hu hr
        obtain ⟨ps, vs, h5, h6, h7⟩ := resP_ok hI hr
        refine ⟨q :: ps, u :: vs, ?_, ?_, h7⟩
        · have := (one_rl hq).append h5
          simpa using this
        · rw [Nat.zero_add] at hu
          have e : (resF a.tmps (.cell t T)).run E.P c.w = .ok u c.w := by
            have hv2 : a.tmps.getD t undef = .pointer (some ⟨b', off, none⟩) := hv
            simp only [resF, Sem.run_bind, hv2, asAddr, Sem.run_pure, Result.andThen_ok, hu]
          rw [List.mapM_cons]
          simp only [Sem.run_bind, e, h6, Result.andThen_ok, Sem.run_pure]
      split at h3
      · rename_i ti hag hin
        have h4 : Res g (loadCs cs off ti.size true .no) (.agg ((cs.drop off).take ti.size)) [] ∧ Res g (resP E.P rs fun ps => k (.agg ((cs.drop off).take ti.size) :: ps)) p wb := by
          unfold seg at h3
          simp only at h3
          split at h3
          · rename_i hb5
            refine ⟨?_, h3⟩
            simp only [loadCs, seg, hb5]
            exact ⟨_, rfl, rfl, rfl, fun q hq => by cases hq⟩
          · exact (Res.fail h3).elim
        obtain ⟨_, u, h5, h6⟩ := load_run (c := c) (a := 0) hag hin h4.1 hcell hb4
        exact key (r := .fail) h5 h6 h4.2
      · rename_i ti hag hin
        unfold seg at h3
        simp only at h3
        split at h3
        · rename_i hb5
          unfold one1 at h3
          split at h3
          · rename_i q heq
            have h4 : Res g (loadCs cs off ti.size false .no) q [] := by
              simp only [loadCs, seg, hb5, heq, one1]
              exact ⟨_, rfl, rfl, rfl, fun q hq => by cases hq⟩
            obtain ⟨_, u, h5, h6⟩ := load_run (c := c) (a := 0) hag hin h4 hcell hb4
            exact key (r := .fail) h5 h6 h3
          · exact (Res.fail h3).elim
        · exact (Res.fail h3).elim
      · exact (Res.fail h3).elim
def runv (g : St) (p : Plan) : Option (PV × List Prop) := match run g p with | some o => some (o.pv, o.obs) | none => none
theorem ret_res {P : Program} {n : Nat} {c0 : Cx} {Bor : Nat → Prop} {n0 : Nat} {fn : Func} {l' : L} {r : PV} (h : runv (get l') (resP P fn.results.toList fun ps => .done (resPV ps) []) = some (r, [])) (cx : Cx) (a : Act)
    (hI : Inv ⟨P, n, c0, Bor⟩ (· < n0) cx (get l') a) : ∃ v, (results fn a.tmps).run P cx.w = .ok v cx.w ∧ Rep P cx r v := by
  unfold runv at h
  split at h
  case h_2 => cases h
  rename_i o h0
  simp only [Option.some.injEq, Prod.mk.injEq] at h
  obtain ⟨hr, ho⟩ := h
  obtain ⟨ps, vs, h1, h2, h3⟩ := resP_ok hI (p := r) (wb := o.wb) ⟨o, h0, hr, rfl, fun q hq => by rw [ho] at hq; cases hq⟩
  obtain ⟨rfl, _⟩ := Res.done h3
  have e : (results fn a.tmps).run P cx.w = .ok (if hs : vs.toArray.size = 1 then vs.toArray[0] else .tuple vs.toArray) cx.w := by
    have e0 : results fn a.tmps = (do let vs ← fn.results.mapM (resF a.tmps); pure (if h : vs.size = 1 then vs[0] else .tuple vs)) := rfl
    rw [e0, Array.mapM_eq_mapM_toList]
    simp only [Sem.run_bind, Sem.run_map, h2, Result.andThen_ok]
    rfl
  refine ⟨_, e, ?_⟩
  have hlen : vs.length = ps.length := by simpa using h1.1
  unfold resPV
  split
  · rename_i p
    have h5 : vs.toArray.size = 1 := by simpa using hlen
    rw [dif_pos h5]
    have := h1.2 0 (by simp)
    have h6 : (0 : Nat) < vs.length := by simpa using hlen ▸ Nat.one_pos
    simp [Array.getD_eq_getD_getElem?, h6] at this
    exact rep_cz (by simpa using this)
  · rename_i hne
    have h5 : ¬ vs.toArray.size = 1 := fun e => by
      have : ps.length = 1 := by simp at e; omega
      obtain ⟨q, rfl⟩ := List.length_eq_one_iff.1 this
      exact hne q rfl
    rw [dif_neg h5]
    refine .tup (by simp [hlen]) fun i hi => ?_
    have hi' : i < ps.length := by simpa using hi
    have := rep_cz (h1.2 i hi')
    simpa [List.getD_eq_getElem?_getD, hi'] using this

/-! ### contracts of the kit's kind -/
/-- A callee that is lent nothing, tells its result by plain values, and at most makes blocks. -/
theorem pc_of {P : Program} {f : FuncId} {args : List PV} {r : PV} (hf : FnOk P f) (hr : ∀ w vs, RL P ⟨w, fun b => b < w.heap.size, fun _ => none⟩ args vs → Calls P f vs w fun e w' => ∃ v, e = .returned v ∧ RowKit.Below w.heap.size w w' ∧ ∀ c, Rep P c r v)
    (hargs : ∀ c vs, RL P c args vs → RL P ⟨c.w, fun b => b < c.w.heap.size, fun _ => none⟩ args vs) : PC P f args [] r [] := by
  refine ⟨hf, Nat.le_refl _, fun c vs hh hrl => (hr c.w vs (hargs c vs hrl)).mono ?_⟩
  rintro e w' ⟨v, rfl, hb, hv⟩
  have hbl : ∀ b, b < c.w.heap.size → w'.heap[b]? = c.w.heap[b]? := hb.block
  have hno : ∀ i, ¬ Live (hSt []) i := fun i ⟨T, cs, hx⟩ => by rw [hSt_b] at hx; simp at hx
  have hk : Keep c ⟨w', c.S, c.own⟩ := ⟨fun b hb => ⟨hb, hbl b (hh.sok b hb)⟩, fun _ _ h => h, fun b cs T h => ⟨cs, by rw [hbl b (some_lt h)]; exact h, rfl⟩⟩
  exact ⟨v, ⟨w', c.S, c.own⟩, rfl, rfl, { ids := hh.ids, blk := fun i T cs hx => absurd ⟨T, cs, hx⟩ (hno i), inj := fun i j b T T' l1 => absurd l1 (hno i), apart := fun i b T l1 => absurd l1 (hno i), bnd := fun i b T hx => Nat.lt_of_lt_of_le (hh.bnd i b T hx) hb.size, sok := fun b hS => Nat.lt_of_lt_of_le (hh.sok b hS) hb.size, os := hb.os, tape := hb.tape, output := hb.output, size := hb.size, same := fun b hb' _ => hbl b hb', s0 := fun _ h => h, s1 := fun _ h => .inl h, keep := hk }, hv _⟩

/-! ### small words -/
section
variable {P : Program} {n : Nat} {c0 : Cx} {Bor : Nat → Prop} {Q : Post} {n0 : Nat} {l : L} {rs : List Item}
theorem T_then {t : Nat} {x y : Code} {b : Bool} (hb : get l (ks t) = some (.pv (.av (.bool b)))) (hv : b = true) (h : T P n c0 Bor Q n0 l (.code x :: rs)) : T P n c0 Bor Q n0 l (.code (.cond (.tmp t) x y) :: rs) :=
  T_cond hb (fun _ => h) fun e => by rw [hv] at e; cases e
theorem T_else {t : Nat} {x y : Code} {b : Bool} (hb : get l (ks t) = some (.pv (.av (.bool b)))) (hv : b = false) (h : T P n c0 Bor Q n0 l (.code y :: rs)) : T P n c0 Bor Q n0 l (.code (.cond (.tmp t) x y) :: rs) :=
  T_cond hb (fun e => by rw [hv] at e; cases e) fun _ => h
end
theorem obs_nil : ∀ p ∈ ([] : List Prop), p := fun p hp => by cases hp
theorem obs_cons {p : Prop} {l : List Prop} (h : p) (k : ∀ q ∈ l, q) : ∀ q ∈ p :: l, q := fun q hq => by
  rcases List.mem_cons.1 hq with rfl | hq
  · exact h
  · exact k q hq
theorem Wk.eq {P : Program} {n : Nat} {c0 : Cx} {Bor : Nat → Prop} {n0 : Nat} {l l' : L} (h : l = l') : Wk P n c0 Bor n0 l n0 l' := h ▸ Wk.refl
abbrev iv (n : Int) : PV := .av (.int .i64 n)
abbrev bv (b : Bool) : PV := .av (.bool b)
abbrev sv (s : ByteArray) : PV := .av (.string s)
abbrev ps (s : Nat) (p : PV) : Nat × Option Val := (ks s, some (.pv p))
abbrev pb (i : Nat) (T : TypeId) (cs : List PV) : Nat × Option Val := (kb i, some (.blk T cs))
/-- Numbers, as cells. -/
def ints (l : List Int) : List PV := l.flatMap fun n => [iv n]
theorem flat_len {α : Type} (f : α → List PV) (s : Nat) (hf : ∀ x, (f x).length = s) : ∀ l : List α, (l.flatMap f).length = l.length * s
  | [] => by simp
  | x :: l => by rw [List.flatMap_cons, List.length_append, hf, flat_len f s hf l, List.length_cons, Nat.succ_mul]; omega
theorem flat_at {α : Type} (f : α → List PV) (s : Nat) (hf : ∀ x, (f x).length = s) (d : α) : ∀ (l : List α) (k j m : Nat), k < l.length → j + m ≤ s →
    k * s + j + m ≤ (l.flatMap f).length ∧ ((l.flatMap f).drop (k * s + j)).take m = ((f (l.getD k d)).drop j).take m
  | x :: l, 0, j, m, _, hj => by
    refine ⟨by rw [flat_len f s hf, List.length_cons, Nat.succ_mul]; omega, ?_⟩
    rw [Nat.zero_mul, Nat.zero_add, List.flatMap_cons, List.drop_append_of_le_length (by rw [hf]; omega), List.take_append_of_le_length (by rw [List.length_drop, hf]; omega)]
    rfl
  | x :: l, k + 1, j, m, hk, hj => by
    have hk' : k < l.length := by simpa using hk
    obtain ⟨h1, h2⟩ := flat_at f s hf d l k j m hk' hj
    refine ⟨by rw [List.flatMap_cons, List.length_append, hf, Nat.succ_mul]; omega, ?_⟩
    have e : (k + 1) * s + j = s + (k * s + j) := by rw [Nat.succ_mul]; omega
    rw [List.flatMap_cons, e, ← List.drop_drop, show s = (f x).length from (hf x).symm, List.drop_left, hf x, h2]
    rfl
theorem ints_at {l : List Int} {k : Nat} (h : k < l.length) : k + 1 ≤ (ints l).length ∧ ((ints l).drop k).take 1 = [iv (l.getD k 0)] := by
  have := flat_at (fun n => [iv n]) 1 (fun _ => rfl) 0 l k 0 1 h (by omega)
  simpa [ints] using this
theorem ints_len (l : List Int) : (ints l).length = l.length := by rw [ints, flat_len _ 1 (fun _ => rfl), Nat.mul_one]
end Go.Proofs.Ytccpefbfjahfnaa.Pm
namespace Go.Proofs.Ytccpefbfjahfnaa.Pm
open Go

def flat1 : PV → Option Value
  | .av v => some v
  | _ => none
def flat1s : List PV → Option (List Value)
  | [] => some []
  | p :: l => match flat1 p, flat1s l with | some v, some r => some (v :: r) | _, _ => none
def flat2 : PV → Option Value
  | .agg cs => match flat1s cs with | some l => some (.agg l.toArray) | none => none
  | p => flat1 p
def flat2s : List PV → Option (List Value)
  | [] => some []
  | p :: l => match flat2 p, flat2s l with | some v, some r => some (v :: r) | _, _ => none
def flat3 : PV → Option Value
  | .tup cs => match flat2s cs with | some l => some (.tuple l.toArray) | none => none
  | p => flat2 p
theorem flat1_to {P : Program} {c : Cx} {p : PV} {v u : Value} (h : flat1 p = some u) (hr : Rep P c p v) : v = u := by
  cases p <;> simp [flat1] at h
  subst h
  exact rep_av hr
theorem flat1_of {w : World} {S : Nat → Prop} {p : PV} {u : Value} (h : flat1 p = some u) : SRep w S p u := by
  cases p <;> simp [flat1] at h
  subst h
  exact .av _
theorem flats_to {P : Program} {c : Cx} {f : PV → Option Value} {fs : List PV → Option (List Value)} (h0 : fs [] = some []) (hc : ∀ p l, fs (p :: l) = match f p, fs l with | some v, some r => some (v :: r) | _, _ => none)
    (hf : ∀ p v u, f p = some u → Rep P c p v → v = u) : ∀ {l : List PV} {us : List Value} {vs : Array Value}, fs l = some us → RL P c l vs → vs = us.toArray
  | [], us, vs, h, hr => by
    rw [h0] at h
    cases h
    exact Array.eq_empty_of_size_eq_zero hr.1
  | p :: l, us, vs, h, hr => by
    rw [hc] at h
    split at h
    case h_2 => cases h
    rename_i v r h1 h2
    cases h
    have hs := hr.1
    simp only [List.length_cons] at hs
    have e0 : vs.getD 0 undef = v := hf p _ _ h1 (by simpa using hr.2 0 (by simp))
    have ht : RL P c l (vs.toList.tail).toArray := by
      refine ⟨by simp [hs], fun i hi => ?_⟩
      have := hr.2 (i + 1) (by simp; omega)
      have e : ((vs.toList.tail).toArray).getD i undef = vs.getD (i + 1) undef := by
        simp only [Array.getD_eq_getD_getElem?, List.getElem?_toArray, List.getElem?_tail, Array.getElem?_toList]
      rw [e]
      simpa using this
    have ih := flats_to h0 hc hf h2 ht
    have h3 : vs.toList.tail = r := by simpa using ih
    apply Array.ext'
    cases hv : vs.toList with
    | nil =>
      have : vs.size = 0 := by rw [← Array.length_toList, hv]; rfl
      omega
    | cons a b =>
      rw [hv] at h3
      have : vs.getD 0 undef = a := by
        rw [Array.getD_eq_getD_getElem?, ← Array.getElem?_toList, hv]
        rfl
      rw [← e0, this]
      simpa using h3
theorem flats_of {w : World} {S : Nat → Prop} {f : PV → Option Value} {fs : List PV → Option (List Value)} (h0 : fs [] = some []) (hc : ∀ p l, fs (p :: l) = match f p, fs l with | some v, some r => some (v :: r) | _, _ => none)
    (hf : ∀ p u, f p = some u → SRep w S p u) : ∀ {l : List PV} {us : List Value}, fs l = some us → us.length = l.length ∧ ∀ i, i < l.length → SRep w S (l.getD i P0) (us.getD i undef)
  | [], us, h => by
    rw [h0] at h
    cases h
    exact ⟨rfl, fun i hi => by simp at hi⟩
  | p :: l, us, h => by
    rw [hc] at h
    split at h
    case h_2 => cases h
    rename_i v r h1 h2
    cases h
    obtain ⟨h3, h4⟩ := flats_of h0 hc hf h2
    refine ⟨by simp [h3], fun i hi => ?_⟩
    cases i with
    | zero => exact hf p v h1
    | succ i => simpa using h4 i (by simpa using hi)
theorem arr_getD (us : List Value) (i : Nat) : us.toArray.getD i undef = us.getD i undef := by simp [Array.getD_eq_getD_getElem?, List.getD_eq_getElem?_getD]
theorem flat2_to {P : Program} {c : Cx} {p : PV} {v u : Value} (h : flat2 p = some u) (hr : Rep P c p v) : v = u := by
  unfold flat2 at h
  split at h
  · split at h
    case h_2 => cases h
    rename_i cs l hl
    cases h
    obtain ⟨vs, rfl, h1, h2⟩ := rep_agg hr
    rw [flats_to (f := flat1) (fs := flat1s) rfl (fun _ _ => rfl) (fun _ _ _ h k => flat1_to h k) hl ⟨h1, h2⟩]
  · exact flat1_to h hr
theorem flat2_of {w : World} {S : Nat → Prop} {p : PV} {u : Value} (h : flat2 p = some u) : SRep w S p u := by
  unfold flat2 at h
  split at h
  · split at h
    case h_2 => cases h
    rename_i cs l hl
    cases h
    obtain ⟨h1, h2⟩ := flats_of (w := w) (S := S) (f := flat1) (fs := flat1s) rfl (fun _ _ => rfl) (fun _ _ h => flat1_of h) hl
    exact .agg (by simpa using h1) fun i hi => by rw [arr_getD]; exact h2 i hi
  · exact flat1_of h
theorem flat3_of {w : World} {S : Nat → Prop} {p : PV} {u : Value} (h : flat3 p = some u) : SRep w S p u := by
  unfold flat3 at h
  split at h
  · split at h
    case h_2 => cases h
    rename_i cs l hl
    cases h
    obtain ⟨h1, h2⟩ := flats_of (w := w) (S := S) (f := flat2) (fs := flat2s) rfl (fun _ _ => rfl) (fun _ _ h => flat2_of h) hl
    exact .tup (by simpa using h1) fun i hi => by rw [arr_getD]; exact h2 i hi
  · exact flat2_of h
/-- A contract of the kit's kind: plain values in, plain values out, blocks made at most. -/
theorem pc_flat {P : Program} {f : FuncId} {args : List PV} {r : PV} {us : List Value} {v : Value} (hf : FnOk P f) (ha : flat2s args = some us) (hr : flat3 r = some v)
    (h : ∀ w, Calls P f us.toArray w fun e w' => e = .returned v ∧ RowKit.Below w.heap.size w w') : PC P f args [] r [] := by
  refine pc_of hf (fun w vs hrl => ?_) fun c vs hrl => ?_
  · rw [flats_to (f := flat2) (fs := flat2s) rfl (fun _ _ => rfl) (fun _ _ _ h k => flat2_to h k) ha hrl]
    exact (h w).mono fun e w' ⟨he, hb⟩ => ⟨v, he, hb, fun c => .sh (flat3_of hr)⟩
  · rw [flats_to (f := flat2) (fs := flat2s) rfl (fun _ _ => rfl) (fun _ _ _ h k => flat2_to h k) ha hrl]
    obtain ⟨h1, h2⟩ := flats_of (w := c.w) (S := fun b => b < c.w.heap.size) (f := flat2) (fs := flat2s) rfl (fun _ _ => rfl) (fun _ _ h => flat2_of h) ha
    exact ⟨by simpa using h1, fun i hi => by rw [arr_getD]; exact .sh (h2 i hi)⟩
theorem fn_ok {P : Program} {f : FuncId} {fn : Func} (hf : P.funcs[f]? = some fn) (hb : fn.body.isNone = false) (hn : (fn.name == "runtime.NumGoroutine") = false) : FnOk P f := ⟨fn, hf, hb, hn⟩
theorem flat_app {α : Type} (f : α → List PV) (l m : List α) : (l ++ m).flatMap f = l.flatMap f ++ m.flatMap f := List.flatMap_append
def rkey (σ : Nat → Nat) (k : Nat) : Nat := match Nat.beq (k % 2) 1 with | true => kb (σ (k / 2)) | false => k
def rval (σ : Nat → Nat) : Option Val → Option Val
  | some (.pv p) => some (.pv (ren σ p))
  | some (.blk T cs) => some (.blk T (renL σ cs))
  | none => none
def shapeB (n1 : Nat) (l : L) : Bool := l.all fun x => match x.2 with | some (.blk _ _) => Nat.beq (x.1 % 2) 1 && Nat.blt (x.1 / 2) n1 | some (.pv _) => Nat.beq (x.1 % 2) 0 | none => true
theorem reSt_of {σ : Nat → Nat} {n1 : Nat} {g : St} : ∀ {l : L}, l.map (fun x => g (rkey σ x.1)) = l.map (fun x => rval σ x.2) → shapeB n1 l = true → ∀ p ∈ reSt σ n1 l g, p
  | [], _, _, p, hp => by cases hp
  | x :: l, h, hb, p, hp => by
    simp only [List.map_cons, List.cons.injEq] at h
    simp only [shapeB, List.all_cons, Bool.and_eq_true] at hb
    simp only [reSt, List.map_cons, List.mem_cons] at hp
    rcases hp with rfl | hp
    · obtain ⟨k, v⟩ := x
      cases v with
      | none => trivial
      | some v =>
        cases v with
        | pv p =>
          have h0 : k % 2 = 0 := Nat.eq_of_beq_eq_true hb.1
          have h1 := h.1
          simp only [rkey, rval, h0] at h1
          exact h1
        | blk T cs =>
          have hb1 := hb.1
          simp only [Bool.and_eq_true, Nat.blt_eq] at hb1
          have h0 : k % 2 = 1 := Nat.eq_of_beq_eq_true hb1.1
          have h1 := h.1
          simp only [rkey, rval, h0, Nat.beq_refl] at h1
          exact ⟨h0, hb1.2, h1⟩
    · exact reSt_of h.2 hb.2 p hp
theorem Wk.ren2 {P : Program} {n : Nat} {c0 : Cx} {Bor : Nat → Prop} {n0 : Nat} {l : L} (l' : L) (m : Nat) (hc0 : ∀ i x, c0.own i = some x → i < m) (σl : List Nat) (hσ : σl.take m = List.range m) (hnd : nodupB σl = true) (hb : shapeB σl.length l' = true)
    (h : l'.map (fun x => get l (rkey (sgm n0 σl) x.1)) = l'.map (fun x => rval (sgm n0 σl) x.2)) : Wk P n c0 Bor n0 l σl.length l' := Wk.ren m hc0 σl hσ hnd (reSt_of h hb)
theorem flat_at1 {α : Type} (f : α → List PV) (hf : ∀ x, (f x).length = 1) (d : α) (l : List α) (k : Nat) (h : k < l.length) : k + 1 ≤ (l.flatMap f).length ∧ ((l.flatMap f).drop k).take 1 = f (l.getD k d) := by
  have := flat_at f 1 hf d l k 0 1 h (by omega)
  simp only [Nat.mul_one, Nat.add_zero, List.drop_zero] at this
  refine ⟨this.1, this.2.trans ?_⟩
  rw [← hf (l.getD k d), List.take_length]
theorem ints_shd (l : List Int) : shds (ints l) := fun p hp => by
  obtain ⟨x, _, hx⟩ := List.mem_flatMap.1 hp
  simp only [List.mem_singleton] at hx
  subst hx
  rfl
theorem zeros_ints : ∀ n, zeros [iv 0] n = ints (List.replicate n 0)
  | 0 => rfl
  | n + 1 => by rw [zeros, zeros_ints n, List.replicate_succ]; rfl
theorem ints_splice {l : List Int} {k : Nat} {v : Int} (h : k < l.length) : k + 1 ≤ (ints l).length ∧ splice (ints l) k [iv v] = ints (l.set k v) := by
  refine ⟨by rw [ints_len]; omega, ?_⟩
  unfold splice
  have e : ∀ (l : List Int), ints l = l.map iv := fun l => by
    unfold ints
    induction l with
    | nil => rfl
    | cons a l ih => rw [List.flatMap_cons, ih]; rfl
  rw [e, e, List.set_eq_take_append_cons_drop, if_pos h, List.map_append, List.map_cons, List.map_take, List.map_drop]
  simp
/-- Trailing dead numbers, dropped. -/
theorem pc_trim {P : Program} {f : FuncId} {args : List PV} {r : PV} {v : Value} (H' : Hp) (hr : flat3 r = some v) (hd : ∀ i, H'.getD i none = none) (h : PC P f args [] r H') : PC P f args [] r [] := by
  obtain ⟨h1, _, h2⟩ := h
  refine ⟨h1, Nat.le_refl _, fun c vs hh hrl => (h2 c vs hh hrl).mono ?_⟩
  rintro e w' ⟨u, c', rfl, rfl, h3, h4⟩
  have hno : ∀ (H : Hp), (∀ i, H.getD i none = none) → ∀ i, ¬ Live (hSt H) i := fun H hH i ⟨T, cs, hx⟩ => by rw [hSt_b, hH] at hx; cases hx
  have hno0 := hno [] (fun i => by simp)
  have hown : ∀ i x, c.own i = some x → False := fun i x hx => by have : i < 0 := hh.ids i x hx; omega
  have hk := h3.keep
  refine ⟨u, ⟨c'.w, c'.S, fun _ => none⟩, rfl, rfl, { ids := fun i x hx => (by cases hx), blk := fun i T cs hx => absurd ⟨T, cs, hx⟩ (hno0 i), inj := fun i j b T T' l1 => absurd l1 (hno0 i), apart := fun i b T l1 => absurd l1 (hno0 i), bnd := fun i b T hx => (by cases hx), sok := h3.sok, os := h3.os, tape := h3.tape, output := h3.output, size := h3.size, same := h3.same, s0 := h3.s0, s1 := h3.s1, keep := ⟨hk.S, fun i x hx => (hown i x hx).elim, hk.shape⟩ }, ?_⟩
  have e : u = v := by
    unfold flat3 at hr
    split at hr
    · split at hr
      case h_2 => cases hr
      rename_i cs l hl
      cases hr
      obtain ⟨vs2, rfl, q1, q2⟩ := rep_tup h4
      rw [flats_to (f := flat2) (fs := flat2s) rfl (fun _ _ => rfl) (fun _ _ _ h k => flat2_to h k) hl ⟨q1, q2⟩]
    · exact flat2_to hr h4
  rw [e]
  exact .sh (flat3_of hr)
end Go.Proofs.Ytccpefbfjahfnaa.Pm
namespace Go.Proofs.Ytccpefbfjahfnaa
open Go.RowKit

theorem ret_int {k : IntKind} {a b : Int} (h : a = b) : Ending.returned (.int k a) = .returned (.int k b) := by rw [h]
theorem ret_bool {a b : Bool} (h : a = b) : Ending.returned (.bool a) = .returned (.bool b) := by rw [h]
theorem bcell {W w1 : World} (hb : Below W.heap.size W w1) :
    (∀ b o, b < W.heap.size → w1.cell? ⟨b, o, none⟩ = W.cell? ⟨b, o, none⟩) ∧ (∀ b o, b < W.heap.size → w1.frozen? ⟨b, o, none⟩ = W.frozen? ⟨b, o, none⟩) :=
  ⟨fun b o h => hb.cell (p := ⟨b, o, none⟩) h, fun b o h => hb.frozen (p := ⟨b, o, none⟩) h⟩
theorem below_drewN {B : Nat} {a w : World} (h : Below B a w) (n : Nat) : Below B a (w.drewN n) := ⟨h.os, h.tape, h.output, h.size, h.block⟩
theorem below_then {a w w' : World} (h : Below w.heap.size w w') (k : Below a.heap.size a w) : Below a.heap.size a w' := k.trans (h.mono k.size)
theorem below_new {a w : World} (k : Below a.heap.size a w) (o : Obj) : Below a.heap.size a (w.alloc o) := k.alloc k.size o
theorem size_then {w w' : World} {n : Nat} (h : Below w.heap.size w w') (hn : n ≤ w.heap.size) : n ≤ w'.heap.size := Nat.le_trans hn h.size
theorem cell_then {W w' : World} {a : Addr} {v : Value} (h : W.cell? a = some v) (hb : Below W.heap.size W w') : w'.cell? a = some v :=
  (hb.cell (World.block_lt_of_cell? W _ h)).trans h
/-- A callee that leaves the world alone, met in a quiet region. -/
theorem quiet_left {P : Program} {f : FuncId} {args : Array Value} {w : World} {n : Nat} {v : Value}
    (h : Calls P f args (w.drewN n) fun e w' => e = .returned v ∧ w.drewN n = w') : Calls P f args (w.drewN n) fun e w'' => e = .returned v ∧ ∃ m, w'' = w.drewN m :=
  h.mono fun _ _ ⟨he, hm⟩ => ⟨he, n, hm.symm⟩
theorem quiet_add {P : Program} {f : FuncId} {args : Array Value} {w : World} {a n : Nat} {v : Value}
    (h : Calls P f args (w.drewN (a + n)) fun e w' => e = .returned v ∧ ∃ m, w' = (w.drewN (a + n)).drewN m) :
    Calls P f args (w.drewN (a + n)) fun e w'' => e = .returned v ∧ ∃ m, w'' = w.drewN (a + m) :=
  h.mono fun _ _ ⟨he, m, hm⟩ => ⟨he, n + m, by rw [hm, World.drewN_drewN, Nat.add_assoc]⟩
theorem quiet_add_left {P : Program} {f : FuncId} {args : Array Value} {w : World} {a n : Nat} {v : Value}
    (h : Calls P f args (w.drewN (a + n)) fun e w' => e = .returned v ∧ w.drewN (a + n) = w') :
    Calls P f args (w.drewN (a + n)) fun e w'' => e = .returned v ∧ ∃ m, w'' = w.drewN (a + m) :=
  h.mono fun _ _ ⟨he, hm⟩ => ⟨he, n, hm.symm⟩

end Go.Proofs.Ytccpefbfjahfnaa
namespace Go.Proofs.Ytccpefbfjahfnaa.Gcd

/-- The greatest common divisor, as an integer. -/
def g (a b : Int) : Int := (Int.gcd a b : Int)

theorem g_pos {a b : Int} (h : 0 < b) : 1 ≤ g a b := by
  unfold g
  have : 0 < Int.gcd a b := Int.gcd_pos_of_ne_zero_right a (by omega)
  omega
theorem g_le {a b : Int} (h : 0 < b) : g a b ≤ b := by
  unfold g
  exact Int.le_of_dvd h (Int.gcd_dvd_right a b)
theorem g_dvd_left (a b : Int) : g a b ∣ a := Int.gcd_dvd_left a b
theorem g_dvd_right (a b : Int) : g a b ∣ b := Int.gcd_dvd_right a b
theorem g_zero {a b : Int} (h : b = 0) : g a b = a.natAbs := by subst h; simp [g]
theorem g_tmod (a b : Int) : g b (a.tmod b) = g a b := by
  unfold g
  congr 1
  simp only [Int.gcd, Int.natAbs_tmod]
  rw [Nat.gcd_comm b.natAbs, ← Nat.gcd_rec, Nat.gcd_comm]
theorem g_comm (a b : Int) : g a b = g b a := by unfold g; rw [Int.gcd_comm]
theorem g_neg_left (a b : Int) : g (-a) b = g a b := by unfold g; rw [Int.neg_gcd]
theorem g_abs_left (a b : Int) : g (if a < 0 then -a else a) b = g a b := by split <;> simp [g_neg_left]
theorem g_sub_left (a b : Int) : g (a - b) b = g a b := by unfold g; rw [Int.gcd_sub_self_left]
theorem g_sub_right (a b : Int) : g a (b - a) = g a b := by rw [g_comm, g_sub_left, g_comm]
theorem g_self {a : Int} (h : 0 ≤ a) : g a a = a := by unfold g; simp; omega
theorem g_two (a b : Int) : g (2 * a) (2 * b) = 2 * g a b := by unfold g; rw [Int.gcd_mul_left]; simp
theorem g_even_even {a b : Int} (ha : a % 2 = 0) (hb : b % 2 = 0) : 2 * g (a / 2) (b / 2) = g a b := by
  rw [← g_two, Int.mul_ediv_cancel' (by omega), Int.mul_ediv_cancel' (by omega)]
theorem g_even_odd {a b : Int} (ha : a % 2 = 0) (hb : b % 2 ≠ 0) : g (a / 2) b = g a b := by
  have h1 : a = 2 * (a / 2) := by omega
  have h2 : Nat.Coprime b.natAbs 2 := by
    have : b.natAbs % 2 = 1 := by omega
    rw [Nat.coprime_iff_gcd_eq_one, Nat.gcd_comm, Nat.gcd_rec, this, Nat.gcd_one_left]
  unfold g
  congr 1
  conv => rhs; rw [h1]
  simp only [Int.gcd, Int.natAbs_mul]
  rw [show (2 : Int).natAbs = 2 from rfl]
  exact (Nat.Coprime.gcd_mul_left_cancel _ h2.symm).symm
theorem g_odd_even {a b : Int} (ha : a % 2 ≠ 0) (hb : b % 2 = 0) : g a (b / 2) = g a b := by
  rw [g_comm, g_even_odd hb ha, g_comm]

/-- One loop's relation of the binary way: the pairs are halved together. -/
def twin (a b : Int) (t : Nat) (G : Int) : Prop := 0 < a ∧ 0 < b ∧ 2 ^ t * g a b = G
theorem twin_half {a b : Int} {t : Nat} {G : Int} (h : twin a b t G) (ha : a % 2 = 0) (hb : b % 2 = 0) : twin (a / 2) (b / 2) (t + 1) G :=
  ⟨by have := h.1; omega, by have := h.2.1; omega, by
    have := h.2.2
    rw [← g_even_even ha hb, ← Int.mul_assoc] at this
    rw [Int.pow_succ]; exact this⟩
theorem g_one_le_pow (t : Nat) : (1 : Int) ≤ 2 ^ t := by
  have h : 1 ≤ 2 ^ t := Nat.one_le_two_pow
  calc (1 : Int) ≤ ((2 ^ t : Nat) : Int) := by omega
    _ = 2 ^ t := by simp
theorem twin_k {a b : Int} {t : Nat} {G : Int} (h : twin a b t G) : (t : Int) < G ∧ g a b ≤ G := by
  obtain ⟨h1, h2, h3⟩ := h
  have hg := g_pos (a := a) h2
  have h4 : t < 2 ^ t := Nat.lt_two_pow_self
  have h5 : (t : Int) < 2 ^ t := by
    have : ((t : Nat) : Int) < ((2 ^ t : Nat) : Int) := by omega
    simpa using this
  have h6 : (2 : Int) ^ t * 1 ≤ 2 ^ t * g a b := Int.mul_le_mul_of_nonneg_left hg (by omega)
  have h7 : (1 : Int) * g a b ≤ 2 ^ t * g a b := Int.mul_le_mul_of_nonneg_right (by omega) (by omega)
  omega

/-- The second loop's: pairs that are not both even. -/
def single (G : Int) (x y : Int) : Prop := 0 < x ∧ 0 < y ∧ g x y = G ∧ ¬ (x % 2 = 0 ∧ y % 2 = 0)
theorem single_left {G x y : Int} (h : single G x y) (hx : x % 2 = 0) : single G (x / 2) y := by
  obtain ⟨h1, h2, h3, h4⟩ := h
  exact ⟨by omega, h2, by rw [g_even_odd hx (by omega)]; exact h3, by omega⟩
theorem single_right {G x y : Int} (h : single G x y) (hx : x % 2 ≠ 0) (hy : y % 2 = 0) : single G x (y / 2) := by
  obtain ⟨h1, h2, h3, h4⟩ := h
  exact ⟨h1, by omega, by rw [g_odd_even hx hy]; exact h3, by omega⟩
theorem single_less {G x y : Int} (h : single G x y) (_hx : x % 2 ≠ 0) (_hy : y % 2 ≠ 0) (hl : y < x) : single G (x - y) y := by
  obtain ⟨h1, h2, h3, h4⟩ := h
  exact ⟨by omega, h2, by rw [g_sub_left]; exact h3, by omega⟩
theorem single_more {G x y : Int} (h : single G x y) (_hx : x % 2 ≠ 0) (_hy : y % 2 ≠ 0) (hl : x < y) : single G x (y - x) := by
  obtain ⟨h1, h2, h3, h4⟩ := h
  exact ⟨h1, by omega, by rw [g_sub_right]; exact h3, by omega⟩
theorem single_end {G x : Int} (h : single G x x) : x = G := by
  obtain ⟨h1, h2, h3, h4⟩ := h
  rw [← h3, g_self (by omega)]

/-- The third loop's: what is doubled. -/
def doubled (G : Int) (x : Int) (t : Nat) : Prop := 0 < x ∧ 2 ^ t * x = G
theorem doubled_le {G x : Int} {t : Nat} (h : doubled G x t) : x ≤ G ∧ (0 < t → 2 * x ≤ G) := by
  obtain ⟨h1, h2⟩ := h
  have h6 : (1 : Int) * x ≤ 2 ^ t * x := Int.mul_le_mul_of_nonneg_right (g_one_le_pow t) (by omega)
  refine ⟨by omega, fun ht => ?_⟩
  obtain ⟨s, rfl⟩ : ∃ s, t = s + 1 := ⟨t - 1, by omega⟩
  have h7 : (1 : Int) * (2 * x) ≤ 2 ^ s * (2 * x) := Int.mul_le_mul_of_nonneg_right (g_one_le_pow s) (by omega)
  rw [Int.pow_succ, Int.mul_assoc] at h2
  omega
theorem doubled_step {G x : Int} {t : Nat} (h : doubled G x (t + 1)) : doubled G (2 * x) t := by
  obtain ⟨h1, h2⟩ := h
  exact ⟨by omega, by rw [Int.pow_succ, Int.mul_assoc] at h2; exact h2⟩
theorem doubled_end {G x : Int} (h : doubled G x 0) : x = G := by
  obtain ⟨h1, h2⟩ := h
  simpa using h2
theorem doubled_of {a b : Int} {t : Nat} {G x : Int} (h : twin a b t G) (hx : x = g a b) : doubled G x t := by
  have := g_pos (a := a) h.2.1
  exact ⟨by omega, by rw [hx]; exact h.2.2⟩

/-- What the loop of Euclid keeps. -/
def euclid (G : Int) (x y : Int) : Prop :=
  -9223372036854775807 ≤ y ∧ y ≤ 9223372036854775807 ∧ -9223372036854775808 ≤ x ∧ x ≤ 9223372036854775807 ∧ g x y = G ∧ (y = 0 → -9223372036854775808 < x)
theorem tmod_abs (x y : Int) (hy : y ≠ 0) : (x.tmod y).natAbs < y.natAbs := by
  rw [Int.natAbs_tmod]; exact Nat.mod_lt _ (by omega)
theorem euclid_step {G x y : Int} (h : euclid G x y) (hy : y ≠ 0) : euclid G y (x.tmod y) := by
  obtain ⟨h1, h2, h3, h4, h5, h6⟩ := h
  have := tmod_abs x y hy
  exact ⟨by omega, by omega, by omega, by omega, by rw [g_tmod]; exact h5, by omega⟩
theorem euclid_end {G x y : Int} (h : euclid G x y) (hy : y = 0) : max x (-x) = G ∧ -9223372036854775808 < x := by
  obtain ⟨h1, h2, h3, h4, h5, h6⟩ := h
  rw [g_zero hy] at h5
  exact ⟨by omega, h6 hy⟩

end Go.Proofs.Ytccpefbfjahfnaa.Gcd
namespace Go.Proofs.Ytccpefbfjahfnaa.Gcd
open Go.RowKit

set_option maxHeartbeats 400000 in
theorem gcd_any (a b : Int) (w : World) (hb : 0 < b) (hb' : b ≤ 9223372036854775807) (ha : -9223372036854775808 ≤ a) (ha' : a ≤ 9223372036854775807) :
    Calls Try.prog 32 #[.int .i64 a, .int .i64 b] w fun e w' => e = .returned (.int .i64 (g a b)) ∧ ∃ n, w' = w.drewN n := by
  go_enter Try.func32, Try.ntmps32
  go_wp2
  go_loopw [0, 1] (fun x y wr => ∃ p q : Int, x = .int .i64 p ∧ y = .int .i64 q ∧ euclid (g a b) p q ∧ ∃ n, wr = w.drewN n) (fun _ y _ => (intOf y).natAbs)
  case atStart => exact ⟨a, b, rfl, rfl, ⟨by omega, hb', ha, ha', rfl, by omega⟩, 0, rfl⟩
  case round =>
    obtain ⟨p, q, rfl, rfl, hE, n, rfl⟩ := hrel
    obtain ⟨e1, e2, e3, e4, e5, e6⟩ := id hE
    have HE := Lib.hid hE
    clear hE e5 e6
    by_cases hq : q = 0
    · have hend := euclid_end HE.out hq
      have h1 := hend.2
      have HM := Lib.hid hend.1
      clear hend
      go_wp2
      all_goals
        go_ret
        exact ⟨ret_int (by rw [← HM.out]; omega), n, rfl⟩
    · have HS := Lib.hid (euclid_step HE.out hq)
      have ht := tmod_abs p q hq
      go_wp2
      go_quiet (fail)
      go_wp2
      go_roundw
      case rel => exact ⟨q, p.tmod q, rfl, rfl, HS.out, n + nq, by simp⟩
      case measure => exact ht

theorem small_any (n : Int) (w : World) :
    Calls Try.prog 33 #[.int .i64 n] w fun e w' => e = .returned (.bool (decide (-1073741824 ≤ n ∧ n ≤ 1073741824))) ∧ w = w' := by
  by_cases h : -1073741824 ≤ n
  · go_enter Try.func33, Try.ntmps33
    go_wp2
    go_ret
    exact ⟨ret_bool (by simp [h]), rfl⟩
  · go_enter Try.func33, Try.ntmps33
    go_wp2
    go_ret
    exact ⟨ret_bool (by simp; omega), rfl⟩

theorem abs_any (n : Int) (w : World) (h1 : -9223372036854775808 < n) (h2 : n ≤ 9223372036854775807) :
    Calls Try.prog 36 #[.int .i64 n] w fun e w' => e = .returned (.int .i64 (n.natAbs : Int)) ∧ w = w' := by
  go_enter Try.func36, Try.ntmps36
  go_wp2
  all_goals
    go_ret
    exact ⟨ret_int (by omega), rfl⟩


set_option maxHeartbeats 1000000 in
theorem divisor_any (a b : Int) (w : World) (ha : 0 ≤ a) (ha' : a ≤ 9223372036854775807) (hb : 0 < b) (hb' : b ≤ 9223372036854775807) :
    Calls Try.prog 35 #[.int .i64 a, .int .i64 b] w fun e w' => e = .returned (.int .i64 (g a b)) ∧ w = w' := by
  by_cases h0 : a = 0
  · have HG := Lib.hid (show g a b = b by rw [g_comm, g_zero h0]; omega)
    go_enter Try.func35, Try.ntmps35
    go_wp2
    go_ret
    exact ⟨ret_int (HG.out.symm), rfl⟩
  · go_enter Try.func35, Try.ntmps35
    go_wp2
    go_loop [0, 1, 5] (fun x y t => ∃ (p q : Int) (k : Nat), x = .int .i64 p ∧ y = .int .i64 q ∧ t = .int .i64 k ∧ p ≤ a ∧ q ≤ b ∧ twin p q k (g a b)) (fun x _ _ => (intOf x).toNat)
    case atStart => exact ⟨a, b, 0, rfl, rfl, rfl, by omega, by omega, by omega, by omega, by simp⟩
    case round =>
      obtain ⟨p, q, k, rfl, rfl, rfl, hp, hq, hT⟩ := hrel
      have hp0 := hT.1
      have hq0 := hT.2.1
      have hk := twin_k hT
      have hG := g_le (a := a) hb
      have HT := Lib.hid hT
      clear hT
      by_cases h2 : p % 2 = 0 ∧ q % 2 = 0
      · obtain ⟨h3, h4⟩ := h2
        have HS := Lib.hid (twin_half HT.out h3 h4)
        go_wp2
        go_round
        case rel => exact ⟨p / 2, q / 2, k + 1, rfl, rfl, by go_num, by omega, by omega, HS.out⟩
        case measure => (simp [intOf] <;> omega)
      · have HS := Lib.hid (show single (g p q) p q from ⟨hp0, hq0, rfl, h2⟩)
        have hb3 : p % 2 = 0 → q % 2 ≠ 0 := by omega
        clear h2
        by_cases h3 : p % 2 = 0
        all_goals
          go_wp2
          go_loop [0, 1] (fun x y => ∃ (r s : Int), x = .int .i64 r ∧ y = .int .i64 s ∧ r ≤ 9223372036854775807 ∧ s ≤ 9223372036854775807 ∧ single (g p q) r s) (fun x y => (intOf x + intOf y).toNat)
          case atStart => exact ⟨p, q, rfl, rfl, by omega, by omega, HS.out⟩
          case round =>
            clear h3 hb3
            obtain ⟨r, s, rfl, rfl, hr, hs, hI⟩ := hrel
            have hr0 := hI.1
            have hs0 := hI.2.1
            have HI := Lib.hid hI
            clear hI
            by_cases he : r = s
            · subst he
              have HD := Lib.hid (doubled_of HT.out (single_end HI.out))
              go_wp2
              go_loop [0, 5] (fun x t => ∃ (u : Int) (m : Nat), x = .int .i64 u ∧ t = .int .i64 m ∧ m ≤ k ∧ doubled (g a b) u m) (fun _ t => (intOf t).toNat)
              case atStart => exact ⟨r, k, rfl, rfl, Nat.le_refl _, HD.out⟩
              case round =>
                obtain ⟨u, m, rfl, rfl, hm, hdd⟩ := hrel
                have hu := doubled_le hdd
                have hu0 := hdd.1
                have HDD := Lib.hid hdd
                clear hdd
                rcases m with _ | m
                · go_wp2
                  go_ret
                  exact ⟨ret_int (doubled_end HDD.out), rfl⟩
                · have hu2 := hu.2 (by omega)
                  go_wp2
                  go_round
                  case rel => exact ⟨2 * u, m, rfl, by go_num, by omega, doubled_step HDD.out⟩
                  case measure => (simp [intOf] <;> omega)
            · by_cases k1 : r % 2 = 0
              · go_wp2
                go_round
                case rel => exact ⟨r / 2, s, rfl, rfl, by omega, by omega, single_left HI.out k1⟩
                case measure => (simp [intOf] <;> omega)
              · by_cases k2 : s % 2 = 0
                · go_wp2
                  go_round
                  case rel => exact ⟨r, s / 2, rfl, rfl, by omega, by omega, single_right HI.out k1 k2⟩
                  case measure => (simp [intOf] <;> omega)
                · by_cases k3 : s < r
                  · go_wp2
                    go_round
                    case rel => exact ⟨r - s, s, rfl, rfl, by omega, by omega, single_less HI.out k1 k2 k3⟩
                    case measure => (simp [intOf] <;> omega)
                  · go_wp2
                    go_round
                    case rel => exact ⟨r, s - r, rfl, rfl, by omega, by omega, single_more HI.out k1 k2 (by omega)⟩
                    case measure => (simp [intOf] <;> omega)

end Go.Proofs.Ytccpefbfjahfnaa.Gcd
namespace Go.Proofs.Ytccpefbfjahfnaa.Fr
open Gcd

/-- A part of a fraction isn't large. -/
def smallB (n : Int) : Bool := decide (-1073741824 ≤ n ∧ n ≤ 1073741824)
/-- Written as it must be. -/
def rightB (u d : Int) : Bool := decide (0 < d ∧ d ≤ 1073741824 ∧ -1073741824 ≤ u ∧ u ≤ 1073741824 ∧ g u d = 1)
theorem rightB_iff {u d : Int} : rightB u d = true ↔ 0 < d ∧ d ≤ 1073741824 ∧ -1073741824 ≤ u ∧ u ≤ 1073741824 ∧ g u d = 1 := by simp [rightB]
theorem smallB_iff {u : Int} : smallB u = true ↔ -1073741824 ≤ u ∧ u ≤ 1073741824 := by simp [smallB]
/-- up, down, what is wrong. -/
def make (u d : Int) : Int × Int × Int :=
  if d < 1 then (0, 0, 3) else if smallB (u / g u d) && smallB (d / g u d) then (u / g u d, d / g u d, 0) else (0, 0, 4)
def plus (a b c d : Int) : Int × Int × Int := if rightB a b && rightB c d then make (a * d + c * b) (b * d) else (0, 0, 2)
def minus (a b c d : Int) : Int × Int × Int := if rightB a b && rightB c d then make (a * d - c * b) (b * d) else (0, 0, 2)
def times (a b c d : Int) : Int × Int × Int := if rightB a b && rightB c d then make (a * c) (b * d) else (0, 0, 2)
def over (a b c d : Int) : Int × Int × Int := if rightB a b && rightB c d then (if c < 0 then make (-a * d) (-b * c) else make (a * d) (b * c)) else (0, 0, 2)
def signI (n : Int) : Int := if n < 0 then -1 else if 0 < n then 1 else 0
def order (a b c d : Int) : Int × Int := if rightB a b && rightB c d then (signI (a * d - c * b), 0) else (0, 2)
def floor (a b : Int) : Int × Int := if rightB a b then (a / b, 0) else (0, 2)

theorem mul_cancel {x y z : Int} (hz : 0 < z) (h : x * z = y * z) : x = y := Int.eq_of_mul_eq_mul_right (by omega) h

theorem dvd_of {p q q' p' : Int} (h1 : g p q = 1) (h : p * q' = p' * q) : q ∣ q' := by
  have hc : Nat.Coprime q.natAbs p.natAbs := by
    have : Int.gcd p q = 1 := by unfold g at h1; omega
    rw [Nat.coprime_iff_gcd_eq_one, Nat.gcd_comm]; exact this
  have hd : q.natAbs ∣ p.natAbs * q'.natAbs := by
    rw [← Int.natAbs_mul, h, Int.natAbs_mul]; exact Nat.dvd_mul_left _ _
  exact Int.natAbs_dvd_natAbs.1 (hc.dvd_of_dvd_mul_left hd)

/-- Lowest terms are one. -/
theorem lowest {p q p' q' : Int} (hq : 0 < q) (hq' : 0 < q') (h1 : g p q = 1) (h2 : g p' q' = 1) (h : p * q' = p' * q) : p = p' ∧ q = q' := by
  have e : q = q' := Int.dvd_antisymm (by omega) (by omega) (dvd_of h1 h) (dvd_of h2 h.symm)
  subst e
  exact ⟨mul_cancel hq h, rfl⟩

/-- A fraction brought down to its lowest terms. -/
theorem down {u d : Int} (hd : 1 ≤ d) : 0 < d / g u d ∧ g (u / g u d) (d / g u d) = 1 ∧ u * (d / g u d) = u / g u d * d := by
  have hp := g_pos (a := u) (b := d) (by omega)
  have h1 := Int.ediv_mul_cancel (g_dvd_left u d)
  have h2 := Int.ediv_mul_cancel (g_dvd_right u d)
  have hpos : 0 < d / g u d := Int.ediv_pos_of_pos_of_dvd (by omega) (by omega) (g_dvd_right u d)
  refine ⟨hpos, ?_, ?_⟩
  · have := Int.gcd_ediv_gcd_ediv_gcd (i := u) (j := d) (by unfold g at hp; omega)
    unfold g
    omega
  · generalize hG : g u d = G at *
    generalize u / G = a at *
    generalize d / G = b at *
    grind

/-- What comes out is right, and as much. -/
theorem make_ok {u d p q : Int} (h : make u d = (p, q, 0)) : 1 ≤ d ∧ rightB p q = true ∧ u * q = p * d := by
  unfold make at h
  split at h
  · simp at h
  · rename_i hd
    have hd' : 1 ≤ d := by omega
    obtain ⟨k1, k2, k3⟩ := down (u := u) hd'
    split at h
    · rename_i hs
      simp only [Bool.and_eq_true, smallB_iff] at hs
      simp only [Prod.mk.injEq, and_true] at h
      obtain ⟨rfl, rfl⟩ := h
      exact ⟨hd', rightB_iff.2 ⟨k1, hs.2.2, hs.1.1, hs.1.2, k2⟩, k3⟩
    · simp at h

/-- And what is right comes out. -/
theorem make_of {u d p q : Int} (hd : 1 ≤ d) (hr : rightB p q = true) (h : u * q = p * d) : make u d = (p, q, 0) := by
  obtain ⟨k1, k2, k3⟩ := down (u := u) hd
  obtain ⟨r1, r2, r3, r4, r5⟩ := rightB_iff.1 hr
  have e : u / g u d = p ∧ d / g u d = q := by
    refine lowest k1 r1 k2 r5 (mul_cancel (z := d) (by omega) ?_)
    generalize d / g u d = b at *
    generalize u / g u d = a at *
    grind
  unfold make
  rw [e.1, e.2, if_neg (by omega), if_pos]
  simp [smallB_iff]; omega

/-- As much comes out alike. -/
theorem make_congr {u d u' d' : Int} (hd : 1 ≤ d) (hd' : 1 ≤ d') (h : u * d' = u' * d) : make u d = make u' d' := by
  obtain ⟨k1, k2, k3⟩ := down (u := u) hd
  obtain ⟨l1, l2, l3⟩ := down (u := u') hd'
  have e : u / g u d = u' / g u' d' ∧ d / g u d = d' / g u' d' := by
    refine lowest k1 l1 k2 l2 (mul_cancel (z := d * d') (Int.mul_pos (by omega) (by omega)) ?_)
    generalize d / g u d = b at *
    generalize u / g u d = a at *
    generalize d' / g u' d' = b' at *
    generalize u' / g u' d' = a' at *
    grind
  unfold make
  rw [e.1, e.2, if_neg (show ¬ d < 1 by omega), if_neg (show ¬ d' < 1 by omega)]

theorem make_err {u d p q e : Int} (h : make u d = (p, q, e)) (he : e ≠ 0) : p = 0 ∧ q = 0 := by
  unfold make at h
  split at h
  · simp at h; omega
  · split at h <;> simp at h <;> omega
theorem make_range (u d : Int) : (-1073741824 ≤ (make u d).1 ∧ (make u d).1 ≤ 1073741824) ∧ (-1073741824 ≤ (make u d).2.1 ∧ (make u d).2.1 ≤ 1073741824) ∧ (0 ≤ (make u d).2.2 ∧ (make u d).2.2 ≤ 4) := by
  unfold make
  split
  · simp
  · split
    · rename_i h
      simp only [Bool.and_eq_true, smallB_iff] at h
      simp only
      omega
    · simp

theorem plus_comm (a b c d : Int) : plus a b c d = plus c d a b := by
  unfold plus
  rw [Bool.and_comm, Int.add_comm, Int.mul_comm b d]
theorem times_comm (a b c d : Int) : times a b c d = times c d a b := by
  unfold times
  rw [Bool.and_comm, Int.mul_comm a, Int.mul_comm b d]

theorem plus_ok {a b c d p q : Int} (h : plus a b c d = (p, q, 0)) : rightB a b = true ∧ rightB c d = true ∧ rightB p q = true ∧ (a * d + c * b) * q = p * (b * d) := by
  unfold plus at h
  split at h
  · rename_i hr
    simp only [Bool.and_eq_true] at hr
    have := make_ok h
    exact ⟨hr.1, hr.2, this.2.1, this.2.2⟩
  · simp at h
theorem minus_ok {a b c d p q : Int} (h : minus a b c d = (p, q, 0)) : rightB a b = true ∧ rightB c d = true ∧ rightB p q = true ∧ (a * d - c * b) * q = p * (b * d) := by
  unfold minus at h
  split at h
  · rename_i hr
    simp only [Bool.and_eq_true] at hr
    have := make_ok h
    exact ⟨hr.1, hr.2, this.2.1, this.2.2⟩
  · simp at h
theorem times_ok {a b c d p q : Int} (h : times a b c d = (p, q, 0)) : rightB a b = true ∧ rightB c d = true ∧ rightB p q = true ∧ (a * c) * q = p * (b * d) := by
  unfold times at h
  split at h
  · rename_i hr
    simp only [Bool.and_eq_true] at hr
    have := make_ok h
    exact ⟨hr.1, hr.2, this.2.1, this.2.2⟩
  · simp at h
theorem over_ok {a b c d p q : Int} (h : over a b c d = (p, q, 0)) : rightB a b = true ∧ rightB c d = true ∧ rightB p q = true ∧ (a * d) * q = p * (b * c) := by
  unfold over at h
  split at h
  · rename_i hr
    simp only [Bool.and_eq_true] at hr
    split at h
    · have := make_ok h
      exact ⟨hr.1, hr.2, this.2.1, by have := this.2.2; grind⟩
    · have := make_ok h
      exact ⟨hr.1, hr.2, this.2.1, this.2.2⟩
  · simp at h
theorem plus_of {a b c d : Int} (h1 : rightB a b = true) (h2 : rightB c d = true) : plus a b c d = make (a * d + c * b) (b * d) := by simp [plus, h1, h2]
theorem times_of {a b c d : Int} (h1 : rightB a b = true) (h2 : rightB c d = true) : times a b c d = make (a * c) (b * d) := by simp [times, h1, h2]

theorem pos_of {a b : Int} (h : rightB a b = true) : 1 ≤ b := by have := (rightB_iff.1 h).1; omega
theorem mul_one_le {a b : Int} (h : 1 ≤ a) (k : 1 ≤ b) : 1 ≤ a * b := by have := Int.mul_pos (a := a) (b := b) (by omega) (by omega); omega

theorem plus_assoc {a b c d e f p q r s : Int} (h1 : plus a b c d = (p, q, 0)) (h2 : plus c d e f = (r, s, 0)) : plus p q e f = plus a b r s := by
  obtain ⟨x1, x2, x3, x4⟩ := plus_ok h1
  obtain ⟨y1, y2, y3, y4⟩ := plus_ok h2
  rw [plus_of x3 y2, plus_of x1 y3]
  have p1 := pos_of x1; have p2 := pos_of x2; have p3 := pos_of y2; have p4 := pos_of x3; have p5 := pos_of y3
  refine make_congr (mul_one_le p4 p3) (mul_one_le p1 p5) (mul_cancel (z := d) (by omega) ?_)
  grind
theorem times_assoc {a b c d e f p q r s : Int} (h1 : times a b c d = (p, q, 0)) (h2 : times c d e f = (r, s, 0)) : times p q e f = times a b r s := by
  obtain ⟨x1, x2, x3, x4⟩ := times_ok h1
  obtain ⟨y1, y2, y3, y4⟩ := times_ok h2
  rw [times_of x3 y2, times_of x1 y3]
  have p1 := pos_of x1; have p2 := pos_of x2; have p3 := pos_of y2; have p4 := pos_of x3; have p5 := pos_of y3
  refine make_congr (mul_one_le p4 p3) (mul_one_le p1 p5) (mul_cancel (z := d) (by omega) ?_)
  grind
theorem times_plus {a b c d e f p q r s u v : Int} (h1 : plus c d e f = (p, q, 0)) (h2 : times a b c d = (r, s, 0)) (h3 : times a b e f = (u, v, 0)) :
    times a b p q = plus r s u v := by
  obtain ⟨x1, x2, x3, x4⟩ := plus_ok h1
  obtain ⟨y1, y2, y3, y4⟩ := times_ok h2
  obtain ⟨z1, z2, z3, z4⟩ := times_ok h3
  rw [times_of y1 x3, plus_of y3 z3]
  have p1 := pos_of y1; have p2 := pos_of x1; have p3 := pos_of x2; have p4 := pos_of x3; have p5 := pos_of y3; have p6 := pos_of z3
  refine make_congr (mul_one_le p1 p4) (mul_one_le p5 p6) (mul_cancel (z := b * d * f) (Int.mul_pos (Int.mul_pos (by omega) (by omega)) (by omega)) ?_)
  grind
theorem over_back {a b c d p q : Int} (h : over a b c d = (p, q, 0)) : times p q c d = (a, b, 0) := by
  obtain ⟨x1, x2, x3, x4⟩ := over_ok h
  rw [times_of x3 x2]
  exact make_of (mul_one_le (pos_of x3) (pos_of x2)) x1 (by grind)
theorem minus_back {a b c d p q : Int} (h : minus a b c d = (p, q, 0)) : plus p q c d = (a, b, 0) := by
  obtain ⟨x1, x2, x3, x4⟩ := minus_ok h
  rw [plus_of x3 x2]
  have p2 := pos_of x2
  refine make_of (mul_one_le (pos_of x3) (pos_of x2)) x1 (mul_cancel (z := d) (by omega) ?_)
  grind

/-! The floor and the order. -/
theorem signI_lt {n : Int} (h : n < 0) : signI n = -1 := by unfold signI; rw [if_pos h]
theorem signI_gt {n : Int} (h : 0 < n) : signI n = 1 := by unfold signI; rw [if_neg (by omega), if_pos h]
theorem signI_eq {n : Int} (h : n = 0) : signI n = 0 := by subst h; rfl
theorem tmod_neg {a b : Int} (hb : 1 ≤ b) (h : a.tmod b < 0) : a.tdiv b - 1 = a / b := by
  have h1 := Int.tdiv_eq_ediv (a := a) (b := b)
  have h2 := Int.tmod_eq_emod (a := a) (b := b)
  have h3 := Int.emod_nonneg a (show b ≠ 0 by omega)
  have h4 : b.sign = 1 := Int.sign_eq_one_of_pos (by omega)
  split at h1
  · rename_i c; rw [if_pos c] at h2; omega
  · omega
theorem tmod_nonneg {a b : Int} (hb : 1 ≤ b) (h : 0 ≤ a.tmod b) : a.tdiv b = a / b := by
  have h1 := Int.tdiv_eq_ediv (a := a) (b := b)
  have h2 := Int.tmod_eq_emod (a := a) (b := b)
  have h3 := Int.emod_lt_of_pos a (show 0 < b by omega)
  split at h1
  · omega
  · rename_i c; rw [if_neg c] at h2; omega
theorem signI_neg (n : Int) : signI (-n) = -signI n := by unfold signI; grind
theorem signI_range (n : Int) : -1 ≤ signI n ∧ signI n ≤ 1 := by unfold signI; grind
theorem signI_zero {n : Int} : signI n = 0 ↔ n = 0 := by unfold signI; grind
theorem signI_mul {n k : Int} (hk : 0 < k) : signI (n * k) = signI n := by
  unfold signI
  rcases Int.lt_trichotomy n 0 with h | h | h
  · have := Int.mul_neg_of_neg_of_pos h hk; grind
  · subst h; simp
  · have := Int.mul_pos h hk; grind
theorem order_of {a b c d : Int} (h1 : rightB a b = true) (h2 : rightB c d = true) : order a b c d = (signI (a * d - c * b), 0) := by simp [order, h1, h2]
theorem order_ok {a b c d o : Int} (h : order a b c d = (o, 0)) : rightB a b = true ∧ rightB c d = true ∧ o = signI (a * d - c * b) := by
  unfold order at h
  split at h
  · rename_i hr
    simp only [Bool.and_eq_true] at hr
    simp at h
    exact ⟨hr.1, hr.2, h.symm⟩
  · simp at h
theorem order_flip (a b c d : Int) : order c d a b = (-(order a b c d).1, (order a b c d).2) := by
  unfold order
  rw [Bool.and_comm]
  split
  · rw [← signI_neg]; simp; congr 1; omega
  · simp
theorem order_zero {a b c d : Int} (h : order a b c d = (0, 0)) : a = c ∧ b = d := by
  obtain ⟨h1, h2, h3⟩ := order_ok h
  have h4 := signI_zero.1 h3.symm
  obtain ⟨r1, r2, r3, r4, r5⟩ := rightB_iff.1 h1
  obtain ⟨s1, s2, s3, s4, s5⟩ := rightB_iff.1 h2
  exact lowest r1 s1 r5 s5 (by omega)
theorem order_self {a b : Int} (h : rightB a b = true) : order a b a b = (0, 0) := by simp [order, h, signI]
theorem order_plus {a b c d e f p q r s o : Int} (h : order a b c d = (o, 0)) (h1 : plus a b e f = (p, q, 0)) (h2 : plus c d e f = (r, s, 0)) : order p q r s = (o, 0) := by
  obtain ⟨k1, k2, rfl⟩ := order_ok h
  obtain ⟨x1, x2, x3, x4⟩ := plus_ok h1
  obtain ⟨y1, y2, y3, y4⟩ := plus_ok h2
  rw [order_of x3 y3]
  have p1 := pos_of x1; have p2 := pos_of x2; have p3 := pos_of y1; have p4 := pos_of x3; have p5 := pos_of y3
  have hA : 0 < b * f * (d * f) := Int.mul_pos (Int.mul_pos (by omega) (by omega)) (Int.mul_pos (by omega) (by omega))
  have hB : 0 < q * s * (f * f) := Int.mul_pos (Int.mul_pos (by omega) (by omega)) (Int.mul_pos (by omega) (by omega))
  rw [← signI_mul (n := p * s - r * q) hA, ← signI_mul (n := a * d - c * b) hB]
  have : (p * s - r * q) * (b * f * (d * f)) = (a * d - c * b) * (q * s * (f * f)) := by grind
  rw [this]
theorem one_right {n : Int} (h1 : -1073741824 ≤ n) (h2 : n ≤ 1073741824) : rightB n 1 = true := rightB_iff.2 ⟨by omega, by omega, h1, h2, by simp [g]⟩
theorem floor_range {a b : Int} (h : rightB a b = true) : -1073741824 ≤ a / b ∧ a / b ≤ 1073741824 := by
  obtain ⟨r1, r2, r3, r4, r5⟩ := rightB_iff.1 h
  constructor
  · rw [Int.le_ediv_iff_mul_le r1]; omega
  · refine Int.le_trans (Int.ediv_le_ediv r1 r4) (Int.ediv_le_self _ (by omega))
theorem floor_le {a b : Int} (h : rightB a b = true) : ∃ o, order (a / b) 1 a b = (o, 0) ∧ o ≤ 0 := by
  obtain ⟨f1, f2⟩ := floor_range h
  obtain ⟨r1, r2, r3, r4, r5⟩ := rightB_iff.1 h
  refine ⟨_, order_of (one_right f1 f2) h, ?_⟩
  have := Int.ediv_mul_le a (b := b) (by omega)
  unfold signI
  grind
theorem floor_lt {a b : Int} (h : rightB a b = true) (hk : a / b + 1 ≤ 1073741824) : order (a / b + 1) 1 a b = (1, 0) := by
  obtain ⟨f1, f2⟩ := floor_range h
  obtain ⟨r1, r2, r3, r4, r5⟩ := rightB_iff.1 h
  rw [order_of (one_right (by omega) hk) h]
  have := Int.lt_ediv_add_one_mul_self a (b := b) (by omega)
  unfold signI
  grind
end Go.Proofs.Ytccpefbfjahfnaa.Fr
namespace Go.Proofs.Ytccpefbfjahfnaa.Fr
open Go.RowKit Gcd

theorem small_any' (n : Int) (w : World) :
    Calls Try.prog 33 #[.int .i64 n] w fun e w' => e = .returned (.bool (smallB n)) ∧ w = w' := small_any n w

/-- An int of the machine. -/
def I64 (n : Int) : Prop := -9223372036854775808 ≤ n ∧ n ≤ 9223372036854775807

set_option maxHeartbeats 1000000 in
theorem right_any (u d : Int) (w : World) (hu : I64 u) (hd : I64 d) :
    Calls Try.prog 23 #[.agg #[.int .i64 u, .int .i64 d]] w fun e w' => e = .returned (.bool (rightB u d)) ∧ Below w.heap.size w w' := by
  unfold I64 at hu hd
  by_cases h1 : 0 < d
  · by_cases h2 : smallB u = true
    · by_cases h3 : smallB d = true
      · go_enter Try.func23, Try.ntmps23
        go_wp2_with (first
          | (go_at_call 33; refine (small_any' _ _).mono ?_; rintro e w' ⟨rfl, rfl⟩)
          | (go_at_call 32; refine (gcd_any _ _ _ h1 hd.2 hu.1 hu.2).mono ?_; rintro e w' ⟨rfl, n, rfl⟩))
        go_ret
        refine ⟨ret_bool ?_, below_drewN ((Below.refl _ _).alloc (Nat.le_refl _) _) _⟩
        rw [Bool.eq_iff_iff, rightB_iff]
        simp only [smallB_iff] at h2 h3
        simp
        omega
      · go_enter Try.func23, Try.ntmps23
        go_wp2_with (go_at_call 33; refine (small_any' _ _).mono ?_; rintro e w' ⟨rfl, rfl⟩)
        go_ret
        refine ⟨ret_bool ?_, (Below.refl _ _).alloc (Nat.le_refl _) _⟩
        rw [eq_comm, ← Bool.not_eq_true, rightB_iff]
        rw [smallB_iff] at h3
        omega
    · go_enter Try.func23, Try.ntmps23
      go_wp2_with (go_at_call 33; refine (small_any' _ _).mono ?_; rintro e w' ⟨rfl, rfl⟩)
      go_ret
      refine ⟨ret_bool ?_, (Below.refl _ _).alloc (Nat.le_refl _) _⟩
      rw [eq_comm, ← Bool.not_eq_true, rightB_iff]
      rw [smallB_iff] at h2
      omega
  · go_enter Try.func23, Try.ntmps23
    go_wp2
    go_ret
    refine ⟨ret_bool ?_, (Below.refl _ _).alloc (Nat.le_refl _) _⟩
    rw [eq_comm, ← Bool.not_eq_true, rightB_iff]
    omega

theorem abs_g (u d : Int) : g (u.natAbs : Int) d = g u d := by
  unfold g; simp [Int.gcd]

set_option maxHeartbeats 1000000 in
theorem ref_right_any (u d : Int) (w : World) (hu : I64 u) (hd : I64 d) :
    Calls Try.prog 26 #[.agg #[.int .i64 u, .int .i64 d]] w fun e w' => e = .returned (.bool (rightB u d)) ∧ Below w.heap.size w w' := by
  unfold I64 at hu hd
  by_cases h1 : 0 < d
  · by_cases h2 : d ≤ 1073741824
    · by_cases h3 : u ≤ 1073741824
      · by_cases h4 : -1073741824 ≤ u
        · have Hg := Lib.hid (abs_g u d)
          go_enter Try.func26, Try.ntmps26
          go_wp2
          go_quiet (first
            | (go_at_call 36; exact quiet_left (abs_any _ _ (by omega) (by omega)))
            | (go_at_call 35; exact quiet_left (divisor_any _ _ _ (by omega) (by omega) (by omega) (by omega))))
          go_wp2
          go_ret
          refine ⟨ret_bool ?_, below_drewN ((Below.refl _ _).alloc (Nat.le_refl _) _) _⟩
          rw [Hg.out, Bool.eq_iff_iff, rightB_iff]
          simp
          omega
        · have hd : decide (-1073741824 ≤ u) = false := by simpa using h4
          go_enter Try.func26, Try.ntmps26
          go_wp2
          go_quiet (fail)
          go_wp2
          go_ret
          refine ⟨ret_bool ?_, below_drewN ((Below.refl _ _).alloc (Nat.le_refl _) _) _⟩
          rw [eq_comm, ← Bool.not_eq_true, rightB_iff]
          omega
      · have hd : decide (u ≤ 1073741824) = false := by simpa using h3
        go_enter Try.func26, Try.ntmps26
        go_wp2
        go_quiet (fail)
        go_wp2
        go_ret
        refine ⟨ret_bool ?_, below_drewN ((Below.refl _ _).alloc (Nat.le_refl _) _) _⟩
        rw [eq_comm, ← Bool.not_eq_true, rightB_iff]
        omega
    · have hd : decide (d ≤ 1073741824) = false := by simpa using h2
      go_enter Try.func26, Try.ntmps26
      go_wp2
      go_quiet (fail)
      go_wp2
      go_ret
      refine ⟨ret_bool ?_, below_drewN ((Below.refl _ _).alloc (Nat.le_refl _) _) _⟩
      rw [eq_comm, ← Bool.not_eq_true, rightB_iff]
      omega
  · have hd : decide (0 < d) = false := by simpa using h1
    go_enter Try.func26, Try.ntmps26
    go_wp2
    go_quiet (fail)
    go_wp2
    go_ret
    refine ⟨ret_bool ?_, below_drewN ((Below.refl _ _).alloc (Nat.le_refl _) _) _⟩
    rw [eq_comm, ← Bool.not_eq_true, rightB_iff]
    omega

end Go.Proofs.Ytccpefbfjahfnaa.Fr
namespace Go.Proofs.Ytccpefbfjahfnaa.Fr
open Go.RowKit Gcd

theorem quo_in (x k : Int) (hk : 1 ≤ k) (hx : I64 x) : I64 (x / k) := by
  unfold I64 at *
  constructor
  · rw [Int.le_ediv_iff_mul_le (by omega)]
    rcases Int.lt_or_le x 0 with h | h <;> omega
  · rcases Int.lt_or_le x 0 with h | h
    · have := Int.ediv_neg_of_neg_of_pos h (show 0 < k by omega); omega
    · have := Int.ediv_le_self (a := x) k h; omega
theorem quo_wrap (x k : Int) (hk : 1 ≤ k) (hd : k ∣ x) (hx : I64 x) : IntKind.i64.wrap (x.tdiv k) = x / k := by
  rw [Int.tdiv_eq_ediv_of_dvd hd]; exact IntWalk.i64_in _ (quo_in x k hk hx)
theorem make_body (u d : Int) (h : ¬ d < 1) : make u d = if smallB (u / g u d) && smallB (d / g u d) then (u / g u d, d / g u d, 0) else (0, 0, 4) := by
  unfold make; rw [if_neg h]

/-- What Make answers, as a value. -/
def makeV (u d : Int) : Value := .tuple #[.agg #[.int .i64 (make u d).1, .int .i64 (make u d).2.1], .int .i64 (make u d).2.2]

set_option maxHeartbeats 1000000 in
theorem make_any (u d : Int) (w : World) (hu : I64 u) (hd : I64 d) :
    Calls Try.prog 21 #[.int .i64 u, .int .i64 d] w fun e w' => e = .returned (makeV u d) ∧ Below w.heap.size w w' := by
  by_cases h1 : d < 1
  · go_enter Try.func21, Try.ntmps21
    go_wp2
    refine bodyPost_ret (v := .tuple #[.agg #[.int .i64 0, .int .i64 0], .int .i64 3]) (by simp [results, Try.results21, go_sem]) rfl ⟨by simp [makeV, make, h1], (by repeat (first | exact Below.refl _ _ | assumption | refine below_drewN ?_ _ | refine Below.drew ?_ | refine below_new ?_ _ | refine Below.setCell ?_ (by first | omega | (simp <;> omega)) _ | refine below_then (by assumption) ?_))⟩
  · have hg := g_pos (a := u) (b := d) (by omega)
    have hw1 := quo_wrap u (g u d) hg (g_dvd_left u d) hu
    have hw2 := quo_wrap d (g u d) hg (g_dvd_right u d) hd
    have hg0 : g u d ≠ 0 := by omega
    unfold I64 at hu hd
    have HM := Lib.hid (make_body u d h1)
    by_cases h2 : smallB (u / g u d) = true
    · by_cases h3 : smallB (d / g u d) = true
      · go_enter Try.func21, Try.ntmps21
        go_wp2_with (go_at_call 32; refine (gcd_any _ _ _ (by omega) hd.2 hu.1 hu.2).mono ?_; rintro e w' ⟨rfl, n, rfl⟩)
        go_region
        all_goals
          go_wp2_with (go_at_call 33; refine (small_any' _ _).mono ?_; rintro e w' ⟨rfl, rfl⟩)
          exact bodyPost_ret (v := .tuple #[.agg #[.int .i64 (u / g u d), .int .i64 (d / g u d)], .int .i64 0]) (by simp [results, Try.results21, go_sem]) rfl ⟨by rw [makeV, HM.out, h2, h3]; rfl, (by repeat (first | exact Below.refl _ _ | assumption | refine below_drewN ?_ _ | refine Below.drew ?_ | refine below_new ?_ _ | refine Below.setCell ?_ (by first | omega | (simp <;> omega)) _ | refine below_then (by assumption) ?_))⟩
      · simp only [Bool.not_eq_true] at h3
        go_enter Try.func21, Try.ntmps21
        go_wp2_with (go_at_call 32; refine (gcd_any _ _ _ (by omega) hd.2 hu.1 hu.2).mono ?_; rintro e w' ⟨rfl, n, rfl⟩)
        go_region
        all_goals
          go_wp2_with (go_at_call 33; refine (small_any' _ _).mono ?_; rintro e w' ⟨rfl, rfl⟩)
          exact bodyPost_ret (v := .tuple #[.agg #[.int .i64 0, .int .i64 0], .int .i64 4]) (by simp [results, Try.results21, go_sem]) rfl ⟨by rw [makeV, HM.out, h2, h3]; rfl, (by repeat (first | exact Below.refl _ _ | assumption | refine below_drewN ?_ _ | refine Below.drew ?_ | refine below_new ?_ _ | refine Below.setCell ?_ (by first | omega | (simp <;> omega)) _ | refine below_then (by assumption) ?_))⟩
    · simp only [Bool.not_eq_true] at h2
      go_enter Try.func21, Try.ntmps21
      go_wp2_with (go_at_call 32; refine (gcd_any _ _ _ (by omega) hd.2 hu.1 hu.2).mono ?_; rintro e w' ⟨rfl, n, rfl⟩)
      go_region
      all_goals
        go_wp2_with (go_at_call 33; refine (small_any' _ _).mono ?_; rintro e w' ⟨rfl, rfl⟩)
        exact bodyPost_ret (v := .tuple #[.agg #[.int .i64 0, .int .i64 0], .int .i64 4]) (by simp [results, Try.results21, go_sem]) rfl ⟨by rw [makeV, HM.out, h2]; rfl, (by repeat (first | exact Below.refl _ _ | assumption | refine below_drewN ?_ _ | refine Below.drew ?_ | refine below_new ?_ _ | refine Below.setCell ?_ (by first | omega | (simp <;> omega)) _ | refine below_then (by assumption) ?_))⟩

/-! The least number: its odd part is 1. -/
theorem g_pow_odd (j : Nat) {q : Int} (hq : q % 2 ≠ 0) : g (2 ^ j) q = 1 := by
  induction j with
  | zero => simp [g]
  | succ j ih =>
    have h := g_even_odd (a := 2 ^ (j + 1)) (b := q) (by rw [Int.pow_succ]; omega) hq
    rw [← h, Int.pow_succ, Int.mul_ediv_cancel _ (by omega)]; exact ih
/-- The loop's: both halved k times. -/
def least (d p q : Int) : Prop := ∃ k : Nat, k ≤ 63 ∧ p = -(2 ^ (63 - k)) ∧ q * 2 ^ k = d ∧ 0 < q
theorem least_bd {d p q : Int} (h : least d p q) (hd : d ≤ 9223372036854775807) : -9223372036854775808 ≤ p ∧ p < 0 ∧ 0 < q ∧ q ≤ d := by
  obtain ⟨k, hk, rfl, rfl, hq⟩ := h
  have h1 : (2 : Int) ^ (63 - k) ≤ 2 ^ 63 := by
    have : 2 ^ (63 - k) ≤ 2 ^ 63 := Nat.pow_le_pow_right (by omega) (by omega)
    have e := Int.ofNat_le.2 this
    simpa using e
  have h2 := g_one_le_pow (63 - k)
  have h3 : q * 1 ≤ q * 2 ^ k := Int.mul_le_mul_of_nonneg_left (g_one_le_pow k) (by omega)
  omega
theorem least_step {d p q : Int} (h : least d p q) (hd : d ≤ 9223372036854775807) (hq2 : q % 2 = 0) : least d (p / 2) (q / 2) ∧ p.tdiv 2 = p / 2 := by
  obtain ⟨k, hk, rfl, rfl, hq⟩ := h
  have hk2 : k < 63 := by
    rcases Nat.lt_or_ge k 63 with h | h
    · exact h
    · have : k = 63 := by omega
      subst this
      omega
  have e : (2 : Int) ^ (63 - k) = 2 ^ (63 - (k + 1)) * 2 := by rw [← Int.pow_succ]; congr 1; omega
  refine ⟨⟨k + 1, by omega, ?_, ?_, by omega⟩, ?_⟩
  · rw [e]; omega
  · rw [Int.pow_succ, Int.mul_comm (2 ^ k) 2, ← Int.mul_assoc, Int.ediv_mul_cancel (by omega)]
  · rw [e]; generalize (2 : Int) ^ (63 - (k + 1)) = t; rw [Int.tdiv_eq_ediv_of_dvd ⟨-t, by omega⟩]
theorem least_end {d p q : Int} (h : least d p q) (hq2 : q % 2 ≠ 0) : -9223372036854775808 / g (-9223372036854775808) d = p ∧ d / g (-9223372036854775808) d = q := by
  obtain ⟨k, hk, rfl, rfl, hq⟩ := h
  have e : (-9223372036854775808 : Int) = 2 ^ k * -(2 ^ (63 - k)) := by
    rw [Int.mul_neg, ← Int.pow_add, show k + (63 - k) = 63 by omega]; rfl
  have hp := g_one_le_pow k
  have hg : g (-9223372036854775808) (q * 2 ^ k) = 2 ^ k := by
    rw [e, Int.mul_comm q]
    unfold g
    rw [Int.gcd_mul_left]
    have h1 := g_pow_odd (63 - k) hq2
    rw [← g_neg_left] at h1
    unfold g at h1
    rw [show (-(2 : Int) ^ (63 - k)).gcd q = 1 by omega]
    have : ((2 : Int) ^ k).natAbs = 2 ^ k := by rw [Int.natAbs_pow]; rfl
    rw [this]; simp
  rw [hg]
  constructor
  · rw [e, Int.mul_ediv_cancel_left _ (by omega)]
  · rw [Int.mul_ediv_cancel _ (by omega)]

set_option maxHeartbeats 1000000 in
theorem ref_make_least (d : Int) (w : World) (hd : I64 d) :
    Calls Try.prog 27 #[.int .i64 (-9223372036854775808), .int .i64 d] w fun e w' => e = .returned (makeV (-9223372036854775808) d) ∧ Below w.heap.size w w' := by
  unfold I64 at hd
  by_cases h1 : d < 1
  · go_enter Try.func27, Try.ntmps27
    go_wp2
    refine bodyPost_ret (v := .tuple #[.agg #[.int .i64 0, .int .i64 0], .int .i64 3]) (by simp [results, Try.results27, go_sem]) rfl ⟨by simp [makeV, make, h1], (by repeat (first | exact Below.refl _ _ | assumption | refine below_drewN ?_ _ | refine Below.drew ?_ | refine below_new ?_ _ | refine Below.setCell ?_ (by first | omega | (simp <;> omega)) _ | refine below_then (by assumption) ?_))⟩
  · have HM := Lib.hid (make_body (-9223372036854775808) d h1)
    have hw : wrap64 9223372036854775808 = -9223372036854775808 := by unfold wrap64; decide
    go_enter Try.func27, Try.ntmps27
    go_wp2
    go_loop [0, 1] (fun x y => ∃ p q : Int, x = .int .i64 p ∧ y = .int .i64 q ∧ least d p q) (fun _ y => (intOf y).toNat)
    case atStart => exact ⟨_, _, rfl, rfl, 0, by omega, rfl, by simp, by omega⟩
    case round =>
      obtain ⟨p, q, rfl, rfl, hL⟩ := hrel
      obtain ⟨b1, b2, b3, b4⟩ := least_bd hL hd.2
      have HL := Lib.hid hL
      clear hL
      by_cases hq : q % 2 = 0
      · have hs := least_step HL.out hd.2 hq
        have HS := Lib.hid hs.1
        have ht := hs.2
        clear hs
        go_wp2
        go_round
        case rel => exact ⟨p / 2, q / 2, rfl, rfl, HS.out⟩
        case measure => (simp [intOf] <;> omega)
      · have he := least_end HL.out hq
        have HE := Lib.hid he
        clear he
        by_cases c : -1073741824 ≤ p ∧ q ≤ 1073741824
        · obtain ⟨c1, c2⟩ := c
          go_wp2
          exact bodyPost_ret (v := .tuple #[.agg #[.int .i64 p, .int .i64 q], .int .i64 0]) (by simp [results, Try.results27, go_sem]) rfl
            ⟨by rw [makeV, HM.out, HE.out.1, HE.out.2, if_pos (by simp [smallB_iff]; omega)], (by repeat (first | exact Below.refl _ _ | assumption | refine below_drewN ?_ _ | refine Below.drew ?_ | refine below_new ?_ _ | refine Below.setCell ?_ (by first | omega | (simp <;> omega)) _ | refine below_then (by assumption) ?_))⟩
        · have HN := Lib.hid c
          have c' : -1073741824 ≤ p → 1073741824 < q := by omega
          clear c
          go_wp2
          all_goals
            exact bodyPost_ret (v := .tuple #[.agg #[.int .i64 0, .int .i64 0], .int .i64 4]) (by simp [results, Try.results27, go_sem]) rfl
              ⟨by rw [makeV, HM.out, HE.out.1, HE.out.2, if_neg (by have := HN.out; simp [smallB_iff]; omega)], (by repeat (first | exact Below.refl _ _ | assumption | refine below_drewN ?_ _ | refine Below.drew ?_ | refine below_new ?_ _ | refine Below.setCell ?_ (by first | omega | (simp <;> omega)) _ | refine below_then (by assumption) ?_))⟩

set_option maxHeartbeats 1000000 in
theorem ref_make_zero (d : Int) (w : World) (hd : I64 d) (h1 : ¬ d < 1) :
    Calls Try.prog 27 #[.int .i64 0, .int .i64 d] w fun e w' => e = .returned (makeV 0 d) ∧ Below w.heap.size w w' := by
  have e0 : g 0 d = d := by rw [g_comm, g_zero rfl]; omega
  have e1 : d / d = 1 := Int.ediv_self (by omega)
  have HM := Lib.hid (show make 0 d = (0, 1, 0) by rw [make_body 0 d h1, e0, e1, Int.zero_ediv]; rfl)
  have hw1 : IntKind.i64.wrap (Int.tdiv 0 d) = 0 := by rw [Int.zero_tdiv]; rfl
  have hw2 : IntKind.i64.wrap (d.tdiv d) = 1 := by rw [Int.tdiv_self (by omega)]; rfl
  have hd0 : d ≠ 0 := by omega
  unfold I64 at hd
  go_enter Try.func27, Try.ntmps27
  go_wp2_with (first
    | (go_at_call 36; refine (abs_any _ _ (by omega) (by omega)).mono ?_; rintro e w' ⟨rfl, rfl⟩)
    | (go_at_call 35; refine (divisor_any _ _ _ (by omega) (by omega) (by omega) (by omega)).mono ?_; rintro e w' ⟨rfl, rfl⟩))
  go_region
  all_goals
    go_wp2
    exact bodyPost_ret (v := .tuple #[.agg #[.int .i64 0, .int .i64 1], .int .i64 0]) (by simp [results, Try.results27, go_sem]) rfl ⟨by rw [makeV, HM.out], (by repeat (first | exact Below.refl _ _ | assumption | refine below_drewN ?_ _ | refine Below.drew ?_ | refine below_new ?_ _ | refine Below.setCell ?_ (by first | omega | (simp <;> omega)) _ | refine below_then (by assumption) ?_))⟩

set_option maxHeartbeats 1000000 in
theorem ref_make_any (u d : Int) (w : World) (hu : I64 u) (hd : I64 d) (hl : -9223372036854775808 < u) :
    Calls Try.prog 27 #[.int .i64 u, .int .i64 d] w fun e w' => e = .returned (makeV u d) ∧ Below w.heap.size w w' := by
  by_cases h1 : d < 1
  · go_enter Try.func27, Try.ntmps27
    go_wp2
    refine bodyPost_ret (v := .tuple #[.agg #[.int .i64 0, .int .i64 0], .int .i64 3]) (by simp [results, Try.results27, go_sem]) rfl ⟨by simp [makeV, make, h1], (by repeat (first | exact Below.refl _ _ | assumption | refine below_drewN ?_ _ | refine Below.drew ?_ | refine below_new ?_ _ | refine Below.setCell ?_ (by first | omega | (simp <;> omega)) _ | refine below_then (by assumption) ?_))⟩
  · have hg := g_pos (a := u) (b := d) (by omega)
    have hw1 := quo_wrap u (g u d) hg (g_dvd_left u d) hu
    have hw2 := quo_wrap d (g u d) hg (g_dvd_right u d) hd
    have hq1 := quo_in u (g u d) hg hu
    have hg0 : g u d ≠ 0 := by omega
    have hag := abs_g u d
    have hlow : -9223372036854775808 < u / g u d := by
      rcases Int.lt_or_le u 0 with h | h
      · have := Int.lt_ediv_iff_mul_lt (a := -9223372036854775808) (b := u) (c := g u d) (by omega) (g_dvd_left u d)
        rw [this]; omega
      · have := Int.ediv_nonneg h (show 0 ≤ g u d by omega); omega
    unfold I64 at hu hd hq1
    have HM := Lib.hid (make_body u d h1)
    by_cases hu0 : u = 0
    · subst hu0
      exact ref_make_zero d w hd h1
    · have he : (u == -u) = false := by simp; omega
      by_cases c : smallB (u / g u d) = true
      · have HC := Lib.hid c
        rw [smallB_iff] at c
        by_cases c2 : smallB (d / g u d) = true
        · have HC2 := Lib.hid c2
          rw [smallB_iff] at c2
          go_enter Try.func27, Try.ntmps27
          go_wp2_with (first
          | (go_at_call 36; refine (abs_any _ _ (by omega) (by omega)).mono ?_; rintro e w' ⟨rfl, rfl⟩)
          | (go_at_call 35; refine (divisor_any _ _ _ (by omega) (by omega) (by omega) (by omega)).mono ?_; rintro e w' ⟨rfl, rfl⟩))
          go_region
          all_goals
            go_wp2
            exact bodyPost_ret (v := .tuple #[.agg #[.int .i64 (u / g u d), .int .i64 (d / g u d)], .int .i64 0]) (by simp [results, Try.results27, go_sem]) rfl ⟨by rw [makeV, HM.out, HC.out, HC2.out]; rfl, (by repeat (first | exact Below.refl _ _ | assumption | refine below_drewN ?_ _ | refine Below.drew ?_ | refine below_new ?_ _ | refine Below.setCell ?_ (by first | omega | (simp <;> omega)) _ | refine below_then (by assumption) ?_))⟩
        · simp only [Bool.not_eq_true] at c2
          have HC2 := Lib.hid c2
          have c3 : 1073741824 < d / g u d := by
            have := Int.ediv_pos_of_pos_of_dvd (a := d) (b := g u d) (by omega) (by omega) (g_dvd_right u d)
            rw [← Bool.not_eq_true, smallB_iff] at c2; omega
          clear c2
          go_enter Try.func27, Try.ntmps27
          go_wp2_with (first
          | (go_at_call 36; refine (abs_any _ _ (by omega) (by omega)).mono ?_; rintro e w' ⟨rfl, rfl⟩)
          | (go_at_call 35; refine (divisor_any _ _ _ (by omega) (by omega) (by omega) (by omega)).mono ?_; rintro e w' ⟨rfl, rfl⟩))
          exact bodyPost_ret (v := .tuple #[.agg #[.int .i64 0, .int .i64 0], .int .i64 4]) (by simp [results, Try.results27, go_sem]) rfl ⟨by rw [makeV, HM.out, HC.out, HC2.out]; rfl, (by repeat (first | exact Below.refl _ _ | assumption | refine below_drewN ?_ _ | refine Below.drew ?_ | refine below_new ?_ _ | refine Below.setCell ?_ (by first | omega | (simp <;> omega)) _ | refine below_then (by assumption) ?_))⟩
      · simp only [Bool.not_eq_true] at c
        have HC := Lib.hid c
        have c3 : 1073741824 < ((u / g u d).natAbs : Int) := by
          rw [← Bool.not_eq_true, smallB_iff] at c; omega
        clear c
        go_enter Try.func27, Try.ntmps27
        go_wp2_with (first
          | (go_at_call 36; refine (abs_any _ _ (by omega) (by omega)).mono ?_; rintro e w' ⟨rfl, rfl⟩)
          | (go_at_call 35; refine (divisor_any _ _ _ (by omega) (by omega) (by omega) (by omega)).mono ?_; rintro e w' ⟨rfl, rfl⟩))
        all_goals
          exact bodyPost_ret (v := .tuple #[.agg #[.int .i64 0, .int .i64 0], .int .i64 4]) (by simp [results, Try.results27, go_sem]) rfl ⟨by rw [makeV, HM.out, HC.out]; rfl, (by repeat (first | exact Below.refl _ _ | assumption | refine below_drewN ?_ _ | refine Below.drew ?_ | refine below_new ?_ _ | refine Below.setCell ?_ (by first | omega | (simp <;> omega)) _ | refine below_then (by assumption) ?_))⟩

end Go.Proofs.Ytccpefbfjahfnaa.Fr
namespace Go.Proofs.Ytccpefbfjahfnaa.Fr
open Go.RowKit Gcd

theorem I64_of {n : Int} (h : -4611686018427387904 ≤ n ∧ n ≤ 4611686018427387904) : I64 n := by unfold I64; omega
theorem right_bd {u d : Int} (h : rightB u d = true) : (-1073741824 ≤ u ∧ u ≤ 1073741824) ∧ (1 ≤ d ∧ d ≤ 1073741824) := by
  have := rightB_iff.1 h; omega
theorem prod_bd {x y : Int} (hx : -1073741824 ≤ x ∧ x ≤ 1073741824) (hy : -1073741824 ≤ y ∧ y ≤ 1073741824) : -1152921504606846976 ≤ x * y ∧ x * y ≤ 1152921504606846976 := by
  have h : (x * y).natAbs ≤ 1073741824 * 1073741824 := by
    rw [Int.natAbs_mul]; exact Nat.mul_le_mul (by omega) (by omega)
  omega
theorem three {n m : Nat} (h : n + 1 + 1 + 1 ≤ m) : n < m ∧ n + 1 < m ∧ n + 1 + 1 < m := by omega
theorem two_ {n m : Nat} (h : n + 1 + 1 ≤ m) : n < m ∧ n + 1 < m := by omega

/-- What Plus .. answer, as a value. -/
def R3 (r : Int × Int × Int) : Value := .tuple #[.agg #[.int .i64 r.1, .int .i64 r.2.1], .int .i64 r.2.2]
theorem makeV_eq (u d : Int) : makeV u d = R3 (make u d) := rfl

set_option maxHeartbeats 1000000 in
theorem both_any (a b c d : Int) (w : World) (ha : I64 a) (hb : I64 b) (hc : I64 c) (hd : I64 d) :
    Calls Try.prog 43 #[.agg #[.int .i64 a, .int .i64 b], .agg #[.int .i64 c, .int .i64 d]] w fun e w' =>
      e = .returned (.bool (rightB a b && rightB c d)) ∧ Below w.heap.size w w' := by
  by_cases h1 : rightB a b = true
  all_goals
    try simp only [Bool.not_eq_true] at h1
    go_enter Try.func43, Try.ntmps43
    go_wp2_with (first
      | (go_at_call 23; with_reducible refine (right_any a b _ ha hb).mono ?_; rintro e w1 ⟨rfl, hb1⟩; obtain ⟨hcc, hff⟩ := bcell hb1)
      | (go_at_call 23; with_reducible refine (right_any c d _ hc hd).mono ?_; rintro e w2 ⟨rfl, hb2⟩))
    go_ret
    exact ⟨ret_bool (by simp [h1]), (by repeat (first | exact Below.refl _ _ | assumption | refine below_drewN ?_ _ | refine Below.drew ?_ | refine below_new ?_ _ | refine Below.setCell ?_ (by first | omega | (simp <;> omega)) _ | refine below_then (by assumption) ?_))⟩

set_option maxHeartbeats 1000000 in
theorem plus_yes (a b c d : Int) (w : World) (ha : I64 a) (hb : I64 b) (hc : I64 c) (hd : I64 d) (h1 : (rightB a b && rightB c d) = true) :
    Calls Try.prog 42 #[.agg #[.int .i64 a, .int .i64 b], .agg #[.int .i64 c, .int .i64 d]] w fun e w' =>
      e = .returned (R3 (plus a b c d)) ∧ Below w.heap.size w w' := by
    have HR := Lib.hid (show plus a b c d = make (a * d + c * b) (b * d) by simp [plus, h1])
    have h1' := h1
    rw [Bool.and_eq_true] at h1'
    have k1 := right_bd h1'.1
    have k2 := right_bd h1'.2
    have p1 := prod_bd k1.1 (y := d) (by omega)
    have p2 := prod_bd k2.1 (y := b) (by omega)
    have p3 := prod_bd (x := b) (y := d) (by omega) (by omega)
    clear h1'
    go_enter Try.func42, Try.ntmps42
    go_wp2_with (first
      | (go_at_call 43; refine (both_any a b c d _ ha hb hc hd).mono ?_; rintro e w1 ⟨rfl, hb1⟩; obtain ⟨hcc, hff⟩ := bcell hb1; have hz := hb1.size; simp at hz; obtain ⟨z1, z2, z3⟩ := three hz)
      | (go_at_call 21; refine (make_any (a * d + c * b) (b * d) _ (I64_of (by omega)) (I64_of (by omega))).mono ?_; rintro e w2 ⟨rfl, hb2⟩; rw [makeV_eq, R3]; obtain ⟨hcc2, hff2⟩ := bcell hb2))
    exact bodyPost_ret (v := R3 (make (a * d + c * b) (b * d))) (by simp [results, Try.results42, go_sem, R3, hcc2, hcc, z3]) rfl ⟨by rw [HR.out], (by repeat (first | exact Below.refl _ _ | assumption | refine below_drewN ?_ _ | refine Below.drew ?_ | refine below_new ?_ _ | refine Below.setCell ?_ (by first | omega | (simp <;> omega)) _ | refine below_then (by assumption) ?_))⟩

set_option maxHeartbeats 1000000 in
theorem plus_no (a b c d : Int) (w : World) (ha : I64 a) (hb : I64 b) (hc : I64 c) (hd : I64 d) (h1 : (rightB a b && rightB c d) = false) :
    Calls Try.prog 42 #[.agg #[.int .i64 a, .int .i64 b], .agg #[.int .i64 c, .int .i64 d]] w fun e w' =>
      e = .returned (R3 (plus a b c d)) ∧ Below w.heap.size w w' := by
    have HR := Lib.hid (show plus a b c d = (0, 0, 2) by simp [plus, h1])
    go_enter Try.func42, Try.ntmps42
    go_wp2_with (go_at_call 43; refine (both_any a b c d _ ha hb hc hd).mono ?_; rintro e w1 ⟨rfl, hb1⟩; obtain ⟨hcc, hff⟩ := bcell hb1; have hz := hb1.size; simp at hz; obtain ⟨z1, z2, z3⟩ := three hz)
    exact bodyPost_ret (v := R3 (0, 0, 2)) (by simp [results, Try.results42, go_sem, R3, hcc]) rfl ⟨by rw [HR.out], (by repeat (first | exact Below.refl _ _ | assumption | refine below_drewN ?_ _ | refine Below.drew ?_ | refine below_new ?_ _ | refine Below.setCell ?_ (by first | omega | (simp <;> omega)) _ | refine below_then (by assumption) ?_))⟩

theorem plus_any (a b c d : Int) (w : World) (ha : I64 a) (hb : I64 b) (hc : I64 c) (hd : I64 d) :
    Calls Try.prog 42 #[.agg #[.int .i64 a, .int .i64 b], .agg #[.int .i64 c, .int .i64 d]] w fun e w' =>
      e = .returned (R3 (plus a b c d)) ∧ Below w.heap.size w w' := by
  by_cases h1 : (rightB a b && rightB c d) = true
  · exact plus_yes a b c d w ha hb hc hd h1
  · exact plus_no a b c d w ha hb hc hd (by simpa only [Bool.not_eq_true] using h1)

set_option maxHeartbeats 1000000 in
theorem times_yes (a b c d : Int) (w : World) (ha : I64 a) (hb : I64 b) (hc : I64 c) (hd : I64 d) (h1 : (rightB a b && rightB c d) = true) :
    Calls Try.prog 38 #[.agg #[.int .i64 a, .int .i64 b], .agg #[.int .i64 c, .int .i64 d]] w fun e w' =>
      e = .returned (R3 (times a b c d)) ∧ Below w.heap.size w w' := by
    have HR := Lib.hid (show times a b c d = make (a * c) (b * d) by simp [times, h1])
    have h1' := h1
    rw [Bool.and_eq_true] at h1'
    have k1 := right_bd h1'.1
    have k2 := right_bd h1'.2
    have p1 := prod_bd k1.1 (y := c) (by omega)
    have p3 := prod_bd (x := b) (y := d) (by omega) (by omega)
    clear h1'
    go_enter Try.func38, Try.ntmps38
    go_wp2_with (first
      | (go_at_call 43; refine (both_any a b c d _ ha hb hc hd).mono ?_; rintro e w1 ⟨rfl, hb1⟩; obtain ⟨hcc, hff⟩ := bcell hb1; have hz := hb1.size; simp at hz; obtain ⟨z1, z2, z3⟩ := three hz)
      | (go_at_call 21; refine (make_any (a * c) (b * d) _ (I64_of (by omega)) (I64_of (by omega))).mono ?_; rintro e w2 ⟨rfl, hb2⟩; rw [makeV_eq, R3]; obtain ⟨hcc2, hff2⟩ := bcell hb2))
    exact bodyPost_ret (v := R3 (make (a * c) (b * d))) (by simp [results, Try.results38, go_sem, R3, hcc2, hcc, z3]) rfl ⟨by rw [HR.out], (by repeat (first | exact Below.refl _ _ | assumption | refine below_drewN ?_ _ | refine Below.drew ?_ | refine below_new ?_ _ | refine Below.setCell ?_ (by first | omega | (simp <;> omega)) _ | refine below_then (by assumption) ?_))⟩

set_option maxHeartbeats 1000000 in
theorem times_no (a b c d : Int) (w : World) (ha : I64 a) (hb : I64 b) (hc : I64 c) (hd : I64 d) (h1 : (rightB a b && rightB c d) = false) :
    Calls Try.prog 38 #[.agg #[.int .i64 a, .int .i64 b], .agg #[.int .i64 c, .int .i64 d]] w fun e w' =>
      e = .returned (R3 (times a b c d)) ∧ Below w.heap.size w w' := by
    have HR := Lib.hid (show times a b c d = (0, 0, 2) by simp [times, h1])
    go_enter Try.func38, Try.ntmps38
    go_wp2_with (go_at_call 43; refine (both_any a b c d _ ha hb hc hd).mono ?_; rintro e w1 ⟨rfl, hb1⟩; obtain ⟨hcc, hff⟩ := bcell hb1; have hz := hb1.size; simp at hz; obtain ⟨z1, z2, z3⟩ := three hz)
    exact bodyPost_ret (v := R3 (0, 0, 2)) (by simp [results, Try.results38, go_sem, R3, hcc]) rfl ⟨by rw [HR.out], (by repeat (first | exact Below.refl _ _ | assumption | refine below_drewN ?_ _ | refine Below.drew ?_ | refine below_new ?_ _ | refine Below.setCell ?_ (by first | omega | (simp <;> omega)) _ | refine below_then (by assumption) ?_))⟩

theorem times_any (a b c d : Int) (w : World) (ha : I64 a) (hb : I64 b) (hc : I64 c) (hd : I64 d) :
    Calls Try.prog 38 #[.agg #[.int .i64 a, .int .i64 b], .agg #[.int .i64 c, .int .i64 d]] w fun e w' =>
      e = .returned (R3 (times a b c d)) ∧ Below w.heap.size w w' := by
  by_cases h1 : (rightB a b && rightB c d) = true
  · exact times_yes a b c d w ha hb hc hd h1
  · exact times_no a b c d w ha hb hc hd (by simpa only [Bool.not_eq_true] using h1)

end Go.Proofs.Ytccpefbfjahfnaa.Fr
namespace Go.Proofs.Ytccpefbfjahfnaa.Fr
open Go.RowKit Gcd

/-- What Order, Floor answer, as a value. -/
def R2 (r : Int × Int) : Value := .tuple #[.int .i64 r.1, .int .i64 r.2]
theorem ret_R2 {r : Int × Int} {a b : Int} (h : r = (a, b)) : Ending.returned (.tuple #[.int .i64 a, .int .i64 b]) = .returned (R2 r) := by rw [h]; rfl

set_option maxHeartbeats 1000000 in
theorem sign_any (a b c d : Int) (w : World) (h1 : rightB a b = true) (h2 : rightB c d = true) :
    Calls Try.prog 13 #[.agg #[.int .i64 a, .int .i64 b], .agg #[.int .i64 c, .int .i64 d]] w fun e w' =>
      e = .returned (.int .i64 (signI (a * d - c * b))) ∧ Below w.heap.size w w' := by
  have k1 := right_bd h1
  have k2 := right_bd h2
  have p1 := prod_bd k1.1 (y := d) (by omega)
  have p2 := prod_bd k2.1 (y := b) (by omega)
  clear h1 h2
  go_enter Try.func13, Try.ntmps13
  go_wp2
  all_goals
    go_ret
    refine ⟨ret_int ?_, (by repeat (first | exact Below.refl _ _ | assumption | refine below_drewN ?_ _ | refine Below.drew ?_ | refine below_new ?_ _ | refine Below.setCell ?_ (by first | omega | (simp <;> omega)) _ | refine below_then (by assumption) ?_))⟩
    first
      | rw [signI_lt (by omega)]
      | rw [signI_gt (by omega)]
      | rw [signI_eq (by omega)]

theorem tdiv_bd (a b : Int) (ha : -1073741824 ≤ a ∧ a ≤ 1073741824) (_hb : 1 ≤ b) : -1073741824 ≤ a.tdiv b ∧ a.tdiv b ≤ 1073741824 := by
  have h : (a.tdiv b).natAbs ≤ a.natAbs := by rw [Int.natAbs_tdiv]; exact Nat.div_le_self _ _
  omega
theorem one_ {n m : Nat} (h : n + 1 ≤ m) : n < m := h

theorem floor_low (a b : Int) (hb : 1 ≤ b) : a / b * b ≤ a ∧ a < (a / b + 1) * b := ⟨Int.ediv_mul_le a (by omega), Int.lt_ediv_add_one_mul_self a (by omega)⟩
theorem floor_start (a b : Int) (hb : 1 ≤ b) : Value.int .i64 (a.tdiv b) = .int .i64 (a / b) ∨ Value.int .i64 (a.tdiv b) = .int .i64 (a / b + 1) := by
  rcases Int.lt_or_le (a.tmod b) 0 with h | h
  · right; rw [← tmod_neg hb h]; congr 1; omega
  · left; rw [tmod_nonneg hb h]

end Go.Proofs.Ytccpefbfjahfnaa.Fr
namespace Go.Proofs.Ytccpefbfjahfnaa.Fr
open Go.RowKit Gcd

theorem ref_make_all (u d : Int) (w : World) (hu : I64 u) (hd : I64 d) :
    Calls Try.prog 27 #[.int .i64 u, .int .i64 d] w fun e w' => e = .returned (makeV u d) ∧ Below w.heap.size w w' := by
  by_cases h : -9223372036854775808 < u
  · exact ref_make_any u d w hu hd h
  · have : u = -9223372036854775808 := by unfold I64 at hu; omega
    subst this
    exact ref_make_least d w hd

set_option maxHeartbeats 1000000 in
theorem ref_plus_yes (a b c d : Int) (w : World) (ha : I64 a) (hb : I64 b) (hc : I64 c) (hd : I64 d) (h1 : (rightB a b && rightB c d) = true) :
    Calls Try.prog 14 #[.agg #[.int .i64 a, .int .i64 b], .agg #[.int .i64 c, .int .i64 d]] w fun e w' =>
      e = .returned (R3 (plus a b c d)) ∧ Below w.heap.size w w' := by
    have HR := Lib.hid (show plus a b c d = make (a * d + c * b) (b * d) by simp [plus, h1])
    have h1' := h1
    rw [Bool.and_eq_true] at h1'
    have k1 := right_bd h1'.1
    have k2 := right_bd h1'.2
    have p1 := prod_bd k1.1 (y := d) (by omega)
    have p2 := prod_bd k2.1 (y := b) (by omega)
    have p3 := prod_bd (x := b) (y := d) (by omega) (by omega)
    rw [Bool.and_eq_true] at h1
    obtain ⟨h1, h2⟩ := h1
    clear h1'
    go_enter Try.func14, Try.ntmps14
    go_wp2_with (first
      | (go_at_call 26; with_reducible refine (ref_right_any a b _ ha hb).mono ?_; rintro e w0 ⟨rfl, hb0⟩; obtain ⟨hcc0, hff0⟩ := bcell hb0; have hz0 := hb0.size; simp at hz0; obtain ⟨y1, y2, y3⟩ := three hz0)
      | (go_at_call 26; with_reducible refine (ref_right_any c d _ hc hd).mono ?_; rintro e w1 ⟨rfl, hb1⟩; obtain ⟨hcc, hff⟩ := bcell hb1; have hz := hb1.size; have z1 : w.heap.size < w1.heap.size := (by omega); have z2 : w.heap.size + 1 < w1.heap.size := (by omega); have z3 : w.heap.size + 1 + 1 < w1.heap.size := (by omega))
      | (go_at_call 27; refine (ref_make_all (a * d + c * b) (b * d) _ (I64_of (by omega)) (I64_of (by omega))).mono ?_; rintro e w2 ⟨rfl, hb2⟩; rw [makeV_eq, R3]; obtain ⟨hcc2, hff2⟩ := bcell hb2))
    exact bodyPost_ret (v := R3 (make (a * d + c * b) (b * d))) (by simp [results, Try.results14, go_sem, R3, hcc2, hcc, hcc0, y3, z3]) rfl ⟨by rw [HR.out], (by repeat (first | exact Below.refl _ _ | assumption | refine below_drewN ?_ _ | refine Below.drew ?_ | refine below_new ?_ _ | refine Below.setCell ?_ (by first | omega | (simp <;> omega)) _ | refine below_then (by assumption) ?_))⟩

set_option maxHeartbeats 1000000 in
theorem ref_plus_no (a b c d : Int) (w : World) (ha : I64 a) (hb : I64 b) (hc : I64 c) (hd : I64 d) (h1 : (rightB a b && rightB c d) = false) :
    Calls Try.prog 14 #[.agg #[.int .i64 a, .int .i64 b], .agg #[.int .i64 c, .int .i64 d]] w fun e w' =>
      e = .returned (R3 (plus a b c d)) ∧ Below w.heap.size w w' := by
    have HR := Lib.hid (show plus a b c d = (0, 0, 2) by simp [plus, h1])
    by_cases h2 : rightB a b = true
    · have h3 : rightB c d = false := by simpa [h2] using h1
      clear h1
      go_enter Try.func14, Try.ntmps14
      go_wp2_with (first
        | (go_at_call 26; with_reducible refine (ref_right_any a b _ ha hb).mono ?_; rintro e w0 ⟨rfl, hb0⟩; obtain ⟨hcc0, hff0⟩ := bcell hb0; have hz0 := hb0.size; simp at hz0; obtain ⟨y1, y2, y3⟩ := three hz0)
        | (go_at_call 26; with_reducible refine (ref_right_any c d _ hc hd).mono ?_; rintro e w1 ⟨rfl, hb1⟩; obtain ⟨hcc, hff⟩ := bcell hb1; have hz := hb1.size; have z1 : w.heap.size < w1.heap.size := (by omega); have z2 : w.heap.size + 1 < w1.heap.size := (by omega); have z3 : w.heap.size + 1 + 1 < w1.heap.size := (by omega)))
      exact bodyPost_ret (v := R3 (0, 0, 2)) (by simp [results, Try.results14, go_sem, R3, hcc, hcc0, y3]) rfl ⟨by rw [HR.out], (by repeat (first | exact Below.refl _ _ | assumption | refine below_drewN ?_ _ | refine Below.drew ?_ | refine below_new ?_ _ | refine Below.setCell ?_ (by first | omega | (simp <;> omega)) _ | refine below_then (by assumption) ?_))⟩
    · simp only [Bool.not_eq_true] at h2
      clear h1
      go_enter Try.func14, Try.ntmps14
      go_wp2_with (go_at_call 26; with_reducible refine (ref_right_any a b _ ha hb).mono ?_; rintro e w0 ⟨rfl, hb0⟩; obtain ⟨hcc0, hff0⟩ := bcell hb0; have hz0 := hb0.size; simp at hz0; obtain ⟨y1, y2, y3⟩ := three hz0)
      exact bodyPost_ret (v := R3 (0, 0, 2)) (by simp [results, Try.results14, go_sem, R3, hcc0]) rfl ⟨by rw [HR.out], (by repeat (first | exact Below.refl _ _ | assumption | refine below_drewN ?_ _ | refine Below.drew ?_ | refine below_new ?_ _ | refine Below.setCell ?_ (by first | omega | (simp <;> omega)) _ | refine below_then (by assumption) ?_))⟩

theorem ref_plus_any (a b c d : Int) (w : World) (ha : I64 a) (hb : I64 b) (hc : I64 c) (hd : I64 d) :
    Calls Try.prog 14 #[.agg #[.int .i64 a, .int .i64 b], .agg #[.int .i64 c, .int .i64 d]] w fun e w' =>
      e = .returned (R3 (plus a b c d)) ∧ Below w.heap.size w w' := by
  by_cases h1 : (rightB a b && rightB c d) = true
  · exact ref_plus_yes a b c d w ha hb hc hd h1
  · exact ref_plus_no a b c d w ha hb hc hd (by simpa only [Bool.not_eq_true] using h1)

set_option maxHeartbeats 1000000 in
theorem ref_times_yes (a b c d : Int) (w : World) (ha : I64 a) (hb : I64 b) (hc : I64 c) (hd : I64 d) (h1 : (rightB a b && rightB c d) = true) :
    Calls Try.prog 39 #[.agg #[.int .i64 a, .int .i64 b], .agg #[.int .i64 c, .int .i64 d]] w fun e w' =>
      e = .returned (R3 (times a b c d)) ∧ Below w.heap.size w w' := by
    have HR := Lib.hid (show times a b c d = make (a * c) (b * d) by simp [times, h1])
    have h1' := h1
    rw [Bool.and_eq_true] at h1'
    have k1 := right_bd h1'.1
    have k2 := right_bd h1'.2
    have p1 := prod_bd k1.1 (y := c) (by omega)
    have p3 := prod_bd (x := b) (y := d) (by omega) (by omega)
    rw [Bool.and_eq_true] at h1
    obtain ⟨h1, h2⟩ := h1
    clear h1'
    go_enter Try.func39, Try.ntmps39
    go_wp2_with (first
      | (go_at_call 26; with_reducible refine (ref_right_any a b _ ha hb).mono ?_; rintro e w0 ⟨rfl, hb0⟩; obtain ⟨hcc0, hff0⟩ := bcell hb0; have hz0 := hb0.size; simp at hz0; obtain ⟨y1, y2, y3⟩ := three hz0)
      | (go_at_call 26; with_reducible refine (ref_right_any c d _ hc hd).mono ?_; rintro e w1 ⟨rfl, hb1⟩; obtain ⟨hcc, hff⟩ := bcell hb1; have hz := hb1.size; have z1 : w.heap.size < w1.heap.size := (by omega); have z2 : w.heap.size + 1 < w1.heap.size := (by omega); have z3 : w.heap.size + 1 + 1 < w1.heap.size := (by omega))
      | (go_at_call 27; refine (ref_make_all (a * c) (b * d) _ (I64_of (by omega)) (I64_of (by omega))).mono ?_; rintro e w2 ⟨rfl, hb2⟩; rw [makeV_eq, R3]; obtain ⟨hcc2, hff2⟩ := bcell hb2))
    exact bodyPost_ret (v := R3 (make (a * c) (b * d))) (by simp [results, Try.results39, go_sem, R3, hcc2, hcc, hcc0, y3, z3]) rfl ⟨by rw [HR.out], (by repeat (first | exact Below.refl _ _ | assumption | refine below_drewN ?_ _ | refine Below.drew ?_ | refine below_new ?_ _ | refine Below.setCell ?_ (by first | omega | (simp <;> omega)) _ | refine below_then (by assumption) ?_))⟩

set_option maxHeartbeats 1000000 in
theorem ref_times_no (a b c d : Int) (w : World) (ha : I64 a) (hb : I64 b) (hc : I64 c) (hd : I64 d) (h1 : (rightB a b && rightB c d) = false) :
    Calls Try.prog 39 #[.agg #[.int .i64 a, .int .i64 b], .agg #[.int .i64 c, .int .i64 d]] w fun e w' =>
      e = .returned (R3 (times a b c d)) ∧ Below w.heap.size w w' := by
    have HR := Lib.hid (show times a b c d = (0, 0, 2) by simp [times, h1])
    by_cases h2 : rightB a b = true
    · have h3 : rightB c d = false := by simpa [h2] using h1
      clear h1
      go_enter Try.func39, Try.ntmps39
      go_wp2_with (first
        | (go_at_call 26; with_reducible refine (ref_right_any a b _ ha hb).mono ?_; rintro e w0 ⟨rfl, hb0⟩; obtain ⟨hcc0, hff0⟩ := bcell hb0; have hz0 := hb0.size; simp at hz0; obtain ⟨y1, y2, y3⟩ := three hz0)
        | (go_at_call 26; with_reducible refine (ref_right_any c d _ hc hd).mono ?_; rintro e w1 ⟨rfl, hb1⟩; obtain ⟨hcc, hff⟩ := bcell hb1; have hz := hb1.size; have z1 : w.heap.size < w1.heap.size := (by omega); have z2 : w.heap.size + 1 < w1.heap.size := (by omega); have z3 : w.heap.size + 1 + 1 < w1.heap.size := (by omega)))
      exact bodyPost_ret (v := R3 (0, 0, 2)) (by simp [results, Try.results39, go_sem, R3, hcc, hcc0, y3]) rfl ⟨by rw [HR.out], (by repeat (first | exact Below.refl _ _ | assumption | refine below_drewN ?_ _ | refine Below.drew ?_ | refine below_new ?_ _ | refine Below.setCell ?_ (by first | omega | (simp <;> omega)) _ | refine below_then (by assumption) ?_))⟩
    · simp only [Bool.not_eq_true] at h2
      clear h1
      go_enter Try.func39, Try.ntmps39
      go_wp2_with (go_at_call 26; with_reducible refine (ref_right_any a b _ ha hb).mono ?_; rintro e w0 ⟨rfl, hb0⟩; obtain ⟨hcc0, hff0⟩ := bcell hb0; have hz0 := hb0.size; simp at hz0; obtain ⟨y1, y2, y3⟩ := three hz0)
      exact bodyPost_ret (v := R3 (0, 0, 2)) (by simp [results, Try.results39, go_sem, R3, hcc0]) rfl ⟨by rw [HR.out], (by repeat (first | exact Below.refl _ _ | assumption | refine below_drewN ?_ _ | refine Below.drew ?_ | refine below_new ?_ _ | refine Below.setCell ?_ (by first | omega | (simp <;> omega)) _ | refine below_then (by assumption) ?_))⟩

theorem ref_times_any (a b c d : Int) (w : World) (ha : I64 a) (hb : I64 b) (hc : I64 c) (hd : I64 d) :
    Calls Try.prog 39 #[.agg #[.int .i64 a, .int .i64 b], .agg #[.int .i64 c, .int .i64 d]] w fun e w' =>
      e = .returned (R3 (times a b c d)) ∧ Below w.heap.size w w' := by
  by_cases h1 : (rightB a b && rightB c d) = true
  · exact ref_times_yes a b c d w ha hb hc hd h1
  · exact ref_times_no a b c d w ha hb hc hd (by simpa only [Bool.not_eq_true] using h1)

end Go.Proofs.Ytccpefbfjahfnaa.Fr
namespace Go.Proofs.Ytccpefbfjahfnaa.Pm
open Go Fr

theorem mixed : Try.prog.follows .mixedOrders = true := by kernel_rfl
abbrev fracP (u d : Int) : PV := .agg [iv u, iv d]
abbrev R3P (r : Int × Int × Int) : PV := .tup [.agg [iv r.1, iv r.2.1], iv r.2.2]
theorem right_pc (u d : Int) (hu : I64 u) (hd : I64 d) : PC Try.prog 23 [fracP u d] [] (bv (rightB u d)) [] :=
  pc_flat (fn_ok Try.func23 (by kernel_rfl) (by kernel_rfl)) rfl rfl fun w => right_any u d w hu hd
theorem ref_right_pc (u d : Int) (hu : I64 u) (hd : I64 d) : PC Try.prog 26 [fracP u d] [] (bv (rightB u d)) [] :=
  pc_flat (fn_ok Try.func26 (by kernel_rfl) (by kernel_rfl)) rfl rfl fun w => ref_right_any u d w hu hd
theorem make_pc (u d : Int) (hu : I64 u) (hd : I64 d) : PC Try.prog 21 [iv u, iv d] [] (R3P (make u d)) [] :=
  pc_flat (fn_ok Try.func21 (by kernel_rfl) (by kernel_rfl)) rfl rfl fun w => make_any u d w hu hd
theorem ref_make_pc (u d : Int) (hu : I64 u) (hd : I64 d) : PC Try.prog 27 [iv u, iv d] [] (R3P (make u d)) [] :=
  pc_flat (fn_ok Try.func27 (by kernel_rfl) (by kernel_rfl)) rfl rfl fun w => ref_make_all u d w hu hd
theorem plus_pc (a b c d : Int) (ha : I64 a) (hb : I64 b) (hc : I64 c) (hd : I64 d) : PC Try.prog 42 [fracP a b, fracP c d] [] (R3P (plus a b c d)) [] :=
  pc_flat (fn_ok Try.func42 (by kernel_rfl) (by kernel_rfl)) rfl rfl fun w => plus_any a b c d w ha hb hc hd
theorem times_pc (a b c d : Int) (ha : I64 a) (hb : I64 b) (hc : I64 c) (hd : I64 d) : PC Try.prog 38 [fracP a b, fracP c d] [] (R3P (times a b c d)) [] :=
  pc_flat (fn_ok Try.func38 (by kernel_rfl) (by kernel_rfl)) rfl rfl fun w => times_any a b c d w ha hb hc hd
theorem ref_plus_pc (a b c d : Int) (ha : I64 a) (hb : I64 b) (hc : I64 c) (hd : I64 d) : PC Try.prog 14 [fracP a b, fracP c d] [] (R3P (plus a b c d)) [] :=
  pc_flat (fn_ok Try.func14 (by kernel_rfl) (by kernel_rfl)) rfl rfl fun w => ref_plus_any a b c d w ha hb hc hd
theorem ref_times_pc (a b c d : Int) (ha : I64 a) (hb : I64 b) (hc : I64 c) (hd : I64 d) : PC Try.prog 39 [fracP a b, fracP c d] [] (R3P (times a b c d)) [] :=
  pc_flat (fn_ok Try.func39 (by kernel_rfl) (by kernel_rfl)) rfl rfl fun w => ref_times_any a b c d w ha hb hc hd
end Go.Proofs.Ytccpefbfjahfnaa.Pm
namespace Go.Proofs.Ytccpefbfjahfnaa.Pm
open Go

abbrev rowC (l : List Int) : List PV := [.ssl (ints l) 0 l.length]
abbrev rows (T : List (List Int)) : List PV := T.flatMap rowC
theorem ren_shd {σ : Nat → Nat} {p : PV} (h : p.shd = true) : ren σ p = p := by
  cases p <;> first | rfl | cases h
theorem renL_shd {σ : Nat → Nat} : ∀ {cs : List PV}, shds cs → renL σ cs = cs
  | [], _ => rfl
  | p :: l, h => by
    rw [renL, ren_shd (h p (by simp)), renL_shd (fun q hq => h q (by simp [hq]))]
theorem flat_shd {α : Type} (f : α → List PV) (hf : ∀ x, (f x).all PV.shd = true) (l : List α) : shds (l.flatMap f) := fun p hp => by
  obtain ⟨x, _, hx⟩ := List.mem_flatMap.1 hp
  exact List.all_eq_true.1 (hf x) p hx
theorem flat_splice {α : Type} (f : α → List PV) (s : Nat) (hf : ∀ x, (f x).length = s) {l : List α} {k : Nat} {v : α} (h : k < l.length) : k * s + s ≤ (l.flatMap f).length ∧ splice (l.flatMap f) (k * s) (f v) = (l.set k v).flatMap f := by
  have hl : ∀ l : List α, (l.flatMap f).length = l.length * s := flat_len f s hf
  have h1 : k * s + s ≤ l.length * s := by
    have := Nat.mul_le_mul_right s (show k + 1 ≤ l.length from h)
    rw [Nat.add_mul, Nat.one_mul] at this
    exact this
  refine ⟨by rw [hl]; exact h1, ?_⟩
  have he : l.flatMap f = (l.take k).flatMap f ++ (f (l[k]) ++ (l.drop (k + 1)).flatMap f) := by
    rw [← List.flatMap_cons, ← flat_app, ← List.drop_eq_getElem_cons h, List.take_append_drop]
  have hk : ((l.take k).flatMap f).length = k * s := by rw [hl, List.length_take, Nat.min_eq_left (by omega)]
  rw [List.set_eq_take_append_cons_drop, if_pos h, flat_app, List.flatMap_cons, he]
  unfold splice
  rw [List.take_append_of_le_length (by omega), List.take_of_length_le (by omega), hf, List.drop_append, List.drop_of_length_le (by omega), hk, List.nil_append, Nat.add_sub_cancel_left, List.drop_append, List.drop_of_length_le (by rw [hf]; exact Nat.le_refl _), hf, Nat.sub_self, List.nil_append, List.drop_zero, List.append_assoc]
theorem flat_splice1 {α : Type} (f : α → List PV) (hf : ∀ x, (f x).length = 1) {l : List α} {k : Nat} {v : α} (h : k < l.length) : k + 1 ≤ (l.flatMap f).length ∧ splice (l.flatMap f) k (f v) = (l.set k v).flatMap f := by
  have := flat_splice f 1 hf (v := v) h
  rw [Nat.mul_one] at this
  exact this
def lf (k : Nat) : List (Nat × List PV) → Option (List PV)
  | [] => none
  | x :: F => match Nat.beq k x.1 with | true => some x.2 | false => lf k F
def fixF (F : List (Nat × List PV)) (x : Nat × Option Val) : Option Val := match x.2 with
  | some (.blk T cs) => match lf x.1 F with | some ds => some (.blk T ds) | none => some (.blk T cs)
  | some (.pv p) => some (.pv p)
  | none => none
def rvalF (σ : Nat → Nat) (F : List (Nat × List PV)) (x : Nat × Option Val) : Option Val := match x.2 with
  | some (.blk T cs) => match lf x.1 F with | some ds => some (.blk T ds) | none => some (.blk T (renL σ cs))
  | some (.pv p) => some (.pv (ren σ p))
  | none => none
theorem lf_shd {k : Nat} {cs : List PV} : ∀ {F : List (Nat × List PV)}, (∀ q ∈ F.map (fun x => shds x.2), q) → lf k F = some cs → shds cs
  | [], _, h => by cases h
  | x :: F, hF, h => by
    simp only [lf] at h
    split at h
    · cases h
      exact hF _ (by simp)
    · exact lf_shd (F := F) (fun q hq => hF q (by simp only [List.map_cons, List.mem_cons]; exact .inr hq)) h
theorem Wk.ren3 {P : Program} {n : Nat} {c0 : Cx} {Bor : Nat → Prop} {n0 : Nat} {l : L} (l' : L) (m : Nat) (hc0 : ∀ i x, c0.own i = some x → i < m) (σl : List Nat) (F : List (Nat × List PV)) (hF : ∀ q ∈ F.map (fun x => shds x.2), q) (hx : l'.map (fixF F) = l'.map (fun x => x.2)) (hσ : σl.take m = List.range m) (hnd : nodupB σl = true) (hb : shapeB σl.length l' = true)
    (h : l'.map (fun x => get l (rkey (sgm n0 σl) x.1)) = l'.map (rvalF (sgm n0 σl) F)) : Wk P n c0 Bor n0 l σl.length l' :=
  Wk.ren2 l' m hc0 σl hσ hnd hb (h.trans (List.map_congr_left fun x hxl => by
    have h1 := List.map_inj_left.1 hx x hxl
    obtain ⟨k, v⟩ := x
    cases v with
    | none => rfl
    | some v =>
      cases v with
      | pv p => rfl
      | blk T cs =>
        simp only [fixF, rvalF, rval] at h1 ⊢
        cases hl : lf k F with
        | none => rfl
        | some ds =>
          rw [hl] at h1
          simp only [Option.some.injEq, Val.blk.injEq] at h1
          simp only [Option.some.injEq, Val.blk.injEq, true_and]
          rw [← h1.2, renL_shd (lf_shd hF hl)]))
theorem frz_shd {id : Nat} {cs : List PV} {p : PV} (h : p.shd = true) : frz id cs p = p := by
  cases p <;> first | rfl | cases h
theorem frzL_shd {id : Nat} {cs : List PV} : ∀ {ds : List PV}, shds ds → frzL id cs ds = ds
  | [], _ => rfl
  | p :: l, h => by
    rw [frzL, frz_shd (h p (by simp)), frzL_shd (fun q hq => h q (by simp [hq]))]
def frzF (id : Nat) (cs : List PV) (F : List (Nat × List PV)) : L → L
  | [] => []
  | (k, x) :: l => (k, match x with
    | some (.pv p) => some (.pv (frz id cs p))
    | some (.blk T ds) => match Nat.beq k (kb id) with | true => none | false => match lf k F with | some es => some (.blk T es) | none => some (.blk T (frzL id cs ds))
    | none => none) :: frzF id cs F l
theorem frzF_eq {id : Nat} {cs : List PV} {F : List (Nat × List PV)} (hF : ∀ q ∈ F.map (fun x => shds x.2), q) : ∀ {l : L}, l.map (fixF F) = l.map (fun x => x.2) → frzS id cs l = frzF id cs F l
  | [], _ => rfl
  | (k, x) :: l, h => by
    simp only [List.map_cons, List.cons.injEq] at h
    simp only [frzS, frzF, List.cons.injEq, Prod.mk.injEq, true_and]
    refine ⟨?_, frzF_eq hF h.2⟩
    cases x with
    | none => rfl
    | some v =>
      cases v with
      | pv p => rfl
      | blk T ds =>
        have h1 := h.1
        simp only [fixF] at h1 ⊢
        cases hl : lf k F with
        | none => rfl
        | some es =>
          rw [hl] at h1
          simp only [Option.some.injEq, Val.blk.injEq, true_and] at h1
          have hs := lf_shd hF hl
          subst h1
          cases Nat.beq k (kb id) <;> simp [frzL_shd hs]
theorem Wk.frz2 {P : Program} {n : Nat} {c0 : Cx} {Bor : Nat → Prop} {n0 : Nat} {l l' : L} (id : Nat) {T : TypeId} {cs : List PV} (F : List (Nat × List PV)) (hF : ∀ q ∈ F.map (fun x => shds x.2), q) (hx : l.map (fixF F) = l.map (fun x => x.2)) (hg : get l (kb id) = some (.blk T cs)) (hs : shds cs) (he : frzF id cs F l = l') : Wk P n c0 Bor n0 l n0 l' :=
  Wk.frz id hg hs ((frzF_eq hF hx).trans he)
/-- What a slot holds, told otherwise. -/
theorem Wk.slot {P : Program} {n : Nat} {c0 : Cx} {Bor : Nat → Prop} {n0 : Nat} {l : L} (s : Nat) (p q : PV) (hs : get l (Pm.ks s) = some (.pv p)) (hpq : ∀ c v, Rep P c p v → Rep P c q v) : Wk P n c0 Bor n0 l n0 ([(ks s, some (.pv q))] ++ l) := fun cx a hI => by
  have hge : ∀ k, get ([(Pm.ks s, some (.pv q))] ++ l) k = if Nat.beq k (Pm.ks s) then some (.pv q) else get l k := fun k => by
    rw [get_append]
    simp only [over, lk]
    by_cases h1 : Nat.beq k (Pm.ks s) = true
    · simp [h1]
    · simp only [h1]; rfl
  have hb : ∀ i, get ([(Pm.ks s, some (.pv q))] ++ l) (kb i) = get l (kb i) := fun i => by
    rw [hge, beq_kbs]; rfl
  have hl : ∀ i, Live (get ([(Pm.ks s, some (.pv q))] ++ l)) i → Live (get l) i := fun i ⟨T', cs, hx⟩ => ⟨T', cs, by rw [← hb]; exact hx⟩
  refine ⟨cx, rfl, { ids := hI.ids, blk := fun i T' cs hx => hI.blk i T' cs (by rw [← hb]; exact hx), inj := fun i j b T T' l1 l2 => hI.inj i j b T T' (hl i l1) (hl j l2), apart := fun i b T l1 => hI.apart i b T (hl i l1), bnd := hI.bnd, sok := hI.sok, os := hI.os, tape := hI.tape, output := hI.output, size := hI.size, same := hI.same, s0 := hI.s0, s1 := hI.s1, keep := hI.keep, tmps := hI.tmps, dfr := hI.dfr, slot := fun s' p' hp => ?_, isv := fun s' x hx => ?_ }⟩
  · rw [hge, beq_ks] at hp
    by_cases e : s' = s
    · subst e
      rw [decide_eq_true rfl, if_pos rfl] at hp
      cases hp
      exact hpq _ _ (hI.slot s' _ hs)
    · rw [decide_eq_false e, if_neg (by simp)] at hp
      exact hI.slot s' p' hp
  · rw [hge, beq_ks] at hx
    by_cases e : s' = s
    · subst e
      rw [decide_eq_true rfl, if_pos rfl] at hx
      cases hx
      exact ⟨_, rfl⟩
    · rw [decide_eq_false e, if_neg (by simp)] at hx
      exact hI.isv s' x hx
/-- A slice of given cells is a slice of the fewer cells. -/
theorem ssl_cut {P : Program} {cs ds : List PV} {off len m : Nat} (h1 : off + m ≤ cs.length) (h2 : (cs.drop off).take m = ds) (c : Cx) (v : Value) (h : Rep P c (.ssl cs off len) v) : Rep P c (.ssl ds 0 len) v := by
  obtain ⟨h6, h7⟩ := getD_seg h1 h2
  rcases rep_ssl h with ⟨a, cap, hv, hn⟩ | ⟨b, a, cap, vf, hv, hS, hc, hr, ho, hl⟩
  · subst hv; subst hn; exact .sh .emp
  · subst hv
    refine .sh (SRep.ssl (a := a + off) (vf := fun j => vf (off + j)) hS (fun j hj => ?_) (fun j hj => ?_) (seg_ones ho h2) hl)
    · rw [Nat.add_assoc]; exact hc _ (by omega)
    · rw [h7 j (by omega)]; exact hr _ (by omega)
theorem T_elsec {P : Program} {n : Nat} {c0 : Cx} {Bor : Nat → Prop} {Q : Post} {n0 : Nat} {l : L} {rs : List Item} {x y : Code} (h : T P n c0 Bor Q n0 l (.code y :: rs)) : T P n c0 Bor Q n0 l (.code (.cond (.const (.bool false)) x y) :: rs) := fun cx a hI => wp_cond_false rfl (h cx a hI)
theorem T_thenc {P : Program} {n : Nat} {c0 : Cx} {Bor : Nat → Prop} {Q : Post} {n0 : Nat} {l : L} {rs : List Item} {x y : Code} (h : T P n c0 Bor Q n0 l (.code x :: rs)) : T P n c0 Bor Q n0 l (.code (.cond (.const (.bool true)) x y) :: rs) := fun cx a hI => wp_cond_true rfl (h cx a hI)
theorem and_bits (k : IntKind) (a b : Int) : IntKind.wrap k ((BitVec.ofInt (IntKind.bits k) a) &&& (BitVec.ofInt (IntKind.bits k) b)).toNat = Go.bits .and k a b := rfl
end Go.Proofs.Ytccpefbfjahfnaa.Pm
namespace Go.Proofs.Ytccpefbfjahfnaa.Pm
open Go

def liveK (σl : List Nat) (l : L) : List Nat := l.filterMap fun x => match x.2 with | some (.blk _ _) => some (σl.getD (x.1 / 2) 0) | _ => none
theorem liveK_mem {σl : List Nat} {l : L} {k : Nat} {T : TypeId} {cs : List PV} (h : get l k = some (.blk T cs)) : ∃ i, ∃ h : i < l.length, (l[i]).1 = k ∧ ∃ T cs, (l[i]).2 = some (.blk T cs) := by
  induction l with
  | nil => simp [get, lk] at h
  | cons x l ih =>
    simp only [get, lk] at h ih
    by_cases e : Nat.beq k x.1 = true
    · rw [if_pos e] at h
      exact ⟨0, by simp, (Nat.eq_of_beq_eq_true e).symm, T, cs, by simpa using h⟩
    · rw [if_neg e] at h
      obtain ⟨i, hi, h1, h2⟩ := ih h
      exact ⟨i + 1, by simp; omega, h1, h2⟩
theorem liveK_inj {σl : List Nat} : ∀ {l : L}, nodupB (liveK σl l) = true → ∀ i j (hi : i < l.length) (hj : j < l.length), (∃ T cs, (l[i]).2 = some (.blk T cs)) → (∃ T cs, (l[j]).2 = some (.blk T cs)) → σl.getD ((l[i]).1 / 2) 0 = σl.getD ((l[j]).1 / 2) 0 → i = j
  | [], _, i, _, hi, _, _, _, _ => absurd hi (Nat.not_lt_zero _)
  | x :: l, h, i, j, hi, hj, ⟨T1, c1, h1⟩, ⟨T2, c2, h2⟩, he => by
    have mem : ∀ q (hq : q < l.length), (∃ T cs, (l[q]).2 = some (.blk T cs)) → σl.getD ((l[q]).1 / 2) 0 ∈ liveK σl l := fun q hq ⟨T, cs, hh⟩ =>
      List.mem_filterMap.2 ⟨l[q], List.getElem_mem hq, by rw [hh]⟩
    cases i with
    | zero =>
      cases j with
      | zero => rfl
      | succ j =>
        exfalso
        simp only [List.getElem_cons_zero, List.getElem_cons_succ] at h1 h2 he
        have hm := mem j (by simpa using hj) ⟨T2, c2, h2⟩
        simp only [liveK, List.filterMap_cons, h1] at h
        rw [← he] at hm
        simp only [nodupB, Bool.and_eq_true] at h
        have := List.all_eq_true.1 h.1 _ hm
        rw [Nat.beq_refl] at this
        cases this
    | succ i =>
      have hl : nodupB (liveK σl l) = true := by
        simp only [liveK, List.filterMap_cons] at h
        split at h
        · exact h
        · simp only [nodupB, Bool.and_eq_true] at h
          exact h.2
      cases j with
      | zero =>
        exfalso
        simp only [List.getElem_cons_zero, List.getElem_cons_succ] at h1 h2 he
        have hm := mem i (by simpa using hi) ⟨T1, c1, h1⟩
        simp only [liveK, List.filterMap_cons, h2] at h
        rw [he] at hm
        simp only [nodupB, Bool.and_eq_true] at h
        have := List.all_eq_true.1 h.1 _ hm
        rw [Nat.beq_refl] at this
        cases this
      | succ j =>
        have := liveK_inj hl i j (by simpa using hi) (by simpa using hj) ⟨T1, c1, h1⟩ ⟨T2, c2, h2⟩ he
        omega
section
variable {P : Program} {n : Nat} {c0 : Cx} {Bor : Nat → Prop} {n0 : Nat} {l : L}
/-- As Wk.ren; only numbers that live must be apart. -/
theorem Wk.renD {l' : L} (m : Nat) (hc0 : ∀ i x, c0.own i = some x → i < m) (σl : List Nat) (hσ : σl.take m = List.range m) (hnd : nodupB (liveK σl l') = true) (h : ∀ p ∈ reSt (sgm n0 σl) σl.length l' (get l), p) : Wk P n c0 Bor n0 l σl.length l' := fun cx a hI => by
  have hsp := reSt_spec h
  have hs1 : ∀ i, i < σl.length → sgm n0 σl i = σl.getD i 0 := fun i hi => by
    unfold sgm
    rw [show Nat.blt i σl.length = true from by simpa [Nat.blt_eq] using hi]
  have hs2 : ∀ i, σl.length ≤ i → cx.own (sgm n0 σl i) = none := fun i hi => by
    unfold sgm
    rw [show Nat.blt i σl.length = false from by rw [Bool.eq_false_iff, Ne, Nat.blt_eq]; omega]
    cases ho : cx.own (n0 + i) with
    | none => rfl
    | some x => have : n0 + i < n0 := hI.ids _ x ho; omega
  have hlv : ∀ i, Live (get l') i → i < σl.length ∧ Live (get l) (sgm n0 σl i) := fun i ⟨T, cs, hx⟩ => by
    have h1 := hsp _ _ hx
    simp only at h1
    rw [show kb i / 2 = i by simp only [kb]; omega] at h1
    exact ⟨h1.2.1, T, _, h1.2.2⟩
  refine ⟨cx.via (sgm n0 σl), rfl, { ids := fun i x hx => ?_, blk := fun i T cs hx => ?_, inj := fun i j b T T' l1 l2 h3 h4 => ?_, apart := fun i b T l1 h2 => hI.apart _ b T (hlv i l1).2 h2, bnd := fun i b T h1 => hI.bnd _ b T h1, sok := hI.sok, os := hI.os, tape := hI.tape, output := hI.output, size := hI.size, same := hI.same, s0 := hI.s0, s1 := hI.s1, keep := ⟨hI.keep.S, fun i x hx => ?_, hI.keep.shape⟩, tmps := hI.tmps, dfr := hI.dfr, slot := fun s p hp => ?_, isv := fun s x hx => ?_ }⟩
  · show i < σl.length
    rcases Nat.lt_or_ge i σl.length with h1 | h1
    · exact h1
    · have : cx.own (sgm n0 σl i) = some x := hx
      rw [hs2 i h1] at this
      cases this
  · have h1 := hsp _ _ hx
    simp only at h1
    rw [show kb i / 2 = i by simp only [kb]; omega] at h1
    obtain ⟨ob, h5, h6, h7⟩ := hI.blk _ _ _ h1.2.2
    refine ⟨ob, h5, ones_renL.1 h6, ?_⟩
    rcases h7 with ⟨h7, h8⟩ | ⟨b, arr, h7, h8, h9, h10⟩
    · exact .inl ⟨h7, renL_nil h8⟩
    · rw [renL_length] at h9 h10
      exact .inr ⟨b, arr, h7, h8, h9, fun j hj => rep_via (h10 j hj) _ (renL_get _ _ j hj)⟩
  · obtain ⟨e1, l1'⟩ := hlv i l1
    obtain ⟨e2, l2'⟩ := hlv j l2
    have h5 := hI.inj _ _ b T T' l1' l2' h3 h4
    rw [hs1 i e1, hs1 j e2] at h5
    obtain ⟨_, _, hx1⟩ := l1
    obtain ⟨_, _, hx2⟩ := l2
    obtain ⟨p, hp, h6, h7⟩ := liveK_mem (σl := σl) hx1
    obtain ⟨q, hq, h8, h9⟩ := liveK_mem (σl := σl) hx2
    have h10 := liveK_inj hnd p q hp hq h7 h9 (by rw [h6, h8, show kb i / 2 = i by simp only [kb]; omega, show kb j / 2 = j by simp only [kb]; omega]; exact h5)
    subst h10
    rw [h6] at h8
    simp only [kb] at h8
    omega
  · have h1 := hc0 i x hx
    have h2 : i < σl.length := by
      have := congrArg List.length hσ
      simp at this
      omega
    have h3 : σl.getD i 0 = i := by
      have h4 := List.getElem?_take_of_lt (l := σl) h1
      rw [hσ] at h4
      rw [List.getD_eq_getElem?_getD, ← h4]
      simp [h1]
    show cx.own (sgm n0 σl i) = some x
    rw [hs1 i h2, h3]
    exact hI.keep.own i x hx
  · have h1 := hsp _ _ hp
    exact rep_via (hI.slot s _ h1) _ rfl
  · cases x with
    | pv p => exact ⟨p, rfl⟩
    | blk T cs =>
      have h1 := hsp _ _ hx
      simp only [Pm.ks] at h1
      omega
theorem Wk.ren2D (l' : L) (m : Nat) (hc0 : ∀ i x, c0.own i = some x → i < m) (σl : List Nat) (hσ : σl.take m = List.range m) (hnd : nodupB (liveK σl l') = true) (hb : shapeB σl.length l' = true)
    (h : l'.map (fun x => get l (rkey (sgm n0 σl) x.1)) = l'.map (fun x => rval (sgm n0 σl) x.2)) : Wk P n c0 Bor n0 l σl.length l' := Wk.renD m hc0 σl hσ hnd (reSt_of h hb)
theorem Wk.ren3D (l' : L) (m : Nat) (hc0 : ∀ i x, c0.own i = some x → i < m) (σl : List Nat) (F : List (Nat × List PV)) (hF : ∀ q ∈ F.map (fun x => shds x.2), q) (hx : l'.map (fixF F) = l'.map (fun x => x.2)) (hσ : σl.take m = List.range m) (hnd : nodupB (liveK σl l') = true) (hb : shapeB σl.length l' = true)
    (h : l'.map (fun x => get l (rkey (sgm n0 σl) x.1)) = l'.map (rvalF (sgm n0 σl) F)) : Wk P n c0 Bor n0 l σl.length l' :=
  Wk.ren2D l' m hc0 σl hσ hnd hb (h.trans (List.map_congr_left fun x hxl => by
    have h1 := List.map_inj_left.1 hx x hxl
    obtain ⟨k, v⟩ := x
    cases v with
    | none => rfl
    | some v =>
      cases v with
      | pv p => rfl
      | blk T cs =>
        simp only [fixF, rvalF, rval] at h1 ⊢
        cases hl : lf k F with
        | none => rfl
        | some ds =>
          rw [hl] at h1
          simp only [Option.some.injEq, Val.blk.injEq] at h1
          simp only [Option.some.injEq, Val.blk.injEq, true_and]
          rw [← h1.2, renL_shd (lf_shd hF hl)]))
/-- A cell that holds nil: an own row that has not been made. -/
theorem Wk.nilc (id j : Nat) (T : TypeId) {B : TypeId} {cells : List PV} (hs : get l (kb id) = some (.blk B cells)) (hj : cells[j]? = some (.av (.slice none 0 0))) : Wk P n c0 Bor n0 l (n0 + 1) ([(kb id, some (.blk B (cells.set j (.osl n0 0 0)))), (kb n0, some (.blk T []))] ++ l) := fun cx a hI => by
  obtain ⟨hk, hh⟩ := heap_virtual hI.toHeap (id := n0) (fun h => absurd h (Nat.lt_irrefl _)) T
  obtain ⟨ob0, ho0, _⟩ := hI.blk id B cells hs
  have hid : id < n0 := hI.ids id _ ho0
  have hg : over [(kb n0, some (.blk T []))] (get l) (kb id) = some (.blk B cells) := by rw [over_b, if_neg (by omega)]; exact hs
  refine ⟨⟨cx.w, cx.S, setOwn cx.own n0 (none, T)⟩, rfl, ?_⟩
  have hge : ∀ k, get ([(kb id, some (.blk B (cells.set j (.osl n0 0 0)))), (kb n0, some (.blk T []))] ++ l) k = if Nat.beq k (kb id) then some (.blk B (cells.set j (.osl n0 0 0))) else over [(kb n0, some (.blk T []))] (get l) k := fun k => by
    rw [get_append]
    simp only [over, lk]
    by_cases h1 : Nat.beq k (kb id) = true
    · simp [h1]
    · simp only [h1]; rfl
  have hb : ∀ i, get ([(kb id, some (.blk B (cells.set j (.osl n0 0 0)))), (kb n0, some (.blk T []))] ++ l) (kb i) = if i = id then some (.blk B (cells.set j (.osl n0 0 0))) else over [(kb n0, some (.blk T []))] (get l) (kb i) := fun i => by
    rw [hge, beq_kb]; by_cases e : i = id <;> simp [e]
  have hsl : ∀ s, get ([(kb id, some (.blk B (cells.set j (.osl n0 0 0)))), (kb n0, some (.blk T []))] ++ l) (Pm.ks s) = get l (Pm.ks s) := fun s => by
    rw [hge, beq_ksb, if_neg (by simp), over_s]
  have hl : ∀ i, Live (get ([(kb id, some (.blk B (cells.set j (.osl n0 0 0)))), (kb n0, some (.blk T []))] ++ l)) i → Live (over [(kb n0, some (.blk T []))] (get l)) i := fun i ⟨T', cs, hx⟩ => by
    rw [hb] at hx
    by_cases e : i = id
    · subst e; exact ⟨B, cells, hg⟩
    · rw [if_neg e] at hx; exact ⟨T', cs, hx⟩
  exact { ids := fun i x hx => by
            rcases hh.ids i x hx with h | h
            · exact Nat.lt_succ_of_lt h
            · subst h; exact Nat.lt_succ_self _
          blk := fun i T' cs hx => by
            rw [hb] at hx
            by_cases e : i = id
            · subst e
              rw [if_pos rfl] at hx
              cases hx
              obtain ⟨ob, h1, h2, h3⟩ := hh.blk i B cells hg
              refine ⟨ob, h1, fun p hp => ?_, ?_⟩
              · rcases List.mem_or_eq_of_mem_set hp with h | h
                · exact h2 p h
                · rw [h]; rfl
              · rcases h3 with ⟨_, h4⟩ | ⟨b, arr, h4, h5, h6, h7⟩
                · rw [h4] at hj; simp at hj
                · refine .inr ⟨b, arr, h4, h5, by rw [List.length_set]; exact h6, fun q hq => ?_⟩
                  rw [List.length_set] at hq
                  by_cases e : q = j
                  · subst e
                    have h8 := h7 q hq
                    have e2 : cells.getD q P0 = .av (.slice none 0 0) := by rw [List.getD_eq_getElem?_getD, hj]; rfl
                    rw [e2] at h8
                    rw [show (cells.set q (.osl n0 0 0)).getD q P0 = .osl n0 0 0 from by rw [List.getD_eq_getElem?_getD, List.getElem?_set_self hq]; rfl, rep_av h8]
                    exact .osl setOwn_same (.inl ⟨_, rfl, rfl⟩)
                  · rw [show (cells.set j (.osl n0 0 0)).getD q P0 = cells.getD q P0 from by rw [List.getD_eq_getElem?_getD, List.getD_eq_getElem?_getD, List.getElem?_set_ne (Ne.symm e)]]
                    exact h7 q hq
            · rw [if_neg e] at hx
              exact hh.blk i T' cs hx
          inj := fun i j b T T' l1 l2 => hh.inj i j b T T' (hl i l1) (hl j l2), apart := fun i b T l1 => hh.apart i b T (hl i l1), bnd := hh.bnd, sok := hh.sok,
          os := hh.os, tape := hh.tape, output := hh.output, size := hh.size, same := hh.same, s0 := hh.s0, s1 := hh.s1, keep := hh.keep, tmps := hI.tmps, dfr := hI.dfr
          slot := fun s' p hp => by
            rw [hsl] at hp
            exact (hI.slot s' p hp).mono hk
          isv := fun s' x hx => by
            rw [hsl] at hx
            exact hI.isv s' x hx }
end
end Go.Proofs.Ytccpefbfjahfnaa.Pm
namespace Go.Proofs.Ytccpefbfjahfnaa.Pm
open Go Fr Gcd

inductive Beat where
  | mk (k s : Int) (l : List Beat)
def kd : Beat → Int | .mk k _ _ => k
def sh : Beat → Int | .mk _ s _ => s
def kids : Beat → List Beat | .mk _ _ l => l
abbrev dB : Beat := .mk 0 0 []
mutual
def kc : Beat → List PV
  | .mk _ _ l => kcs l
def kcs : List Beat → List PV
  | [] => []
  | b :: l => iv (kd b) :: iv (sh b) :: .ssl (kc b) 0 (kids b).length :: kcs l
end
/-- A beat's cells. -/
def gB (b : Beat) : List PV := [iv (kd b), iv (sh b), .ssl (kc b) 0 (kids b).length]
theorem kcs_flat : ∀ l : List Beat, kcs l = l.flatMap gB
  | [] => by simp [kcs]
  | b :: l => by rw [kcs, kcs_flat l, List.flatMap_cons]; rfl
theorem kc_eq (b : Beat) : kc b = (kids b).flatMap gB := by
  cases b with | mk k s l => rw [kc, kcs_flat]; rfl
theorem kc_at (b : Beat) (k j m : Nat) (hk : k < (kids b).length) (hj : j + m ≤ 3) : k * 3 + j + m ≤ (kc b).length ∧ ((kc b).drop (k * 3 + j)).take m = ((gB ((kids b).getD k dB)).drop j).take m := by
  rw [kc_eq]
  exact flat_at gB 3 (fun _ => rfl) dB (kids b) k j m hk hj
theorem kc_shd (b : Beat) : shds (kc b) := by
  rw [kc_eq]
  exact flat_shd gB (fun _ => rfl) _
theorem kids_lt {b : Beat} {i : Nat} (h : i < (kids b).length) : SizeOf.sizeOf ((kids b).getD i dB) < SizeOf.sizeOf b := by
  cases b with
  | mk k s l =>
    simp only [kids] at h ⊢
    rw [List.getD_eq_getElem?_getD, List.getElem?_eq_getElem h]
    have := List.sizeOf_lt_of_mem (List.getElem_mem h)
    simp only [Option.getD_some, Beat.mk.sizeOf_spec]
    omega

/-! ### what is wrong -/
mutual
def lookS : Beat → Int → Int → Int × Int
  | .mk k s l, lv, n => if 32 < lv then (4, n) else if 4096 < n + 1 then (4, n + 1) else if s < 1 ∨ 65536 < s then (3, n + 1) else
    if k = 1 ∨ k = 2 ∨ k = 3 then (if l.length = 0 then (0, n + 1) else (5, n + 1)) else if k = 4 then (if l.length = 0 then (5, n + 1) else lookL l (lv + 1) (n + 1)) else (1, n + 1)
def lookL : List Beat → Int → Int → Int × Int
  | [], _, n => (0, n)
  | b :: l, lv, n => if (lookS b lv n).1 = 0 then lookL l lv (lookS b lv n).2 else lookS b lv n
end
theorem lookS_eq (b : Beat) (lv n : Int) : lookS b lv n = if 32 < lv then (4, n) else if 4096 < n + 1 then (4, n + 1) else if sh b < 1 ∨ 65536 < sh b then (3, n + 1) else
    if kd b = 1 ∨ kd b = 2 ∨ kd b = 3 then (if (kids b).length = 0 then (0, n + 1) else (5, n + 1)) else if kd b = 4 then (if (kids b).length = 0 then (5, n + 1) else lookL (kids b) (lv + 1) (n + 1)) else (1, n + 1) := by
  cases b with | mk k s l => rw [lookS]; rfl
theorem drop_cons {l : List Beat} {i : Nat} (h : i < l.length) : l.drop i = l.getD i dB :: l.drop (i + 1) := by
  rw [List.drop_eq_getElem_cons h, List.getD_eq_getElem?_getD, List.getElem?_eq_getElem h]
  rfl
theorem lookL_next {l : List Beat} {i : Nat} {lv n : Int} (h : i < l.length) (h0 : (lookS (l.getD i dB) lv n).1 = 0) : lookL (l.drop (i + 1)) lv (lookS (l.getD i dB) lv n).2 = lookL (l.drop i) lv n := by
  rw [drop_cons h, lookL, if_pos h0]
theorem lookL_stop {l : List Beat} {i : Nat} {lv n : Int} (h : i < l.length) (h0 : ¬ (lookS (l.getD i dB) lv n).1 = 0) : lookL (l.drop i) lv n = lookS (l.getD i dB) lv n := by
  rw [drop_cons h, lookL, if_neg h0]
mutual
def cnt : Beat → Nat
  | .mk _ _ l => cntL l + 1
def cntL : List Beat → Nat
  | [] => 0
  | b :: l => cnt b + cntL l
end
mutual
/-- What is right with a beat that nothing is wrong with. -/
def good : Beat → Prop
  | .mk k s l => 1 ≤ s ∧ s ≤ 65536 ∧ (k = 4 → l ≠ []) ∧ goodL l
def goodL : List Beat → Prop
  | [] => True
  | b :: l => good b ∧ goodL l
end
theorem cnt_eq (b : Beat) : cnt b = cntL (kids b) + 1 := by cases b with | mk k s l => rw [cnt]; rfl
theorem good_eq (b : Beat) : good b ↔ 1 ≤ sh b ∧ sh b ≤ 65536 ∧ (kd b = 4 → kids b ≠ []) ∧ goodL (kids b) := by cases b with | mk k s l => rw [good]; rfl
theorem cnt_pos (b : Beat) : 1 ≤ cnt b := by rw [cnt_eq]; omega
mutual
theorem look_ok : ∀ (b : Beat) (lv n : Int), 0 ≤ n → n ≤ 4096 → n ≤ (lookS b lv n).2 ∧ (lookS b lv n).2 ≤ 4097 ∧ ((lookS b lv n).1 = 0 → (lookS b lv n).2 ≤ 4096 ∧ n + ((cnt b : Nat) : Int) = (lookS b lv n).2 ∧ good b)
  | .mk k s l, lv, n, h0, h1 => by
    rw [lookS]
    by_cases c1 : 32 < lv
    · rw [if_pos c1]; simp; omega
    rw [if_neg c1]
    by_cases c2 : 4096 < n + 1
    · rw [if_pos c2]; simp; omega
    rw [if_neg c2]
    by_cases c3 : s < 1 ∨ 65536 < s
    · rw [if_pos c3]; simp; omega
    rw [if_neg c3]
    by_cases c4 : k = 1 ∨ k = 2 ∨ k = 3
    · rw [if_pos c4]
      by_cases c5 : l.length = 0
      · rw [if_pos c5]
        have := List.eq_nil_of_length_eq_zero c5
        subst this
        simp [cnt, cntL, good, goodL]
        omega
      · rw [if_neg c5]; simp; omega
    rw [if_neg c4]
    by_cases c6 : k = 4
    · rw [if_pos c6]
      by_cases c5 : l.length = 0
      · rw [if_pos c5]; simp; omega
      · rw [if_neg c5]
        obtain ⟨h2, h3, h4⟩ := look_okL l (lv + 1) (n + 1) (by omega) (by omega)
        refine ⟨by omega, h3, fun h5 => ?_⟩
        obtain ⟨h6, h7, h8⟩ := h4 h5
        refine ⟨h6, by rw [cnt]; omega, ?_⟩
        rw [good]
        exact ⟨by omega, by omega, fun _ e => c5 (by rw [e]; rfl), h8⟩
    · rw [if_neg c6]; simp; omega
theorem look_okL : ∀ (l : List Beat) (lv n : Int), 0 ≤ n → n ≤ 4096 → n ≤ (lookL l lv n).2 ∧ (lookL l lv n).2 ≤ 4097 ∧ ((lookL l lv n).1 = 0 → (lookL l lv n).2 ≤ 4096 ∧ n + ((cntL l : Nat) : Int) = (lookL l lv n).2 ∧ goodL l)
  | [], lv, n, h0, h1 => by simp [lookL, cntL, goodL]; omega
  | b :: l, lv, n, h0, h1 => by
    obtain ⟨h2, h3, h4⟩ := look_ok b lv n h0 h1
    rw [lookL]
    by_cases c : (lookS b lv n).1 = 0
    · rw [if_pos c]
      obtain ⟨h5, h6, h7⟩ := h4 c
      obtain ⟨k2, k3, k4⟩ := look_okL l lv (lookS b lv n).2 (by omega) h5
      refine ⟨by omega, k3, fun h8 => ?_⟩
      obtain ⟨k5, k6, k7⟩ := k4 h8
      exact ⟨k5, by rw [cntL]; omega, by rw [goodL]; exact ⟨h7, k7⟩⟩
    · rw [if_neg c]
      exact ⟨h2, h3, fun h => absurd h c⟩
end
mutual
def wrongS : Beat → Int → Int → Int × Int
  | .mk k s l, lv, n => if 32 < lv ∨ n < 1 then (4, n) else if s < 1 ∨ 65536 < s then (3, n - 1) else
    if k < 1 ∨ 4 < k then (1, n - 1) else if (k = 4 ∧ l.length = 0) ∨ (k ≠ 4 ∧ 0 < l.length) then (5, n - 1) else wrongL l (lv + 1) (n - 1)
def wrongL : List Beat → Int → Int → Int × Int
  | [], _, n => (0, n)
  | b :: l, lv, n => if (wrongS b lv n).1 = 0 then wrongL l lv (wrongS b lv n).2 else wrongS b lv n
end
theorem wrongS_eq (b : Beat) (lv n : Int) : wrongS b lv n = if 32 < lv ∨ n < 1 then (4, n) else if sh b < 1 ∨ 65536 < sh b then (3, n - 1) else
    if kd b < 1 ∨ 4 < kd b then (1, n - 1) else if (kd b = 4 ∧ (kids b).length = 0) ∨ (kd b ≠ 4 ∧ 0 < (kids b).length) then (5, n - 1) else wrongL (kids b) (lv + 1) (n - 1) := by
  cases b with | mk k s l => rw [wrongS]; rfl
theorem wrongL_next {l : List Beat} {i : Nat} {lv n : Int} (h : i < l.length) (h0 : (wrongS (l.getD i dB) lv n).1 = 0) : wrongL (l.drop (i + 1)) lv (wrongS (l.getD i dB) lv n).2 = wrongL (l.drop i) lv n := by
  rw [drop_cons h, wrongL, if_pos h0]
theorem wrongL_stop {l : List Beat} {i : Nat} {lv n : Int} (h : i < l.length) (h0 : ¬ (wrongS (l.getD i dB) lv n).1 = 0) : wrongL (l.drop i) lv n = wrongS (l.getD i dB) lv n := by
  rw [drop_cons h, wrongL, if_neg h0]
mutual
theorem wrong_look : ∀ (b : Beat) (lv n : Int), 0 ≤ n → n ≤ 4096 → (wrongS b lv (4096 - n)).1 = (lookS b lv n).1 ∧ ((lookS b lv n).1 = 0 → (wrongS b lv (4096 - n)).2 = 4096 - (lookS b lv n).2)
  | .mk k s l, lv, n, h0, h1 => by
    rw [lookS, wrongS]
    by_cases c1 : 32 < lv
    · rw [if_pos c1, if_pos (by omega)]; simp
    rw [if_neg c1]
    by_cases c2 : 4096 < n + 1
    · rw [if_pos c2, if_pos (by omega)]; simp
    rw [if_neg c2, if_neg (by omega)]
    by_cases c3 : s < 1 ∨ 65536 < s
    · rw [if_pos c3, if_pos c3]; simp
    rw [if_neg c3, if_neg c3]
    have e : 4096 - n - 1 = 4096 - (n + 1) := by omega
    by_cases c4 : k = 1 ∨ k = 2 ∨ k = 3
    · rw [if_pos c4, if_neg (show ¬ (k < 1 ∨ 4 < k) by omega)]
      by_cases c5 : l.length = 0
      · rw [if_pos c5, if_neg (by omega)]
        have := List.eq_nil_of_length_eq_zero c5
        subst this
        simp [wrongL]
        omega
      · rw [if_neg c5, if_pos (by omega)]; simp
    rw [if_neg c4]
    by_cases c6 : k = 4
    · rw [if_pos c6, if_neg (show ¬ (k < 1 ∨ 4 < k) by omega)]
      by_cases c5 : l.length = 0
      · rw [if_pos c5, if_pos (by omega)]; simp
      · rw [if_neg c5, if_neg (by omega), e]
        exact wrong_lookL l (lv + 1) (n + 1) (by omega) (by omega)
    · rw [if_neg c6, if_pos (show (k < 1 ∨ 4 < k) by omega)]; simp
theorem wrong_lookL : ∀ (l : List Beat) (lv n : Int), 0 ≤ n → n ≤ 4096 → (wrongL l lv (4096 - n)).1 = (lookL l lv n).1 ∧ ((lookL l lv n).1 = 0 → (wrongL l lv (4096 - n)).2 = 4096 - (lookL l lv n).2)
  | [], lv, n, h0, h1 => by simp [lookL, wrongL]
  | b :: l, lv, n, h0, h1 => by
    obtain ⟨h2, h3⟩ := wrong_look b lv n h0 h1
    obtain ⟨h4, h5, h6⟩ := look_ok b lv n h0 h1
    rw [lookL, wrongL, h2]
    by_cases c : (lookS b lv n).1 = 0
    · rw [if_pos c, if_pos c, h3 c]
      exact wrong_lookL l lv _ (by omega) (h6 c).1
    · rw [if_neg c, if_neg c]
      exact ⟨h2, h3⟩
end
theorem wrong_ok (b : Beat) (lv n : Int) (h0 : 0 ≤ n) (h1 : n ≤ 4096) (c : (wrongS b lv n).1 = 0) : 0 ≤ (wrongS b lv n).2 ∧ (wrongS b lv n).2 + 1 ≤ n := by
    obtain ⟨h2, h3⟩ := wrong_look b lv (4096 - n) (by omega) (by omega)
    rw [show 4096 - (4096 - n) = n by omega] at h2 h3
    obtain ⟨h4, h5, h6⟩ := look_ok b lv (4096 - n) (by omega) (by omega)
    have := h3 (by rw [← h2]; exact c)
    have h7 := h6 (by rw [← h2]; exact c)
    have := cnt_pos b
    omega
/-- What is wrong with a beat, told as a number. -/
def wrongE (b : Beat) : Int := (lookS b 1 0).1
theorem wrongE_ref (b : Beat) : (wrongS b 1 4096).1 = wrongE b := by
  have := (wrong_look b 1 0 (by decide) (by decide)).1
  exact this

/-! ### spans -/
abbrev Sp := Int × Int × Int × Int × Bool
def spC (x : Sp) : List PV := [iv x.1, iv x.2.1, iv x.2.2.1, iv x.2.2.2.1, bv x.2.2.2.2]
def spans (l : List Sp) : List PV := l.flatMap spC
abbrev StS := List Sp × Int × Int
abbrev dS : Sp := (0, 0, 0, 0, false)
theorem spans_shd (l : List Sp) : shds (spans l) := flat_shd spC (fun _ => rfl) l
theorem spans_len (l : List Sp) : (spans l).length = l.length * 5 := flat_len spC 5 (fun _ => rfl) l
def longer (L : List Sp) (u d : Int) : List Sp := L.set (L.length - 1) ((L.getD (L.length - 1) dS).1, (L.getD (L.length - 1) dS).2.1, u, d, (L.getD (L.length - 1) dS).2.2.2.2)
def leafS (k u d : Int) (L : List Sp) (a b : Int) : Int × StS :=
  if (plus a b u d).2.2 = 0 then
    if k = 3 ∧ 0 < L.length then
      let s := plus (L.getD (L.length - 1) dS).2.2.1 (L.getD (L.length - 1) dS).2.2.2.1 u d
      if s.2.2 = 0 then (0, longer L s.1 s.2.1, (plus a b u d).1, (plus a b u d).2.1) else (s.2.2, longer L s.1 s.2.1, a, b)
    else (0, L ++ [(a, b, u, d, decide (k = 1))], (plus a b u d).1, (plus a b u d).2.1)
  else ((plus a b u d).2.2, L, a, b)
def sumSh (l : List Beat) : Int := (l.map sh).sum
mutual
def shareS : Beat → Int → Int → StS → Int × StS
  | .mk k _ l, u, d, st => if k = 4 then shareL l (sumSh l) u d st else leafS k u d st.1 st.2.1 st.2.2
def shareL : List Beat → Int → Int → Int → StS → Int × StS
  | [], _, _, _, st => (0, st)
  | b :: l, all, u, d, st =>
    if (make (sh b) all).2.2 = 0 then
      if (times (make (sh b) all).1 (make (sh b) all).2.1 u d).2.2 = 0 then
        let q := times (make (sh b) all).1 (make (sh b) all).2.1 u d
        if (shareS b q.1 q.2.1 st).1 = 0 then shareL l all u d (shareS b q.1 q.2.1 st).2 else shareS b q.1 q.2.1 st
      else ((times (make (sh b) all).1 (make (sh b) all).2.1 u d).2.2, st)
    else ((make (sh b) all).2.2, st)
end
theorem shareS_eq (b : Beat) (u d : Int) (st : StS) : shareS b u d st = if kd b = 4 then shareL (kids b) (sumSh (kids b)) u d st else leafS (kd b) u d st.1 st.2.1 st.2.2 := by
  cases b with | mk k s l => rw [shareS]; rfl
theorem sumSh_next {l : List Beat} {i : Nat} (h : i < l.length) : sumSh (l.take (i + 1)) = sumSh (l.take i) + sh (l.getD i dB) := by
  unfold sumSh
  rw [List.take_add_one, List.map_append, List.sum_append, List.getD_eq_getElem?_getD, List.getElem?_eq_getElem h]
  simp
theorem goodL_at : ∀ {l : List Beat} {i : Nat}, goodL l → i < l.length → good (l.getD i dB)
  | b :: l, 0, h, _ => by rw [goodL] at h; exact h.1
  | b :: l, i + 1, h, hi => by rw [goodL] at h; exact goodL_at (l := l) (i := i) h.2 (by simpa using hi)
theorem goodL_sum : ∀ {l : List Beat}, goodL l → ((l.length : Nat) : Int) ≤ sumSh l ∧ sumSh l ≤ 65536 * ((l.length : Nat) : Int)
  | [], _ => by simp [sumSh]
  | b :: l, h => by
    rw [goodL] at h
    have := goodL_sum h.2
    have h1 := (good_eq b).1 h.1
    simp only [sumSh, List.map_cons, List.sum_cons, List.length_cons] at this ⊢
    omega
theorem goodL_take : ∀ {l : List Beat} (i : Nat), goodL l → goodL (l.take i)
  | [], i, _ => by simp [goodL]
  | b :: l, 0, _ => by simp [goodL]
  | b :: l, i + 1, h => by rw [goodL] at h; rw [List.take_succ_cons, goodL]; exact ⟨h.1, goodL_take i h.2⟩
theorem cntL_len : ∀ l : List Beat, l.length ≤ cntL l
  | [] => Nat.zero_le _
  | b :: l => by rw [cntL, List.length_cons]; have := cntL_len l; have := cnt_pos b; omega
theorem sumSh_bd {l : List Beat} (h : goodL l) (i : Nat) (hc : cntL l ≤ 4096) : 0 ≤ sumSh (l.take i) ∧ sumSh (l.take i) ≤ 268435456 := by
  have h1 := goodL_sum (goodL_take i h)
  have h2 := cntL_len l
  have h3 : (l.take i).length ≤ l.length := by rw [List.length_take]; exact Nat.min_le_right _ _
  omega
theorem cntL_at {l : List Beat} {i : Nat} (h : i < l.length) : cntL (l.drop i) = cnt (l.getD i dB) + cntL (l.drop (i + 1)) := by
  rw [drop_cons h, cntL]
theorem longer_len (L : List Sp) (u d : Int) : (longer L u d).length = L.length := by unfold longer; exact List.length_set ..
theorem leaf_len (k u d : Int) (L : List Sp) (a b : Int) : L.length ≤ (leafS k u d L a b).2.1.length ∧ (leafS k u d L a b).2.1.length ≤ L.length + 1 := by
  unfold leafS
  split
  · split
    · dsimp only
      split <;> simp only [longer_len] <;> omega
    · simp
  · simp
mutual
theorem share_len : ∀ (b : Beat) (u d : Int) (st : StS), (shareS b u d st).2.1.length ≤ st.1.length + cnt b
  | .mk k s l, u, d, st => by
    rw [shareS, cnt]
    split
    · have := share_lenL l (sumSh l) u d st; omega
    · have := (leaf_len k u d st.1 st.2.1 st.2.2).2; omega
theorem share_lenL : ∀ (l : List Beat) (all u d : Int) (st : StS), (shareL l all u d st).2.1.length ≤ st.1.length + cntL l
  | [], _, _, _, st => by simp [shareL, cntL]
  | b :: l, all, u, d, st => by
    rw [shareL, cntL]
    split
    · split
      · dsimp only
        have h1 := share_len b (times (make (sh b) all).1 (make (sh b) all).2.1 u d).1 (times (make (sh b) all).1 (make (sh b) all).2.1 u d).2.1 st
        split
        · have := share_lenL l all u d (shareS b (times (make (sh b) all).1 (make (sh b) all).2.1 u d).1 (times (make (sh b) all).1 (make (sh b) all).2.1 u d).2.1 st).2
          omega
        · omega
      · simp only; omega
    · simp only; omega
end
end Go.Proofs.Ytccpefbfjahfnaa.Pm
