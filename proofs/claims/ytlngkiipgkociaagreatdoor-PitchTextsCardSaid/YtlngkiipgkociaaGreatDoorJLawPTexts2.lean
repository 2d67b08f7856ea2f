/-
  THE VALUE MACHINE (X): rows laid down for good, by themselves and at a call. No program in sight. | THE VALUE MACHINE (W): atomic loads and stores (functions without a body). No program in sight. | THE VALUE MACHINE (Z): bytes laid down for good, as a string. No program in sight. | THE VALUE MACHINE (L): regions reckoned; the rules of a walk by values. No program in sight. | THE VALUE MACHINE (M): a walk by values: what is left to run, states said anew, loops, whole functions. No program in sight. | THE VALUE MACHINE (N): rows laid down for good, loops, whole functions. No program in sight. | THE VALUE MACHINE (O): what a function hands back; contracts of the kit's kind as contracts by values; small words for written walks. No program in sight. | THE VALUE MACHINE (R): contracts of the kit's kind over plain values, as contracts by values; small lemmas. No program in sight. | THE VALUE MACHINE (S): open rows of shared cells keep their cells under other numbers. No program in sight. | THE VALUE MACHINE (U): states said anew: numbers that take another one's place; a cell that holds nil. No program in sight. | THE VALUE MACHINE (Y): regions that draw, with the keys told: what each operation reads and writes. No program in sight. | THE VALUE MACHINE (SF): the same steps, said in fewer words. No program in sight. | THE VALUE MACHINE (T): texts as lists of bytes. No program in sight. | TEXTS: what Go's library does to them: the kit's contracts, by values. | The plain law of pitches and intervals. No program in sight. | PITCHES AS TEXTS: what is written, what is read. No program in sight. | Small lemmas for all walks of this seat. | REGIONS THAT DRAW THEIR ORDER: a class C of worlds (Derived/Deep/Quiet.lean's own notion: an operation is quiet in C), behind which a tail stands that the order forces (Derived/StillTail.lean's notion of a tail). No program in sight. | THE WALKS of pitches: of the package. | THE WALKS of pitches, on: Between, Key, within, Sum, floor, Move, Mirror of the package. | MOVES: plain. | The plain arithmetic of the white keys, step by step. No program in sight. | THE WALKS of pitches: of the reference: Abs, Right, Up, White, Steps, Halves, At, Within, Key. | THE WALKS of pitches: of the reference: At, Between, Sum, Move, Mirror. | TEXTS: small functions of pitches: the kit's kind of contracts, as contracts by values.
-/
import Derived.Test.YtlngkiipgkociaaGreatDoorJLawPTexts1
import Derived.Laws.LoneSync
import Derived.Laws.BytesArg
import Derived.Shelf.Lay
import Derived.Shelf.Strings.Prefix
import Derived.Shelf.Strings.Trim
import Derived.Shelf.Strings.Search3
import Derived.Shelf.Strings.Repeat
import Derived.Shelf.Strings.SlTrimAscii
import Derived.Shelf.Strconv.Atoi
import Derived.Shelf.Strconv.Itoa3
import Derived.Shelf.Unicode.DecodeAny
import Derived.Lib.AtoiErrMem
import Derived.Lib.AppendIntMem
import Derived.Lib.ItoaLen
import Derived.Test.YtlngkiipgkociaaGreatDoorRows
import Derived.WalkKit
import Derived.WalkSpells
import Derived.WalkLawsBesides
import Derived.Deep.QuietTactic
import Derived.BigQuiet
import Derived.Lib.Hide
import Derived.StillTail
import Derived.Deep.Quiet
import Derived.Below
import Derived.Deep.RegionHeld3
import Derived.Deep.RegionWith
namespace Go.Proofs.YtlngkiipgkociaaGreatDoor.Pm
open Go

/-! ### an own row, laid down for good -/
def PV.shd : PV → Bool
  | .av _ => true
  | .ssl _ _ _ => true
  | .spt _ _ => true
  | _ => false
def shds (cs : List PV) : Prop := ∀ p ∈ cs, PV.shd p = true
theorem shd_rep {P : Program} {c : Cx} {p : PV} {v : Value} (h : Rep P c p v) (hs : p.shd = true) : SRep c.w c.S p v := by
  cases h with
  | sh h => exact h
  | agg => cases hs
  | tup => cases hs
  | osl => cases hs
  | opt => cases hs
  | fn => cases hs
mutual
def frz (id : Nat) (cs : List PV) : PV → PV
  | .osl i off len => match Nat.beq i id with | true => .ssl cs off len | false => .osl i off len
  | .opt i off => match Nat.beq i id with | true => .spt cs off | false => .opt i off
  | .agg l => .agg (frzL id cs l)
  | .tup l => .tup (frzL id cs l)
  | .fn f l m => .fn f (frzL id cs l) (frzL id cs m)
  | .av v => .av v
  | .ssl l off len => .ssl l off len
  | .spt l off => .spt l off
def frzL (id : Nat) (cs : List PV) : List PV → List PV
  | [] => []
  | p :: l => frz id cs p :: frzL id cs l
end
theorem frzL_length (id : Nat) (cs : List PV) : ∀ l, (frzL id cs l).length = l.length
  | [] => rfl
  | _ :: l => by simp [frzL, frzL_length id cs l]
theorem frzL_get (id : Nat) (cs : List PV) : ∀ (l : List PV) (i : Nat), i < l.length → (frzL id cs l).getD i P0 = frz id cs (l.getD i P0)
  | p :: l, 0, _ => rfl
  | p :: l, i + 1, h => by
    have := frzL_get id cs l i (by simpa using h)
    simpa [frzL, List.getD_eq_getElem?_getD] using this
theorem one_frz (id : Nat) (cs : List PV) (p : PV) : (frz id cs p).one = p.one := by
  cases p <;> simp only [frz] <;> first | rfl | (split <;> rfl)
theorem ones_frzL {id : Nat} {cs : List PV} : ∀ {l : List PV}, ones l → ones (frzL id cs l)
  | [], _ => fun p hp => by cases hp
  | p :: l, h => by
    intro q hq
    simp only [frzL, List.mem_cons] at hq
    rcases hq with rfl | hq
    · rw [one_frz]; exact h p (by simp)
    · exact ones_frzL (fun p hp => h p (by simp [hp])) q hq
theorem srep_frz {w : World} {S : Nat → Prop} {id : Nat} {cs : List PV} {p : PV} {v : Value} (h : SRep w S p v) : SRep w S (frz id cs p) v := by
  induction h with
  | av v => exact .av _
  | agg hn _ ih => exact .agg (by rw [frzL_length]; exact hn) fun i hi => by rw [frzL_length] at hi; rw [frzL_get _ _ _ i hi]; exact ih i hi
  | tup hn _ ih => exact .tup (by rw [frzL_length]; exact hn) fun i hi => by rw [frzL_length] at hi; rw [frzL_get _ _ _ i hi]; exact ih i hi
  | emp => exact .emp
  | ssl hS hc h ho hl _ => exact .ssl hS hc h ho hl
  | spt hS hc h ho _ => exact .spt hS hc h ho
  | fn hn _ hm _ ih ik => exact .fn (by rw [frzL_length]; exact hn) (fun i hi => by rw [frzL_length] at hi; rw [frzL_get _ _ _ i hi]; exact ih i hi) (by rw [frzL_length]; exact hm) (fun i hi => by rw [frzL_length] at hi; rw [frzL_get _ _ _ i hi]; exact ik i hi)
theorem rep_frz {P : Program} {c c' : Cx} {id : Nat} {cs : List PV} {ob : Option Nat} {T : TypeId} (hw : c'.w = c.w) (hS : ∀ b, c.S b → c'.S b) (hown : c'.own = c.own) (ho : c.own id = some (ob, T)) (hone : ones cs)
    (hb : ∀ b, ob = some b → c'.S b ∧ ∃ arr : Array Value, c.w.heap[b]? = some (.cells arr T (0, 0)) ∧ cs.length ≤ arr.size ∧ ∀ j, j < cs.length → SRep c'.w c'.S (cs.getD j P0) (arr.getD j undef)) {p : PV} {v : Value} (h : Rep P c p v) : Rep P c' (frz id cs p) v := by
  induction h with
  | sh h => exact .sh (srep_frz (h.mono fun b hb => ⟨hS b hb, by rw [hw]⟩))
  | agg hn _ ih => exact .agg (by rw [frzL_length]; exact hn) fun i hi => by rw [frzL_length] at hi; rw [frzL_get _ _ _ i hi]; exact ih i hi
  | tup hn _ ih => exact .tup (by rw [frzL_length]; exact hn) fun i hi => by rw [frzL_length] at hi; rw [frzL_get _ _ _ i hi]; exact ih i hi
  | osl h1 h2 =>
    rename_i i off len v ob' T'
    simp only [frz]
    split
    · rename_i e
      have e := Nat.eq_of_beq_eq_true e
      subst e
      rw [ho] at h1
      cases h1
      rcases h2 with ⟨a, rfl, rfl⟩ | ⟨b, cap, arr', rfl, rfl, h3, h4, h5⟩
      · exact .sh .emp
      · obtain ⟨q1, arr, q2, q3, q4⟩ := hb b rfl
        have := SRep.ssl (w := c'.w) (S := c'.S) (cs := cs) (off := off) (len := len) (b := b) (a := 0) (cap := cap) (vf := fun j => arr.getD j undef) q1 (fun j hj => by
          have : j < arr.size := by omega
          rw [hw, Nat.zero_add, cell_of_row c.w _ _ arr _ _ q2]
          simp [Array.getD_eq_getD_getElem?, this]) q4 hone h4
        rw [Nat.zero_add] at this
        exact .sh this
    · exact .osl (by rw [hown]; exact h1) (by rw [hw]; exact h2)
  | opt h1 =>
    rename_i i off b T'
    simp only [frz]
    split
    · rename_i e
      have e := Nat.eq_of_beq_eq_true e
      subst e
      rw [ho] at h1
      cases h1
      obtain ⟨q1, arr, q2, q3, q4⟩ := hb b rfl
      have := SRep.spt (w := c'.w) (S := c'.S) (cs := cs) (off := off) (b := b) (a := 0) (vf := fun j => arr.getD j undef) q1 (fun j hj => by
        have : j < arr.size := by omega
        rw [hw, Nat.zero_add, cell_of_row c.w _ _ arr _ _ q2]
        simp [Array.getD_eq_getD_getElem?, this]) q4 hone
      rw [Nat.zero_add] at this
      exact .sh this
    · exact .opt (by rw [hown]; exact h1)
  | fn hn _ hm _ ih ik => exact .fn (by rw [frzL_length]; exact hn) (fun i hi => by rw [frzL_length] at hi; rw [frzL_get _ _ _ i hi]; exact ih i hi) (by rw [frzL_length]; exact hm) (fun i hi => by rw [frzL_length] at hi; rw [frzL_get _ _ _ i hi]; exact ik i hi)
theorem over_kb_none {id : Nat} {g : St} (i : Nat) : over [(kb id, none)] g (kb i) = if i = id then none else g (kb i) := over_b id none g i
/-- An own row is laid down; its number is gone. -/
theorem inv_lay {E : Env} {nx : Nat → Prop} {c : Cx} {g : St} {a : Act} (hI : Inv E nx c g a) {id : Nat} {T : TypeId} {cs : List PV} (hg : g (kb id) = some (.blk T cs)) (hs : shds cs) :
    ∃ c', c'.w = c.w ∧ Keep c c' ∧ Inv E nx c' (over [(kb id, none)] g) a ∧ ∀ {p : PV} {v : Value}, Rep E.P c p v → Rep E.P c' (frz id cs p) v := by
  obtain ⟨ob, ho, hone, hbk⟩ := hI.blk id T cs hg
  let cx' : Cx := ⟨c.w, fun b => c.S b ∨ ob = some b, c.own⟩
  have hlive : Live g id := ⟨T, cs, hg⟩
  have hblk : ∀ b, ob = some b → cx'.S b ∧ ∃ arr : Array Value, c.w.heap[b]? = some (.cells arr T (0, 0)) ∧ cs.length ≤ arr.size ∧ ∀ j, j < cs.length → SRep cx'.w cx'.S (cs.getD j P0) (arr.getD j undef) := by
    intro b hb
    rcases hbk with ⟨h1, _⟩ | ⟨b', arr, h1, h2, h3, h4⟩
    · rw [hb] at h1; cases h1
    · obtain rfl : b' = b := by rw [hb] at h1; simpa using h1.symm
      refine ⟨.inr hb, arr, h2, h3, fun j hj => ?_⟩
      have hm : cs.getD j P0 ∈ cs := by simp [List.getD_eq_getElem?_getD, hj]
      exact (shd_rep (h4 j hj) (hs _ hm)).mono fun b hb => ⟨.inl hb, rfl⟩
  have hk : Keep c cx' := ⟨fun b hb => ⟨.inl hb, rfl⟩, fun _ _ h => h, Shape.refl _⟩
  have hl : ∀ i, Live (over [(kb id, none)] g) i → i ≠ id ∧ Live g i := fun i ⟨T', ds, h⟩ => by
    rw [over_kb_none] at h
    by_cases e : i = id
    · rw [if_pos e] at h; cases h
    · rw [if_neg e] at h; exact ⟨e, T', ds, h⟩
  refine ⟨cx', rfl, hk, { ids := hI.ids, blk := fun i T' ds h => ?_, inj := fun i j b T1 T2 l1 l2 => hI.inj i j b T1 T2 (hl i l1).2 (hl j l2).2, apart := fun i b T1 l1 h2 => ?_, bnd := hI.bnd, sok := fun b hb => ?_, os := hI.os, tape := hI.tape, output := hI.output, size := hI.size, same := hI.same, laid := hI.laid, s0 := fun b hb => .inl (hI.s0 b hb), s1 := fun b hb => ?_, keep := hI.keep.trans hk, tmps := hI.tmps, dfr := hI.dfr, slot := fun s p hp => ?_, isv := fun s x hx => ?_ }, fun h => rep_frz (c := c) (c' := cx') rfl (fun _ h => Or.inl h) rfl ho hone hblk h⟩
  · rw [over_kb_none] at h
    by_cases e : i = id
    · rw [if_pos e] at h; cases h
    · rw [if_neg e] at h
      obtain ⟨ob', h3, h4⟩ := hI.blk i T' ds h
      exact ⟨ob', h3, h4.mono hk fun b _ => rfl⟩
  · obtain ⟨h1, h3⟩ := hl i l1
    have hap := hI.apart i b T1 h3 h2
    refine ⟨fun hb => ?_, hap.2⟩
    rcases hb with hb | hb
    · exact hap.1 hb
    · subst hb
      exact h1 (hI.inj i id b T1 T h3 hlive h2 ho)
  · rcases hb with hb | hb
    · exact hI.sok b hb
    · subst hb; exact hI.bnd id b T ho
  · rcases hb with hb | hb
    · exact hI.s1 b hb
    · subst hb; exact .inr (hI.apart id b T hlive ho).2
  · rw [over_s] at hp
    exact (hI.slot s p hp).mono hk
  · rw [over_s] at hx
    exact hI.isv s x hx
def killL (js : List Nat) : L := js.map fun j => (kb j, none)
def frzF1 : List (Nat × List PV) → PV → PV
  | [], p => p
  | (j, cs) :: F, p => frzF1 F (frz j cs p)
theorem killL_s (js : List Nat) (s : Nat) : lk (ks s) (killL js) = none := by
  induction js with
  | nil => rfl
  | cons j js ih => simp only [killL, List.map_cons, lk, beq_ksb] at ih ⊢; exact ih
theorem killL_miss : ∀ {js : List Nat} {i : Nat}, (∀ j ∈ js, j ≠ i) → lk (kb i) (killL js) = none
  | [], _, _ => rfl
  | j :: js, i, h => by
    have ih := killL_miss (js := js) (i := i) fun x hx => h x (by simp [hx])
    simp only [killL, List.map_cons, lk, beq_kb] at ih ⊢
    rw [decide_eq_false (fun e => h j (by simp) e.symm)]
    exact ih
theorem inv_lays {E : Env} {nx : Nat → Prop} {a : Act} : ∀ {F : List (Nat × List PV)} {c : Cx} {g : St}, Inv E nx c g a → nodupB (F.map (·.1)) = true → (∀ x ∈ F, ∃ T, g (kb x.1) = some (.blk T x.2) ∧ shds x.2) →
    ∃ c', c'.w = c.w ∧ Keep c c' ∧ Inv E nx c' (over (killL (F.map (·.1))) g) a ∧ ∀ {p : PV} {v : Value}, Rep E.P c p v → Rep E.P c' (frzF1 F p) v
  | [], c, g, hI, _, _ => ⟨c, rfl, Keep.refl c, hI, fun h => h⟩
  | (j, cs) :: F, c, g, hI, hn, h => by
    simp only [List.map_cons, nodupB, Bool.and_eq_true] at hn
    obtain ⟨T, hg, hs⟩ := h (j, cs) (by simp)
    obtain ⟨c1, e1, k1, i1, r1⟩ := inv_lay hI hg hs
    have hne : ∀ x ∈ F, x.1 ≠ j := fun x hx e => by
      have := List.all_eq_true.1 hn.1 x.1 (List.mem_map.2 ⟨x, hx, rfl⟩)
      rw [e, Nat.beq_refl] at this
      cases this
    obtain ⟨c2, e2, k2, i2, r2⟩ := inv_lays (F := F) i1 hn.2 fun x hx => by
      obtain ⟨T', h1, h2⟩ := h x (by simp [hx])
      exact ⟨T', by rw [over_kb_none, if_neg (hne x hx)]; exact h1, h2⟩
    refine ⟨c2, e2.trans e1, k1.trans k2, ?_, fun hr => r2 (r1 hr)⟩
    have e3 : over (killL (((j, cs) :: F).map (·.1))) g = over (killL (F.map (·.1))) (over [(kb j, none)] g) := by
      funext k
      rw [← over_append]
      simp only [List.map_cons, killL, over]
      -- the key j stands at the head or at the end: the same
      by_cases hk : Nat.beq k (kb j) = true
      · have hk' := Nat.eq_of_beq_eq_true hk
        subst hk'
        have hm := killL_miss (js := F.map (·.1)) (i := j) fun x hx => by
          obtain ⟨y, hy, rfl⟩ := List.mem_map.1 hx
          exact hne y hy
        have h5 : ∀ (l m : L), lk (kb j) l = none → lk (kb j) (l ++ m) = lk (kb j) m := fun l m hl => by
          induction l with
          | nil => rfl
          | cons y l ih =>
            obtain ⟨q, z⟩ := y
            simp only [lk, List.cons_append] at hl ⊢
            by_cases e : Nat.beq (kb j) q = true
            · rw [if_pos e] at hl; cases hl
            · rw [if_neg e] at hl ⊢; exact ih hl
        have h6 := h5 (killL (F.map (·.1))) [(kb j, none)] hm
        simp only [killL] at h6
        rw [h6]
        simp [lk, Nat.beq_refl]
      · have h5 : ∀ l : L, lk k (l ++ [(kb j, none)]) = lk k l := fun l => by
          induction l with
          | nil => simp only [List.nil_append, lk]; rw [if_neg hk]
          | cons y l ih =>
            obtain ⟨q, z⟩ := y
            simp only [lk, List.cons_append]
            rw [ih]
        simp only [lk]
        rw [if_neg hk, h5]
    rw [e3]
    exact i2
/-- A plan that doesn't look at some keys; these are gone behind it. -/
def Plan.avoid (js : List Nat) : Plan → Plan
  | .fail => .fail
  | .look k f => match (js.map kb).contains k with | true => .fail | false => .look k fun v => (f v).avoid js
  | .ob p q => .ob p (q.avoid js)
  | .done pv wb => .done pv (wb ++ killL js)
theorem over_killL {js : List Nat} {g : St} {k : Nat} (h : (js.map kb).contains k = false) : over (killL js) g k = g k := by
  have : lk k (killL js) = none := by
    induction js with
    | nil => rfl
    | cons j js ih =>
      simp only [List.map_cons, List.contains_cons, Bool.or_eq_false_iff] at h
      simp only [killL, List.map_cons, lk] at ih ⊢
      have h1 : Nat.beq k (kb j) = false := by
        rw [Bool.eq_false_iff]
        intro e
        have := Nat.eq_of_beq_eq_true e
        have h2 := h.1
        rw [this] at h2
        simp at h2
      rw [h1]
      exact ih h.2
  simp only [over, this]
theorem Res.avoid {js : List Nat} {g : St} : ∀ {pl : Plan} {p : PV} {wb : L}, Res g (pl.avoid js) p wb → ∃ wb', wb = wb' ++ killL js ∧ Res (over (killL js) g) pl p wb'
  | .fail, p, wb, h => (Res.fail h).elim
  | .look k f, p, wb, h => by
    simp only [Plan.avoid] at h
    split at h
    · exact (Res.fail h).elim
    · rename_i hc
      obtain ⟨v, h1, h2⟩ := Res.look h
      obtain ⟨wb', h3, o, h4, h5, h6, h7⟩ := Res.avoid h2
      refine ⟨wb', h3, { o with reads := k :: o.reads }, ?_, h5, h6, h7⟩
      simp only [run]
      rw [over_killL hc, h1]
      simp only
      rw [h4]
  | .ob q r, p, wb, h => by
    simp only [Plan.avoid] at h
    obtain ⟨h1, h2⟩ := Res.ob h
    obtain ⟨wb', h3, o, h4, h5, h6, h7⟩ := Res.avoid h2
    refine ⟨wb', h3, { o with obs := q :: o.obs }, ?_, h5, h6, fun x hx => ?_⟩
    · simp only [run]; rw [h4]
    · simp only [List.mem_cons] at hx
      rcases hx with rfl | hx
      · exact h1
      · exact h7 x hx
  | .done pv w, p, wb, h => by
    simp only [Plan.avoid] at h
    obtain ⟨rfl, rfl⟩ := Res.done h
    exact ⟨w, rfl, ⟨p, w, [], []⟩, rfl, rfl, rfl, fun _ hq => by cases hq⟩
def layP : List Nat → (List (Nat × List PV) → Plan) → Plan
  | [], k => k []
  | j :: js, k => .look (kb j) fun v => match v with | .blk _ cs => .ob (shds cs) (layP js fun F => k ((j, cs) :: F)) | .pv _ => .fail
theorem layP_ok {g : St} : ∀ {js : List Nat} {k : List (Nat × List PV) → Plan} {p : PV} {wb : L}, Res g (layP js k) p wb → ∃ F, F.map (·.1) = js ∧ (∀ x ∈ F, ∃ T, g (kb x.1) = some (.blk T x.2) ∧ shds x.2) ∧ Res g (k F) p wb
  | [], k, p, wb, h => ⟨[], rfl, (by simp), h⟩
  | j :: js, k, p, wb, h => by
    obtain ⟨v, h1, h2⟩ := Res.look h
    cases v with
    | pv _ => exact (Res.fail h2).elim
    | blk T cs =>
      obtain ⟨h3, h4⟩ := Res.ob h2
      obtain ⟨F, h5, h6, h7⟩ := layP_ok h4
      refine ⟨(j, cs) :: F, by simp [h5], fun x hx => ?_, h7⟩
      rcases List.mem_cons.1 hx with rfl | hx
      · exact ⟨T, h1, h3⟩
      · exact h6 x hx
/-- A call to which own rows are given for good. -/
def callPL (P : Program) (F : List (Nat × List PV)) (id : Nat) (fv : PV) (an : Ans) (args : List PV) : Plan := match fv, an with
  | .av (.func (.func f) fs cs), .call ids bs H r H' => callP P f (fs.toList.map .av ++ (args.map (frzF1 F)).map cz ++ cs.toList.map .av) id ids bs H r H'
  | _, _ => .fail
def aCallL (P : Program) (fx : Operand) (xs : List Operand) (js : List Nat) (an : Ans) (id : Nat) : Plan := match nodupB js with
  | true => layP js fun F => opd fx fun fv => opdl xs fun args => (callPL P F id fv an args).avoid js
  | false => .fail
theorem aCallL_ok {E : Env} {o : Oper} {id : Nat} {fx : Operand} {xs : Array Operand} {ts : Array TypeId} {js : List Nat} {an : Ans} (ho : o.op = .call { callee := .value fx, args := xs, argTypes := ts }) (hd : ∀ x, o.dst = some x → x < E.n) : ActOk E o id (aCallL E.P fx xs.toList js an id) := by
  intro g p wb h nx c a K Q hn hI hK
  unfold aCallL at h
  split at h
  case h_2 => exact (Res.fail h).elim
  rename_i hnd
  obtain ⟨F, hF, hFb, h1⟩ := layP_ok h
  obtain ⟨q, hq, h2⟩ := Res.opd hI h1
  obtain ⟨ps, hps, h3⟩ := Res.opdl hI h2
  clear h h1 h2
  obtain ⟨wb', rfl, h4⟩ := Res.avoid h3
  obtain ⟨c1, e1, k1, i1, r1⟩ := inv_lays hI (by rw [hF]; exact hnd) hFb
  rw [hF] at i1
  have hps' : RL E.P c1 (ps.map (frzF1 F)) (xs.map a.eval) := by
    have e : (xs.toList.map a.eval).toArray = xs.map a.eval := by apply Array.ext'; simp
    rw [← e]
    refine ⟨by simpa using hps.1, fun i hi => ?_⟩
    have hi' : i < ps.length := by simpa using hi
    have := r1 (hps.2 i hi')
    simpa [List.getD_eq_getElem?_getD, hi'] using this
  have key : ∀ {f : FuncId} {fs cs : Array Value}, a.eval fx = .func (.func f) fs cs → FnOk E.P f → (execOp a.eval o).run E.P c.w = .ok (.enter f (fs ++ xs.map a.eval ++ cs)) c.w := by
    rintro f fs cs hv ⟨fn, h1, h2, h3⟩
    have h4 : (callFunc f (fs ++ xs.map a.eval ++ cs)).run E.P c.w = .ok (.enter f (fs ++ xs.map a.eval ++ cs)) c.w := by
      have h2' : ¬ fn.body = none := fun e => by rw [e] at h2; cases h2
      have h3' : ¬ fn.name = "runtime.NumGoroutine" := by simpa using h3
      simp [callFunc, h1, h3', h2']
    simp only [execOp, ho, resolve, hv, Deferred.ofValue, invoke, Sem.run_bind, Sem.run_pure, Result.andThen_ok]
    exact h4
  unfold callPL at h4
  split at h4
  · rename_i f fs cs ids bs H r H'
    have e2 : over (wb' ++ killL js) g = over wb' (over (killL js) g) := over_append _ _ _
    rw [e2] at hK
    have hfn := key (rep_av hq)
    rw [← e1] at hfn ⊢
    exact call_core hd hn i1 hK h4 (((avs_rl fs).append hps'.czs).append (avs_rl cs)) hfn
  · exact (Res.fail h4).elim
end Go.Proofs.YtlngkiipgkociaaGreatDoor.Pm
namespace Go.Proofs.YtlngkiipgkociaaGreatDoor.Pm
open Go

theorem setCell_row {w : World} {b off : Nat} {cur : Array Value} {T : TypeId} {v : Value} (hb : w.heap[b]? = some (.cells cur T (0, 0))) (ho : off < cur.size) :
    w.setCell ⟨b, off, none⟩ v = w.setRow b (cur.toList.take off ++ [v] ++ cur.toList.drop (off + [v].length)).toArray := by
  unfold World.setCell World.setRow
  congr 1
  apply Array.ext_getElem?
  intro i
  rw [Array.getElem?_modify, Array.getElem?_modify]
  by_cases e : b = i
  · subst e
    rw [if_pos rfl, if_pos rfl, hb]
    simp only [Option.map_some, Option.isSome_none, Bool.false_eq_true, if_false, Option.some.injEq, Obj.cells.injEq, and_true]
    apply Array.ext'
    rw [Array.toList_setIfInBounds, List.set_eq_take_append_cons_drop, if_pos (by simpa using ho)]
    simp
  · rw [if_neg e, if_neg e]
/-- The function loads (stores) a number at a stroke. -/
def IsLoad (P : Program) (f : FuncId) (k : IntKind) : Prop := ∃ fn, P.funcs[f]? = some fn ∧ (fn.name == "runtime.NumGoroutine") = false ∧ fn.body.isNone = true ∧ Extern.findNext fn = none ∧ Extern.find fn = some (Extern.Atomic.loadT (.int k))
def IsStore (P : Program) (f : FuncId) : Prop := ∃ fn, P.funcs[f]? = some fn ∧ (fn.name == "runtime.NumGoroutine") = false ∧ fn.body.isNone = true ∧ Extern.findNext fn = none ∧ Extern.find fn = some Extern.Atomic.storeT
/-- The function tells a float's bits (makes a float of bits). -/
def IsBits (P : Program) (f : FuncId) : Prop := ∃ fn, P.funcs[f]? = some fn ∧ (fn.name == "runtime.NumGoroutine") = false ∧ fn.body.isNone = true ∧ Extern.findNext fn = none ∧ Extern.find fn = some Extern.MathFloatBits.float64bits
def IsFrom (P : Program) (f : FuncId) : Prop := ∃ fn, P.funcs[f]? = some fn ∧ (fn.name == "runtime.NumGoroutine") = false ∧ fn.body.isNone = true ∧ Extern.findNext fn = none ∧ Extern.find fn = some Extern.MathFloatBits.float64frombits
theorem run_call_ext {P : Program} {w : World} {f : FuncId} {fn : Func} {e : Array Value → Sem Value} {args : Array Value} {v : Value} (hf : P.funcs[f]? = some fn) (hname : (fn.name == "runtime.NumGoroutine") = false) (hb : fn.body.isNone = true) (hn : Extern.findNext fn = none)
    (he : Extern.find fn = some e) (hr : (e args).run P w = .ok v w) : (callFunc f args).run P w = .ok (.value v) w := by
  rw [run_callFunc_extern hf hname hb hn he, hr]
  rfl
def aExtL (P : Program) (fx : Operand) (xs : List Operand) : Plan := match fx, xs with
  | .func f, [x] => opd x fun p => match p with
    | .av (.float .f64 b) => .ob (IsBits P f) (.done (.av (.int .u64 b)) [])
    | .av (.int .u64 n) => .ob (IsFrom P f) (.done (.av (.float .f64 n.toNat)) [])
    | .opt id off => .look (kb id) fun v => match v with
      | .blk _ cells => match cells[off]? with
        | some (.av (.int k n)) => .ob (IsLoad P f k) (.done (.av (.int k n)) [])
        | _ => .fail
      | .pv _ => .fail
    | _ => .fail
  | _, _ => .fail
theorem aExtL_ok {E : Env} {o : Oper} {id : Nat} {fx : Operand} {xs : Array Operand} {ts : Array TypeId} (ho : o.op = .call { callee := .value fx, args := xs, argTypes := ts }) (hd : ∀ x, o.dst = some x → x < E.n) : ActOk E o id (aExtL E.P fx xs.toList) := by
  intro g p wb h nx c a K Q hn hI hK
  unfold aExtL at h
  split at h
  case h_2 => exact (Res.fail h).elim
  rename_i f x hx
  obtain ⟨q, hq, h1⟩ := Res.opd hI h
  have hxs1 : xs = #[x] := by apply Array.ext'; simpa using hx
  have ext : ∀ {v1 v : Value} {e : Array Value → Sem Value} {fn : Func}, q = .av v1 → E.P.funcs[f]? = some fn → (fn.name == "runtime.NumGoroutine") = false → fn.body.isNone = true → Extern.findNext fn = none → Extern.find fn = some e →
      (e #[v1]).run E.P c.w = .ok v c.w → p = .av v → wb = [] → o.wp E.P a c.w K Q := by
    intro v1 v e fn e1 f1 f2 f3 f4 f5 hr ep ew
    subst e1; subst ep; subst ew
    refine pure_step hd hI hK (.sh (.av _)) ?_
    simp only [execOp, ho, resolve, Act.eval, Deferred.ofValue, invoke, Sem.run_bind, Sem.run_pure, Result.andThen_ok]
    rw [show (#[] ++ Array.map a.eval xs ++ #[] : Array Value) = #[v1] from by rw [hxs1]; simp [rep_av hq]]
    exact run_call_ext f1 f2 f3 f4 f5 hr
  split at h1
  case h_4 => exact (Res.fail h1).elim
  case h_1 =>
    obtain ⟨⟨fn, f1, f2, f3, f4, f5⟩, h3⟩ := Res.ob h1
    obtain ⟨e1, e2⟩ := Res.done h3
    exact ext rfl f1 f2 f3 f4 f5 rfl e1 e2
  case h_2 =>
    obtain ⟨⟨fn, f1, f2, f3, f4, f5⟩, h3⟩ := Res.ob h1
    obtain ⟨e1, e2⟩ := Res.done h3
    exact ext rfl f1 f2 f3 f4 f5 rfl e1 e2
  rename_i id' off
  obtain ⟨bv, hg, h2⟩ := Res.look h1
  cases bv with
  | pv _ => exact (Res.fail h2).elim
  | blk T cells =>
    simp only at h2
    split at h2
    case h_2 => exact (Res.fail h2).elim
    rename_i k n hcell
    obtain ⟨⟨fn, f1, f2, f3, f4, f5⟩, h3⟩ := Res.ob h2
    obtain ⟨rfl, rfl⟩ := Res.done h3
    obtain ⟨b, T2, hown, hv⟩ := rep_opt hq
    obtain ⟨ob', hown', hone, hb⟩ := hI.blk id' T cells hg
    rw [hown] at hown'
    cases hown'
    have hlt : off < cells.length := (List.getElem?_eq_some_iff.1 hcell).1
    rcases hb with ⟨hb, _⟩ | ⟨b', vs, hb1, hb2, hb3, hb4⟩
    · cases hb
    obtain rfl : b' = b := by simpa using hb1.symm
    have hc := hb4 off hlt
    rw [List.getD_eq_getElem?_getD, hcell] at hc
    have hc := rep_av hc
    have hcl : c.w.cell? ⟨b', off, none⟩ = some (.int k n) := by
      rw [cell_of_row c.w _ _ vs _ _ hb2]
      have : off < vs.size := by omega
      rw [Array.getD_eq_getD_getElem?] at hc
      cases hx : vs[off]? with
      | none => rw [Array.getElem?_eq_none_iff] at hx; omega
      | some y => rw [hx] at hc; simp only [Option.getD_some] at hc; rw [hc]
    refine pure_step hd hI hK (.sh (.av _)) ?_
    have hr := run_call_load (P := E.P) f1 f2 f3 f4 k f5 hcl
    have hxs : xs.map a.eval = #[.pointer (some ⟨b', off, none⟩)] := by
      have : xs = #[x] := by apply Array.ext'; simpa using hx
      rw [this]
      simp [hv]
    simp only [execOp, ho, resolve, Act.eval, Deferred.ofValue, invoke, Sem.run_bind, Sem.run_pure, Result.andThen_ok]
    rw [show (#[] ++ Array.map a.eval xs ++ #[] : Array Value) = #[.pointer (some ⟨b', off, none⟩)] from by rw [hxs]; rfl]
    exact hr
/-- The function, which has no body, gives this of those. -/
def ExtTo (P : Program) (f : FuncId) (ps : List PV) (v : Value) : Prop := ∃ fn e, ∃ vs : List Value, ps = vs.map PV.av ∧ P.funcs[f]? = some fn ∧ (fn.name == "runtime.NumGoroutine") = false ∧ fn.body.isNone = true ∧ Extern.findNext fn = none ∧ Extern.find fn = some e ∧ ∀ w, (e vs.toArray).run P w = .ok v w
def aExtV (P : Program) (fx : Operand) (xs : List Operand) (q : PV) : Plan := match fx, q with
  | .func f, .av v => opdl xs fun ps => .ob (ExtTo P f ps v) (.done (.av v) [])
  | _, _ => .fail
theorem rl_avs {P : Program} {c : Cx} {vs : List Value} {bs : Array Value} (h : RL P c (vs.map PV.av) bs) : bs = vs.toArray := by
  obtain ⟨h1, h2⟩ := h
  apply Array.ext (by simpa using h1)
  intro i hi hj
  have hi' : i < vs.length := by simpa using hj
  have h3 := h2 i (by simpa using hi')
  rw [show (vs.map PV.av).getD i P0 = .av vs[i] from by simp [List.getD_eq_getElem?_getD, hi']] at h3
  have h4 := rep_av h3
  rw [Array.getD_eq_getD_getElem?, Array.getElem?_eq_getElem hi] at h4
  simpa using h4
theorem aExtV_ok {E : Env} {o : Oper} {id : Nat} {fx : Operand} {xs : Array Operand} {ts : Array TypeId} {q : PV} (ho : o.op = .call { callee := .value fx, args := xs, argTypes := ts }) (hd : ∀ x, o.dst = some x → x < E.n) : ActOk E o id (aExtV E.P fx xs.toList q) := by
  intro g p wb h nx c a K Q hn hI hK
  unfold aExtV at h
  split at h
  case h_2 => exact (Res.fail h).elim
  rename_i f v
  obtain ⟨ps, hps, h1⟩ := Res.opdl hI h
  obtain ⟨⟨fn, e, vs, rfl, f1, f2, f3, f4, f5, hr⟩, h3⟩ := Res.ob h1
  obtain ⟨rfl, rfl⟩ := Res.done h3
  have e1 : xs.map a.eval = vs.toArray := by
    have e : (xs.toList.map a.eval).toArray = xs.map a.eval := by apply Array.ext'; simp
    rw [← e]; exact rl_avs hps
  refine pure_step hd hI hK (.sh (.av _)) ?_
  simp only [execOp, ho, resolve, Act.eval, Deferred.ofValue, invoke, Sem.run_bind, Sem.run_pure, Result.andThen_ok]
  rw [show (#[] ++ Array.map a.eval xs ++ #[] : Array Value) = vs.toArray from by rw [e1]; simp]
  exact run_call_ext f1 f2 f3 f4 f5 (hr _)
def aExtS (P : Program) (fx : Operand) (xs : List Operand) : Plan := match fx, xs with
  | .func f, [x, y] => opd x fun p => opd y fun q => match p, q with
    | .opt id off, .av (.int k n) => .look (kb id) fun v => match v with
      | .blk B cells => .ob (IsStore P f) (storeP id B cells off [.av (.int k n)] (.av (.tuple #[])) .no)
      | .pv _ => .fail
    | _, _ => .fail
  | _, _ => .fail
theorem aExtS_ok {E : Env} {o : Oper} {id : Nat} {fx : Operand} {xs : Array Operand} {ts : Array TypeId} (ho : o.op = .call { callee := .value fx, args := xs, argTypes := ts }) (hd : ∀ x, o.dst = some x → x < E.n) : ActOk E o id (aExtS E.P fx xs.toList) := by
  intro g p wb h nx c a K Q hn hI hK
  unfold aExtS at h
  split at h
  case h_2 => exact (Res.fail h).elim
  rename_i f x y hx
  obtain ⟨q1, hq1, h1⟩ := Res.opd hI h
  obtain ⟨q2, hq2, h2⟩ := Res.opd hI h1
  split at h2
  case h_2 => exact (Res.fail h2).elim
  rename_i id1 off k n
  obtain ⟨bv, hg, h3⟩ := Res.look h2
  cases bv with
  | pv _ => exact (Res.fail h3).elim
  | blk B cells =>
    simp only at h3
    obtain ⟨⟨fn, f1, f2, f3, f4, f5⟩, h4⟩ := Res.ob h3
    obtain ⟨hone, hl, rfl, rfl⟩ := storeP_ok h4
    obtain ⟨b, T2, hown, hv⟩ := rep_opt hq1
    obtain ⟨ob', hown', hone2, hb⟩ := hI.blk id1 B cells hg
    have eT : T2 = B := by rw [hown] at hown'; cases hown'; rfl
    subst eT
    have hv2 := rep_av hq2
    have hrl : RL E.P c [.av (.int k n)] [Value.int k n].toArray := ⟨rfl, fun i hi => by
      have : i = 0 := by simp at hi; omega
      subst this
      exact .sh (.av _)⟩
    obtain ⟨cur, hc1, hc2, hKK⟩ := write_step (id := id) (vs := [Value.int k n]) (v := .tuple #[]) hd hI hg hown hone hl hrl hK fun _ => .sh (.av _)
    have hlt : off < cur.size := by simp only [List.length_cons, List.length_nil] at hc2; omega
    rw [← setCell_row hc1 hlt] at hKK
    have hcl : c.w.cell? ⟨b, off, none⟩ = some cur[off] := by
      rw [cell_of_row c.w _ _ cur _ _ hc1]
      simp [hlt]
    have hfr : c.w.frozen? ⟨b, off, none⟩ = false := by simp [World.frozen?, hc1]
    refine ow_val ?_ hKK
    have hr := run_call_store (P := E.P) f1 f2 f3 f4 f5 (k := k) (y := n) hcl hfr
    have hxs : xs.map a.eval = #[.pointer (some ⟨b, off, none⟩), .int k n] := by
      have : xs = #[x, y] := by apply Array.ext'; simpa using hx
      rw [this]
      simp [hv, hv2]
    simp only [execOp, ho, resolve, Act.eval, Deferred.ofValue, invoke, Sem.run_bind, Sem.run_pure, Result.andThen_ok]
    rw [show (#[] ++ Array.map a.eval xs ++ #[] : Array Value) = #[.pointer (some ⟨b, off, none⟩), .int k n] from by rw [hxs]; rfl]
    exact hr

/-! ### calls that leave what was lent as it is -/
theorem Res.mk_ob {g : St} {q : Prop} {r : Plan} {p : PV} {wb : L} (hq : q) (h : Res g r p wb) : Res g (.ob q r) p wb := by
  obtain ⟨o, h1, h2, h3, h4⟩ := h
  exact ⟨{ o with obs := q :: o.obs }, by simp only [run]; rw [h1], h2, h3, fun x hx => by
    simp only [List.mem_cons] at hx
    rcases hx with rfl | hx
    · exact hq
    · exact h4 x hx⟩
theorem Res.mk_look {g : St} {k : Nat} {f : Val → Plan} {v : Val} {p : PV} {wb : L} (hv : g k = some v) (h : Res g (f v) p wb) : Res g (.look k f) p wb := by
  obtain ⟨o, h1, h2, h3, h4⟩ := h
  exact ⟨{ o with reads := k :: o.reads }, by simp only [run]; rw [hv]; simp only; rw [h1], h2, h3, h4⟩
theorem Res.mk_done {g : St} {p : PV} {wb : L} : Res g (.done p wb) p wb := ⟨⟨p, wb, [], []⟩, rfl, rfl, rfl, fun _ hq => by cases hq⟩
theorem lent_swap {g : St} {σ : Nat → Nat} {k k' : Plan} {p p' : PV} {wb wb' : L} : ∀ {ids : List Nat} {H : Hp}, Res g (lentP σ ids H k) p wb → Res g k' p' wb' → Res g (lentP σ ids H k') p' wb'
  | [], [], _, h' => h'
  | id :: ids, some (T, cs) :: H, h, h' => by
    obtain ⟨v, h1, h2⟩ := Res.look h
    refine Res.mk_look h1 ?_
    cases v with
    | pv _ => exact (Res.fail h2).elim
    | blk T' cs' =>
      simp only at h2 ⊢
      split at h2
      · rename_i hT
        obtain ⟨h3, h4⟩ := Res.ob h2
        exact Res.mk_ob h3 (lent_swap h4 h')
      · exact (Res.fail h2).elim
  | [], some _ :: _, h, _ => (Res.fail h).elim
  | [], none :: _, h, _ => (Res.fail h).elim
  | _ :: _, [], h, _ => (Res.fail h).elim
  | _ :: _, none :: _, h, _ => (Res.fail h).elim
theorem over_same {σ : Nat → Nat} {g : St} : ∀ {H : Hp} {n : Nat}, (∀ i, i < H.length → ∃ T cs, H.getD i none = some (T, cs) ∧ g (kb (σ (n + i))) = some (.blk T (renL σ cs))) → over (wcall σ n H) g = g
  | [], n, _ => rfl
  | x :: H, n, h => by
    have ih := over_same (σ := σ) (g := g) (H := H) (n := n + 1) fun i hi => by
      obtain ⟨T, cs, h1, h2⟩ := h (i + 1) (by simpa using hi)
      exact ⟨T, cs, by simpa using h1, by rw [show n + 1 + i = n + (i + 1) by omega]; exact h2⟩
    obtain ⟨T, cs, h1, h2⟩ := h 0 (by simp)
    have h1 : x = some (T, cs) := by simpa using h1
    subst h1
    funext k
    have ihk := congrFun ih k
    simp only [over, wcall, lk] at ihk ⊢
    by_cases e : Nat.beq k (kb (σ n)) = true
    · rw [if_pos e]
      rw [Nat.eq_of_beq_eq_true e]
      rw [Nat.add_zero] at h2
      exact h2.symm
    · rw [if_neg e]
      exact ihk
def callRP (P : Program) (f : FuncId) (args : List PV) (id : Nat) (ids : List Nat) (bs : List PV) (H : Hp) (r : PV) : Plan :=
  match Nat.ble H.length (ids.length + 8), nodupB ids with
  | true, true => .ob (PC P f bs H r H) (.ob (args = renL (sigi ids id) bs) (lentP (sigi ids id) ids H (lentP (sigo ids id) ids H (.done (ren (sigo ids id) r) []))))
  | _, _ => .fail
theorem callR_call {P : Program} {f : FuncId} {args : List PV} {id : Nat} {ids : List Nat} {bs : List PV} {H : Hp} {r : PV} {g : St} {p : PV} {wb : L} (h : Res g (callRP P f args id ids bs H r) p wb) :
    wb = [] ∧ ∃ wb', Res g (callP P f args id ids bs H r H) p wb' ∧ over wb' g = g := by
  unfold callRP at h
  split at h
  case h_2 => exact (Res.fail h).elim
  rename_i hb1 hb2
  obtain ⟨hpc, h1⟩ := Res.ob h
  obtain ⟨hargs, h2⟩ := Res.ob h1
  obtain ⟨hlen, h3, _⟩ := lent_ok h2
  obtain ⟨_, h4, hl⟩ := lent_ok h3
  obtain ⟨rfl, rfl⟩ := Res.done h4
  refine ⟨rfl, wcall (sigo ids id) 0 H, ?_, over_same fun i hi => ?_⟩
  · unfold callP
    rw [hb1, hb2]
    exact Res.mk_ob hpc (Res.mk_ob hargs (lent_swap h2 Res.mk_done))
  · obtain ⟨T, cs, h5, h6⟩ := hl i (by omega)
    refine ⟨T, cs, h5, ?_⟩
    rw [Nat.zero_add]
    have : sigo ids id i = ids.getD i 0 := by
      unfold sigo
      rw [if_pos (by rw [Nat.blt_eq]; omega)]
      simp [List.getD_eq_getElem?_getD, show i < ids.length by omega]
    rw [this]
    exact h6
def callRL (P : Program) (id : Nat) (fv : PV) (ids : List Nat) (bs : List PV) (H : Hp) (r : PV) (args : List PV) : Plan := match fv with
  | .av (.func (.func f) fs cs) => callRP P f (fs.toList.map .av ++ args.map cz ++ cs.toList.map .av) id ids bs H r
  | _ => .fail
def aCallR (P : Program) (fx : Operand) (xs : List Operand) (ids : List Nat) (bs : List PV) (H : Hp) (r : PV) (id : Nat) : Plan := opd fx fun fv => opdl xs fun args => callRL P id fv ids bs H r args
theorem aCallR_ok {E : Env} {o : Oper} {id : Nat} {fx : Operand} {xs : Array Operand} {ts : Array TypeId} {ids : List Nat} {bs : List PV} {H : Hp} {r : PV} (ho : o.op = .call { callee := .value fx, args := xs, argTypes := ts }) (hd : ∀ x, o.dst = some x → x < E.n) : ActOk E o id (aCallR E.P fx xs.toList ids bs H r id) := by
  intro g p wb h nx c a K Q hn hI hK
  obtain ⟨q, hq, h1⟩ := Res.opd hI h
  obtain ⟨ps, hps, h2⟩ := Res.opdl hI h1
  clear h h1
  have hps' : RL E.P c ps (xs.map a.eval) := by
    have e : (xs.toList.map a.eval).toArray = xs.map a.eval := by apply Array.ext'; simp
    rw [← e]; exact hps
  have key : ∀ {f : FuncId} {fs cs : Array Value}, a.eval fx = .func (.func f) fs cs → FnOk E.P f → (execOp a.eval o).run E.P c.w = .ok (.enter f (fs ++ xs.map a.eval ++ cs)) c.w := by
    rintro f fs cs hv ⟨fn, h1, h2, h3⟩
    have h4 : (callFunc f (fs ++ xs.map a.eval ++ cs)).run E.P c.w = .ok (.enter f (fs ++ xs.map a.eval ++ cs)) c.w := by
      have h2' : ¬ fn.body = none := fun e => by rw [e] at h2; cases h2
      have h3' : ¬ fn.name = "runtime.NumGoroutine" := by simpa using h3
      simp [callFunc, h1, h3', h2']
    simp only [execOp, ho, resolve, hv, Deferred.ofValue, invoke, Sem.run_bind, Sem.run_pure, Result.andThen_ok]
    exact h4
  unfold callRL at h2
  split at h2
  · rename_i f fs cs
    obtain ⟨rfl, wb', h3, h4⟩ := callR_call h2
    refine call_core hd hn hI (fun c' a' hh => hK c' a' ?_) h3 (((avs_rl fs).append hps'.czs).append (avs_rl cs)) (key (rep_av hq))
    rw [h4] at hh
    exact hh
  · exact (Res.fail h2).elim
end Go.Proofs.YtlngkiipgkociaaGreatDoor.Pm
namespace Go.Proofs.YtlngkiipgkociaaGreatDoor.Pm
open Go

def bytesPV (t : ByteArray) : List PV := t.data.toList.map fun x => .av (.int .u8 (x.toNat : Int))
theorem strOfNums_self (t : ByteArray) : strOfNums (t.data.toList.map fun x => (x.toNat : Int)) = t := by
  have h : ((t.data.toList.map fun x => (x.toNat : Int)).map fun n => UInt8.ofNat n.toNat) = t.data.toList := by
    rw [List.map_map]
    refine (List.map_congr_left fun x _ => ?_).trans (List.map_id _)
    simp
  unfold strOfNums
  rw [h]
def aConvB (P : Program) (s d : TypeId) (x : Operand) (an : Ans) : Plan := match P.underlying s with
  | some (.slice e) => match P.underlying e, P.underlying d, an with
    | some (.int .u8), some .string, .val (.av (.string t)) => opd x fun p => match p with
      | .ssl cs off n => .ob (0 < n ∧ off + n ≤ cs.length ∧ (cs.drop off).take n = bytesPV t) (.done (.av (.string t)) [])
      | .osl id off n => .look (kb id) fun v => match v with
        | .blk _ cs => .ob (0 < n ∧ off + n ≤ cs.length ∧ (cs.drop off).take n = bytesPV t) (.done (.av (.string t)) [])
        | .pv _ => .fail
      | _ => .fail
    | _, _, _ => .fail
  | us => aConv us (P.underlying d) x an
theorem convB_run {P : Program} {c : Cx} {s e d : TypeId} {t : ByteArray} (hus : P.underlying s = some (.slice e)) (hue : P.underlying e = some (.int .u8)) (hud : P.underlying d = some .string) {cs : List PV} {off n b a' cap : Nat} {vf : Nat → Value}
    (h2 : off + n ≤ cs.length) (h3 : (cs.drop off).take n = bytesPV t) (hc : ∀ j, j < cs.length → c.w.cell? ⟨b, a' + j, none⟩ = some (vf j)) (hr : ∀ j, j < cs.length → Rep P c (cs.getD j P0) (vf j)) :
    (convert s d (.slice (some ⟨b, a' + off, none⟩) n cap)).run P c.w = .ok (.string t) c.w := by
  obtain ⟨h5, h6⟩ := getD_seg h2 h3
  have hlen : (t.data.toList.map fun x => (x.toNat : Int)).length = n := by rw [← h5]; simp [bytesPV]
  have hcell : ∀ i, i < n → c.w.cell? ⟨b, a' + off + i, none⟩ = some (.int .u8 ((t.data.toList.map fun x => (x.toNat : Int)).getD i 0)) := fun i hi => by
    have h7 := hr (off + i) (by omega)
    rw [← h6 i hi] at h7
    have hi' : i < t.data.toList.length := by rw [List.length_map] at hlen; omega
    have h8 : (bytesPV t).getD i P0 = .av (.int .u8 ((t.data.toList.map fun x => (x.toNat : Int)).getD i 0)) := by
      unfold bytesPV
      rw [List.getD_eq_getElem?_getD, List.getElem?_map, List.getD_eq_getElem?_getD, List.getElem?_map, List.getElem?_eq_getElem hi']
      rfl
    rw [h8] at h7
    rw [Nat.add_assoc, hc (off + i) (by omega), rep_av h7]
  have hrun := run_convert_bytes_arg (P := P) c.w s e hus hue b (a' + off) n cap _ hlen hcell d hud
  rw [strOfNums_self] at hrun
  exact hrun
theorem aConvB_ok {E : Env} {o : Oper} {id : Nat} {s d : TypeId} {x : Operand} {an : Ans} (ho : o.op = .convert s d x) (hd : ∀ x, o.dst = some x → x < E.n) : ActOk E o id (aConvB E.P s d x an) := by
  unfold aConvB
  split
  · rename_i e hus
    split
    · rename_i t hue hud
      intro g p wb h nx c a K Q hn hI hK
      obtain ⟨q, hq, h1⟩ := Res.opd hI h
      clear h
      split at h1
      · rename_i cs off n
        obtain ⟨⟨h0, h2, h3⟩, h4⟩ := Res.ob h1
        obtain ⟨rfl, rfl⟩ := Res.done h4
        rcases rep_ssl hq with ⟨ad, cap, hv, rfl⟩ | ⟨b, a', cap, vf, hv, hS, hc, hr, hone, hl⟩
        · omega
        · have hrun := convB_run (cap := cap) hus hue hud h2 h3 hc fun j hj => .sh (hr j hj)
          refine pure_step hd hI hK (.sh (.av _)) ?_
          simp [execOp, ho, hv, hrun]
      · rename_i id' off n
        obtain ⟨bv, hg, h4⟩ := Res.look h1
        cases bv with
        | pv _ => exact (Res.fail h4).elim
        | blk T' cs =>
          simp only at h4
          obtain ⟨⟨h0, h2, h3⟩, h5⟩ := Res.ob h4
          obtain ⟨rfl, rfl⟩ := Res.done h5
          obtain ⟨ob, T2, hown, hv⟩ := rep_osl hq
          obtain ⟨ob', hown', hone, hb⟩ := hI.blk id' T' cs hg
          rw [hown] at hown'
          cases hown'
          rcases hv with ⟨ad, hv, hn⟩ | ⟨b, cap, cs2, hob, hv, hb2, hl, hsz2⟩
          · omega
          · rcases hb with ⟨hb, _⟩ | ⟨b', vs, hb1, hb3, hb4, hb5⟩
            · rw [hob] at hb; cases hb
            · obtain rfl : b' = b := by rw [hob] at hb1; simpa using hb1.symm
              have hrun := convB_run (cap := cap) (a' := 0) (vf := fun j => vs.getD j undef) hus hue hud h2 h3 (fun j hj => by
                have : j < vs.size := by omega
                rw [cell_of_row c.w _ _ vs _ _ hb3]
                simp [Array.getD_eq_getD_getElem?, this]) hb5
              rw [Nat.zero_add] at hrun
              refine pure_step hd hI hK (.sh (.av _)) ?_
              simp [execOp, ho, hv, hrun]
      · exact (Res.fail h1).elim
    · intro g p wb h nx c a K Q hn hI hK
      exact (Res.fail h).elim
  · exact aConv_ok ho hd
end Go.Proofs.YtlngkiipgkociaaGreatDoor.Pm
namespace Go.Proofs.YtlngkiipgkociaaGreatDoor.Pm
open Go

def aFunc (fn : Fn) (first cap : List Operand) : Plan := opdl first fun ps => opdl cap fun qs => .done (.fn fn ps qs) []
theorem aFunc_ok {E : Env} {o : Oper} {id : Nat} {fn : Fn} {xs ys : Array Operand} (ho : o.op = .makeFunc fn xs ys) (hd : ∀ x, o.dst = some x → x < E.n) : ActOk E o id (aFunc fn xs.toList ys.toList) := by
  intro g p wb h nx c a K Q hn hI hK
  obtain ⟨ps, hps, h1⟩ := Res.opdl hI h
  obtain ⟨qs, hqs, h2⟩ := Res.opdl hI h1
  obtain ⟨rfl, rfl⟩ := Res.done h2
  have e : ∀ zs : Array Operand, (zs.toList.map a.eval).toArray = zs.map a.eval := fun zs => by apply Array.ext'; simp
  rw [e] at hps hqs
  exact pure_step hd hI hK (.fn hps.1 hps.2 hqs.1 hqs.2) (by simp [execOp, ho, Instr.makeFunc])
def aMax (mx : Bool) (x y : Operand) : Plan := opd x fun p => opd y fun q => match p, q with
  | .av (.int k a), .av (.int _ b) => .done (.av (.int k (match mx with | true => max a b | false => min a b))) []
  | _, _ => .fail
theorem aMax_ok {E : Env} {o : Oper} {id : Nat} {x y : Operand} {ts : Array TypeId} (ho : o.op = .call { callee := .builtin .max, args := #[x, y], argTypes := ts }) (hd : ∀ x, o.dst = some x → x < E.n) : ActOk E o id (aMax true x y) := by
  intro g p wb h nx c a K Q hn hI hK
  obtain ⟨q1, hq1, h1⟩ := Res.opd hI h
  obtain ⟨q2, hq2, h2⟩ := Res.opd hI h1
  split at h2
  · rename_i k m k2 n
    obtain ⟨rfl, rfl⟩ := Res.done h2
    refine pure_step hd hI hK (.sh (.av _)) ?_
    have e : max m n = if n > m then n else m := by split <;> omega
    simp [execOp, ho, resolve, invoke, builtin, rep_av hq1, rep_av hq2, Builtin.max_, Builtin.max2, e]
  · exact (Res.fail h2).elim
theorem aMin_ok {E : Env} {o : Oper} {id : Nat} {x y : Operand} {ts : Array TypeId} (ho : o.op = .call { callee := .builtin .min, args := #[x, y], argTypes := ts }) (hd : ∀ x, o.dst = some x → x < E.n) : ActOk E o id (aMax false x y) := by
  intro g p wb h nx c a K Q hn hI hK
  obtain ⟨q1, hq1, h1⟩ := Res.opd hI h
  obtain ⟨q2, hq2, h2⟩ := Res.opd hI h1
  split at h2
  · rename_i k m k2 n
    obtain ⟨rfl, rfl⟩ := Res.done h2
    refine pure_step hd hI hK (.sh (.av _)) ?_
    have e : min m n = if n < m then n else m := by split <;> omega
    simp [execOp, ho, resolve, invoke, builtin, rep_av hq1, rep_av hq2, Builtin.min_, Builtin.min2, e]
  · exact (Res.fail h2).elim

def plan (P : Program) (o : Oper) (an : Ans) (id : Nat) : Plan := match o.op with
  | .move x => aMove x
  | .assign x => aMove x
  | .pick c x y => aPick c x y an
  | .alloc T => aAlloc P T id
  | .box T x => aBox T x id
  | .build T ps => aBuild P T ps.toList
  | .buildSlice T n ps => aBuildSlice P T n ps.toList id
  | .load T x => aLoad P T x an
  | .store T x y => aStore P T x y an
  | .nilCheck x => aNilCheck x
  | .binOp op T x y _ => match P.underlying T with
    | some (.struct _) => match op with | .eql => aEqS P false T x y | .neq => aEqS P true T x y | _ => .fail
    | some (.pointer e) => match op with | .eql => aEqP (some (.pointer e)) false x y | .neq => aEqP (some (.pointer e)) true x y | _ => .fail
    | u => aBin op T x y u an
  | .unOp op _ x => aUn op x an
  | .convert s d x => aConvB P s d x an
  | .makeFunc fn xs ys => aFunc fn xs.toList ys.toList
  | .makeSlice T l c => aMake P T l c an id
  | .slice T x lo hi mx => aSlice P T x lo hi mx an
  | .fieldAddr T x f => aFieldAddr P T x f
  | .field T x f => aField P T x f
  | .indexAddr T x i => aIndexAddr P T x i an
  | .index T x i => aIndex P T x i
  | .extract t i => aExtract t i
  | .call { callee := .builtin .len, args := ⟨[x]⟩, argTypes := ⟨T :: _⟩ } => aLen (P.underlying T) x
  | .call { callee := .builtin .append, args := ⟨[x, y]⟩, argTypes := ⟨[T, U]⟩ } => aAppend P T (P.underlying U) x y an id
  | .call { callee := .builtin .copy, args := ⟨[x, y]⟩, argTypes := ⟨[T, U]⟩ } => aCopy P T (P.underlying U) x y an
  | .call { callee := .builtin .max, args := ⟨[x, y]⟩, .. } => aMax true x y
  | .call { callee := .builtin .min, args := ⟨[x, y]⟩, .. } => aMax false x y
  | .call { callee := .builtin .max, args := ⟨[x, y, z]⟩, .. } => aMax3 true x y z
  | .call { callee := .builtin .min, args := ⟨[x, y, z]⟩, .. } => aMax3 false x y z
  | .call { callee := .value f, args, .. } => match an with | .lay js an' => aCallL P f args.toList js an' id | .callR ids bs H r => aCallR P f args.toList ids bs H r id | .ext true => aExtL P f args.toList | .ext false => aExtS P f args.toList | .val q => aExtV P f args.toList q | _ => aCall P f args.toList an id
  | _ => .fail
theorem plan_ok {E : Env} {o : Oper} {id : Nat} {an : Ans} (hd : ∀ x, o.dst = some x → x < E.n) : ActOk E o id (plan E.P o an id) := by
  unfold plan
  split <;> rename_i ho
  · exact aMove_ok (.inl ho) hd
  · exact aMove_ok (.inr ho) hd
  · exact aPick_ok ho hd
  · exact aAlloc_ok ho hd
  · exact aBox_ok ho hd
  · exact aBuild_ok ho hd
  · exact aBuildSlice_ok ho hd
  · exact aLoad_ok ho hd
  · exact aStore_ok ho hd
  · exact aNilCheck_ok ho hd
  · split
    · split
      · exact aEqS_ok (ng := false) ho hd
      · exact aEqS_ok (ng := true) ho hd
      · exact fun g p wb h => (Res.fail h).elim
    · rename_i hu
      rw [← hu]
      split
      · exact aEqP_ok (ng := false) ho hd
      · exact aEqP_ok (ng := true) ho hd
      · exact fun g p wb h => (Res.fail h).elim
    · exact aBin_ok ho hd
  · exact aUn_ok ho hd
  · exact aConvB_ok ho hd
  · exact aFunc_ok ho hd
  · exact aMake_ok ho hd
  · exact aSlice_ok ho hd
  · exact aFieldAddr_ok ho hd
  · exact aField_ok ho hd
  · exact aIndexAddr_ok ho hd
  · exact aIndex_ok ho hd
  · exact aExtract_ok ho hd
  · exact aLen_ok ho (by simp) hd
  · exact aAppend_ok ho hd
  · exact aCopy_ok ho hd
  · exact aMax_ok ho hd
  · exact aMin_ok ho hd
  · exact aMax3_ok ho hd
  · exact aMin3_ok ho hd
  · split
    · exact aCallL_ok ho hd
    · exact aCallR_ok ho hd
    · exact aExtL_ok ho hd
    · exact aExtS_ok ho hd
    · exact aExtV_ok ho hd
    · exact aCall_ok ho hd
  · exact fun g p wb h => (Res.fail h).elim

/-- A guarded operation: the answer tells whether its guard holds. -/
def gplan (P : Program) (ops : List Oper) (o : Oper) (an : Ans) (id : Nat) : Plan := match o.guard with
  | none => plan P o an id
  | some (j, want) => match (ops[j]?).bind (·.dst) with
    | some d => .look (ks d) fun v => match v, an with
      | .pv (.av (.bool t)), .gd b an' => .ob (t = b) (match b == want with | true => plan P o an' id | false => .done P0 [])
      | .pv (.av (.tuple _)), _ => .done P0 []
      | _, _ => .fail
    | none => .fail
theorem gplan_ok {E : Env} {l : List Oper} {i : Nat} {o : Oper} {id : Nat} {an : Ans} (ho : l[i]? = some o) (hd : ∀ x, o.dst = some x → x < E.n) {g : St} {out : Out} (hr : run g (gplan E.P l o an id) = some out) (hob : ∀ p ∈ out.obs, p) :
    StepOk E l.toArray i o out id g := by
  intro nx c a K Q hn hI hK
  have hres : Res g (gplan E.P l o an id) out.pv out.wb := ⟨out, hr, rfl, rfl, hob⟩
  have ho' : l.toArray[i]? = some o := by simpa using ho
  have hK' : ∀ c' a', Inv E (fun j => nx j ∨ (id ≤ j ∧ j < id + 8)) c' (over (wd o.dst out.pv) (over out.wb g)) a' → K a' c'.w := fun c' a' h => hK c' a' (by rw [wr, over_append]; exact h)
  unfold wpOp
  simp only [ho']
  unfold gplan at hres
  split at hres
  · rename_i hg
    rw [if_pos (by simp [Region.wanted, hg])]
    exact .inl (plan_ok hd g _ _ hres nx c a K Q hn hI hK')
  · rename_i j want hg
    split at hres
    · rename_i d hj
      obtain ⟨v, hv, h1⟩ := Res.look hres
      split at h1
      · rename_i t b an'
        obtain ⟨rfl, h2⟩ := Res.ob h1
        have h3 := rep_av (hI.slot d _ hv)
        have h4 : a.tmps[d]? = some (.bool t) := by
          rw [Array.getD_eq_getD_getElem?] at h3
          cases hx : a.tmps[d]? with
          | none => rw [hx] at h3; cases h3
          | some x => rw [hx] at h3; simp only [Option.getD_some] at h3; rw [h3]
        have hy : yielded l.toArray a.tmps j = some t := by
          unfold yielded
          have hj' : (l.toArray[j]?).bind (·.dst) = some d := by simpa using hj
          rw [hj']
          simp [h4]
        have hw : Region.wanted o (yielded l.toArray a.tmps) = (t == want) := by
          unfold Region.wanted
          simp only [hg, hy]
          cases t <;> cases want <;> rfl
        split at h2
        · rename_i hbw
          rw [if_pos (by rw [hw]; exact hbw)]
          exact .inl (plan_ok hd g _ _ h2 nx c a K Q hn hI hK')
        · rename_i hbw
          obtain ⟨h5, h6⟩ := Res.done h2
          rw [if_neg (by rw [hw]; simp [hbw])]
          have := hI.pure (nx' := fun j => nx j ∨ (id ≤ j ∧ j < id + 8)) (fun _ h => .inl h) o.dst hd (p := out.pv) (v := undef) fun _ => by rw [h5]; exact .sh (.av _)
          refine hK' c _ ?_
          rw [h6]
          exact this
      · rename_i us _
        obtain ⟨h5, h6⟩ := Res.done h1
        have h3 := rep_av (hI.slot d _ hv)
        have hy : yielded l.toArray a.tmps j = none := by
          unfold yielded
          have hj' : (l.toArray[j]?).bind (·.dst) = some d := by simpa using hj
          rw [hj']
          cases hx : a.tmps[d]? with
          | none => simp [hx]
          | some x =>
            rw [Array.getD_eq_getD_getElem?, hx] at h3
            simp only [Option.getD_some] at h3
            subst h3
            simp [hx]
        have hw : Region.wanted o (yielded l.toArray a.tmps) = false := by
          unfold Region.wanted
          simp only [hg, hy]
          rfl
        rw [if_neg (by rw [hw]; decide)]
        have := hI.pure (nx' := fun j => nx j ∨ (id ≤ j ∧ j < id + 8)) (fun _ h => .inl h) o.dst hd (p := out.pv) (v := undef) fun _ => by rw [h5]; exact .sh (.av _)
        refine hK' c _ ?_
        rw [h6]
        exact this
      · exact (Res.fail h1).elim
    · exact (Res.fail hres).elim

/-! ### a region reckoned -/
def ansAt (ans : List (Nat × Ans)) (i : Nat) : Ans := match lk i ans with | some a => a | none => .no
def dstOk (n : Nat) (o : Oper) : Bool := match o.dst with | some d => Nat.blt d n | none => true
def evs (P : Program) (n : Nat) (ops : List Oper) (n0 : Nat) (ans : List (Nat × Ans)) : List Oper → Nat → L → Option (L × List Prop × List Out)
  | [], _, l => some (l, [], [])
  | o :: r, i, l => match run (get l) (gplan P ops o (ansAt ans i) (n0 + 8 * i)), dstOk n o with
    | some out, true => match evs P n ops n0 ans r (i + 1) (wr o.dst out ++ l) with
      | some (l', obs, outs) => some (l', out.obs ++ obs, out :: outs)
      | none => none
    | _, _ => none
def out0 : Out := ⟨P0, [], [], []⟩
theorem evs_spec {P : Program} {n : Nat} {ops : List Oper} {n0 : Nat} {ans : List (Nat × Ans)} {g0 : St} {tab : Nat → Out} : ∀ {r : List Oper} {i : Nat} {l l' : L} {obs : List Prop} {outs : List Out}, evs P n ops n0 ans r i l = some (l', obs, outs) →
    ops.drop i = r → (∀ j, j < r.length → outs.getD j out0 = tab (i + j)) → get l = fold g0 (Wt ops.toArray tab) (fun j => decide (j < i)) ops.length →
    outs.length = r.length ∧ get l' = fold g0 (Wt ops.toArray tab) (fun _ => true) ops.length ∧
      ∀ j o, i ≤ j → ops[j]? = some o → run (fold g0 (Wt ops.toArray tab) (fun k => decide (k < j)) ops.length) (gplan P ops o (ansAt ans j) (n0 + 8 * j)) = some (tab j) ∧ (∀ p ∈ (tab j).obs, p ∈ obs) ∧ ∀ x, o.dst = some x → x < n
  | [], i, l, l', obs, outs, h, hd, ht, hg => by
    simp only [evs, Option.some.injEq, Prod.mk.injEq] at h
    obtain ⟨rfl, rfl, rfl⟩ := h
    have hi : ops.length ≤ i := by simpa using hd
    refine ⟨rfl, ?_, fun j o hj ho => ?_⟩
    · rw [hg]
      funext k
      exact fold_congr fun j hj _ => by simp; omega
    · rw [List.getElem?_eq_none (by omega)] at ho; cases ho
  | o :: r, i, l, l', obs, outs, h, hd, ht, hg => by
    simp only [evs] at h
    split at h
    case h_2 => cases h
    rename_i out hout hdst
    split at h
    case h_2 => cases h
    rename_i l1 obs1 outs1 he
    simp only [Option.some.injEq, Prod.mk.injEq] at h
    obtain ⟨rfl, rfl, rfl⟩ := h
    have hlt : i < ops.length := by
      rcases Nat.lt_or_ge i ops.length with h1 | h1
      · exact h1
      · rw [List.drop_eq_nil_of_le h1] at hd; cases hd
    have hoi : ops[i]? = some o := by
      have := List.getElem?_drop (xs := ops) (i := i) (j := 0)
      rw [hd] at this
      simpa using this.symm
    have hdr : ops.drop (i + 1) = r := by
      have := List.drop_drop (i := 1) (j := i) (l := ops)
      rw [hd] at this
      simpa [Nat.add_comm] using this.symm
    have htab : tab i = out := by
      have := ht 0 (by simp)
      simpa using this.symm
    have hW : Wt ops.toArray tab i = wr o.dst out := by simp [Wt, hoi, htab]
    have hnext : get (wr o.dst out ++ l) = fold g0 (Wt ops.toArray tab) (fun j => decide (j < i + 1)) ops.length := by
      rw [get_append, hg]
      have e : (fun j => decide (j < i + 1)) = addP (fun j => decide (j < i)) i := by
        funext j
        unfold addP
        by_cases e : j = i
        · subst e; simp
        · simp [e]; omega
      rw [e, fold_add (by simp) hlt fun j x h1 h2 h3 => by simp at h3; omega, hW]
    obtain ⟨h1, h2, h3⟩ := evs_spec he hdr (fun j hj => by
      have := ht (j + 1) (by simp; omega)
      rw [show i + (j + 1) = i + 1 + j by omega] at this
      simpa using this) hnext
    refine ⟨by simp [h1], h2, fun j o' hj ho' => ?_⟩
    by_cases e : j = i
    · subst e
      rw [hoi] at ho'
      cases ho'
      rw [← hg, htab]
      refine ⟨hout, fun p hp => by simp [hp], fun x hx => ?_⟩
      unfold dstOk at hdst
      rw [hx] at hdst
      simpa [Nat.blt_eq] using hdst
    · obtain ⟨h4, h5, h6⟩ := h3 j o' (by omega) ho'
      exact ⟨h4, fun p hp => by simp [h5 p hp], h6⟩
/-- The region's outcome: what is still spoken of behind it; the obligations. -/
def evr (P : Program) (n : Nat) (ops : List Oper) (n0 : Nat) (ans : List (Nat × Ans)) (draw : Bool) (live : List Nat) (l : L) : Option (L × List Prop) :=
  match evs P n ops n0 ans ops 0 l with
  | some (l', obs, outs) => match draw with
    | false => some (live.map fun k => (k, get l' k), obs)
    | true => match befB ops (befs ops), apartB (Wt ops.toArray fun i => outs.getD i out0) (fun i => (outs.getD i out0).reads) (befs ops) ops.length with
      | true, true => some (live.map fun k => (k, get l' k), obs)
      | _, _ => none
  | none => none
theorem Inv.less {E : Env} {nx : Nat → Prop} {c : Cx} {g g' : St} {a : Act} (h : Inv E nx c g a) (hs : ∀ k v, g' k = some v → g k = some v) : Inv E nx c g' a := by
  have hl : ∀ i, Live g' i → Live g i := fun i ⟨T, cs, hx⟩ => ⟨T, cs, hs _ _ hx⟩
  exact { h with blk := fun i T cs hx => h.blk i T cs (hs _ _ hx), inj := fun i j b T T' l1 l2 => h.inj i j b T T' (hl i l1) (hl j l2), apart := fun i b T l1 => h.apart i b T (hl i l1),
                 slot := fun s p hp => h.slot s p (hs _ _ hp), isv := fun s x hx => h.isv s x (hs _ _ hx) }
theorem get_live {live : List Nat} {g : St} : ∀ k v, get (live.map fun k => (k, g k)) k = some v → g k = some v := by
  intro k v h
  induction live with
  | nil => simp [get, lk] at h
  | cons a live ih =>
    simp only [get, List.map_cons, lk] at h ih
    by_cases e : Nat.beq k a = true
    · rw [if_pos e] at h
      rw [Nat.eq_of_beq_eq_true e]
      simpa using h
    · rw [if_neg e] at h
      exact ih h
theorem repl_false (m j : Nat) : (Array.replicate m false).getD j false = false := by
  rw [Array.getD_eq_getD_getElem?, Array.getElem?_replicate]
  by_cases h : j < m <;> simp [h]
theorem region_ok {E : Env} {n0 : Nat} {l l' : L} {id : Nat} {ops : Array Oper} {draw : Bool} {ans : List (Nat × Ans)} {live : List Nat} {obs : List Prop} (hm : draw = true → E.P.follows .mixedOrders = true) (h : evr E.P E.n ops.toList n0 ans draw live l = some (l', obs)) (hob : ∀ p ∈ obs, p)
    {Q : Exit → Act → World → Prop} (hQ : ∀ c a, Inv E (· < n0 + 8 * ops.size) c (get l') a → Q .normal a c.w) {c : Cx} {a : Act} (hI : Inv E (· < n0) c (get l) a) : (Code.region id ops draw).wp E.P Q a c.w := by
  unfold evr at h
  split at h
  case h_2 => cases h
  rename_i l1 obs1 outs he
  obtain ⟨h1, h2, h3⟩ := evs_spec (g0 := get l) (tab := fun i => outs.getD i out0) he (by simp) (fun j _ => by simp) (by
    funext k
    have : ∀ m, fold (get l) (Wt ops.toList.toArray fun i => outs.getD i out0) (fun j => decide (j < 0)) m = get l := fun m => by
      induction m with
      | zero => rfl
      | succ m ih => simp only [fold, Nat.not_lt_zero, decide_false, Bool.false_eq_true, if_false]; exact ih
    rw [this])
  have hops : ops.toList.toArray = ops := by simp
  have hlen : ops.toList.length = ops.size := by simp
  have hstep : obs = obs1 → ∀ i o, ops.toList[i]? = some o → ∀ g, (∀ k ∈ (outs.getD i out0).reads, g k = fold (get l) (Wt ops.toList.toArray fun i => outs.getD i out0) (fun j => decide (j < i)) ops.toList.length k) → StepOk E ops.toList.toArray i o (outs.getD i out0) (n0 + 8 * i) g := by
    intro hobs i o ho g hg
    obtain ⟨h4, h5, h6⟩ := h3 i o (Nat.zero_le _) ho
    exact gplan_ok ho h6 (run_congr h4 hg) fun p hp => hob p (by rw [hobs]; exact h5 p hp)
  have hfin : ∀ {c : Cx} {a : Act}, l' = live.map (fun k => (k, get l1 k)) → Inv E (fun id => id < n0 + 8 * ops.toList.length) c (fold (get l) (Wt ops.toList.toArray fun i => outs.getD i out0) (fun _ => true) ops.toList.length) a → Q .normal a c.w := by
    intro c a hl' h
    rw [← h2, hlen] at h
    refine hQ c a (h.less fun k v hk => ?_)
    rw [hl'] at hk
    exact get_live k v hk
  split at h
  · simp only [Option.some.injEq, Prod.mk.injEq] at h
    obtain ⟨rfl, rfl⟩ := h
    have hs := seq_ops (E := E) (ops := ops.toList.toArray) (g0 := get l) (tab := fun i => outs.getD i out0) (n0 := n0) (fun i o ho => hstep rfl i o (by simpa using ho) _ (fun k _ => by simp)) (Q := Q) (fun c a h => hfin rfl (by simpa using h))
      ops.toList.toArray.size 0 (by simp) c a (by
        have h0 : fold (get l) (Wt ops.toList.toArray fun i => outs.getD i out0) (fun j => decide (j < 0)) ops.toList.toArray.size = get l := by
          generalize ops.toList.toArray.size = m
          induction m with
          | zero => rfl
          | succ m ih => simp only [fold, Nat.not_lt_zero, decide_false, Bool.false_eq_true, if_false]; exact ih
        rw [h0]
        exact hI.more fun i hi => .inl hi)
    rw [hops] at hs
    exact wp_region (by simpa using hs)
  · split at h
    case h_2 => cases h
    rename_i hbf hap
    simp only [Option.some.injEq, Prod.mk.injEq] at h
    obtain ⟨rfl, rfl⟩ := h
    have hs := any_ops (E := E) (l := ops.toList) (g0 := get l) (tab := fun i => outs.getD i out0) (n0 := n0) hbf hap (hstep rfl) (Q := Q) (fun c a h => hfin rfl h)
      ops.toList.length (Array.replicate ops.toList.length false) ⟨{ c.w with drawn := c.w.drawn + 1 }, c.S, c.own⟩ a (by simp) (by
        rw [left_congr (g := fun _ => false) fun i _ => repl_false _ _]
        exact left_false _) (fun j o _ hj => by
        have hj' : (Array.replicate ops.toList.length false).getD j false = true := hj
        rw [repl_false] at hj'
        cases hj') (by
        have h0 : fold (get l) (Wt ops.toList.toArray fun i => outs.getD i out0) (fun j => (Array.replicate ops.toList.length false).getD j false) ops.toList.length = get l := by
          have e : (fun j => (Array.replicate ops.toList.length false).getD j false) = fun _ => false := funext fun j => repl_false _ j
          rw [e]
          have : ∀ m, fold (get l) (Wt ops.toList.toArray fun i => outs.getD i out0) (fun _ => false) m = get l := fun m => by
            induction m with
            | zero => rfl
            | succ m ih => simp only [fold, Bool.false_eq_true, if_false]; exact ih
          exact this _
        rw [h0]
        exact (hI.drawn _).more fun i hi => .inl hi)
    rw [hops] at hs
    refine wp_region_any (hm rfl) ?_
    rw [hlen] at hs
    exact hs
end Go.Proofs.YtlngkiipgkociaaGreatDoor.Pm
namespace Go.Proofs.YtlngkiipgkociaaGreatDoor.Pm
open Go

inductive Item where
  | code (c : Code)
  | blk (id : Nat)
abbrev Post := Exit → Cx → Act → Prop
/-- What is asked where what runs ends so: the rest still to run, then Q. -/
def WS (E : Env) (Q : Post) : List Item → Post
  | [] => Q
  | .code c :: rs => fun e cx a => match e with
    | .normal => c.wp E.P (fun e a' w' => ∃ cx', cx'.w = w' ∧ WS E Q rs e cx' a') a cx.w
    | e => WS E Q rs e cx a
  | .blk id :: rs => fun e cx a => match e with
    | .exit j => if j = id then WS E Q rs .normal cx a else WS E Q rs (.exit j) cx a
    | e => WS E Q rs e cx a
/-- From any frame and world of which the state tells. -/
def T (P : Program) (n : Nat) (c0 : Cx) (Bor : Nat → Prop) (Q : Post) (n0 : Nat) (l : L) (rs : List Item) : Prop :=
  ∀ cx a, Inv ⟨P, n, c0, Bor⟩ (· < n0) cx (get l) a → WS ⟨P, n, c0, Bor⟩ Q rs .normal cx a

section
variable {P : Program} {n : Nat} {c0 : Cx} {Bor : Nat → Prop} {Q : Post} {n0 : Nat} {l : L} {rs : List Item}
theorem T_end (h : ∀ cx a, Inv ⟨P, n, c0, Bor⟩ (· < n0) cx (get l) a → Q .normal cx a) : T P n c0 Bor Q n0 l [] := h
theorem T_blk {id : Nat} (h : T P n c0 Bor Q n0 l rs) : T P n c0 Bor Q n0 l (.blk id :: rs) := fun cx a hI => h cx a hI
theorem T_seq {x y : Code} (h : T P n c0 Bor Q n0 l (.code x :: .code y :: rs)) : T P n c0 Bor Q n0 l (.code (.seq x y) :: rs) := fun cx a hI => by
  refine wp_seq (wp_mono (h cx a hI) fun e a' w' h1 => ?_)
  obtain ⟨cx', rfl, h2⟩ := h1
  cases e <;> first | exact h2 | exact ⟨cx', rfl, h2⟩
theorem T_skip (h : T P n c0 Bor Q n0 l rs) : T P n c0 Bor Q n0 l (.code .skip :: rs) := fun cx a hI => wp_skip ⟨cx, rfl, h cx a hI⟩
theorem T_label {k : Nat} (h : T P n c0 Bor Q n0 l rs) : T P n c0 Bor Q n0 l (.code (.label k) :: rs) := fun cx a hI => wp_label ⟨cx, rfl, h cx a hI⟩
theorem T_block {id : Nat} {c : Code} (h : T P n c0 Bor Q n0 l (.code c :: .blk id :: rs)) : T P n c0 Bor Q n0 l (.code (.block id c) :: rs) := fun cx a hI => by
  refine wp_block (wp_mono (h cx a hI) fun e a' w' h1 => ?_)
  obtain ⟨cx', rfl, h2⟩ := h1
  cases e with
  | exit j =>
    simp only [WS, Exit.inBlock] at h2 ⊢
    split at h2
    · rename_i e; rw [if_pos e]; exact ⟨cx', rfl, h2⟩
    · rename_i e; rw [if_neg e]; exact ⟨cx', rfl, h2⟩
  | normal => exact ⟨cx', rfl, h2⟩
  | goto l => exact ⟨cx', rfl, h2⟩
  | ret => exact ⟨cx', rfl, h2⟩
  | panic c => exact ⟨cx', rfl, h2⟩
  | outgrown => exact ⟨cx', rfl, h2⟩
/-- Out of a block. -/
def out (id : Nat) : List Item → Option (List Item)
  | [] => none
  | .code _ :: rs => out id rs
  | .blk j :: rs => match Nat.beq id j with | true => some rs | false => out id rs
theorem ws_out {E : Env} {id : Nat} {cx : Cx} {a : Act} : ∀ {rs rs' : List Item}, out id rs = some rs' → WS E Q rs' .normal cx a → WS E Q rs (.exit id) cx a
  | .code _ :: rs, rs', h, k => by
    simp only [out] at h
    exact ws_out (rs := rs) h k
  | .blk j :: rs, rs', h, k => by
    simp only [out] at h
    show if id = j then _ else _
    split at h
    · rename_i e
      cases h
      rw [if_pos (Nat.eq_of_beq_eq_true e)]
      exact k
    · rename_i e
      rw [if_neg fun h => by rw [h, Nat.beq_refl] at e; cases e]
      exact ws_out (rs := rs) h k
theorem T_exit {id : Nat} {rs' : List Item} (ho : out id rs = some rs') (h : T P n c0 Bor Q n0 l rs') : T P n c0 Bor Q n0 l (.code (.exit id) :: rs) := fun cx a hI =>
  wp_exit ⟨cx, rfl, ws_out ho (h cx a hI)⟩
theorem ws_out_none {E : Env} {id : Nat} {cx : Cx} {a : Act} : ∀ {rs : List Item}, out id rs = none → Q (.exit id) cx a → WS E Q rs (.exit id) cx a
  | [], _, k => k
  | .code _ :: rs, h, k => by
    simp only [out] at h
    exact ws_out_none (rs := rs) h k
  | .blk j :: rs, h, k => by
    simp only [out] at h
    show if id = j then _ else _
    split at h
    · cases h
    · rename_i e
      rw [if_neg fun h => by rw [h, Nat.beq_refl] at e; cases e]
      exact ws_out_none (rs := rs) h k
theorem T_leave {id : Nat} (ho : out id rs = none) (h : ∀ cx a, Inv ⟨P, n, c0, Bor⟩ (· < n0) cx (get l) a → Q (.exit id) cx a) : T P n c0 Bor Q n0 l (.code (.exit id) :: rs) := fun cx a hI =>
  wp_exit ⟨cx, rfl, ws_out_none ho (h cx a hI)⟩
theorem ws_ret {E : Env} {cx : Cx} {a : Act} : ∀ {rs : List Item}, Q .ret cx a → WS E Q rs .ret cx a
  | [], k => k
  | .code _ :: rs, k => ws_ret (rs := rs) k
  | .blk _ :: rs, k => ws_ret (rs := rs) k
theorem T_ret (h : ∀ cx a, Inv ⟨P, n, c0, Bor⟩ (· < n0) cx (get l) a → Q .ret cx a) : T P n c0 Bor Q n0 l (.code .ret :: rs) := fun cx a hI => wp_ret ⟨cx, rfl, ws_ret (h cx a hI)⟩
theorem T_cond {t : Nat} {x y : Code} {b : Bool} (hb : get l (Pm.ks t) = some (.pv (.av (.bool b)))) (h1 : b = true → T P n c0 Bor Q n0 l (.code x :: rs)) (h2 : b = false → T P n c0 Bor Q n0 l (.code y :: rs)) :
    T P n c0 Bor Q n0 l (.code (.cond (.tmp t) x y) :: rs) := fun cx a hI => by
  have hv := rep_av (hI.slot t _ hb)
  cases b with
  | true => exact wp_cond_true hv (h1 rfl cx a hI)
  | false => exact wp_cond_false hv (h2 rfl cx a hI)
theorem T_region {id : Nat} {ops : Array Oper} {draw : Bool} (ans : List (Nat × Ans)) (live : List Nat) {l' : L} {obs : List Prop} (hm : draw = true → P.follows .mixedOrders = true) (h : evr P n ops.toList n0 ans draw live l = some (l', obs)) (hob : ∀ p ∈ obs, p)
    (hT : T P n c0 Bor Q (n0 + 8 * ops.size) l' rs) : T P n c0 Bor Q n0 l (.code (.region id ops draw) :: rs) := fun _ _ hI =>
  region_ok (E := ⟨P, n, c0, Bor⟩) hm h hob (fun c a h => ⟨c, rfl, hT c a h⟩) hI

/-! ### states said anew -/
/-- One state tells no more than another one. -/
def Wk (P : Program) (n : Nat) (c0 : Cx) (Bor : Nat → Prop) (n0 : Nat) (l : L) (n1 : Nat) (l' : L) : Prop := ∀ cx a, Inv ⟨P, n, c0, Bor⟩ (· < n0) cx (get l) a → ∃ cx', cx'.w = cx.w ∧ Inv ⟨P, n, c0, Bor⟩ (· < n1) cx' (get l') a
theorem ws_world {E : Env} {cx cx' : Cx} {a : Act} {c : Code} (hw : cx'.w = cx.w) (h : WS E Q (.code c :: rs) .normal cx' a) : WS E Q (.code c :: rs) .normal cx a := by
  show c.wp E.P _ a cx.w
  rw [← hw]
  exact h
theorem T_wk {c : Code} {n1 : Nat} {l' : L} (hw : Wk P n c0 Bor n0 l n1 l') (h : T P n c0 Bor Q n1 l' (.code c :: rs)) : T P n c0 Bor Q n0 l (.code c :: rs) := fun cx a hI => by
  obtain ⟨cx', h1, h2⟩ := hw cx a hI
  exact ws_world h1 (h cx' a h2)
theorem Wk.refl : Wk P n c0 Bor n0 l n0 l := fun cx _ h => ⟨cx, rfl, h⟩
theorem Wk.trans {n1 n2 : Nat} {l1 l2 : L} (h : Wk P n c0 Bor n0 l n1 l1) (k : Wk P n c0 Bor n1 l1 n2 l2) : Wk P n c0 Bor n0 l n2 l2 := fun cx a hI => by
  obtain ⟨c1, e1, h1⟩ := h cx a hI
  obtain ⟨c2, e2, h2⟩ := k c1 a h1
  exact ⟨c2, e2.trans e1, h2⟩
/-- Fewer keys. -/
theorem Wk.less {l' : L} (n1 : Nat) (hn : Nat.ble n0 n1 = true) (h : l'.map (fun x => get l x.1) = l'.map (·.2)) : Wk P n c0 Bor n0 l n1 l' := fun cx a hI => by
  refine ⟨cx, rfl, (hI.more fun i hi => Nat.lt_of_lt_of_le hi (Nat.le_of_ble_eq_true hn)).less fun k v hk => ?_⟩
  have : ∀ (m : L), m.map (fun x => get l x.1) = m.map (·.2) → ∀ k v, get m k = some v → get l k = some v := by
    intro m
    induction m with
    | nil => intro _ k v hk; simp [get, lk] at hk
    | cons x m ih =>
      intro hm k v hk
      simp only [List.map_cons, List.cons.injEq] at hm
      simp only [get, lk] at hk ih
      by_cases e : Nat.beq k x.1 = true
      · rw [if_pos e] at hk
        rw [Nat.eq_of_beq_eq_true e, hm.1]
        simpa using hk
      · rw [if_neg e] at hk
        exact ih hm.2 k v hk
  exact this l' h k v hk
/-- Other numbers for own blocks: number i is what number σ i was. -/
def reSt (σ : Nat → Nat) (n1 : Nat) (l' : L) (g : St) : List Prop := l'.map fun x => match x.2 with
  | some (.pv p) => g x.1 = some (.pv (ren σ p))
  | some (.blk T cs) => x.1 % 2 = 1 ∧ x.1 / 2 < n1 ∧ g (kb (σ (x.1 / 2))) = some (.blk T (renL σ cs))
  | none => True
theorem reSt_spec {σ : Nat → Nat} {n1 : Nat} {g : St} : ∀ {l' : L}, (∀ p ∈ reSt σ n1 l' g, p) → ∀ k v, get l' k = some v → match v with
    | .pv p => g k = some (.pv (ren σ p))
    | .blk T cs => k % 2 = 1 ∧ k / 2 < n1 ∧ g (kb (σ (k / 2))) = some (.blk T (renL σ cs))
  | [], _, k, v, h => by simp [get, lk] at h
  | x :: l', hp, k, v, h => by
    simp only [reSt, List.map_cons, List.mem_cons, forall_eq_or_imp] at hp
    simp only [get, lk] at h
    by_cases e : Nat.beq k x.1 = true
    · rw [if_pos e] at h
      have e' := Nat.eq_of_beq_eq_true e
      subst e'
      have h2 : x.2 = some v := by simpa using h
      have h1 := hp.1
      rw [h2] at h1
      cases v <;> exact h1
    · rw [if_neg e] at h
      exact reSt_spec (l' := l') hp.2 k v h
theorem renL_nil {σ : Nat → Nat} {cs : List PV} (h : renL σ cs = []) : cs = [] := by
  have := congrArg List.length h
  rw [renL_length] at this
  exact List.eq_nil_of_length_eq_zero this
def sgm (n0 : Nat) (σl : List Nat) (i : Nat) : Nat := match Nat.blt i σl.length with | true => σl.getD i 0 | false => n0 + i
/-- m: how many numbers were lent (they stay as they are). -/
theorem Wk.ren {l' : L} (m : Nat) (hc0 : ∀ i x, c0.own i = some x → i < m) (σl : List Nat) (hσ : σl.take m = List.range m) (hnd : nodupB σl = true) (h : ∀ p ∈ reSt (sgm n0 σl) σl.length l' (get l), p) : Wk P n c0 Bor n0 l σl.length l' := fun cx a hI => by
  have hsp := reSt_spec h
  have hs1 : ∀ i, i < σl.length → sgm n0 σl i = σl.getD i 0 := fun i hi => by
    unfold sgm
    rw [show Nat.blt i σl.length = true from by simpa [Nat.blt_eq] using hi]
  have hs2 : ∀ i, σl.length ≤ i → cx.own (sgm n0 σl i) = none := fun i hi => by
    unfold sgm
    rw [show Nat.blt i σl.length = false from by rw [Bool.eq_false_iff, Ne, Nat.blt_eq]; omega]
    cases ho : cx.own (n0 + i) with
    | none => rfl
    | some x => have : n0 + i < n0 := hI.ids _ x ho; omega
  have hlv : ∀ i, Live (get l') i → i < σl.length ∧ Live (get l) (sgm n0 σl i) := fun i ⟨T, cs, hx⟩ => by
    have h1 := hsp _ _ hx
    simp only at h1
    rw [show kb i / 2 = i by simp only [kb]; omega] at h1
    exact ⟨h1.2.1, T, _, h1.2.2⟩
  refine ⟨cx.via (sgm n0 σl), rfl, { ids := fun i x hx => ?_, blk := fun i T cs hx => ?_, inj := fun i j b T T' l1 l2 h3 h4 => ?_, apart := fun i b T l1 h2 => hI.apart _ b T (hlv i l1).2 h2, bnd := fun i b T h1 => hI.bnd _ b T h1, sok := hI.sok, os := hI.os, tape := hI.tape, output := hI.output, size := hI.size, same := hI.same, laid := hI.laid, s0 := hI.s0, s1 := hI.s1, keep := ⟨hI.keep.S, fun i x hx => ?_, hI.keep.shape⟩, tmps := hI.tmps, dfr := hI.dfr, slot := fun s p hp => ?_, isv := fun s x hx => ?_ }⟩
  · show i < σl.length
    rcases Nat.lt_or_ge i σl.length with h1 | h1
    · exact h1
    · have : cx.own (sgm n0 σl i) = some x := hx
      rw [hs2 i h1] at this
      cases this
  · have h1 := hsp _ _ hx
    simp only at h1
    rw [show kb i / 2 = i by simp only [kb]; omega] at h1
    obtain ⟨ob, h5, h6, h7⟩ := hI.blk _ _ _ h1.2.2
    refine ⟨ob, h5, ones_renL.1 h6, ?_⟩
    rcases h7 with ⟨h7, h8⟩ | ⟨b, arr, h7, h8, h9, h10⟩
    · exact .inl ⟨h7, renL_nil h8⟩
    · rw [renL_length] at h9 h10
      exact .inr ⟨b, arr, h7, h8, h9, fun j hj => rep_via (h10 j hj) _ (renL_get _ _ j hj)⟩
  · obtain ⟨e1, l1'⟩ := hlv i l1
    obtain ⟨e2, l2'⟩ := hlv j l2
    have := hI.inj _ _ b T T' l1' l2' h3 h4
    rw [hs1 i e1, hs1 j e2] at this
    exact nodup_inj hnd i j e1 e2 this
  · have h1 := hc0 i x hx
    have h2 : i < σl.length := by
      have := congrArg List.length hσ
      simp at this
      omega
    have h3 : σl.getD i 0 = i := by
      have h4 := List.getElem?_take_of_lt (l := σl) h1
      rw [hσ] at h4
      rw [List.getD_eq_getElem?_getD, ← h4]
      simp [h1]
    show cx.own (sgm n0 σl i) = some x
    rw [hs1 i h2, h3]
    exact hI.keep.own i x hx
  · have h1 := hsp _ _ hp
    exact rep_via (hI.slot s _ h1) _ rfl
  · cases x with
    | pv p => exact ⟨p, rfl⟩
    | blk T cs =>
      have h1 := hsp _ _ hx
      simp only [Pm.ks] at h1
      omega
/-- A slot that holds nil: an own row that has not been made. -/
theorem Wk.nil {s : Nat} (T : TypeId) (hs : get l (Pm.ks s) = some (.pv (.av (.slice none 0 0)))) : Wk P n c0 Bor n0 l (n0 + 1) ([(ks s, some (.pv (.osl n0 0 0))), (kb n0, some (.blk T []))] ++ l) := fun cx a hI => by
  obtain ⟨hk, hh⟩ := heap_virtual hI.toHeap (id := n0) (fun h => absurd h (Nat.lt_irrefl _)) T
  refine ⟨⟨cx.w, cx.S, setOwn cx.own n0 (none, T)⟩, rfl, ?_⟩
  have hge : ∀ k, get ([(ks s, some (.pv (.osl n0 0 0))), (kb n0, some (.blk T []))] ++ l) k = if Nat.beq k (Pm.ks s) then some (.pv (.osl n0 0 0)) else over [(kb n0, some (.blk T []))] (get l) k := fun k => by
    rw [get_append]
    simp only [over, lk]
    by_cases h1 : Nat.beq k (Pm.ks s) = true
    · simp [h1]
    · simp only [h1]; rfl
  have hb : ∀ i, get ([(ks s, some (.pv (.osl n0 0 0))), (kb n0, some (.blk T []))] ++ l) (kb i) = over [(kb n0, some (.blk T []))] (get l) (kb i) := fun i => by
    rw [hge, beq_kbs]; rfl
  have hl : ∀ i, Live (get ([(ks s, some (.pv (.osl n0 0 0))), (kb n0, some (.blk T []))] ++ l)) i → Live (over [(kb n0, some (.blk T []))] (get l)) i := fun i ⟨T', cs, hx⟩ => ⟨T', cs, by rw [← hb]; exact hx⟩
  exact { ids := fun i x hx => by
            rcases hh.ids i x hx with h | h
            · exact Nat.lt_succ_of_lt h
            · subst h; exact Nat.lt_succ_self _
          blk := fun i T' cs hx => hh.blk i T' cs (by rw [← hb]; exact hx), inj := fun i j b T T' l1 l2 => hh.inj i j b T T' (hl i l1) (hl j l2), apart := fun i b T l1 => hh.apart i b T (hl i l1), bnd := hh.bnd, sok := hh.sok,
          os := hh.os, tape := hh.tape, output := hh.output, size := hh.size, same := hh.same, laid := hh.laid, s0 := hh.s0, s1 := hh.s1, keep := hh.keep, tmps := hI.tmps, dfr := hI.dfr
          slot := fun s' p hp => by
            rw [hge, beq_ks] at hp
            by_cases e : s' = s
            · subst e
              rw [decide_eq_true rfl, if_pos rfl] at hp
              cases hp
              have := rep_av (hI.slot s' _ hs)
              rw [this]
              exact .osl setOwn_same (.inl ⟨_, rfl, rfl⟩)
            · rw [decide_eq_false e, if_neg (by simp), over_s] at hp
              exact (hI.slot s' p hp).mono hk
          isv := fun s' x hx => by
            rw [hge, beq_ks] at hx
            by_cases e : s' = s
            · subst e
              rw [decide_eq_true rfl, if_pos rfl] at hx
              cases hx
              exact ⟨_, rfl⟩
            · rw [decide_eq_false e, if_neg (by simp), over_s] at hx
              exact hI.isv s' x hx }
end
end Go.Proofs.YtlngkiipgkociaaGreatDoor.Pm
namespace Go.Proofs.YtlngkiipgkociaaGreatDoor.Pm
open Go

/-- The state behind it. -/
def frzS (id : Nat) (cs : List PV) : L → L
  | [] => []
  | (k, x) :: l => (k, match x with
    | some (.pv p) => some (.pv (frz id cs p))
    | some (.blk T ds) => match Nat.beq k (kb id) with | true => none | false => some (.blk T (frzL id cs ds))
    | none => none) :: frzS id cs l
theorem get_frzS {id : Nat} {cs : List PV} : ∀ {l : L} (k : Nat), get (frzS id cs l) k = match get l k with
    | some (.pv p) => some (.pv (frz id cs p))
    | some (.blk T ds) => if k = kb id then none else some (.blk T (frzL id cs ds))
    | none => none
  | [], k => rfl
  | (j, x) :: l, k => by
    have ih := get_frzS (id := id) (cs := cs) (l := l) k
    simp only [get, frzS, lk] at ih ⊢
    by_cases e : Nat.beq k j = true
    · have e' := Nat.eq_of_beq_eq_true e
      subst e'
      rw [if_pos e, if_pos e]
      cases x with
      | none => rfl
      | some v =>
        cases v with
        | pv p => rfl
        | blk T ds =>
          simp only [Option.join_some]
          by_cases e2 : k = kb id
          · subst e2; simp [Nat.beq_refl]
          · rw [show Nat.beq k (kb id) = false from by rw [Bool.eq_false_iff]; exact fun h => e2 (Nat.eq_of_beq_eq_true h), if_neg e2]
    · rw [if_neg e, if_neg e]
      exact ih
section
variable {P : Program} {n : Nat} {c0 : Cx} {Bor : Nat → Prop} {Q : Post} {n0 : Nat} {l : L} {rs : List Item}
theorem Wk.frz {l' : L} (id : Nat) {T : TypeId} {cs : List PV} (hg : get l (kb id) = some (.blk T cs)) (hs : shds cs) (he : frzS id cs l = l') : Wk P n c0 Bor n0 l n0 l' := fun cx a hI => by
  subst he
  obtain ⟨ob, ho, hone, hbk⟩ := hI.blk id T cs hg
  let cx' : Cx := ⟨cx.w, fun b => cx.S b ∨ ob = some b, cx.own⟩
  have hlive : Live (get l) id := ⟨T, cs, hg⟩
  have hblk : ∀ b, ob = some b → cx'.S b ∧ ∃ arr : Array Value, cx.w.heap[b]? = some (.cells arr T (0, 0)) ∧ cs.length ≤ arr.size ∧ ∀ j, j < cs.length → SRep cx'.w cx'.S (cs.getD j P0) (arr.getD j undef) := by
    intro b hb
    rcases hbk with ⟨h1, _⟩ | ⟨b', arr, h1, h2, h3, h4⟩
    · rw [hb] at h1; cases h1
    · obtain rfl : b' = b := by rw [hb] at h1; simpa using h1.symm
      refine ⟨.inr hb, arr, h2, h3, fun j hj => ?_⟩
      have hm : cs.getD j P0 ∈ cs := by simp [List.getD_eq_getElem?_getD, hj]
      exact (shd_rep (h4 j hj) (hs _ hm)).mono fun b hb => ⟨.inl hb, rfl⟩
  have hrep : ∀ {p : PV} {v : Value}, Rep P cx p v → Rep P cx' (Pm.frz id cs p) v := fun h => rep_frz (c := cx) (c' := cx') rfl (fun _ h => Or.inl h) rfl ho hone hblk h
  have hgb : ∀ i T' ds, get (frzS id cs l) (kb i) = some (.blk T' ds) → i ≠ id ∧ ∃ ds', get l (kb i) = some (.blk T' ds') ∧ ds = frzL id cs ds' := by
    intro i T' ds h
    rw [get_frzS] at h
    cases hx : get l (kb i) with
    | none => rw [hx] at h; cases h
    | some v =>
      rw [hx] at h
      cases v with
      | pv p => cases h
      | blk T2 ds2 =>
        simp only at h
        by_cases e : kb i = kb id
        · rw [if_pos e] at h; cases h
        · rw [if_neg e] at h
          simp only [Option.some.injEq, Val.blk.injEq] at h
          obtain ⟨rfl, rfl⟩ := h
          exact ⟨fun e2 => e (by rw [e2]), _, rfl, rfl⟩
  have hl : ∀ i, Live (get (frzS id cs l)) i → i ≠ id ∧ Live (get l) i := fun i ⟨T', ds, h⟩ => by
    obtain ⟨h1, ds', h2, _⟩ := hgb i T' ds h
    exact ⟨h1, T', ds', h2⟩
  refine ⟨cx', rfl, { ids := hI.ids, blk := fun i T' ds h => ?_, inj := fun i j b T1 T2 l1 l2 => hI.inj i j b T1 T2 (hl i l1).2 (hl j l2).2, apart := fun i b T1 l1 h2 => ?_, bnd := hI.bnd, sok := fun b hb => ?_, os := hI.os, tape := hI.tape, output := hI.output, size := hI.size, same := hI.same, laid := hI.laid, s0 := fun b hb => .inl (hI.s0 b hb), s1 := fun b hb => ?_, keep := ⟨fun b hb => ⟨.inl (hI.keep.S b hb).1, (hI.keep.S b hb).2⟩, hI.keep.own, hI.keep.shape⟩, tmps := hI.tmps, dfr := hI.dfr, slot := fun s p hp => ?_, isv := fun s x hx => ?_ }⟩
  · obtain ⟨h1, ds', h2, rfl⟩ := hgb i T' ds h
    obtain ⟨ob', h3, h4, h5⟩ := hI.blk i T' ds' h2
    refine ⟨ob', h3, ones_frzL h4, ?_⟩
    rcases h5 with ⟨h5, rfl⟩ | ⟨b, arr, h5, h6, h7, h8⟩
    · exact .inl ⟨h5, rfl⟩
    · refine .inr ⟨b, arr, h5, h6, by rw [frzL_length]; exact h7, fun j hj => ?_⟩
      rw [frzL_length] at hj
      rw [frzL_get _ _ _ j hj]
      exact hrep (h8 j hj)
  · obtain ⟨h1, h3⟩ := hl i l1
    have hap := hI.apart i b T1 h3 h2
    refine ⟨fun hb => ?_, hap.2⟩
    rcases hb with hb | hb
    · exact hap.1 hb
    · subst hb
      exact h1 (hI.inj i id b T1 T h3 hlive h2 ho)
  · rcases hb with hb | hb
    · exact hI.sok b hb
    · subst hb; exact hI.bnd id b T ho
  · rcases hb with hb | hb
    · exact hI.s1 b hb
    · subst hb; exact .inr (hI.apart id b T hlive ho).2
  · rw [get_frzS] at hp
    cases hx : get l (ks s) with
    | none => rw [hx] at hp; cases hp
    | some v =>
      rw [hx] at hp
      cases v with
      | pv q =>
        simp only [Option.some.injEq, Val.pv.injEq] at hp
        subst hp
        exact hrep (hI.slot s q hx)
      | blk T2 ds2 => obtain ⟨q, hq⟩ := hI.isv s _ hx; cases hq
  · rw [get_frzS] at hx
    cases hy : get l (ks s) with
    | none => rw [hy] at hx; cases hx
    | some v =>
      rw [hy] at hx
      cases v with
      | pv q => exact ⟨_, by simpa using hx.symm⟩
      | blk T2 ds2 => obtain ⟨q, hq⟩ := hI.isv s _ hy; cases hq

/-! ### loops -/
def leastP (p : Nat → Prop) (m : Nat) : Prop := p m ∧ ∀ k, k < m → ¬ p k
theorem least_of {p : Nat → Prop} : ∀ m, p m → ∃ k, leastP p k := by
  intro m
  induction m using Nat.strongRecOn with
  | ind m ih =>
    intro h
    by_cases e : ∃ k, k < m ∧ p k
    · obtain ⟨k, h1, h2⟩ := e
      exact ih k h1 h2
    · exact ⟨m, h, fun k h1 h2 => e ⟨k, h1, h2⟩⟩
/-- What a round must end in: the loop's states again, with less to do; or out. -/
def loopQ {α : Type} (P : Program) (n : Nat) (c0 : Cx) (Bor : Nat → Prop) (Q : Post) (rs : List Item) (n1 : Nat) (I : α → L) (μ : α → Nat) (x : α) : Post := fun e cx a => match e with
  | .normal => ∃ y cx', cx'.w = cx.w ∧ Inv ⟨P, n, c0, Bor⟩ (· < n1) cx' (get (I y)) a ∧ μ y < μ x
  | e => WS ⟨P, n, c0, Bor⟩ Q rs e cx a
theorem T_loop {α : Type} {body : Code} (I : α → L) (μ : α → Nat) (n1 : Nat) (x0 : α) (h0 : Wk P n c0 Bor n0 l n1 (I x0)) (h : ∀ x, T P n c0 Bor (loopQ P n c0 Bor Q rs n1 I μ x) n1 (I x) [.code body]) : T P n c0 Bor Q n0 l (.code (.loop body) :: rs) := fun cx a hI => by
  obtain ⟨cx0, hw0, hI0⟩ := h0 cx a hI
  let p : Act → World → Nat → Prop := fun a w m => ∃ x cx, cx.w = w ∧ Inv ⟨P, n, c0, Bor⟩ (· < n1) cx (get (I x)) a ∧ μ x = m
  have key := wp_loop (P := P) (Q := fun e a' w' => ∃ cx', cx'.w = w' ∧ WS ⟨P, n, c0, Bor⟩ Q rs e cx' a') (c := body) (a := a) (w := cx.w) (fun a w => ∃ m, leastP (p a w) m) (fun a w => Classical.epsilon (leastP (p a w)))
    (least_of (μ x0) ⟨x0, cx0, hw0, hI0, rfl⟩) ?_
  · exact key
  · intro a w hm
    have hsp := Classical.epsilon_spec hm
    obtain ⟨⟨x, cx1, rfl, h1, h2⟩, hleast⟩ := hsp
    refine wp_mono (h x cx1 a h1) ?_
    rintro e a' w' ⟨cx', rfl, h3⟩
    cases e with
    | normal =>
      obtain ⟨y, cx2, h4, h5, h6⟩ := h3
      have hex := least_of (p := p a' cx'.w) (μ y) ⟨y, cx2, h4, h5, rfl⟩
      refine ⟨hex, ?_⟩
      have hsp2 := Classical.epsilon_spec hex
      have hle : Classical.epsilon (leastP (p a' cx'.w)) ≤ μ y := by
        rcases Nat.lt_or_ge (μ y) (Classical.epsilon (leastP (p a' cx'.w))) with h7 | h7
        · exact absurd ⟨y, cx2, h4, h5, rfl⟩ (hsp2.2 _ h7)
        · exact h7
      show Classical.epsilon (leastP (p a' cx'.w)) < Classical.epsilon (leastP (p a cx1.w))
      rw [← h2]
      omega
    | exit id => exact ⟨cx', rfl, h3⟩
    | goto l => exact ⟨cx', rfl, h3⟩
    | ret => exact ⟨cx', rfl, h3⟩
    | panic c => exact ⟨cx', rfl, h3⟩
    | outgrown => exact ⟨cx', rfl, h3⟩
theorem T_back {α : Type} {I : α → L} {μ : α → Nat} {n1 : Nat} {x : α} (y : α) (hw : Wk P n c0 Bor n0 l n1 (I y)) (hm : μ y < μ x) : T P n c0 Bor (loopQ P n c0 Bor Q rs n1 I μ x) n0 l [] := fun cx a hI => by
  obtain ⟨cx', h1, h2⟩ := hw cx a hI
  exact ⟨y, cx', h1, h2, hm⟩
theorem T_break {α : Type} {I : α → L} {μ : α → Nat} {n1 : Nat} {x : α} {id : Nat} {ks rs' : List Item} (h1 : out id ks = none) (h2 : out id rs = some rs') (h : T P n c0 Bor Q n0 l rs') : T P n c0 Bor (loopQ P n c0 Bor Q rs n1 I μ x) n0 l (.code (.exit id) :: ks) :=
  T_leave h1 fun cx a hI => ws_out h2 (h cx a hI)
theorem loop_ret {α : Type} {I : α → L} {μ : α → Nat} {n1 : Nat} {x : α} {cx : Cx} {a : Act} (h : Q .ret cx a) : loopQ P n c0 Bor Q rs n1 I μ x .ret cx a := ws_ret h

/-! ### whole functions -/
def resPV : List PV → PV
  | [p] => cz p
  | ps => .tup (ps.map cz)
def retQ (P : Program) (fn : Func) (c0 : Cx) (Bor : Nat → Prop) (r : PV) (H' : Hp) : Post := fun e cx a => (e = .normal ∨ e = .ret) ∧ a.defers = [] ∧ ∃ v cx', cx'.w = cx.w ∧ (results fn a.tmps).run P cx.w = .ok v cx.w ∧ Rep P cx' r v ∧ Heap ⟨P, 0, c0, Bor⟩ (· < H'.length) cx' (hSt H')
theorem Heap.env {nx : Nat → Prop} {m : Nat} {c : Cx} {g : St} (h : Heap ⟨P, n, c0, Bor⟩ nx c g) : Heap ⟨P, m, c0, Bor⟩ nx c g :=
  { ids := h.ids, blk := h.blk, inj := h.inj, apart := h.apart, bnd := h.bnd, sok := h.sok, os := h.os, tape := h.tape, output := h.output, size := h.size, same := h.same, laid := h.laid, s0 := h.s0, s1 := h.s1, keep := h.keep }
theorem Heap.less {E : Env} {nx : Nat → Prop} {c : Cx} {g g' : St} (h : Heap E nx c g) (hs : ∀ i T cs, g' (kb i) = some (.blk T cs) → g (kb i) = some (.blk T cs)) : Heap E nx c g' := by
  have hl : ∀ i, Live g' i → Live g i := fun i ⟨T, cs, hx⟩ => ⟨T, cs, hs _ _ _ hx⟩
  exact { h with blk := fun i T cs hx => h.blk i T cs (hs _ _ _ hx), inj := fun i j b T T' l1 l2 => h.inj i j b T T' (hl i l1) (hl j l2), apart := fun i b T l1 => h.apart i b T (hl i l1) }
theorem run_res1 {fn : Func} {t : Nat} (hres : fn.results = #[.tmp t]) (tmps : Array Value) (w : World) : (results fn tmps).run P w = .ok (tmps.getD t undef) w := by simp [results, hres]
theorem run_res2 {fn : Func} {t u : Nat} (hres : fn.results = #[.tmp t, .tmp u]) (tmps : Array Value) (w : World) : (results fn tmps).run P w = .ok (.tuple #[tmps.getD t undef, tmps.getD u undef]) w := by simp [results, hres]
theorem run_res3 {fn : Func} {t u x : Nat} (hres : fn.results = #[.tmp t, .tmp u, .tmp x]) (tmps : Array Value) (w : World) : (results fn tmps).run P w = .ok (.tuple #[tmps.getD t undef, tmps.getD u undef, tmps.getD x undef]) w := by simp [results, hres]
theorem run_res0 {fn : Func} (hres : fn.results = #[]) (tmps : Array Value) (w : World) : (results fn tmps).run P w = .ok (.tuple #[]) w := by simp [results, hres]
/-- What is left of the blocks. -/
def blksB (l : L) : Nat → Hp → List Prop
  | _, [] => []
  | i, some (T, cs) :: H => (get l (kb i) = some (.blk T cs)) :: blksB l (i + 1) H
  | i, none :: H => blksB l (i + 1) H
theorem blksB_spec {l : L} : ∀ {H : Hp} {n : Nat}, (∀ p ∈ blksB l n H, p) → ∀ i x, H.getD i none = some x → get l (kb (n + i)) = some (.blk x.1 x.2)
  | [], n, _, i, x, h => by simp at h
  | none :: H, n, hp, 0, x, h => by simp at h
  | none :: H, n, hp, i + 1, x, h => by
    have := blksB_spec (H := H) (n := n + 1) hp i x (by simpa using h)
    rwa [show n + 1 + i = n + (i + 1) by omega] at this
  | some y :: H, n, hp, 0, x, h => by
    obtain ⟨T, cs⟩ := y
    have : (T, cs) = x := by simpa using h
    subst this
    exact hp _ (by simp [blksB])
  | some y :: H, n, hp, i + 1, x, h => by
    obtain ⟨T, cs⟩ := y
    have := blksB_spec (l := l) (H := H) (n := n + 1) (fun p hp' => hp p (by simp [blksB, hp'])) i x (by simpa using h)
    rwa [show n + 1 + i = n + (i + 1) by omega] at this
theorem ret_ok {fn : Func} {r : PV} {H' : Hp} {n1 : Nat} {l' : L} {e : Exit} (he : e = .normal ∨ e = .ret) (hw : Wk P n c0 Bor n0 l n1 l') (hn : n1 = H'.length) (hb : ∀ p ∈ blksB l' 0 H', p)
    (hr : ∀ (cx : Cx) (a : Act), Inv ⟨P, n, c0, Bor⟩ (· < n1) cx (get l') a → ∃ v, (results fn a.tmps).run P cx.w = .ok v cx.w ∧ Rep P cx r v) {cx : Cx} {a : Act} (hI : Inv ⟨P, n, c0, Bor⟩ (· < n0) cx (get l) a) : retQ P fn c0 Bor r H' e cx a := by
  obtain ⟨cx', h1, h2⟩ := hw cx a hI
  obtain ⟨v, h3, h4⟩ := hr cx' a h2
  refine ⟨he, hI.dfr, v, cx', h1, by rw [← h1]; exact h3, h4, ?_⟩
  subst hn
  refine (h2.toHeap.env).less fun i T cs hx => ?_
  rw [hSt_b] at hx
  cases hy : H'.getD i none with
  | none => rw [hy] at hx; cases hx
  | some y =>
    rw [hy] at hx
    simp only [Option.some.injEq, Val.blk.injEq] at hx
    obtain ⟨rfl, rfl⟩ := hx
    have := blksB_spec hb i y hy
    rwa [Nat.zero_add] at this
theorem ret0 {fn : Func} {l' : L} (hres : fn.results = #[]) (cx : Cx) (a : Act) (_ : Inv ⟨P, n, c0, Bor⟩ (· < n0) cx (get l') a) : ∃ v, (results fn a.tmps).run P cx.w = .ok v cx.w ∧ Rep P cx (.tup []) v :=
  ⟨_, run_res0 hres _ _, .tup rfl fun i hi => by simp at hi⟩
theorem ret1 {fn : Func} {l' : L} {t : Nat} {p r : PV} (hres : fn.results = #[.tmp t]) (hp : get l' (ks t) = some (.pv p)) (hr : cz p = r) (cx : Cx) (a : Act) (hI : Inv ⟨P, n, c0, Bor⟩ (· < n0) cx (get l') a) : ∃ v, (results fn a.tmps).run P cx.w = .ok v cx.w ∧ Rep P cx r v :=
  ⟨_, run_res1 hres _ _, hr ▸ rep_cz (hI.slot t p hp)⟩
theorem ret2 {fn : Func} {l' : L} {t u : Nat} {p q r s : PV} (hres : fn.results = #[.tmp t, .tmp u]) (hp : get l' (ks t) = some (.pv p)) (hq : get l' (ks u) = some (.pv q)) (hr : cz p = r) (hs : cz q = s) (cx : Cx) (a : Act)
    (hI : Inv ⟨P, n, c0, Bor⟩ (· < n0) cx (get l') a) : ∃ v, (results fn a.tmps).run P cx.w = .ok v cx.w ∧ Rep P cx (.tup [r, s]) v := by
  subst hr; subst hs
  refine ⟨_, run_res2 hres _ _, .tup rfl fun i hi => ?_⟩
  match i, hi with
  | 0, _ => exact rep_cz (hI.slot t p hp)
  | 1, _ => exact rep_cz (hI.slot u q hq)
theorem ret3 {fn : Func} {l' : L} {t u x : Nat} {p q z r s y : PV} (hres : fn.results = #[.tmp t, .tmp u, .tmp x]) (hp : get l' (ks t) = some (.pv p)) (hq : get l' (ks u) = some (.pv q)) (hz : get l' (ks x) = some (.pv z)) (hr : cz p = r) (hs : cz q = s) (hy : cz z = y) (cx : Cx) (a : Act)
    (hI : Inv ⟨P, n, c0, Bor⟩ (· < n0) cx (get l') a) : ∃ v, (results fn a.tmps).run P cx.w = .ok v cx.w ∧ Rep P cx (.tup [r, s, y]) v := by
  subst hr; subst hs; subst hy
  refine ⟨_, run_res3 hres _ _, .tup rfl fun i hi => ?_⟩
  match i, hi with
  | 0, _ => exact rep_cz (hI.slot t p hp)
  | 1, _ => exact rep_cz (hI.slot u q hq)
  | 2, _ => exact rep_cz (hI.slot x z hz)
/-- The state that a call begins in. -/
def initA : Nat → List PV → L
  | _, [] => []
  | i, p :: ps => (ks i, some (.pv p)) :: initA (i + 1) ps
def initB : Nat → Hp → L
  | _, [] => []
  | i, x :: H => (kb i, match x with | some y => some (.blk y.1 y.2) | none => none) :: initB (i + 1) H
theorem get_initA_b (i : Nat) : ∀ (ps : List PV) (n : Nat), lk (kb i) (initA n ps) = none
  | [], _ => rfl
  | p :: ps, n => by simp only [initA, lk, beq_kbs]; exact get_initA_b i ps (n + 1)
theorem get_initB_s (s : Nat) : ∀ (H : Hp) (n : Nat), lk (ks s) (initB n H) = none
  | [], _ => rfl
  | x :: H, n => by simp only [initB, lk, beq_ksb]; exact get_initB_s s H (n + 1)
theorem lk_initA : ∀ (ps : List PV) (n s : Nat) (x : Option Val), lk (ks s) (initA n ps) = some x → n ≤ s ∧ s < n + ps.length ∧ x = some (.pv (ps.getD (s - n) P0))
  | p :: ps, n, s, x, h => by
    simp only [initA, lk, beq_ks] at h
    by_cases e : s = n
    · subst e
      rw [decide_eq_true rfl, if_pos rfl] at h
      cases h
      exact ⟨Nat.le_refl _, by simp, by rw [Nat.sub_self]; rfl⟩
    · rw [decide_eq_false e, if_neg (by simp)] at h
      obtain ⟨h1, h2, h3⟩ := lk_initA ps (n + 1) s x h
      refine ⟨by omega, by simp; omega, ?_⟩
      rw [h3, show s - n = (s - (n + 1)) + 1 by omega]
      rfl
theorem lk_initB : ∀ (H : Hp) (n i : Nat) (T : TypeId) (cs : List PV), lk (kb i) (initB n H) = some (some (.blk T cs)) → n ≤ i ∧ H.getD (i - n) none = some (T, cs)
  | x :: H, n, i, T, cs, h => by
    simp only [initB, lk, beq_kb] at h
    by_cases e : i = n
    · subst e
      rw [decide_eq_true rfl, if_pos rfl] at h
      cases x with
      | none => cases h
      | some y =>
        simp only [Option.some.injEq, Val.blk.injEq] at h
        obtain ⟨rfl, rfl⟩ := h
        exact ⟨Nat.le_refl _, by rw [Nat.sub_self]; rfl⟩
    · rw [decide_eq_false e, if_neg (by simp)] at h
      obtain ⟨h1, h2⟩ := lk_initB H (n + 1) i T cs h
      refine ⟨by omega, ?_⟩
      rw [show i - n = (i - (n + 1)) + 1 by omega]
      exact h2
theorem pc_intro {f : FuncId} {fn : Func} {code : Code} {args : List PV} {H H' : Hp} {r : PV} {l0 : L} (hf : P.funcs[f]? = some fn) (hb : fn.body = some code) (hname : (fn.name == "runtime.NumGoroutine") = false) (hlen : H.length ≤ H'.length)
    (hn : Nat.ble args.length fn.ntmps = true) (hl0 : initA 0 args ++ initB 0 H = l0) (h : ∀ c0 Bor, (∀ i x, c0.own i = some x → i < H.length) → T P fn.ntmps c0 Bor (retQ P fn c0 Bor r H') H.length l0 [.code code]) : PC P f args H r H' := by
  refine ⟨⟨fn, hf, by rw [hb]; rfl, hname⟩, hlen, fun c vs hh hrl => ?_⟩
  have hn := Nat.le_of_ble_eq_true hn
  have hvs := hrl.1
  refine calls_of_wp hf hb ?_
  have hI : Inv ⟨P, fn.ntmps, c, (cEnv P c H).Bor⟩ (· < H.length) c (get l0) { tmps := vs ++ Array.replicate (fn.ntmps - vs.size) undef, defers := [] } := by
    subst hl0
    have hgb : ∀ i T cs, get (initA 0 args ++ initB 0 H) (kb i) = some (.blk T cs) → hSt H (kb i) = some (.blk T cs) := by
      intro i T cs hx
      rw [get_append] at hx
      simp only [over, get_initA_b, get] at hx
      have h2 : lk (kb i) (initB 0 H) = some (some (.blk T cs)) := by
        cases hy : lk (kb i) (initB 0 H) with
        | none => rw [hy] at hx; cases hx
        | some y => rw [hy] at hx; simpa using hx
      obtain ⟨_, h3⟩ := lk_initB H 0 i T cs h2
      rw [Nat.sub_zero] at h3
      rw [hSt_b, h3]
    have hgs : ∀ s x, get (initA 0 args ++ initB 0 H) (ks s) = some x → s < args.length ∧ x = .pv (args.getD s P0) := by
      intro s x hx
      rw [get_append] at hx
      simp only [over, get, get_initB_s] at hx
      cases hy : lk (ks s) (initA 0 args) with
      | none => rw [hy] at hx; cases hx
      | some y =>
        rw [hy] at hx
        obtain ⟨_, h2, h3⟩ := lk_initA args 0 s y hy
        simp only [Nat.sub_zero] at h3
        rw [h3] at hx
        exact ⟨by omega, by simpa using hx.symm⟩
    have hh1 : Heap ⟨P, fn.ntmps, c, (cEnv P c H).Bor⟩ (· < H.length) c (hSt H) := hh.env
    exact { hh1.less hgb with
      tmps := by simp; omega
      dfr := rfl
      slot := fun s p hp => by
        obtain ⟨h1, h2⟩ := hgs s _ hp
        cases h2
        have h3 := hrl.2 s h1
        have h4 : s < vs.size := by omega
        have e : (vs ++ Array.replicate (fn.ntmps - vs.size) undef).getD s undef = vs.getD s undef := by
          rw [Array.getD_eq_getD_getElem?, Array.getElem?_append_left h4, Array.getD_eq_getD_getElem?]
        show Rep P c _ ((vs ++ Array.replicate (fn.ntmps - vs.size) undef).getD s undef)
        rw [e]
        exact h3
      isv := fun s x hx => ⟨_, (hgs s x hx).2⟩ }
  have key := h c (cEnv P c H).Bor (fun i x hx => hh.ids i x hx) c _ hI
  refine wp_mono key ?_
  rintro e a' w' ⟨cx', rfl, he, hd, v, cx2, h1, h2, h3, h4⟩
  rcases he with rfl | rfl
  · exact ⟨hd, v, h2, v, cx2, rfl, h1, h4, h3⟩
  · exact ⟨hd, v, h2, v, cx2, rfl, h1, h4, h3⟩
/-- A function that is lent nothing and hands back one plain value: as the walks of the kit say it. -/
theorem pc_calls {f : FuncId} {args : List PV} {v : Value} {w : World} {vs : Array Value} (h : PC P f args [] (.av v) []) (hn : vs.size = args.length) (hr : ∀ i, i < args.length → SRep w (fun b => b < w.heap.size) (args.getD i P0) (vs.getD i undef))
    (hL : Laid w (fun b => b < w.heap.size) := by (exact ⟨fun x hx => absurd hx (List.not_mem_nil (a := x)), trivial⟩)) :
    Calls P f vs w fun e w' => e = .returned v ∧ RowKit.Below w.heap.size w w' := by
  obtain ⟨_, _, h⟩ := h
  let c : Cx := ⟨w, fun b => b < w.heap.size, fun _ => none⟩
  have hh : Heap (cEnv P c []) (· < ([] : Hp).length) c (hSt []) := by
    refine { ids := fun i x hx => (by cases hx), blk := fun i T cs hx => (by rw [hSt_b] at hx; simp at hx), inj := fun i j b T T' l1 => ?_, apart := fun i b T l1 => ?_, bnd := fun i b T hx => (by cases hx), sok := fun b hb => hb, os := rfl, tape := rfl, output := rfl, size := Nat.le_refl _, same := fun _ _ _ => rfl, laid := hL, s0 := fun _ h => h, s1 := fun _ h => .inl h, keep := Keep.refl _ }
    · obtain ⟨T, cs, hx⟩ := l1
      rw [hSt_b] at hx; simp at hx
    · obtain ⟨T, cs, hx⟩ := l1
      rw [hSt_b] at hx; simp at hx
  refine (h c vs hh ⟨hn, fun i hi => .sh (hr i hi)⟩).mono ?_
  rintro e w' ⟨u, c', rfl, rfl, h1, h2⟩
  rw [rep_av h2]
  refine ⟨rfl, h1.os, h1.tape, h1.output, h1.size, fun k hk => h1.same k hk ?_⟩
  rintro ⟨i, T, ⟨T', cs, hx⟩, _⟩
  rw [hSt_b] at hx
  simp at hx
end
end Go.Proofs.YtlngkiipgkociaaGreatDoor.Pm
namespace Go.Proofs.YtlngkiipgkociaaGreatDoor.Pm
open Go

/-- What is handed back: slots, or what stands in a box. -/
def resP (P : Program) : List ResultVar → (List PV → Plan) → Plan
  | [], k => k []
  | .tmp t :: rs, k => .look (ks t) fun v => match v with | .pv p => resP P rs fun ps => k (p :: ps) | .blk _ _ => .fail
  | .cell t T :: rs, k => .look (ks t) fun v => match v with
    | .pv (.opt id off) => .look (kb id) fun v => match v with
      | .blk _ cs => match isAggD (P.underlying T), P.info? T with
        | some true, some ti => seg cs off ti.size .no fun l => resP P rs fun ps => k (.agg l :: ps)
        | some false, some _ => seg cs off 1 .no fun l => one1 l fun p => resP P rs fun ps => k (p :: ps)
        | _, _ => .fail
      | .pv _ => .fail
    | _ => .fail
abbrev resF (tmps : Array Value) : ResultVar → Sem Value := fun x => match x with
  | .tmp t => pure (tmps.getD t undef)
  | .cell a t => do loadVar t (← asAddr (tmps.getD a undef))
theorem resP_ok {E : Env} {nx : Nat → Prop} {c : Cx} {g : St} {a : Act} (hI : Inv E nx c g a) : ∀ {rs : List ResultVar} {k : List PV → Plan} {p : PV} {wb : L}, Res g (resP E.P rs k) p wb →
    ∃ ps vs, RL E.P c ps (List.toArray vs) ∧ (rs.mapM (resF a.tmps)).run E.P c.w = .ok vs c.w ∧ Res g (k ps) p wb
  | [], k, p, wb, h => ⟨[], [], ⟨rfl, fun i hi => by simp at hi⟩, by simp, h⟩
  | .tmp t :: rs, k, p, wb, h => by
    obtain ⟨v, h1, h2⟩ := Res.look h
    cases v with
    | blk T cs => exact (Res.fail h2).elim
    | pv q =>
      obtain ⟨ps, vs, h3, h4, h5⟩ := resP_ok hI h2
      refine ⟨q :: ps, a.tmps.getD t undef :: vs, ?_, ?_, h5⟩
      · have := (one_rl (hI.slot t q h1)).append h3
        simpa using this
      · simp [List.mapM_cons, h4, resF]
  | .cell t T :: rs, k, p, wb, h => by
    obtain ⟨v, h1, h2⟩ := Res.look h
    split at h2
    case h_2 => exact (Res.fail h2).elim
    rename_i id off
    obtain ⟨bv, hg, h3⟩ := Res.look h2
    cases bv with
    | pv _ => exact (Res.fail h3).elim
    | blk T' cs =>
      simp only at h3
      obtain ⟨b, T2, hown, hv⟩ := rep_opt (hI.slot t _ h1)
      obtain ⟨ob', hown', hone, hb⟩ := hI.blk id T' cs hg
      rw [hown] at hown'
      cases hown'
      rcases hb with ⟨hb, _⟩ | ⟨b', arr, hb1, hb2, hb3, hb4⟩
      · cases hb
      obtain rfl : b' = b := by simpa using hb1.symm
      have hcell : ∀ j, j < cs.length → c.w.cell? ⟨b', 0 + j, none⟩ = some (arr.getD j undef) := fun j hj => by
        have : j < arr.size := by omega
        rw [Nat.zero_add, cell_of_row c.w _ _ arr _ _ hb2]
        simp [Array.getD_eq_getD_getElem?, this]
      -- one value loaded, the rest behind it
      have key : ∀ {q : PV} {u : Value} {r : Plan}, Rep E.P c q u → (loadVar T ⟨b', 0 + off, none⟩).run E.P c.w = .ok u c.w → Res g (resP E.P rs fun ps => k (q :: ps)) p wb →
          ∃ ps vs, RL E.P c ps (List.toArray vs) ∧ ((ResultVar.cell t T :: rs).mapM (resF a.tmps)).run E.P c.w = .ok vs c.w ∧ Res g (k ps) p wb := by
        intro q u r hq hu hr
        obtain ⟨ps, vs, h5, h6, h7⟩ := resP_ok hI hr
        refine ⟨q :: ps, u :: vs, ?_, ?_, h7⟩
        · have := (one_rl hq).append h5
          simpa using this
        · rw [Nat.zero_add] at hu
          have e : (resF a.tmps (.cell t T)).run E.P c.w = .ok u c.w := by
            have hv2 : a.tmps.getD t undef = .pointer (some ⟨b', off, none⟩) := hv
            simp only [resF, Sem.run_bind, hv2, asAddr, Sem.run_pure, Result.andThen_ok, hu]
          rw [List.mapM_cons]
          simp only [Sem.run_bind, e, h6, Result.andThen_ok, Sem.run_pure]
      split at h3
      · rename_i ti hag hin
        have h4 : Res g (loadCs cs off ti.size true .no) (.agg ((cs.drop off).take ti.size)) [] ∧ Res g (resP E.P rs fun ps => k (.agg ((cs.drop off).take ti.size) :: ps)) p wb := by
          unfold seg at h3
          simp only at h3
          split at h3
          · rename_i hb5
            refine ⟨?_, h3⟩
            simp only [loadCs, seg, hb5]
            exact ⟨_, rfl, rfl, rfl, fun q hq => by cases hq⟩
          · exact (Res.fail h3).elim
        obtain ⟨_, u, h5, h6⟩ := load_run (c := c) (a := 0) hag hin h4.1 hcell hb4
        exact key (r := .fail) h5 h6 h4.2
      · rename_i ti hag hin
        unfold seg at h3
        simp only at h3
        split at h3
        · rename_i hb5
          unfold one1 at h3
          split at h3
          · rename_i q heq
            have h4 : Res g (loadCs cs off ti.size false .no) q [] := by
              simp only [loadCs, seg, hb5, heq, one1]
              exact ⟨_, rfl, rfl, rfl, fun q hq => by cases hq⟩
            obtain ⟨_, u, h5, h6⟩ := load_run (c := c) (a := 0) hag hin h4 hcell hb4
            exact key (r := .fail) h5 h6 h3
          · exact (Res.fail h3).elim
        · exact (Res.fail h3).elim
      · exact (Res.fail h3).elim
def runv (g : St) (p : Plan) : Option (PV × List Prop) := match run g p with | some o => some (o.pv, o.obs) | none => none
theorem ret_res {P : Program} {n : Nat} {c0 : Cx} {Bor : Nat → Prop} {n0 : Nat} {fn : Func} {l' : L} {r : PV} (h : runv (get l') (resP P fn.results.toList fun ps => .done (resPV ps) []) = some (r, [])) (cx : Cx) (a : Act)
    (hI : Inv ⟨P, n, c0, Bor⟩ (· < n0) cx (get l') a) : ∃ v, (results fn a.tmps).run P cx.w = .ok v cx.w ∧ Rep P cx r v := by
  unfold runv at h
  split at h
  case h_2 => cases h
  rename_i o h0
  simp only [Option.some.injEq, Prod.mk.injEq] at h
  obtain ⟨hr, ho⟩ := h
  obtain ⟨ps, vs, h1, h2, h3⟩ := resP_ok hI (p := r) (wb := o.wb) ⟨o, h0, hr, rfl, fun q hq => by rw [ho] at hq; cases hq⟩
  obtain ⟨rfl, _⟩ := Res.done h3
  have e : (results fn a.tmps).run P cx.w = .ok (if hs : vs.toArray.size = 1 then vs.toArray[0] else .tuple vs.toArray) cx.w := by
    have e0 : results fn a.tmps = (do let vs ← fn.results.mapM (resF a.tmps); pure (if h : vs.size = 1 then vs[0] else .tuple vs)) := rfl
    rw [e0, Array.mapM_eq_mapM_toList]
    simp only [Sem.run_bind, Sem.run_map, h2, Result.andThen_ok]
    rfl
  refine ⟨_, e, ?_⟩
  have hlen : vs.length = ps.length := by simpa using h1.1
  unfold resPV
  split
  · rename_i p
    have h5 : vs.toArray.size = 1 := by simpa using hlen
    rw [dif_pos h5]
    have := h1.2 0 (by simp)
    have h6 : (0 : Nat) < vs.length := by simpa using hlen ▸ Nat.one_pos
    simp [Array.getD_eq_getD_getElem?, h6] at this
    exact rep_cz (by simpa using this)
  · rename_i hne
    have h5 : ¬ vs.toArray.size = 1 := fun e => by
      have : ps.length = 1 := by simp at e; omega
      obtain ⟨q, rfl⟩ := List.length_eq_one_iff.1 this
      exact hne q rfl
    rw [dif_neg h5]
    refine .tup (by simp [hlen]) fun i hi => ?_
    have hi' : i < ps.length := by simpa using hi
    have := rep_cz (h1.2 i hi')
    simpa [List.getD_eq_getElem?_getD, hi'] using this

/-! ### contracts of the kit's kind -/
/-- A callee that is lent nothing, tells its result by plain values, and at most makes blocks. -/
theorem pc_ofL {P : Program} {f : FuncId} {args : List PV} {r : PV} (hf : FnOk P f) (hr : ∀ w vs, Laid w (fun b => b < w.heap.size) → RL P ⟨w, fun b => b < w.heap.size, fun _ => none⟩ args vs → Calls P f vs w fun e w' => ∃ v, e = .returned v ∧ RowKit.Below w.heap.size w w' ∧ ∀ c, Rep P c r v)
    (hargs : ∀ c vs, RL P c args vs → RL P ⟨c.w, fun b => b < c.w.heap.size, fun _ => none⟩ args vs) : PC P f args [] r [] := by
  refine ⟨hf, Nat.le_refl _, fun c vs hh hrl => (hr c.w vs ⟨fun x hx => hh.sok _ (hh.laid.1 x hx), hh.laid.2⟩ (hargs c vs hrl)).mono ?_⟩
  rintro e w' ⟨v, rfl, hb, hv⟩
  have hbl : ∀ b, b < c.w.heap.size → w'.heap[b]? = c.w.heap[b]? := hb.block
  have hno : ∀ i, ¬ Live (hSt []) i := fun i ⟨T, cs, hx⟩ => by rw [hSt_b] at hx; simp at hx
  have hk : Keep c ⟨w', c.S, c.own⟩ := ⟨fun b hb => ⟨hb, hbl b (hh.sok b hb)⟩, fun _ _ h => h, fun b cs T h => ⟨cs, by rw [hbl b (some_lt h)]; exact h, rfl⟩⟩
  exact ⟨v, ⟨w', c.S, c.own⟩, rfl, rfl, { ids := hh.ids, blk := fun i T cs hx => absurd ⟨T, cs, hx⟩ (hno i), inj := fun i j b T T' l1 => absurd l1 (hno i), apart := fun i b T l1 => absurd l1 (hno i), bnd := fun i b T hx => Nat.lt_of_lt_of_le (hh.bnd i b T hx) hb.size, sok := fun b hS => Nat.lt_of_lt_of_le (hh.sok b hS) hb.size, os := hb.os, tape := hb.tape, output := hb.output, size := hb.size, same := fun b hb' _ => hbl b hb', laid := hh.laid, s0 := fun _ h => h, s1 := fun _ h => .inl h, keep := hk }, hv _⟩

theorem pc_of {P : Program} {f : FuncId} {args : List PV} {r : PV} (hf : FnOk P f) (hr : ∀ w vs, RL P ⟨w, fun b => b < w.heap.size, fun _ => none⟩ args vs → Calls P f vs w fun e w' => ∃ v, e = .returned v ∧ RowKit.Below w.heap.size w w' ∧ ∀ c, Rep P c r v)
    (hargs : ∀ c vs, RL P c args vs → RL P ⟨c.w, fun b => b < c.w.heap.size, fun _ => none⟩ args vs) : PC P f args [] r [] := pc_ofL hf (fun w vs _ h => hr w vs h) hargs

/-! ### small words -/
section
variable {P : Program} {n : Nat} {c0 : Cx} {Bor : Nat → Prop} {Q : Post} {n0 : Nat} {l : L} {rs : List Item}
theorem T_then {t : Nat} {x y : Code} {b : Bool} (hb : get l (ks t) = some (.pv (.av (.bool b)))) (hv : b = true) (h : T P n c0 Bor Q n0 l (.code x :: rs)) : T P n c0 Bor Q n0 l (.code (.cond (.tmp t) x y) :: rs) :=
  T_cond hb (fun _ => h) fun e => by rw [hv] at e; cases e
theorem T_else {t : Nat} {x y : Code} {b : Bool} (hb : get l (ks t) = some (.pv (.av (.bool b)))) (hv : b = false) (h : T P n c0 Bor Q n0 l (.code y :: rs)) : T P n c0 Bor Q n0 l (.code (.cond (.tmp t) x y) :: rs) :=
  T_cond hb (fun e => by rw [hv] at e; cases e) fun _ => h
end
theorem obs_nil : ∀ p ∈ ([] : List Prop), p := fun p hp => by cases hp
theorem obs_cons {p : Prop} {l : List Prop} (h : p) (k : ∀ q ∈ l, q) : ∀ q ∈ p :: l, q := fun q hq => by
  rcases List.mem_cons.1 hq with rfl | hq
  · exact h
  · exact k q hq
theorem Wk.eq {P : Program} {n : Nat} {c0 : Cx} {Bor : Nat → Prop} {n0 : Nat} {l l' : L} (h : l = l') : Wk P n c0 Bor n0 l n0 l' := h ▸ Wk.refl
abbrev iv (n : Int) : PV := .av (.int .i64 n)
abbrev bv (b : Bool) : PV := .av (.bool b)
abbrev sv (s : ByteArray) : PV := .av (.string s)
abbrev ps (s : Nat) (p : PV) : Nat × Option Val := (ks s, some (.pv p))
abbrev pb (i : Nat) (T : TypeId) (cs : List PV) : Nat × Option Val := (kb i, some (.blk T cs))
/-- Numbers, as cells. -/
def ints (l : List Int) : List PV := l.flatMap fun n => [iv n]
theorem flat_len {α : Type} (f : α → List PV) (s : Nat) (hf : ∀ x, (f x).length = s) : ∀ l : List α, (l.flatMap f).length = l.length * s
  | [] => by simp
  | x :: l => by rw [List.flatMap_cons, List.length_append, hf, flat_len f s hf l, List.length_cons, Nat.succ_mul]; omega
theorem flat_at {α : Type} (f : α → List PV) (s : Nat) (hf : ∀ x, (f x).length = s) (d : α) : ∀ (l : List α) (k j m : Nat), k < l.length → j + m ≤ s →
    k * s + j + m ≤ (l.flatMap f).length ∧ ((l.flatMap f).drop (k * s + j)).take m = ((f (l.getD k d)).drop j).take m
  | x :: l, 0, j, m, _, hj => by
    refine ⟨by rw [flat_len f s hf, List.length_cons, Nat.succ_mul]; omega, ?_⟩
    rw [Nat.zero_mul, Nat.zero_add, List.flatMap_cons, List.drop_append_of_le_length (by rw [hf]; omega), List.take_append_of_le_length (by rw [List.length_drop, hf]; omega)]
    rfl
  | x :: l, k + 1, j, m, hk, hj => by
    have hk' : k < l.length := by simpa using hk
    obtain ⟨h1, h2⟩ := flat_at f s hf d l k j m hk' hj
    refine ⟨by rw [List.flatMap_cons, List.length_append, hf, Nat.succ_mul]; omega, ?_⟩
    have e : (k + 1) * s + j = s + (k * s + j) := by rw [Nat.succ_mul]; omega
    rw [List.flatMap_cons, e, ← List.drop_drop, show s = (f x).length from (hf x).symm, List.drop_left, hf x, h2]
    rfl
theorem ints_at {l : List Int} {k : Nat} (h : k < l.length) : k + 1 ≤ (ints l).length ∧ ((ints l).drop k).take 1 = [iv (l.getD k 0)] := by
  have := flat_at (fun n => [iv n]) 1 (fun _ => rfl) 0 l k 0 1 h (by omega)
  simpa [ints] using this
theorem ints_len (l : List Int) : (ints l).length = l.length := by rw [ints, flat_len _ 1 (fun _ => rfl), Nat.mul_one]
end Go.Proofs.YtlngkiipgkociaaGreatDoor.Pm
namespace Go.Proofs.YtlngkiipgkociaaGreatDoor.Pm
open Go

def flat1 : PV → Option Value
  | .av v => some v
  | _ => none
def flat1s : List PV → Option (List Value)
  | [] => some []
  | p :: l => match flat1 p, flat1s l with | some v, some r => some (v :: r) | _, _ => none
def flat2 : PV → Option Value
  | .agg cs => match flat1s cs with | some l => some (.agg l.toArray) | none => none
  | p => flat1 p
def flat2s : List PV → Option (List Value)
  | [] => some []
  | p :: l => match flat2 p, flat2s l with | some v, some r => some (v :: r) | _, _ => none
def flat3 : PV → Option Value
  | .tup cs => match flat2s cs with | some l => some (.tuple l.toArray) | none => none
  | p => flat2 p
theorem flat1_to {P : Program} {c : Cx} {p : PV} {v u : Value} (h : flat1 p = some u) (hr : Rep P c p v) : v = u := by
  cases p <;> simp [flat1] at h
  subst h
  exact rep_av hr
theorem flat1_of {w : World} {S : Nat → Prop} {p : PV} {u : Value} (h : flat1 p = some u) : SRep w S p u := by
  cases p <;> simp [flat1] at h
  subst h
  exact .av _
theorem flats_to {P : Program} {c : Cx} {f : PV → Option Value} {fs : List PV → Option (List Value)} (h0 : fs [] = some []) (hc : ∀ p l, fs (p :: l) = match f p, fs l with | some v, some r => some (v :: r) | _, _ => none)
    (hf : ∀ p v u, f p = some u → Rep P c p v → v = u) : ∀ {l : List PV} {us : List Value} {vs : Array Value}, fs l = some us → RL P c l vs → vs = us.toArray
  | [], us, vs, h, hr => by
    rw [h0] at h
    cases h
    exact Array.eq_empty_of_size_eq_zero hr.1
  | p :: l, us, vs, h, hr => by
    rw [hc] at h
    split at h
    case h_2 => cases h
    rename_i v r h1 h2
    cases h
    have hs := hr.1
    simp only [List.length_cons] at hs
    have e0 : vs.getD 0 undef = v := hf p _ _ h1 (by simpa using hr.2 0 (by simp))
    have ht : RL P c l (vs.toList.tail).toArray := by
      refine ⟨by simp [hs], fun i hi => ?_⟩
      have := hr.2 (i + 1) (by simp; omega)
      have e : ((vs.toList.tail).toArray).getD i undef = vs.getD (i + 1) undef := by
        simp only [Array.getD_eq_getD_getElem?, List.getElem?_toArray, List.getElem?_tail, Array.getElem?_toList]
      rw [e]
      simpa using this
    have ih := flats_to h0 hc hf h2 ht
    have h3 : vs.toList.tail = r := by simpa using ih
    apply Array.ext'
    cases hv : vs.toList with
    | nil =>
      have : vs.size = 0 := by rw [← Array.length_toList, hv]; rfl
      omega
    | cons a b =>
      rw [hv] at h3
      have : vs.getD 0 undef = a := by
        rw [Array.getD_eq_getD_getElem?, ← Array.getElem?_toList, hv]
        rfl
      rw [← e0, this]
      simpa using h3
theorem flats_of {w : World} {S : Nat → Prop} {f : PV → Option Value} {fs : List PV → Option (List Value)} (h0 : fs [] = some []) (hc : ∀ p l, fs (p :: l) = match f p, fs l with | some v, some r => some (v :: r) | _, _ => none)
    (hf : ∀ p u, f p = some u → SRep w S p u) : ∀ {l : List PV} {us : List Value}, fs l = some us → us.length = l.length ∧ ∀ i, i < l.length → SRep w S (l.getD i P0) (us.getD i undef)
  | [], us, h => by
    rw [h0] at h
    cases h
    exact ⟨rfl, fun i hi => by simp at hi⟩
  | p :: l, us, h => by
    rw [hc] at h
    split at h
    case h_2 => cases h
    rename_i v r h1 h2
    cases h
    obtain ⟨h3, h4⟩ := flats_of h0 hc hf h2
    refine ⟨by simp [h3], fun i hi => ?_⟩
    cases i with
    | zero => exact hf p v h1
    | succ i => simpa using h4 i (by simpa using hi)
theorem arr_getD (us : List Value) (i : Nat) : us.toArray.getD i undef = us.getD i undef := by simp [Array.getD_eq_getD_getElem?, List.getD_eq_getElem?_getD]
theorem flat2_to {P : Program} {c : Cx} {p : PV} {v u : Value} (h : flat2 p = some u) (hr : Rep P c p v) : v = u := by
  unfold flat2 at h
  split at h
  · split at h
    case h_2 => cases h
    rename_i cs l hl
    cases h
    obtain ⟨vs, rfl, h1, h2⟩ := rep_agg hr
    rw [flats_to (f := flat1) (fs := flat1s) rfl (fun _ _ => rfl) (fun _ _ _ h k => flat1_to h k) hl ⟨h1, h2⟩]
  · exact flat1_to h hr
theorem flat2_of {w : World} {S : Nat → Prop} {p : PV} {u : Value} (h : flat2 p = some u) : SRep w S p u := by
  unfold flat2 at h
  split at h
  · split at h
    case h_2 => cases h
    rename_i cs l hl
    cases h
    obtain ⟨h1, h2⟩ := flats_of (w := w) (S := S) (f := flat1) (fs := flat1s) rfl (fun _ _ => rfl) (fun _ _ h => flat1_of h) hl
    exact .agg (by simpa using h1) fun i hi => by rw [arr_getD]; exact h2 i hi
  · exact flat1_of h
theorem flat3_of {w : World} {S : Nat → Prop} {p : PV} {u : Value} (h : flat3 p = some u) : SRep w S p u := by
  unfold flat3 at h
  split at h
  · split at h
    case h_2 => cases h
    rename_i cs l hl
    cases h
    obtain ⟨h1, h2⟩ := flats_of (w := w) (S := S) (f := flat2) (fs := flat2s) rfl (fun _ _ => rfl) (fun _ _ h => flat2_of h) hl
    exact .tup (by simpa using h1) fun i hi => by rw [arr_getD]; exact h2 i hi
  · exact flat2_of h
/-- A contract of the kit's kind: plain values in, plain values out, blocks made at most. -/
theorem pc_flatL {P : Program} {f : FuncId} {args : List PV} {r : PV} {us : List Value} {v : Value} (hf : FnOk P f) (ha : flat2s args = some us) (hr : flat3 r = some v)
    (h : ∀ w, Laid w (fun b => b < w.heap.size) → Calls P f us.toArray w fun e w' => e = .returned v ∧ RowKit.Below w.heap.size w w') : PC P f args [] r [] := by
  refine pc_ofL hf (fun w vs hL hrl => ?_) fun c vs hrl => ?_
  · rw [flats_to (f := flat2) (fs := flat2s) rfl (fun _ _ => rfl) (fun _ _ _ h k => flat2_to h k) ha hrl]
    exact (h w hL).mono fun e w' ⟨he, hb⟩ => ⟨v, he, hb, fun c => .sh (flat3_of hr)⟩
  · rw [flats_to (f := flat2) (fs := flat2s) rfl (fun _ _ => rfl) (fun _ _ _ h k => flat2_to h k) ha hrl]
    obtain ⟨h1, h2⟩ := flats_of (w := c.w) (S := fun b => b < c.w.heap.size) (f := flat2) (fs := flat2s) rfl (fun _ _ => rfl) (fun _ _ h => flat2_of h) ha
    exact ⟨by simpa using h1, fun i hi => by rw [arr_getD]; exact .sh (h2 i hi)⟩
theorem pc_flat {P : Program} {f : FuncId} {args : List PV} {r : PV} {us : List Value} {v : Value} (hf : FnOk P f) (ha : flat2s args = some us) (hr : flat3 r = some v)
    (h : ∀ w, Calls P f us.toArray w fun e w' => e = .returned v ∧ RowKit.Below w.heap.size w w') : PC P f args [] r [] := pc_flatL hf ha hr fun w _ => h w
theorem fn_ok {P : Program} {f : FuncId} {fn : Func} (hf : P.funcs[f]? = some fn) (hb : fn.body.isNone = false) (hn : (fn.name == "runtime.NumGoroutine") = false) : FnOk P f := ⟨fn, hf, hb, hn⟩
theorem flat_app {α : Type} (f : α → List PV) (l m : List α) : (l ++ m).flatMap f = l.flatMap f ++ m.flatMap f := List.flatMap_append
def rkey (σ : Nat → Nat) (k : Nat) : Nat := match Nat.beq (k % 2) 1 with | true => kb (σ (k / 2)) | false => k
def rval (σ : Nat → Nat) : Option Val → Option Val
  | some (.pv p) => some (.pv (ren σ p))
  | some (.blk T cs) => some (.blk T (renL σ cs))
  | none => none
def shapeB (n1 : Nat) (l : L) : Bool := l.all fun x => match x.2 with | some (.blk _ _) => Nat.beq (x.1 % 2) 1 && Nat.blt (x.1 / 2) n1 | some (.pv _) => Nat.beq (x.1 % 2) 0 | none => true
theorem reSt_of {σ : Nat → Nat} {n1 : Nat} {g : St} : ∀ {l : L}, l.map (fun x => g (rkey σ x.1)) = l.map (fun x => rval σ x.2) → shapeB n1 l = true → ∀ p ∈ reSt σ n1 l g, p
  | [], _, _, p, hp => by cases hp
  | x :: l, h, hb, p, hp => by
    simp only [List.map_cons, List.cons.injEq] at h
    simp only [shapeB, List.all_cons, Bool.and_eq_true] at hb
    simp only [reSt, List.map_cons, List.mem_cons] at hp
    rcases hp with rfl | hp
    · obtain ⟨k, v⟩ := x
      cases v with
      | none => trivial
      | some v =>
        cases v with
        | pv p =>
          have h0 : k % 2 = 0 := Nat.eq_of_beq_eq_true hb.1
          have h1 := h.1
          simp only [rkey, rval, h0] at h1
          exact h1
        | blk T cs =>
          have hb1 := hb.1
          simp only [Bool.and_eq_true, Nat.blt_eq] at hb1
          have h0 : k % 2 = 1 := Nat.eq_of_beq_eq_true hb1.1
          have h1 := h.1
          simp only [rkey, rval, h0, Nat.beq_refl] at h1
          exact ⟨h0, hb1.2, h1⟩
    · exact reSt_of h.2 hb.2 p hp
theorem Wk.ren2 {P : Program} {n : Nat} {c0 : Cx} {Bor : Nat → Prop} {n0 : Nat} {l : L} (l' : L) (m : Nat) (hc0 : ∀ i x, c0.own i = some x → i < m) (σl : List Nat) (hσ : σl.take m = List.range m) (hnd : nodupB σl = true) (hb : shapeB σl.length l' = true)
    (h : l'.map (fun x => get l (rkey (sgm n0 σl) x.1)) = l'.map (fun x => rval (sgm n0 σl) x.2)) : Wk P n c0 Bor n0 l σl.length l' := Wk.ren m hc0 σl hσ hnd (reSt_of h hb)
theorem flat_at1 {α : Type} (f : α → List PV) (hf : ∀ x, (f x).length = 1) (d : α) (l : List α) (k : Nat) (h : k < l.length) : k + 1 ≤ (l.flatMap f).length ∧ ((l.flatMap f).drop k).take 1 = f (l.getD k d) := by
  have := flat_at f 1 hf d l k 0 1 h (by omega)
  simp only [Nat.mul_one, Nat.add_zero, List.drop_zero] at this
  refine ⟨this.1, this.2.trans ?_⟩
  rw [← hf (l.getD k d), List.take_length]
theorem ints_shd (l : List Int) : shds (ints l) := fun p hp => by
  obtain ⟨x, _, hx⟩ := List.mem_flatMap.1 hp
  simp only [List.mem_singleton] at hx
  subst hx
  rfl
theorem zeros_ints : ∀ n, zeros [iv 0] n = ints (List.replicate n 0)
  | 0 => rfl
  | n + 1 => by rw [zeros, zeros_ints n, List.replicate_succ]; rfl
theorem ints_splice {l : List Int} {k : Nat} {v : Int} (h : k < l.length) : k + 1 ≤ (ints l).length ∧ splice (ints l) k [iv v] = ints (l.set k v) := by
  refine ⟨by rw [ints_len]; omega, ?_⟩
  unfold splice
  have e : ∀ (l : List Int), ints l = l.map iv := fun l => by
    unfold ints
    induction l with
    | nil => rfl
    | cons a l ih => rw [List.flatMap_cons, ih]; rfl
  rw [e, e, List.set_eq_take_append_cons_drop, if_pos h, List.map_append, List.map_cons, List.map_take, List.map_drop]
  simp
/-- Trailing dead numbers, dropped. -/
theorem pc_trim {P : Program} {f : FuncId} {args : List PV} {r : PV} {v : Value} (H' : Hp) (hr : flat3 r = some v) (_hd : ∀ i, H'.getD i none = none) (h : PC P f args [] r H') : PC P f args [] r [] := by
  obtain ⟨h1, _, h2⟩ := h
  refine ⟨h1, Nat.le_refl _, fun c vs hh hrl => (h2 c vs hh hrl).mono ?_⟩
  rintro e w' ⟨u, c', rfl, rfl, h3, h4⟩
  have hno : ∀ (H : Hp), (∀ i, H.getD i none = none) → ∀ i, ¬ Live (hSt H) i := fun H hH i ⟨T, cs, hx⟩ => by rw [hSt_b, hH] at hx; cases hx
  have hno0 := hno [] (fun i => by simp)
  have hown : ∀ i x, c.own i = some x → False := fun i x hx => by have : i < 0 := hh.ids i x hx; omega
  have hk := h3.keep
  refine ⟨u, ⟨c'.w, c'.S, fun _ => none⟩, rfl, rfl, { ids := fun i x hx => (by cases hx), blk := fun i T cs hx => absurd ⟨T, cs, hx⟩ (hno0 i), inj := fun i j b T T' l1 => absurd l1 (hno0 i), apart := fun i b T l1 => absurd l1 (hno0 i), bnd := fun i b T hx => (by cases hx), sok := h3.sok, os := h3.os, tape := h3.tape, output := h3.output, size := h3.size, same := h3.same, laid := h3.laid, s0 := h3.s0, s1 := h3.s1, keep := ⟨hk.S, fun i x hx => (hown i x hx).elim, hk.shape⟩ }, ?_⟩
  have e : u = v := by
    unfold flat3 at hr
    split at hr
    · split at hr
      case h_2 => cases hr
      rename_i cs l hl
      cases hr
      obtain ⟨vs2, rfl, q1, q2⟩ := rep_tup h4
      rw [flats_to (f := flat2) (fs := flat2s) rfl (fun _ _ => rfl) (fun _ _ _ h k => flat2_to h k) hl ⟨q1, q2⟩]
    · exact flat2_to hr h4
  rw [e]
  exact .sh (flat3_of hr)
end Go.Proofs.YtlngkiipgkociaaGreatDoor.Pm
namespace Go.Proofs.YtlngkiipgkociaaGreatDoor.Pm
open Go

abbrev rowC (l : List Int) : List PV := [.ssl (ints l) 0 l.length]
abbrev rows (T : List (List Int)) : List PV := T.flatMap rowC
theorem ren_shd {σ : Nat → Nat} {p : PV} (h : p.shd = true) : ren σ p = p := by
  cases p <;> first | rfl | cases h
theorem renL_shd {σ : Nat → Nat} : ∀ {cs : List PV}, shds cs → renL σ cs = cs
  | [], _ => rfl
  | p :: l, h => by
    rw [renL, ren_shd (h p (by simp)), renL_shd (fun q hq => h q (by simp [hq]))]
theorem flat_shd {α : Type} (f : α → List PV) (hf : ∀ x, (f x).all PV.shd = true) (l : List α) : shds (l.flatMap f) := fun p hp => by
  obtain ⟨x, _, hx⟩ := List.mem_flatMap.1 hp
  exact List.all_eq_true.1 (hf x) p hx
theorem flat_splice {α : Type} (f : α → List PV) (s : Nat) (hf : ∀ x, (f x).length = s) {l : List α} {k : Nat} {v : α} (h : k < l.length) : k * s + s ≤ (l.flatMap f).length ∧ splice (l.flatMap f) (k * s) (f v) = (l.set k v).flatMap f := by
  have hl : ∀ l : List α, (l.flatMap f).length = l.length * s := flat_len f s hf
  have h1 : k * s + s ≤ l.length * s := by
    have := Nat.mul_le_mul_right s (show k + 1 ≤ l.length from h)
    rw [Nat.add_mul, Nat.one_mul] at this
    exact this
  refine ⟨by rw [hl]; exact h1, ?_⟩
  have he : l.flatMap f = (l.take k).flatMap f ++ (f (l[k]) ++ (l.drop (k + 1)).flatMap f) := by
    rw [← List.flatMap_cons, ← flat_app, ← List.drop_eq_getElem_cons h, List.take_append_drop]
  have hk : ((l.take k).flatMap f).length = k * s := by rw [hl, List.length_take, Nat.min_eq_left (by omega)]
  rw [List.set_eq_take_append_cons_drop, if_pos h, flat_app, List.flatMap_cons, he]
  unfold splice
  rw [List.take_append_of_le_length (by omega), List.take_of_length_le (by omega), hf, List.drop_append, List.drop_of_length_le (by omega), hk, List.nil_append, Nat.add_sub_cancel_left, List.drop_append, List.drop_of_length_le (by rw [hf]; exact Nat.le_refl _), hf, Nat.sub_self, List.nil_append, List.drop_zero, List.append_assoc]
theorem flat_splice1 {α : Type} (f : α → List PV) (hf : ∀ x, (f x).length = 1) {l : List α} {k : Nat} {v : α} (h : k < l.length) : k + 1 ≤ (l.flatMap f).length ∧ splice (l.flatMap f) k (f v) = (l.set k v).flatMap f := by
  have := flat_splice f 1 hf (v := v) h
  rw [Nat.mul_one] at this
  exact this
def lf (k : Nat) : List (Nat × List PV) → Option (List PV)
  | [] => none
  | x :: F => match Nat.beq k x.1 with | true => some x.2 | false => lf k F
def fixF (F : List (Nat × List PV)) (x : Nat × Option Val) : Option Val := match x.2 with
  | some (.blk T cs) => match lf x.1 F with | some ds => some (.blk T ds) | none => some (.blk T cs)
  | some (.pv p) => some (.pv p)
  | none => none
def rvalF (σ : Nat → Nat) (F : List (Nat × List PV)) (x : Nat × Option Val) : Option Val := match x.2 with
  | some (.blk T cs) => match lf x.1 F with | some ds => some (.blk T ds) | none => some (.blk T (renL σ cs))
  | some (.pv p) => some (.pv (ren σ p))
  | none => none
theorem lf_shd {k : Nat} {cs : List PV} : ∀ {F : List (Nat × List PV)}, (∀ q ∈ F.map (fun x => shds x.2), q) → lf k F = some cs → shds cs
  | [], _, h => by cases h
  | x :: F, hF, h => by
    simp only [lf] at h
    split at h
    · cases h
      exact hF _ (by simp)
    · exact lf_shd (F := F) (fun q hq => hF q (by simp only [List.map_cons, List.mem_cons]; exact .inr hq)) h
theorem Wk.ren3 {P : Program} {n : Nat} {c0 : Cx} {Bor : Nat → Prop} {n0 : Nat} {l : L} (l' : L) (m : Nat) (hc0 : ∀ i x, c0.own i = some x → i < m) (σl : List Nat) (F : List (Nat × List PV)) (hF : ∀ q ∈ F.map (fun x => shds x.2), q) (hx : l'.map (fixF F) = l'.map (fun x => x.2)) (hσ : σl.take m = List.range m) (hnd : nodupB σl = true) (hb : shapeB σl.length l' = true)
    (h : l'.map (fun x => get l (rkey (sgm n0 σl) x.1)) = l'.map (rvalF (sgm n0 σl) F)) : Wk P n c0 Bor n0 l σl.length l' :=
  Wk.ren2 l' m hc0 σl hσ hnd hb (h.trans (List.map_congr_left fun x hxl => by
    have h1 := List.map_inj_left.1 hx x hxl
    obtain ⟨k, v⟩ := x
    cases v with
    | none => rfl
    | some v =>
      cases v with
      | pv p => rfl
      | blk T cs =>
        simp only [fixF, rvalF, rval] at h1 ⊢
        cases hl : lf k F with
        | none => rfl
        | some ds =>
          rw [hl] at h1
          simp only [Option.some.injEq, Val.blk.injEq] at h1
          simp only [Option.some.injEq, Val.blk.injEq, true_and]
          rw [← h1.2, renL_shd (lf_shd hF hl)]))
theorem frz_shd {id : Nat} {cs : List PV} {p : PV} (h : p.shd = true) : frz id cs p = p := by
  cases p <;> first | rfl | cases h
theorem frzL_shd {id : Nat} {cs : List PV} : ∀ {ds : List PV}, shds ds → frzL id cs ds = ds
  | [], _ => rfl
  | p :: l, h => by
    rw [frzL, frz_shd (h p (by simp)), frzL_shd (fun q hq => h q (by simp [hq]))]
def frzF (id : Nat) (cs : List PV) (F : List (Nat × List PV)) : L → L
  | [] => []
  | (k, x) :: l => (k, match x with
    | some (.pv p) => some (.pv (frz id cs p))
    | some (.blk T ds) => match Nat.beq k (kb id) with | true => none | false => match lf k F with | some es => some (.blk T es) | none => some (.blk T (frzL id cs ds))
    | none => none) :: frzF id cs F l
theorem frzF_eq {id : Nat} {cs : List PV} {F : List (Nat × List PV)} (hF : ∀ q ∈ F.map (fun x => shds x.2), q) : ∀ {l : L}, l.map (fixF F) = l.map (fun x => x.2) → frzS id cs l = frzF id cs F l
  | [], _ => rfl
  | (k, x) :: l, h => by
    simp only [List.map_cons, List.cons.injEq] at h
    simp only [frzS, frzF, List.cons.injEq, Prod.mk.injEq, true_and]
    refine ⟨?_, frzF_eq hF h.2⟩
    cases x with
    | none => rfl
    | some v =>
      cases v with
      | pv p => rfl
      | blk T ds =>
        have h1 := h.1
        simp only [fixF] at h1 ⊢
        cases hl : lf k F with
        | none => rfl
        | some es =>
          rw [hl] at h1
          simp only [Option.some.injEq, Val.blk.injEq, true_and] at h1
          have hs := lf_shd hF hl
          subst h1
          cases Nat.beq k (kb id) <;> simp [frzL_shd hs]
theorem Wk.frz2 {P : Program} {n : Nat} {c0 : Cx} {Bor : Nat → Prop} {n0 : Nat} {l l' : L} (id : Nat) {T : TypeId} {cs : List PV} (F : List (Nat × List PV)) (hF : ∀ q ∈ F.map (fun x => shds x.2), q) (hx : l.map (fixF F) = l.map (fun x => x.2)) (hg : get l (kb id) = some (.blk T cs)) (hs : shds cs) (he : frzF id cs F l = l') : Wk P n c0 Bor n0 l n0 l' :=
  Wk.frz id hg hs ((frzF_eq hF hx).trans he)
/-- What a slot holds, told otherwise. -/
theorem Wk.slot {P : Program} {n : Nat} {c0 : Cx} {Bor : Nat → Prop} {n0 : Nat} {l : L} (s : Nat) (p q : PV) (hs : get l (Pm.ks s) = some (.pv p)) (hpq : ∀ c v, Rep P c p v → Rep P c q v) : Wk P n c0 Bor n0 l n0 ([(ks s, some (.pv q))] ++ l) := fun cx a hI => by
  have hge : ∀ k, get ([(Pm.ks s, some (.pv q))] ++ l) k = if Nat.beq k (Pm.ks s) then some (.pv q) else get l k := fun k => by
    rw [get_append]
    simp only [over, lk]
    by_cases h1 : Nat.beq k (Pm.ks s) = true
    · simp [h1]
    · simp only [h1]; rfl
  have hb : ∀ i, get ([(Pm.ks s, some (.pv q))] ++ l) (kb i) = get l (kb i) := fun i => by
    rw [hge, beq_kbs]; rfl
  have hl : ∀ i, Live (get ([(Pm.ks s, some (.pv q))] ++ l)) i → Live (get l) i := fun i ⟨T', cs, hx⟩ => ⟨T', cs, by rw [← hb]; exact hx⟩
  refine ⟨cx, rfl, { ids := hI.ids, blk := fun i T' cs hx => hI.blk i T' cs (by rw [← hb]; exact hx), inj := fun i j b T T' l1 l2 => hI.inj i j b T T' (hl i l1) (hl j l2), apart := fun i b T l1 => hI.apart i b T (hl i l1), bnd := hI.bnd, sok := hI.sok, os := hI.os, tape := hI.tape, output := hI.output, size := hI.size, same := hI.same, laid := hI.laid, s0 := hI.s0, s1 := hI.s1, keep := hI.keep, tmps := hI.tmps, dfr := hI.dfr, slot := fun s' p' hp => ?_, isv := fun s' x hx => ?_ }⟩
  · rw [hge, beq_ks] at hp
    by_cases e : s' = s
    · subst e
      rw [decide_eq_true rfl, if_pos rfl] at hp
      cases hp
      exact hpq _ _ (hI.slot s' _ hs)
    · rw [decide_eq_false e, if_neg (by simp)] at hp
      exact hI.slot s' p' hp
  · rw [hge, beq_ks] at hx
    by_cases e : s' = s
    · subst e
      rw [decide_eq_true rfl, if_pos rfl] at hx
      cases hx
      exact ⟨_, rfl⟩
    · rw [decide_eq_false e, if_neg (by simp)] at hx
      exact hI.isv s' x hx
/-- A slice of given cells is a slice of the fewer cells. -/
theorem ssl_cut {P : Program} {cs ds : List PV} {off len m : Nat} (h1 : off + m ≤ cs.length) (h2 : (cs.drop off).take m = ds) (c : Cx) (v : Value) (h : Rep P c (.ssl cs off len) v) : Rep P c (.ssl ds 0 len) v := by
  obtain ⟨h6, h7⟩ := getD_seg h1 h2
  rcases rep_ssl h with ⟨a, cap, hv, hn⟩ | ⟨b, a, cap, vf, hv, hS, hc, hr, ho, hl⟩
  · subst hv; subst hn; exact .sh .emp
  · subst hv
    refine .sh (SRep.ssl (a := a + off) (vf := fun j => vf (off + j)) hS (fun j hj => ?_) (fun j hj => ?_) (seg_ones ho h2) hl)
    · rw [Nat.add_assoc]; exact hc _ (by omega)
    · rw [h7 j (by omega)]; exact hr _ (by omega)
theorem T_elsec {P : Program} {n : Nat} {c0 : Cx} {Bor : Nat → Prop} {Q : Post} {n0 : Nat} {l : L} {rs : List Item} {x y : Code} (h : T P n c0 Bor Q n0 l (.code y :: rs)) : T P n c0 Bor Q n0 l (.code (.cond (.const (.bool false)) x y) :: rs) := fun cx a hI => wp_cond_false rfl (h cx a hI)
theorem T_thenc {P : Program} {n : Nat} {c0 : Cx} {Bor : Nat → Prop} {Q : Post} {n0 : Nat} {l : L} {rs : List Item} {x y : Code} (h : T P n c0 Bor Q n0 l (.code x :: rs)) : T P n c0 Bor Q n0 l (.code (.cond (.const (.bool true)) x y) :: rs) := fun cx a hI => wp_cond_true rfl (h cx a hI)
theorem and_bits (k : IntKind) (a b : Int) : IntKind.wrap k ((BitVec.ofInt (IntKind.bits k) a) &&& (BitVec.ofInt (IntKind.bits k) b)).toNat = Go.bits .and k a b := rfl
end Go.Proofs.YtlngkiipgkociaaGreatDoor.Pm
namespace Go.Proofs.YtlngkiipgkociaaGreatDoor.Pm
open Go

def liveK (σl : List Nat) (l : L) : List Nat := l.filterMap fun x => match x.2 with | some (.blk _ _) => some (σl.getD (x.1 / 2) 0) | _ => none
theorem liveK_mem {l : L} {k : Nat} {T : TypeId} {cs : List PV} (h : get l k = some (.blk T cs)) : ∃ i, ∃ h : i < l.length, (l[i]).1 = k ∧ ∃ T cs, (l[i]).2 = some (.blk T cs) := by
  induction l with
  | nil => simp [get, lk] at h
  | cons x l ih =>
    simp only [get, lk] at h ih
    by_cases e : Nat.beq k x.1 = true
    · rw [if_pos e] at h
      exact ⟨0, by simp, (Nat.eq_of_beq_eq_true e).symm, T, cs, by simpa using h⟩
    · rw [if_neg e] at h
      obtain ⟨i, hi, h1, h2⟩ := ih h
      exact ⟨i + 1, by simp; omega, h1, h2⟩
theorem liveK_inj {σl : List Nat} : ∀ {l : L}, nodupB (liveK σl l) = true → ∀ i j (hi : i < l.length) (hj : j < l.length), (∃ T cs, (l[i]).2 = some (.blk T cs)) → (∃ T cs, (l[j]).2 = some (.blk T cs)) → σl.getD ((l[i]).1 / 2) 0 = σl.getD ((l[j]).1 / 2) 0 → i = j
  | [], _, i, _, hi, _, _, _, _ => absurd hi (Nat.not_lt_zero _)
  | x :: l, h, i, j, hi, hj, ⟨T1, c1, h1⟩, ⟨T2, c2, h2⟩, he => by
    have mem : ∀ q (hq : q < l.length), (∃ T cs, (l[q]).2 = some (.blk T cs)) → σl.getD ((l[q]).1 / 2) 0 ∈ liveK σl l := fun q hq ⟨T, cs, hh⟩ =>
      List.mem_filterMap.2 ⟨l[q], List.getElem_mem hq, by rw [hh]⟩
    cases i with
    | zero =>
      cases j with
      | zero => rfl
      | succ j =>
        exfalso
        simp only [List.getElem_cons_zero, List.getElem_cons_succ] at h1 h2 he
        have hm := mem j (by simpa using hj) ⟨T2, c2, h2⟩
        simp only [liveK, List.filterMap_cons, h1] at h
        rw [← he] at hm
        simp only [nodupB, Bool.and_eq_true] at h
        have := List.all_eq_true.1 h.1 _ hm
        rw [Nat.beq_refl] at this
        cases this
    | succ i =>
      have hl : nodupB (liveK σl l) = true := by
        simp only [liveK, List.filterMap_cons] at h
        split at h
        · exact h
        · simp only [nodupB, Bool.and_eq_true] at h
          exact h.2
      cases j with
      | zero =>
        exfalso
        simp only [List.getElem_cons_zero, List.getElem_cons_succ] at h1 h2 he
        have hm := mem i (by simpa using hi) ⟨T1, c1, h1⟩
        simp only [liveK, List.filterMap_cons, h2] at h
        rw [he] at hm
        simp only [nodupB, Bool.and_eq_true] at h
        have := List.all_eq_true.1 h.1 _ hm
        rw [Nat.beq_refl] at this
        cases this
      | succ j =>
        have := liveK_inj hl i j (by simpa using hi) (by simpa using hj) ⟨T1, c1, h1⟩ ⟨T2, c2, h2⟩ he
        omega
section
variable {P : Program} {n : Nat} {c0 : Cx} {Bor : Nat → Prop} {n0 : Nat} {l : L}
/-- As Wk.ren; only numbers that live must be apart. -/
theorem Wk.renD {l' : L} (m : Nat) (hc0 : ∀ i x, c0.own i = some x → i < m) (σl : List Nat) (hσ : σl.take m = List.range m) (hnd : nodupB (liveK σl l') = true) (h : ∀ p ∈ reSt (sgm n0 σl) σl.length l' (get l), p) : Wk P n c0 Bor n0 l σl.length l' := fun cx a hI => by
  have hsp := reSt_spec h
  have hs1 : ∀ i, i < σl.length → sgm n0 σl i = σl.getD i 0 := fun i hi => by
    unfold sgm
    rw [show Nat.blt i σl.length = true from by simpa [Nat.blt_eq] using hi]
  have hs2 : ∀ i, σl.length ≤ i → cx.own (sgm n0 σl i) = none := fun i hi => by
    unfold sgm
    rw [show Nat.blt i σl.length = false from by rw [Bool.eq_false_iff, Ne, Nat.blt_eq]; omega]
    cases ho : cx.own (n0 + i) with
    | none => rfl
    | some x => have : n0 + i < n0 := hI.ids _ x ho; omega
  have hlv : ∀ i, Live (get l') i → i < σl.length ∧ Live (get l) (sgm n0 σl i) := fun i ⟨T, cs, hx⟩ => by
    have h1 := hsp _ _ hx
    simp only at h1
    rw [show kb i / 2 = i by simp only [kb]; omega] at h1
    exact ⟨h1.2.1, T, _, h1.2.2⟩
  refine ⟨cx.via (sgm n0 σl), rfl, { ids := fun i x hx => ?_, blk := fun i T cs hx => ?_, inj := fun i j b T T' l1 l2 h3 h4 => ?_, apart := fun i b T l1 h2 => hI.apart _ b T (hlv i l1).2 h2, bnd := fun i b T h1 => hI.bnd _ b T h1, sok := hI.sok, os := hI.os, tape := hI.tape, output := hI.output, size := hI.size, same := hI.same, laid := hI.laid, s0 := hI.s0, s1 := hI.s1, keep := ⟨hI.keep.S, fun i x hx => ?_, hI.keep.shape⟩, tmps := hI.tmps, dfr := hI.dfr, slot := fun s p hp => ?_, isv := fun s x hx => ?_ }⟩
  · show i < σl.length
    rcases Nat.lt_or_ge i σl.length with h1 | h1
    · exact h1
    · have : cx.own (sgm n0 σl i) = some x := hx
      rw [hs2 i h1] at this
      cases this
  · have h1 := hsp _ _ hx
    simp only at h1
    rw [show kb i / 2 = i by simp only [kb]; omega] at h1
    obtain ⟨ob, h5, h6, h7⟩ := hI.blk _ _ _ h1.2.2
    refine ⟨ob, h5, ones_renL.1 h6, ?_⟩
    rcases h7 with ⟨h7, h8⟩ | ⟨b, arr, h7, h8, h9, h10⟩
    · exact .inl ⟨h7, renL_nil h8⟩
    · rw [renL_length] at h9 h10
      exact .inr ⟨b, arr, h7, h8, h9, fun j hj => rep_via (h10 j hj) _ (renL_get _ _ j hj)⟩
  · obtain ⟨e1, l1'⟩ := hlv i l1
    obtain ⟨e2, l2'⟩ := hlv j l2
    have h5 := hI.inj _ _ b T T' l1' l2' h3 h4
    rw [hs1 i e1, hs1 j e2] at h5
    obtain ⟨_, _, hx1⟩ := l1
    obtain ⟨_, _, hx2⟩ := l2
    obtain ⟨p, hp, h6, h7⟩ := liveK_mem hx1
    obtain ⟨q, hq, h8, h9⟩ := liveK_mem hx2
    have h10 := liveK_inj hnd p q hp hq h7 h9 (by rw [h6, h8, show kb i / 2 = i by simp only [kb]; omega, show kb j / 2 = j by simp only [kb]; omega]; exact h5)
    subst h10
    rw [h6] at h8
    simp only [kb] at h8
    omega
  · have h1 := hc0 i x hx
    have h2 : i < σl.length := by
      have := congrArg List.length hσ
      simp at this
      omega
    have h3 : σl.getD i 0 = i := by
      have h4 := List.getElem?_take_of_lt (l := σl) h1
      rw [hσ] at h4
      rw [List.getD_eq_getElem?_getD, ← h4]
      simp [h1]
    show cx.own (sgm n0 σl i) = some x
    rw [hs1 i h2, h3]
    exact hI.keep.own i x hx
  · have h1 := hsp _ _ hp
    exact rep_via (hI.slot s _ h1) _ rfl
  · cases x with
    | pv p => exact ⟨p, rfl⟩
    | blk T cs =>
      have h1 := hsp _ _ hx
      simp only [Pm.ks] at h1
      omega
theorem Wk.ren2D (l' : L) (m : Nat) (hc0 : ∀ i x, c0.own i = some x → i < m) (σl : List Nat) (hσ : σl.take m = List.range m) (hnd : nodupB (liveK σl l') = true) (hb : shapeB σl.length l' = true)
    (h : l'.map (fun x => get l (rkey (sgm n0 σl) x.1)) = l'.map (fun x => rval (sgm n0 σl) x.2)) : Wk P n c0 Bor n0 l σl.length l' := Wk.renD m hc0 σl hσ hnd (reSt_of h hb)
theorem Wk.ren3D (l' : L) (m : Nat) (hc0 : ∀ i x, c0.own i = some x → i < m) (σl : List Nat) (F : List (Nat × List PV)) (hF : ∀ q ∈ F.map (fun x => shds x.2), q) (hx : l'.map (fixF F) = l'.map (fun x => x.2)) (hσ : σl.take m = List.range m) (hnd : nodupB (liveK σl l') = true) (hb : shapeB σl.length l' = true)
    (h : l'.map (fun x => get l (rkey (sgm n0 σl) x.1)) = l'.map (rvalF (sgm n0 σl) F)) : Wk P n c0 Bor n0 l σl.length l' :=
  Wk.ren2D l' m hc0 σl hσ hnd hb (h.trans (List.map_congr_left fun x hxl => by
    have h1 := List.map_inj_left.1 hx x hxl
    obtain ⟨k, v⟩ := x
    cases v with
    | none => rfl
    | some v =>
      cases v with
      | pv p => rfl
      | blk T cs =>
        simp only [fixF, rvalF, rval] at h1 ⊢
        cases hl : lf k F with
        | none => rfl
        | some ds =>
          rw [hl] at h1
          simp only [Option.some.injEq, Val.blk.injEq] at h1
          simp only [Option.some.injEq, Val.blk.injEq, true_and]
          rw [← h1.2, renL_shd (lf_shd hF hl)]))
/-- A cell that holds nil: an own row that has not been made. -/
theorem Wk.nilc (id j : Nat) (T : TypeId) {B : TypeId} {cells : List PV} (hs : get l (kb id) = some (.blk B cells)) (hj : cells[j]? = some (.av (.slice none 0 0))) : Wk P n c0 Bor n0 l (n0 + 1) ([(kb id, some (.blk B (cells.set j (.osl n0 0 0)))), (kb n0, some (.blk T []))] ++ l) := fun cx a hI => by
  obtain ⟨hk, hh⟩ := heap_virtual hI.toHeap (id := n0) (fun h => absurd h (Nat.lt_irrefl _)) T
  obtain ⟨ob0, ho0, _⟩ := hI.blk id B cells hs
  have hid : id < n0 := hI.ids id _ ho0
  have hg : over [(kb n0, some (.blk T []))] (get l) (kb id) = some (.blk B cells) := by rw [over_b, if_neg (by omega)]; exact hs
  refine ⟨⟨cx.w, cx.S, setOwn cx.own n0 (none, T)⟩, rfl, ?_⟩
  have hge : ∀ k, get ([(kb id, some (.blk B (cells.set j (.osl n0 0 0)))), (kb n0, some (.blk T []))] ++ l) k = if Nat.beq k (kb id) then some (.blk B (cells.set j (.osl n0 0 0))) else over [(kb n0, some (.blk T []))] (get l) k := fun k => by
    rw [get_append]
    simp only [over, lk]
    by_cases h1 : Nat.beq k (kb id) = true
    · simp [h1]
    · simp only [h1]; rfl
  have hb : ∀ i, get ([(kb id, some (.blk B (cells.set j (.osl n0 0 0)))), (kb n0, some (.blk T []))] ++ l) (kb i) = if i = id then some (.blk B (cells.set j (.osl n0 0 0))) else over [(kb n0, some (.blk T []))] (get l) (kb i) := fun i => by
    rw [hge, beq_kb]; by_cases e : i = id <;> simp [e]
  have hsl : ∀ s, get ([(kb id, some (.blk B (cells.set j (.osl n0 0 0)))), (kb n0, some (.blk T []))] ++ l) (Pm.ks s) = get l (Pm.ks s) := fun s => by
    rw [hge, beq_ksb, if_neg (by simp), over_s]
  have hl : ∀ i, Live (get ([(kb id, some (.blk B (cells.set j (.osl n0 0 0)))), (kb n0, some (.blk T []))] ++ l)) i → Live (over [(kb n0, some (.blk T []))] (get l)) i := fun i ⟨T', cs, hx⟩ => by
    rw [hb] at hx
    by_cases e : i = id
    · subst e; exact ⟨B, cells, hg⟩
    · rw [if_neg e] at hx; exact ⟨T', cs, hx⟩
  exact { ids := fun i x hx => by
            rcases hh.ids i x hx with h | h
            · exact Nat.lt_succ_of_lt h
            · subst h; exact Nat.lt_succ_self _
          blk := fun i T' cs hx => by
            rw [hb] at hx
            by_cases e : i = id
            · subst e
              rw [if_pos rfl] at hx
              cases hx
              obtain ⟨ob, h1, h2, h3⟩ := hh.blk i B cells hg
              refine ⟨ob, h1, fun p hp => ?_, ?_⟩
              · rcases List.mem_or_eq_of_mem_set hp with h | h
                · exact h2 p h
                · rw [h]; rfl
              · rcases h3 with ⟨_, h4⟩ | ⟨b, arr, h4, h5, h6, h7⟩
                · rw [h4] at hj; simp at hj
                · refine .inr ⟨b, arr, h4, h5, by rw [List.length_set]; exact h6, fun q hq => ?_⟩
                  rw [List.length_set] at hq
                  by_cases e : q = j
                  · subst e
                    have h8 := h7 q hq
                    have e2 : cells.getD q P0 = .av (.slice none 0 0) := by rw [List.getD_eq_getElem?_getD, hj]; rfl
                    rw [e2] at h8
                    rw [show (cells.set q (.osl n0 0 0)).getD q P0 = .osl n0 0 0 from by rw [List.getD_eq_getElem?_getD, List.getElem?_set_self hq]; rfl, rep_av h8]
                    exact .osl setOwn_same (.inl ⟨_, rfl, rfl⟩)
                  · rw [show (cells.set j (.osl n0 0 0)).getD q P0 = cells.getD q P0 from by rw [List.getD_eq_getElem?_getD, List.getD_eq_getElem?_getD, List.getElem?_set_ne (Ne.symm e)]]
                    exact h7 q hq
            · rw [if_neg e] at hx
              exact hh.blk i T' cs hx
          inj := fun i j b T T' l1 l2 => hh.inj i j b T T' (hl i l1) (hl j l2), apart := fun i b T l1 => hh.apart i b T (hl i l1), bnd := hh.bnd, sok := hh.sok,
          os := hh.os, tape := hh.tape, output := hh.output, size := hh.size, same := hh.same, laid := hh.laid, s0 := hh.s0, s1 := hh.s1, keep := hh.keep, tmps := hI.tmps, dfr := hI.dfr
          slot := fun s' p hp => by
            rw [hsl] at hp
            exact (hI.slot s' p hp).mono hk
          isv := fun s' x hx => by
            rw [hsl] at hx
            exact hI.isv s' x hx }
end
end Go.Proofs.YtlngkiipgkociaaGreatDoor.Pm
namespace Go.Proofs.YtlngkiipgkociaaGreatDoor.Pm
open Go

def apartK (ws : Nat → List Nat) (rd : Nat → List Nat) (bf : List (List Nat)) (n : Nat) : Bool :=
  (List.range n).all fun j => (List.range j).all fun i => (bf.getD j []).contains i ||
    (((ws i).all fun k => !(ws j).contains k && !(rd j).contains k) && (ws j).all fun k => !(rd i).contains k)
theorem hits_mem {l : L} {k : Nat} : hits l k = true → k ∈ l.map (·.1) := fun h => by
  obtain ⟨x, hx, rfl⟩ := mem_of_hits h
  exact List.mem_map.2 ⟨x, hx, rfl⟩
theorem apart_of {W : Nat → L} {rd : Nat → List Nat} {ws rs : Nat → List Nat} {bf : List (List Nat)} {n : Nat} (hw : ∀ i, i < n → ∀ x ∈ W i, x.1 ∈ ws i) (hr : ∀ i, i < n → ∀ k ∈ rd i, k ∈ rs i) (h : apartK ws rs bf n = true) : apartB W rd bf n = true := by
  simp only [apartK, apartB, List.all_eq_true, List.mem_range, Bool.or_eq_true, Bool.and_eq_true, Bool.not_eq_true'] at h ⊢
  intro j hj i hi
  rcases h j hj i hi with h1 | ⟨h1, h2⟩
  · exact .inl h1
  · refine .inr ⟨fun x hx => ?_, fun x hx => ?_⟩
    · obtain ⟨h3, h4⟩ := h1 x.1 (hw i (by omega) x hx)
      refine ⟨?_, ?_⟩
      · cases hh : hits (W j) x.1 with
        | false => rfl
        | true =>
          obtain ⟨y, hy, e⟩ := List.mem_map.1 (hits_mem hh)
          have := hw j hj y hy
          rw [e] at this
          rw [List.contains_iff_mem.2 this] at h3
          cases h3
      · cases hh : (rd j).contains x.1 with
        | false => rfl
        | true =>
          have := hr j hj x.1 (List.contains_iff_mem.1 hh)
          rw [List.contains_iff_mem.2 this] at h4
          cases h4
    · have h3 := h2 x.1 (hw j hj x hx)
      cases hh : (rd i).contains x.1 with
      | false => rfl
      | true =>
        have := hr i (by omega) x.1 (List.contains_iff_mem.1 hh)
        rw [List.contains_iff_mem.2 this] at h3
        cases h3
def subK (l m : List Nat) : Bool := l.all fun k => m.contains k
def keysB : List Oper → List Out → List (List Nat × List Nat) → Bool
  | [], [], [] => true
  | o :: os, x :: xs, k :: ks => match subK ((wr o.dst x).map (·.1)) k.1, subK x.reads k.2 with
    | true, true => keysB os xs ks
    | _, _ => false
  | _, _, _ => false
theorem keysB_spec : ∀ {os : List Oper} {xs : List Out} {ks : List (List Nat × List Nat)}, keysB os xs ks = true → ∀ i o x, os[i]? = some o → xs[i]? = some x →
    (∀ y ∈ wr o.dst x, y.1 ∈ (ks.getD i ([], [])).1) ∧ ∀ k ∈ x.reads, k ∈ (ks.getD i ([], [])).2
  | o :: os, x :: xs, k :: ks, h, 0, o', x', ho, hx => by
    simp only [keysB] at h
    split at h
    · rename_i h1 h2
      simp only [List.getElem?_cons_zero, Option.some.injEq] at ho hx
      subst ho; subst hx
      refine ⟨fun y hy => ?_, fun q hq => ?_⟩
      · exact List.contains_iff_mem.1 (List.all_eq_true.1 h1 y.1 (List.mem_map.2 ⟨y, hy, rfl⟩))
      · exact List.contains_iff_mem.1 (List.all_eq_true.1 h2 q hq)
    · cases h
  | o :: os, x :: xs, k :: ks, h, i + 1, o', x', ho, hx => by
    simp only [keysB] at h
    split at h
    · exact keysB_spec h i o' x' (by simpa using ho) (by simpa using hx)
    · cases h
  | [], _, _, _, i, _, _, ho, _ => by simp at ho
  | _ :: _, [], _, _, i, _, _, _, hx => by simp at hx
def evrK (P : Program) (n : Nat) (ops : List Oper) (n0 : Nat) (ans : List (Nat × Ans)) (ks : List (List Nat × List Nat)) (live : List Nat) (l : L) : Option (L × List Prop) :=
  match evs P n ops n0 ans ops 0 l with
  | some (l', obs, outs) => match keysB ops outs ks with
    | true => some (live.map fun k => (k, get l' k), obs)
    | false => none
  | none => none
def drawB (ops : List Oper) (bf : List (List Nat)) (ks : List (List Nat × List Nat)) : Bool := befB ops bf && apartK (fun i => (ks.getD i ([], [])).1) (fun i => (ks.getD i ([], [])).2) bf ops.length
theorem evs_len {P : Program} {n : Nat} {ops : List Oper} {n0 : Nat} {ans : List (Nat × Ans)} : ∀ {r : List Oper} {i : Nat} {l l' : L} {obs : List Prop} {outs : List Out}, evs P n ops n0 ans r i l = some (l', obs, outs) → outs.length = r.length
  | [], i, l, l', obs, outs, h => by
    simp only [evs, Option.some.injEq, Prod.mk.injEq] at h
    obtain ⟨_, _, rfl⟩ := h
    rfl
  | o :: r, i, l, l', obs, outs, h => by
    simp only [evs] at h
    split at h
    case h_2 => cases h
    split at h
    case h_2 => cases h
    rename_i l1 obs1 outs1 he
    simp only [Option.some.injEq, Prod.mk.injEq] at h
    obtain ⟨_, _, rfl⟩ := h
    simp [evs_len he]
theorem regionK_ok {E : Env} {n0 : Nat} {l l' : L} {id : Nat} {ops : Array Oper} {ans : List (Nat × Ans)} {bf : List (List Nat)} {ks : List (List Nat × List Nat)} {live : List Nat} {obs : List Prop} (hm : E.P.follows .mixedOrders = true) (h : evrK E.P E.n ops.toList n0 ans ks live l = some (l', obs)) (hd : drawB ops.toList bf ks = true) (hob : ∀ p ∈ obs, p)
    {Q : Exit → Act → World → Prop} (hQ : ∀ c a, Inv E (· < n0 + 8 * ops.size) c (get l') a → Q .normal a c.w) {c : Cx} {a : Act} (hI : Inv E (· < n0) c (get l) a) : (Code.region id ops true).wp E.P Q a c.w := by
  unfold evrK at h
  split at h
  case h_2 => cases h
  rename_i l1 obs1 outs he
  split at h
  case h_2 => cases h
  rename_i hk
  simp only [Option.some.injEq, Prod.mk.injEq] at h
  obtain ⟨rfl, rfl⟩ := h
  simp only [drawB, Bool.and_eq_true] at hd
  have hl := evs_len he
  have hap : apartB (Wt ops.toList.toArray fun i => outs.getD i out0) (fun i => (outs.getD i out0).reads) bf ops.toList.length = true := by
    refine apart_of (fun i hi x hx => ?_) (fun i hi k hk' => ?_) hd.2
    · have h1 : ops.toList[i]? = some ops.toList[i] := by simp only [List.getElem?_eq_getElem hi]
      have h2 : outs[i]? = some (outs.getD i out0) := by rw [List.getD_eq_getElem?_getD, List.getElem?_eq_getElem (by omega)]; rfl
      refine (keysB_spec hk i _ _ h1 h2).1 x ?_
      have : Wt ops.toList.toArray (fun i => outs.getD i out0) i = wr ops.toList[i].dst (outs.getD i out0) := by
        unfold Wt
        rw [List.getElem?_toArray, h1]
        rfl
      rw [this] at hx
      exact hx
    · have h1 : ops.toList[i]? = some ops.toList[i] := by simp only [List.getElem?_eq_getElem hi]
      have h2 : outs[i]? = some (outs.getD i out0) := by rw [List.getD_eq_getElem?_getD, List.getElem?_eq_getElem (by omega)]; rfl
      exact (keysB_spec hk i _ _ h1 h2).2 k hk'
  obtain ⟨h1, h2, h3⟩ := evs_spec (g0 := get l) (tab := fun i => outs.getD i out0) he (by simp) (fun j _ => by simp) (by
    funext k
    have : ∀ m, fold (get l) (Wt ops.toList.toArray fun i => outs.getD i out0) (fun j => decide (j < 0)) m = get l := fun m => by
      induction m with
      | zero => rfl
      | succ m ih => simp only [fold, Nat.not_lt_zero, decide_false, Bool.false_eq_true, if_false]; exact ih
    rw [this])
  have hops : ops.toList.toArray = ops := by simp
  have hlen : ops.toList.length = ops.size := by simp
  have hstep : ∀ i o, ops.toList[i]? = some o → ∀ g, (∀ k ∈ (outs.getD i out0).reads, g k = fold (get l) (Wt ops.toList.toArray fun i => outs.getD i out0) (fun j => decide (j < i)) ops.toList.length k) → StepOk E ops.toList.toArray i o (outs.getD i out0) (n0 + 8 * i) g := by
    intro i o ho g hg
    obtain ⟨h4, h5, h6⟩ := h3 i o (Nat.zero_le _) ho
    exact gplan_ok ho h6 (run_congr h4 hg) fun p hp => hob p (h5 p hp)
  have hfin : ∀ {c : Cx} {a : Act}, Inv E (fun id => id < n0 + 8 * ops.toList.length) c (fold (get l) (Wt ops.toList.toArray fun i => outs.getD i out0) (fun _ => true) ops.toList.length) a → Q .normal a c.w := by
    intro c a h
    rw [← h2, hlen] at h
    exact hQ c a (h.less fun k v hk => get_live k v hk)
  have hs := any_ops (E := E) (l := ops.toList) (g0 := get l) (tab := fun i => outs.getD i out0) (n0 := n0) hd.1 hap hstep (Q := Q) (fun c a h => hfin h)
      ops.toList.length (Array.replicate ops.toList.length false) ⟨{ c.w with drawn := c.w.drawn + 1 }, c.S, c.own⟩ a (by simp) (by
        rw [left_congr (g := fun _ => false) fun i _ => repl_false _ _]
        exact left_false _) (fun j o _ hj => by
        have hj' : (Array.replicate ops.toList.length false).getD j false = true := hj
        rw [repl_false] at hj'
        cases hj') (by
        have h0 : fold (get l) (Wt ops.toList.toArray fun i => outs.getD i out0) (fun j => (Array.replicate ops.toList.length false).getD j false) ops.toList.length = get l := by
          have e : (fun j => (Array.replicate ops.toList.length false).getD j false) = fun _ => false := funext fun j => repl_false _ j
          rw [e]
          have : ∀ m, fold (get l) (Wt ops.toList.toArray fun i => outs.getD i out0) (fun _ => false) m = get l := fun m => by
            induction m with
            | zero => rfl
            | succ m ih => simp only [fold, Bool.false_eq_true, if_false]; exact ih
          exact this _
        rw [h0]
        exact (hI.drawn _).more fun i hi => .inl hi)
  rw [hops] at hs
  refine wp_region_any hm ?_
  rw [hlen] at hs
  exact hs
theorem T_regionD {P : Program} {n : Nat} {c0 : Cx} {Bor : Nat → Prop} {Q : Post} {n0 : Nat} {l : L} {rs : List Item} {id : Nat} {ops : Array Oper} (ans : List (Nat × Ans)) (bf : List (List Nat)) (ks : List (List Nat × List Nat)) (live : List Nat) {l' : L} {obs : List Prop} (hm : P.follows .mixedOrders = true) (h : evrK P n ops.toList n0 ans ks live l = some (l', obs)) (hd : drawB ops.toList bf ks = true) (hob : ∀ p ∈ obs, p)
    (hT : T P n c0 Bor Q (n0 + 8 * ops.size) l' rs) : T P n c0 Bor Q n0 l (.code (.region id ops true) :: rs) := fun _ _ hI =>
  regionK_ok (E := ⟨P, n, c0, Bor⟩) hm h hd hob (fun c a h => ⟨c, rfl, hT c a h⟩) hI
/-- A natural number's value. -/
abbrev nv (n : Nat) : PV := iv (n : Int)
/-- A double's value. -/
abbrev flv (n : Nat) : PV := .av (.float .f64 n)
/-- A function's value. -/
abbrev fv (n : FuncId) : PV := .av (.func (.func n) #[] #[])
end Go.Proofs.YtlngkiipgkociaaGreatDoor.Pm
namespace Go.Proofs.YtlngkiipgkociaaGreatDoor.Pm
open Go

section
variable {P : Program} {n : Nat} {c0 : Cx} {Bor : Nat → Prop} {Q : Post} {n0 : Nat} {l : L} {rs : List Item}
/-- A region: the state behind it, what is to be shown. -/
theorem T_r (hm : P.follows .mixedOrders = true) {id : Nat} {ops : Array Oper} {draw : Bool} (ans : List (Nat × Ans)) (l' : L) {obs : List Prop} (hob : ∀ p ∈ obs, p) (hT : T P n c0 Bor Q (n0 + 8 * ops.size) l' rs)
    (h : evr P n ops.toList n0 ans draw (l'.map (·.1)) l = some (l', obs) := by kernel_rfl) : T P n c0 Bor Q n0 l (.code (.region id ops draw) :: rs) :=
  T_region ans _ (fun _ => hm) h hob hT
theorem T_rd (hm : P.follows .mixedOrders = true) {id : Nat} {ops : Array Oper} (ans : List (Nat × Ans)) (bf : List (List Nat)) (ks : List (List Nat × List Nat)) (l' : L) {obs : List Prop} (hob : ∀ p ∈ obs, p) (hT : T P n c0 Bor Q (n0 + 8 * ops.size) l' rs)
    (h : evrK P n ops.toList n0 ans ks (l'.map (·.1)) l = some (l', obs) := by kernel_rfl) (hd : drawB ops.toList bf ks = true := by kernel_rfl) : T P n c0 Bor Q n0 l (.code (.region id ops true) :: rs) :=
  T_regionD ans bf ks _ hm h hd hob hT
theorem T_th {t : Nat} {x y : Code} {b : Bool} (hv : b = true) (h : T P n c0 Bor Q n0 l (.code x :: rs)) (hb : get l (ks t) = some (.pv (.av (.bool b))) := by rfl) : T P n c0 Bor Q n0 l (.code (.cond (.tmp t) x y) :: rs) := T_then hb hv h
theorem T_el {t : Nat} {x y : Code} {b : Bool} (hv : b = false) (h : T P n c0 Bor Q n0 l (.code y :: rs)) (hb : get l (ks t) = some (.pv (.av (.bool b))) := by rfl) : T P n c0 Bor Q n0 l (.code (.cond (.tmp t) x y) :: rs) := T_else hb hv h
theorem rt {m : Nat} {fn : Func} {r : PV} {H' : Hp} (hc0 : ∀ i x, c0.own i = some x → i < m) (l' : L) (σl : List Nat) {cx : Cx} {a : Act} (hI : Inv ⟨P, n, c0, Bor⟩ (· < n0) cx (get l) a)
    (hσ : σl.take m = List.range m := by rfl) (hnd : nodupB σl = true := by rfl) (hb : shapeB σl.length l' = true := by kernel_rfl)
    (h : l'.map (fun x => get l (rkey (sgm n0 σl) x.1)) = l'.map (fun x => rval (sgm n0 σl) x.2) := by kernel_rfl) (hn : σl.length = H'.length := by rfl)
    (hr : runv (get l') (resP P fn.results.toList fun ps => .done (resPV ps) []) = some (r, []) := by kernel_rfl) (hbk : ∀ p ∈ blksB l' 0 H', p := by exact obs_nil) : retQ P fn c0 Bor r H' .ret cx a :=
  ret_ok (.inr rfl) (Wk.ren2 l' m hc0 σl hσ hnd hb h) hn hbk (fun cx a hI => ret_res hr cx a hI) hI
/-- The arguments of a call that lends nothing. -/
abbrev Ren0 (k : Nat) (a : List PV) : Prop := a = renL (sigi [] k) a
end
theorem bt {p : Prop} [Decidable p] (h : p) : (!decide p) = false := by rw [decide_eq_true h]; rfl
theorem bf {p : Prop} [Decidable p] (h : ¬ p) : (!decide p) = true := by rw [decide_eq_false h]; rfl
end Go.Proofs.YtlngkiipgkociaaGreatDoor.Pm
namespace Go.Proofs.YtlngkiipgkociaaGreatDoor.Pm
open Go

abbrev st (l : List UInt8) : ByteArray := ⟨l.toArray⟩
theorem st_list (l : List UInt8) : (st l).data.toList = l := rfl
theorem st_of (s : ByteArray) : st s.data.toList = s := rfl
theorem st_size (l : List UInt8) : (st l).size = l.length := rfl
theorem st_app (a b : List UInt8) : st a ++ st b = st (a ++ b) := by
  apply ByteArray.ext
  rw [ByteArray.data_append]
  simp
theorem st_toList (l : List UInt8) : (st l).toList = l := by
  rw [ByteArray.toList_eq]
theorem st_eq (a b : List UInt8) : ((st a).toList == (st b).toList) = decide (a = b) := by
  rw [st_toList, st_toList]
  rw [Bool.eq_iff_iff]; simp
theorem st_ne (a b : List UInt8) : (!((st a).toList == (st b).toList)) = !decide (a = b) := by rw [st_eq]
theorem st_cut (l : List UInt8) (i j : Nat) : (st l).extract i j = st ((l.drop i).take (j - i)) := by
  apply ByteArray.ext
  rw [ByteArray.data_extract]
  apply Array.ext'
  simp
theorem st_from (l : List UInt8) (i : Nat) (j : Nat) (hj : j = l.length) : (st l).extract i j = st (l.drop i) := by
  rw [st_cut, List.take_of_length_le (by simp; omega)]
theorem st_upto (l : List UInt8) (j : Nat) : (st l).extract 0 j = st (l.take j) := by
  rw [st_cut, List.drop_zero, Nat.sub_zero]
end Go.Proofs.YtlngkiipgkociaaGreatDoor.Pm
namespace Go.Proofs
open Go.Shelf

def Tryz.lays99_ren : Go.Shelf.Ren := ⟨fun | 99 => 28 | 206 => 46 | n => n, fun | 9 => 9 | 4 => 4 | 3 => 3 | n => n, fun | n => n⟩
theorem Tryz.lays99 : Go.Proofs.Lays.n99 Tryz.prog Tryz.lays99_ren := {
  mixed := by kernel_rfl,
  f99 := Tryz.func28.trans (congrArg some (by kernel_rfl)),
  f206 := Tryz.func46.trans (congrArg some (by kernel_rfl)),
  t3 := Tryz.underlying3,
  a3 := Tryz.isAgg3,
  z3 := Tryz.sizeOf3,
  v3 := Tryz.zeroValue3,
  t4 := Tryz.underlying4,
  a4 := Tryz.isAgg4,
  z4 := Tryz.sizeOf4,
  v4 := Tryz.zeroValue4,
  t9 := Tryz.underlying9,
  a9 := Tryz.isAgg9,
  z9 := Tryz.sizeOf9,
  v9 := Tryz.zeroValue9 }
def Tryz.lays101_ren : Go.Shelf.Ren := ⟨fun | 101 => 35 | 208 => 49 | 206 => 46 | n => n, fun | 9 => 9 | 4 => 4 | 3 => 3 | n => n, fun | n => n⟩
theorem Tryz.lays101 : Go.Proofs.Lays.n101 Tryz.prog Tryz.lays101_ren := {
  mixed := by kernel_rfl,
  f101 := Tryz.func35.trans (congrArg some (by kernel_rfl)),
  f206 := Tryz.func46.trans (congrArg some (by kernel_rfl)),
  f208 := Tryz.func49.trans (congrArg some (by kernel_rfl)),
  t3 := Tryz.underlying3,
  a3 := Tryz.isAgg3,
  z3 := Tryz.sizeOf3,
  v3 := Tryz.zeroValue3,
  t4 := Tryz.underlying4,
  a4 := Tryz.isAgg4,
  z4 := Tryz.sizeOf4,
  v4 := Tryz.zeroValue4,
  t9 := Tryz.underlying9,
  a9 := Tryz.isAgg9,
  z9 := Tryz.sizeOf9,
  v9 := Tryz.zeroValue9 }
def Tryz.lays143_ren : Go.Shelf.Ren := ⟨fun | 143 => 27 | 219 => 45 | 217 => 62 | 225 => 63 | 224 => 64 | 267 => 65 | 266 => 77 | 314 => 78 | n => n, fun | 9 => 9 | 3 => 3 | 4 => 4 | 5 => 5 | 46 => 58 | 146 => 80 | 51 => 79 | n => n, fun | 1 => 0 | n => n⟩
theorem Tryz.lays143 : Go.Proofs.Lays.n143 Tryz.prog Tryz.lays143_ren := {
  mixed := by kernel_rfl,
  f143 := Tryz.func27.trans (congrArg some (by kernel_rfl)),
  f217 := Tryz.func62.trans (congrArg some (by kernel_rfl)),
  f219 := Tryz.func45.trans (congrArg some (by kernel_rfl)),
  f224 := Tryz.func64.trans (congrArg some (by kernel_rfl)),
  f225 := Tryz.func63.trans (congrArg some (by kernel_rfl)),
  f266 := Tryz.func77.trans (congrArg some (by kernel_rfl)),
  f267 := Tryz.func65.trans (congrArg some (by kernel_rfl)),
  f314 := Tryz.func78.trans (congrArg some (by kernel_rfl)),
  t3 := Tryz.underlying3,
  a3 := Tryz.isAgg3,
  z3 := Tryz.sizeOf3,
  v3 := Tryz.zeroValue3,
  t4 := Tryz.underlying4,
  a4 := Tryz.isAgg4,
  z4 := Tryz.sizeOf4,
  v4 := Tryz.zeroValue4,
  t5 := Tryz.underlying5,
  a5 := Tryz.isAgg5,
  z5 := Tryz.sizeOf5,
  v5 := Tryz.zeroValue5,
  t9 := Tryz.underlying9,
  a9 := Tryz.isAgg9,
  z9 := Tryz.sizeOf9,
  v9 := Tryz.zeroValue9,
  t46 := Tryz.underlying58,
  a46 := Tryz.isAgg58,
  z46 := Tryz.sizeOf58,
  v46 := Tryz.zeroValue58,
  t51 := Tryz.underlying79,
  a51 := Tryz.isAgg79,
  z51 := Tryz.sizeOf79,
  v51 := Tryz.zeroValue79,
  t146 := Tryz.underlying80,
  a146 := Tryz.isAgg80,
  z146 := Tryz.sizeOf80,
  v146 := Tryz.zeroValue80,
  g1 := by kernel_rfl }
def Tryz.lays144_ren : Go.Shelf.Ren := ⟨fun | 144 => 26 | 143 => 27 | 219 => 45 | 217 => 62 | 225 => 63 | 224 => 64 | 267 => 65 | 266 => 77 | 314 => 78 | n => n, fun | 9 => 9 | 4 => 4 | 3 => 3 | 5 => 5 | 46 => 58 | 146 => 80 | 51 => 79 | n => n, fun | 1 => 0 | n => n⟩
theorem Tryz.lays144 : Go.Proofs.Lays.n144 Tryz.prog Tryz.lays144_ren := {
  mixed := by kernel_rfl,
  f143 := Tryz.func27.trans (congrArg some (by kernel_rfl)),
  f144 := Tryz.func26.trans (congrArg some (by kernel_rfl)),
  f217 := Tryz.func62.trans (congrArg some (by kernel_rfl)),
  f219 := Tryz.func45.trans (congrArg some (by kernel_rfl)),
  f224 := Tryz.func64.trans (congrArg some (by kernel_rfl)),
  f225 := Tryz.func63.trans (congrArg some (by kernel_rfl)),
  f266 := Tryz.func77.trans (congrArg some (by kernel_rfl)),
  f267 := Tryz.func65.trans (congrArg some (by kernel_rfl)),
  f314 := Tryz.func78.trans (congrArg some (by kernel_rfl)),
  t3 := Tryz.underlying3,
  a3 := Tryz.isAgg3,
  z3 := Tryz.sizeOf3,
  v3 := Tryz.zeroValue3,
  t4 := Tryz.underlying4,
  a4 := Tryz.isAgg4,
  z4 := Tryz.sizeOf4,
  v4 := Tryz.zeroValue4,
  t5 := Tryz.underlying5,
  a5 := Tryz.isAgg5,
  z5 := Tryz.sizeOf5,
  v5 := Tryz.zeroValue5,
  t9 := Tryz.underlying9,
  a9 := Tryz.isAgg9,
  z9 := Tryz.sizeOf9,
  v9 := Tryz.zeroValue9,
  t46 := Tryz.underlying58,
  a46 := Tryz.isAgg58,
  z46 := Tryz.sizeOf58,
  v46 := Tryz.zeroValue58,
  t51 := Tryz.underlying79,
  a51 := Tryz.isAgg79,
  z51 := Tryz.sizeOf79,
  v51 := Tryz.zeroValue79,
  t146 := Tryz.underlying80,
  a146 := Tryz.isAgg80,
  z146 := Tryz.sizeOf80,
  v146 := Tryz.zeroValue80,
  g1 := by kernel_rfl }
def Tryz.lays160_ren : Go.Shelf.Ren := ⟨fun | 160 => 37 | 232 => 54 | 231 => 50 | 227 => 51 | 234 => 55 | 233 => 52 | 236 => 56 | 235 => 53 | 228 => 68 | 271 => 70 | 151 => 69 | 197 => 29 | 120 => 85 | 152 => 84 | 260 => 47 | 137 => 94 | 119 => 95 | 224 => 64 | 225 => 63 | 217 => 62 | 266 => 77 | n => n, fun | 9 => 9 | 4 => 4 | 3 => 3 | 5 => 5 | 117 => 74 | 116 => 73 | 0 => 0 | 124 => 77 | 21 => 21 | 105 => 49 | 46 => 58 | 119 => 87 | 139 => 90 | 138 => 89 | n => n, fun | 3 => 1 | 4 => 2 | n => n⟩
theorem Tryz.lays160 : Go.Proofs.Lays.n160 Tryz.prog Tryz.lays160_ren := {
  mixed := by kernel_rfl,
  f119 := Tryz.func95.trans (congrArg some (by kernel_rfl)),
  f120 := Tryz.func85.trans (congrArg some (by kernel_rfl)),
  f137 := Tryz.func94.trans (congrArg some (by kernel_rfl)),
  f151 := Tryz.func69.trans (congrArg some (by kernel_rfl)),
  f152 := Tryz.func84.trans (congrArg some (by kernel_rfl)),
  f160 := Tryz.func37.trans (congrArg some (by kernel_rfl)),
  f197 := Tryz.func29.trans (congrArg some (by kernel_rfl)),
  f217 := Tryz.func62.trans (congrArg some (by kernel_rfl)),
  f224 := Tryz.func64.trans (congrArg some (by kernel_rfl)),
  f225 := Tryz.func63.trans (congrArg some (by kernel_rfl)),
  f227 := Tryz.func51.trans (congrArg some (by kernel_rfl)),
  f228 := Tryz.func68.trans (congrArg some (by kernel_rfl)),
  f231 := Tryz.func50.trans (congrArg some (by kernel_rfl)),
  f232 := Tryz.func54.trans (congrArg some (by kernel_rfl)),
  f233 := Tryz.func52.trans (congrArg some (by kernel_rfl)),
  f234 := Tryz.func55.trans (congrArg some (by kernel_rfl)),
  f235 := Tryz.func53.trans (congrArg some (by kernel_rfl)),
  f236 := Tryz.func56.trans (congrArg some (by kernel_rfl)),
  f260 := Tryz.func47.trans (congrArg some (by kernel_rfl)),
  f266 := Tryz.func77.trans (congrArg some (by kernel_rfl)),
  f271 := Tryz.func70.trans (congrArg some (by kernel_rfl)),
  t0 := Tryz.underlying0,
  a0 := Tryz.isAgg0,
  z0 := Tryz.sizeOf0,
  v0 := Tryz.zeroValue0,
  t3 := Tryz.underlying3,
  a3 := Tryz.isAgg3,
  z3 := Tryz.sizeOf3,
  v3 := Tryz.zeroValue3,
  t4 := Tryz.underlying4,
  a4 := Tryz.isAgg4,
  z4 := Tryz.sizeOf4,
  v4 := Tryz.zeroValue4,
  t5 := Tryz.underlying5,
  a5 := Tryz.isAgg5,
  z5 := Tryz.sizeOf5,
  v5 := Tryz.zeroValue5,
  t9 := Tryz.underlying9,
  a9 := Tryz.isAgg9,
  z9 := Tryz.sizeOf9,
  v9 := Tryz.zeroValue9,
  t21 := Tryz.underlying21,
  a21 := Tryz.isAgg21,
  z21 := Tryz.sizeOf21,
  v21 := Tryz.zeroValue21,
  t46 := Tryz.underlying58,
  a46 := Tryz.isAgg58,
  z46 := Tryz.sizeOf58,
  v46 := Tryz.zeroValue58,
  t105 := Tryz.underlying49,
  a105 := Tryz.isAgg49,
  z105 := Tryz.sizeOf49,
  v105 := Tryz.zeroValue49,
  t116 := Tryz.underlying73,
  a116 := Tryz.isAgg73,
  z116 := Tryz.sizeOf73,
  t117 := Tryz.underlying74,
  a117 := Tryz.isAgg74,
  z117 := Tryz.sizeOf74,
  v117 := Tryz.zeroValue74,
  t119 := Tryz.underlying87,
  a119 := Tryz.isAgg87,
  z119 := Tryz.sizeOf87,
  t124 := Tryz.underlying77,
  a124 := Tryz.isAgg77,
  z124 := Tryz.sizeOf77,
  v124 := Tryz.zeroValue77,
  t138 := Tryz.underlying89,
  a138 := Tryz.isAgg89,
  z138 := Tryz.sizeOf89,
  v138 := Tryz.zeroValue89,
  t139 := Tryz.underlying90,
  a139 := Tryz.isAgg90,
  z139 := Tryz.sizeOf90,
  v139 := Tryz.zeroValue90,
  g3 := by kernel_rfl,
  g4 := by kernel_rfl }
def Tryz.lays161_ren : Go.Shelf.Ren := ⟨fun | 161 => 36 | 231 => 50 | 227 => 51 | 233 => 52 | 235 => 53 | 228 => 68 | 197 => 29 | 151 => 69 | 260 => 47 | 152 => 84 | 137 => 94 | 119 => 95 | 224 => 64 | 225 => 63 | 217 => 62 | 266 => 77 | n => n, fun | 9 => 9 | 4 => 4 | 3 => 3 | 5 => 5 | 117 => 74 | 116 => 73 | 0 => 0 | 124 => 77 | 105 => 49 | 21 => 21 | 119 => 87 | 46 => 58 | 139 => 90 | 138 => 89 | n => n, fun | 3 => 1 | 4 => 2 | n => n⟩
theorem Tryz.lays161 : Go.Proofs.Lays.n161 Tryz.prog Tryz.lays161_ren := {
  mixed := by kernel_rfl,
  f119 := Tryz.func95.trans (congrArg some (by kernel_rfl)),
  f137 := Tryz.func94.trans (congrArg some (by kernel_rfl)),
  f151 := Tryz.func69.trans (congrArg some (by kernel_rfl)),
  f152 := Tryz.func84.trans (congrArg some (by kernel_rfl)),
  f161 := Tryz.func36.trans (congrArg some (by kernel_rfl)),
  f197 := Tryz.func29.trans (congrArg some (by kernel_rfl)),
  f217 := Tryz.func62.trans (congrArg some (by kernel_rfl)),
  f224 := Tryz.func64.trans (congrArg some (by kernel_rfl)),
  f225 := Tryz.func63.trans (congrArg some (by kernel_rfl)),
  f227 := Tryz.func51.trans (congrArg some (by kernel_rfl)),
  f228 := Tryz.func68.trans (congrArg some (by kernel_rfl)),
  f231 := Tryz.func50.trans (congrArg some (by kernel_rfl)),
  f233 := Tryz.func52.trans (congrArg some (by kernel_rfl)),
  f235 := Tryz.func53.trans (congrArg some (by kernel_rfl)),
  f260 := Tryz.func47.trans (congrArg some (by kernel_rfl)),
  f266 := Tryz.func77.trans (congrArg some (by kernel_rfl)),
  t0 := Tryz.underlying0,
  a0 := Tryz.isAgg0,
  z0 := Tryz.sizeOf0,
  v0 := Tryz.zeroValue0,
  t3 := Tryz.underlying3,
  a3 := Tryz.isAgg3,
  z3 := Tryz.sizeOf3,
  v3 := Tryz.zeroValue3,
  t4 := Tryz.underlying4,
  a4 := Tryz.isAgg4,
  z4 := Tryz.sizeOf4,
  v4 := Tryz.zeroValue4,
  t5 := Tryz.underlying5,
  a5 := Tryz.isAgg5,
  z5 := Tryz.sizeOf5,
  v5 := Tryz.zeroValue5,
  t9 := Tryz.underlying9,
  a9 := Tryz.isAgg9,
  z9 := Tryz.sizeOf9,
  v9 := Tryz.zeroValue9,
  t21 := Tryz.underlying21,
  a21 := Tryz.isAgg21,
  z21 := Tryz.sizeOf21,
  v21 := Tryz.zeroValue21,
  t46 := Tryz.underlying58,
  a46 := Tryz.isAgg58,
  z46 := Tryz.sizeOf58,
  v46 := Tryz.zeroValue58,
  t105 := Tryz.underlying49,
  a105 := Tryz.isAgg49,
  z105 := Tryz.sizeOf49,
  v105 := Tryz.zeroValue49,
  t116 := Tryz.underlying73,
  a116 := Tryz.isAgg73,
  z116 := Tryz.sizeOf73,
  t117 := Tryz.underlying74,
  a117 := Tryz.isAgg74,
  z117 := Tryz.sizeOf74,
  v117 := Tryz.zeroValue74,
  t119 := Tryz.underlying87,
  a119 := Tryz.isAgg87,
  z119 := Tryz.sizeOf87,
  t124 := Tryz.underlying77,
  a124 := Tryz.isAgg77,
  z124 := Tryz.sizeOf77,
  v124 := Tryz.zeroValue77,
  t138 := Tryz.underlying89,
  a138 := Tryz.isAgg89,
  z138 := Tryz.sizeOf89,
  v138 := Tryz.zeroValue89,
  t139 := Tryz.underlying90,
  a139 := Tryz.isAgg90,
  z139 := Tryz.sizeOf90,
  v139 := Tryz.zeroValue90,
  g3 := by kernel_rfl,
  g4 := by kernel_rfl }
def Tryz.lays105_ren : Go.Shelf.Ren := ⟨fun | 105 => 20 | 212 => 39 | 99 => 28 | 165 => 40 | 166 => 41 | 170 => 42 | 169 => 43 | 263 => 58 | 264 => 59 | 206 => 46 | 240 => 60 | 241 => 61 | 276 => 75 | 277 => 76 | n => n, fun | 9 => 9 | 3 => 3 | 4 => 4 | 20 => 20 | 0 => 0 | 46 => 58 | 109 => 59 | 5 => 5 | 72 => 63 | 76 => 67 | 51 => 79 | 146 => 80 | 53 => 82 | 148 => 83 | 70 => 61 | 37 => 57 | 75 => 66 | 127 => 85 | 164 => 99 | 80 => 70 | n => n, fun | n => n⟩
theorem Tryz.lays105 : Go.Proofs.Lays.n105 Tryz.prog Tryz.lays105_ren := {
  mixed := by kernel_rfl,
  f99 := Tryz.func28.trans (congrArg some (by kernel_rfl)),
  f105 := Tryz.func20.trans (congrArg some (by kernel_rfl)),
  f165 := Tryz.func40.trans (congrArg some (by kernel_rfl)),
  f166 := Tryz.func41.trans (congrArg some (by kernel_rfl)),
  f169 := Tryz.func43.trans (congrArg some (by kernel_rfl)),
  f170 := Tryz.func42.trans (congrArg some (by kernel_rfl)),
  f206 := Tryz.func46.trans (congrArg some (by kernel_rfl)),
  f212 := Tryz.func39.trans (congrArg some (by kernel_rfl)),
  f240 := Tryz.func60.trans (congrArg some (by kernel_rfl)),
  f241 := Tryz.func61.trans (congrArg some (by kernel_rfl)),
  f263 := Tryz.func58.trans (congrArg some (by kernel_rfl)),
  f264 := Tryz.func59.trans (congrArg some (by kernel_rfl)),
  f276 := Tryz.func75.trans (congrArg some (by kernel_rfl)),
  f277 := Tryz.func76.trans (congrArg some (by kernel_rfl)),
  t0 := Tryz.underlying0,
  a0 := Tryz.isAgg0,
  z0 := Tryz.sizeOf0,
  v0 := Tryz.zeroValue0,
  t3 := Tryz.underlying3,
  a3 := Tryz.isAgg3,
  z3 := Tryz.sizeOf3,
  v3 := Tryz.zeroValue3,
  t4 := Tryz.underlying4,
  a4 := Tryz.isAgg4,
  z4 := Tryz.sizeOf4,
  v4 := Tryz.zeroValue4,
  t5 := Tryz.underlying5,
  a5 := Tryz.isAgg5,
  z5 := Tryz.sizeOf5,
  v5 := Tryz.zeroValue5,
  t9 := Tryz.underlying9,
  a9 := Tryz.isAgg9,
  z9 := Tryz.sizeOf9,
  v9 := Tryz.zeroValue9,
  t20 := Tryz.underlying20,
  a20 := Tryz.isAgg20,
  z20 := Tryz.sizeOf20,
  v20 := Tryz.zeroValue20,
  t37 := Tryz.underlying57,
  a37 := Tryz.isAgg57,
  z37 := Tryz.sizeOf57,
  v37 := Tryz.zeroValue57,
  t46 := Tryz.underlying58,
  a46 := Tryz.isAgg58,
  z46 := Tryz.sizeOf58,
  v46 := Tryz.zeroValue58,
  t51 := Tryz.underlying79,
  a51 := Tryz.isAgg79,
  z51 := Tryz.sizeOf79,
  v51 := Tryz.zeroValue79,
  t53 := Tryz.underlying82,
  a53 := Tryz.isAgg82,
  z53 := Tryz.sizeOf82,
  v53 := Tryz.zeroValue82,
  t70 := Tryz.underlying61,
  a70 := Tryz.isAgg61,
  z70 := Tryz.sizeOf61,
  v70 := Tryz.zeroValue61,
  t72 := Tryz.underlying63,
  a72 := Tryz.isAgg63,
  z72 := Tryz.sizeOf63,
  v72 := Tryz.zeroValue63,
  t75 := Tryz.underlying66,
  a75 := Tryz.isAgg66,
  z75 := Tryz.sizeOf66,
  v75 := Tryz.zeroValue66,
  t76 := Tryz.underlying67,
  a76 := Tryz.isAgg67,
  z76 := Tryz.sizeOf67,
  v76 := Tryz.zeroValue67,
  t109 := Tryz.underlying59,
  a109 := Tryz.isAgg59,
  z109 := Tryz.sizeOf59,
  v109 := Tryz.zeroValue59,
  t127 := Tryz.underlying85,
  a127 := Tryz.isAgg85,
  z127 := Tryz.sizeOf85,
  v127 := Tryz.zeroValue85,
  t146 := Tryz.underlying80,
  a146 := Tryz.isAgg80,
  z146 := Tryz.sizeOf80,
  v146 := Tryz.zeroValue80,
  t148 := Tryz.underlying83,
  a148 := Tryz.isAgg83,
  z148 := Tryz.sizeOf83,
  v148 := Tryz.zeroValue83,
  t164 := Tryz.underlying99,
  a164 := Tryz.isAgg99,
  z164 := Tryz.sizeOf99,
  v164 := Tryz.zeroValue99 }
def Tryz.lays172_ren : Go.Shelf.Ren := ⟨fun | 172 => 48 | 244 => 66 | 245 => 67 | 247 => 79 | 279 => 80 | 280 => 81 | 281 => 82 | 282 => 83 | 287 => 91 | 316 => 92 | 171 => 13 | 205 => 93 | 321 => 98 | 322 => 99 | 243 => 38 | 246 => 57 | 283 => 71 | 284 => 72 | 285 => 73 | 286 => 74 | 129 => 87 | 317 => 86 | 318 => 88 | 319 => 89 | 320 => 90 | 337 => 96 | 338 => 97 | n => n, fun | 9 => 9 | 3 => 3 | 75 => 66 | 76 => 67 | 4 => 4 | 5 => 5 | 167 => 103 | 37 => 57 | 0 => 0 | 85 => 104 | 2 => 2 | 168 => 106 | 53 => 82 | 175 => 114 | 46 => 58 | 210 => 118 | 127 => 85 | 145 => 126 | 143 => 124 | 21 => 21 | 171 => 94 | 173 => 97 | 212 => 111 | 51 => 79 | 20 => 20 | 213 => 112 | 232 => 127 | 233 => 128 | 80 => 70 | n => n, fun | 15 => 4 | 16 => 5 | 17 => 3 | 18 => 6 | 19 => 7 | n => n⟩
theorem Tryz.lays172 : Go.Proofs.Lays.n172 Tryz.prog Tryz.lays172_ren := {
  mixed := by kernel_rfl,
  f129 := Tryz.func87.trans (congrArg some (by kernel_rfl)),
  f171 := Tryz.func13.trans (congrArg some (by kernel_rfl)),
  f172 := Tryz.func48.trans (congrArg some (by kernel_rfl)),
  f205 := Tryz.func93.trans (congrArg some (by kernel_rfl)),
  f243 := Tryz.func38.trans (congrArg some (by kernel_rfl)),
  f244 := Tryz.func66.trans (congrArg some (by kernel_rfl)),
  f245 := Tryz.func67.trans (congrArg some (by kernel_rfl)),
  f246 := Tryz.func57.trans (congrArg some (by kernel_rfl)),
  f247 := Tryz.func79.trans (congrArg some (by kernel_rfl)),
  f279 := Tryz.func80.trans (congrArg some (by kernel_rfl)),
  f280 := Tryz.func81.trans (congrArg some (by kernel_rfl)),
  f281 := Tryz.func82.trans (congrArg some (by kernel_rfl)),
  f282 := Tryz.func83.trans (congrArg some (by kernel_rfl)),
  f283 := Tryz.func71.trans (congrArg some (by kernel_rfl)),
  f284 := Tryz.func72.trans (congrArg some (by kernel_rfl)),
  f285 := Tryz.func73.trans (congrArg some (by kernel_rfl)),
  f286 := Tryz.func74.trans (congrArg some (by kernel_rfl)),
  f287 := Tryz.func91.trans (congrArg some (by kernel_rfl)),
  f316 := Tryz.func92.trans (congrArg some (by kernel_rfl)),
  f317 := Tryz.func86.trans (congrArg some (by kernel_rfl)),
  f318 := Tryz.func88.trans (congrArg some (by kernel_rfl)),
  f319 := Tryz.func89.trans (congrArg some (by kernel_rfl)),
  f320 := Tryz.func90.trans (congrArg some (by kernel_rfl)),
  f321 := Tryz.func98.trans (congrArg some (by kernel_rfl)),
  f322 := Tryz.func99.trans (congrArg some (by kernel_rfl)),
  f337 := Tryz.func96.trans (congrArg some (by kernel_rfl)),
  f338 := Tryz.func97.trans (congrArg some (by kernel_rfl)),
  t0 := Tryz.underlying0,
  a0 := Tryz.isAgg0,
  z0 := Tryz.sizeOf0,
  v0 := Tryz.zeroValue0,
  t2 := Tryz.underlying2,
  a2 := Tryz.isAgg2,
  z2 := Tryz.sizeOf2,
  v2 := Tryz.zeroValue2,
  t3 := Tryz.underlying3,
  a3 := Tryz.isAgg3,
  z3 := Tryz.sizeOf3,
  v3 := Tryz.zeroValue3,
  t4 := Tryz.underlying4,
  a4 := Tryz.isAgg4,
  z4 := Tryz.sizeOf4,
  v4 := Tryz.zeroValue4,
  t5 := Tryz.underlying5,
  a5 := Tryz.isAgg5,
  z5 := Tryz.sizeOf5,
  v5 := Tryz.zeroValue5,
  t9 := Tryz.underlying9,
  a9 := Tryz.isAgg9,
  z9 := Tryz.sizeOf9,
  v9 := Tryz.zeroValue9,
  t20 := Tryz.underlying20,
  a20 := Tryz.isAgg20,
  z20 := Tryz.sizeOf20,
  v20 := Tryz.zeroValue20,
  t21 := Tryz.underlying21,
  a21 := Tryz.isAgg21,
  z21 := Tryz.sizeOf21,
  v21 := Tryz.zeroValue21,
  t37 := Tryz.underlying57,
  a37 := Tryz.isAgg57,
  z37 := Tryz.sizeOf57,
  v37 := Tryz.zeroValue57,
  t46 := Tryz.underlying58,
  a46 := Tryz.isAgg58,
  z46 := Tryz.sizeOf58,
  v46 := Tryz.zeroValue58,
  t51 := Tryz.underlying79,
  a51 := Tryz.isAgg79,
  z51 := Tryz.sizeOf79,
  v51 := Tryz.zeroValue79,
  t53 := Tryz.underlying82,
  a53 := Tryz.isAgg82,
  z53 := Tryz.sizeOf82,
  v53 := Tryz.zeroValue82,
  t75 := Tryz.underlying66,
  a75 := Tryz.isAgg66,
  z75 := Tryz.sizeOf66,
  v75 := Tryz.zeroValue66,
  t76 := Tryz.underlying67,
  a76 := Tryz.isAgg67,
  z76 := Tryz.sizeOf67,
  v76 := Tryz.zeroValue67,
  t85 := Tryz.underlying104,
  a85 := Tryz.isAgg104,
  z85 := Tryz.sizeOf104,
  v85 := Tryz.zeroValue104,
  t127 := Tryz.underlying85,
  a127 := Tryz.isAgg85,
  z127 := Tryz.sizeOf85,
  v127 := Tryz.zeroValue85,
  t143 := Tryz.underlying124,
  a143 := Tryz.isAgg124,
  z143 := Tryz.sizeOf124,
  v143 := Tryz.zeroValue124,
  t145 := Tryz.underlying126,
  a145 := Tryz.isAgg126,
  z145 := Tryz.sizeOf126,
  v145 := Tryz.zeroValue126,
  t167 := Tryz.underlying103,
  a167 := Tryz.isAgg103,
  z167 := Tryz.sizeOf103,
  v167 := Tryz.zeroValue103,
  t168 := Tryz.underlying106,
  a168 := Tryz.isAgg106,
  z168 := Tryz.sizeOf106,
  v168 := Tryz.zeroValue106,
  t171 := Tryz.underlying94,
  a171 := Tryz.isAgg94,
  z171 := Tryz.sizeOf94,
  v171 := Tryz.zeroValue94,
  t173 := Tryz.underlying97,
  a173 := Tryz.isAgg97,
  z173 := Tryz.sizeOf97,
  v173 := Tryz.zeroValue97,
  t175 := Tryz.underlying114,
  a175 := Tryz.isAgg114,
  z175 := Tryz.sizeOf114,
  v175 := Tryz.zeroValue114,
  t210 := Tryz.underlying118,
  a210 := Tryz.isAgg118,
  z210 := Tryz.sizeOf118,
  v210 := Tryz.zeroValue118,
  t212 := Tryz.underlying111,
  a212 := Tryz.isAgg111,
  z212 := Tryz.sizeOf111,
  v212 := Tryz.zeroValue111,
  t213 := Tryz.underlying112,
  a213 := Tryz.isAgg112,
  z213 := Tryz.sizeOf112,
  t232 := Tryz.underlying127,
  a232 := Tryz.isAgg127,
  z232 := Tryz.sizeOf127,
  v232 := Tryz.zeroValue127,
  t233 := Tryz.underlying128,
  a233 := Tryz.isAgg128,
  z233 := Tryz.sizeOf128,
  v233 := Tryz.zeroValue128,
  g15 := by kernel_rfl,
  g16 := by kernel_rfl,
  g17 := by kernel_rfl,
  g18 := by kernel_rfl,
  g19 := by kernel_rfl }
def Tryz.laysM171_ren : Go.Shelf.Ren := ⟨fun | 171 => 13 | 243 => 38 | 246 => 57 | 283 => 71 | 284 => 72 | 285 => 73 | 286 => 74 | 129 => 87 | 317 => 86 | 318 => 88 | 319 => 89 | 320 => 90 | 337 => 96 | 338 => 97 | n => n, fun | 3 => 3 | 9 => 9 | 2 => 2 | 4 => 4 | 171 => 94 | 0 => 0 | 53 => 82 | 37 => 57 | 5 => 5 | 173 => 97 | 212 => 111 | 51 => 79 | 20 => 20 | 213 => 112 | 46 => 58 | 232 => 127 | 233 => 128 | n => n, fun | 17 => 3 | 18 => 6 | 19 => 7 | n => n⟩
theorem Tryz.laysM171 : Go.Proofs.LaysM.n171 Tryz.prog Tryz.laysM171_ren := {
  mixed := by kernel_rfl,
  f129 := Tryz.func87.trans (congrArg some (by kernel_rfl)),
  f171 := Tryz.func13.trans (congrArg some (by kernel_rfl)),
  f243 := Tryz.func38.trans (congrArg some (by kernel_rfl)),
  f246 := Tryz.func57.trans (congrArg some (by kernel_rfl)),
  f283 := Tryz.func71.trans (congrArg some (by kernel_rfl)),
  f284 := Tryz.func72.trans (congrArg some (by kernel_rfl)),
  f285 := Tryz.func73.trans (congrArg some (by kernel_rfl)),
  f286 := Tryz.func74.trans (congrArg some (by kernel_rfl)),
  f317 := Tryz.func86.trans (congrArg some (by kernel_rfl)),
  f318 := Tryz.func88.trans (congrArg some (by kernel_rfl)),
  f319 := Tryz.func89.trans (congrArg some (by kernel_rfl)),
  f320 := Tryz.func90.trans (congrArg some (by kernel_rfl)),
  f337 := Tryz.func96.trans (congrArg some (by kernel_rfl)),
  f338 := Tryz.func97.trans (congrArg some (by kernel_rfl)),
  t0 := Tryz.underlying0,
  a0 := Tryz.isAgg0,
  z0 := Tryz.sizeOf0,
  v0 := Tryz.zeroValue0,
  t2 := Tryz.underlying2,
  a2 := Tryz.isAgg2,
  z2 := Tryz.sizeOf2,
  v2 := Tryz.zeroValue2,
  t3 := Tryz.underlying3,
  a3 := Tryz.isAgg3,
  z3 := Tryz.sizeOf3,
  v3 := Tryz.zeroValue3,
  t4 := Tryz.underlying4,
  a4 := Tryz.isAgg4,
  z4 := Tryz.sizeOf4,
  v4 := Tryz.zeroValue4,
  t5 := Tryz.underlying5,
  a5 := Tryz.isAgg5,
  z5 := Tryz.sizeOf5,
  v5 := Tryz.zeroValue5,
  t9 := Tryz.underlying9,
  a9 := Tryz.isAgg9,
  z9 := Tryz.sizeOf9,
  v9 := Tryz.zeroValue9,
  t20 := Tryz.underlying20,
  a20 := Tryz.isAgg20,
  z20 := Tryz.sizeOf20,
  v20 := Tryz.zeroValue20,
  t37 := Tryz.underlying57,
  a37 := Tryz.isAgg57,
  z37 := Tryz.sizeOf57,
  v37 := Tryz.zeroValue57,
  t46 := Tryz.underlying58,
  a46 := Tryz.isAgg58,
  z46 := Tryz.sizeOf58,
  v46 := Tryz.zeroValue58,
  t51 := Tryz.underlying79,
  a51 := Tryz.isAgg79,
  z51 := Tryz.sizeOf79,
  v51 := Tryz.zeroValue79,
  t53 := Tryz.underlying82,
  a53 := Tryz.isAgg82,
  z53 := Tryz.sizeOf82,
  v53 := Tryz.zeroValue82,
  t171 := Tryz.underlying94,
  a171 := Tryz.isAgg94,
  z171 := Tryz.sizeOf94,
  v171 := Tryz.zeroValue94,
  t173 := Tryz.underlying97,
  a173 := Tryz.isAgg97,
  z173 := Tryz.sizeOf97,
  v173 := Tryz.zeroValue97,
  t212 := Tryz.underlying111,
  a212 := Tryz.isAgg111,
  z212 := Tryz.sizeOf111,
  v212 := Tryz.zeroValue111,
  t213 := Tryz.underlying112,
  a213 := Tryz.isAgg112,
  z213 := Tryz.sizeOf112,
  t232 := Tryz.underlying127,
  a232 := Tryz.isAgg127,
  z232 := Tryz.sizeOf127,
  v232 := Tryz.zeroValue127,
  t233 := Tryz.underlying128,
  a233 := Tryz.isAgg128,
  z233 := Tryz.sizeOf128,
  v233 := Tryz.zeroValue128,
  g17 := by kernel_rfl,
  g18 := by kernel_rfl,
  g19 := by kernel_rfl,
  i0 := by kernel_rfl,
  i2 := by kernel_rfl,
  i3 := by kernel_rfl,
  i4 := by kernel_rfl,
  i5 := by kernel_rfl,
  i9 := by kernel_rfl,
  i20 := by kernel_rfl,
  i37 := by kernel_rfl,
  i46 := by kernel_rfl,
  i51 := by kernel_rfl,
  i53 := by kernel_rfl,
  i171 := by kernel_rfl,
  i173 := by kernel_rfl,
  i212 := by kernel_rfl,
  i232 := by kernel_rfl,
  i233 := by kernel_rfl,
  m17 := by kernel_rfl,
  m18 := by kernel_rfl,
  m19 := by kernel_rfl }
def Tryz.lays197_ren : Go.Shelf.Ren := ⟨fun | 197 => 29 | 260 => 47 | n => n, fun | 9 => 9 | 21 => 21 | 3 => 3 | 4 => 4 | 5 => 5 | 105 => 49 | 119 => 87 | 0 => 0 | 46 => 58 | 139 => 90 | 138 => 89 | n => n, fun | 3 => 1 | 4 => 2 | n => n⟩
theorem Tryz.lays197 : Go.Proofs.Lays.n197 Tryz.prog Tryz.lays197_ren := {
  mixed := by kernel_rfl,
  f197 := Tryz.func29.trans (congrArg some (by kernel_rfl)),
  f260 := Tryz.func47.trans (congrArg some (by kernel_rfl)),
  t0 := Tryz.underlying0,
  a0 := Tryz.isAgg0,
  z0 := Tryz.sizeOf0,
  v0 := Tryz.zeroValue0,
  t3 := Tryz.underlying3,
  a3 := Tryz.isAgg3,
  z3 := Tryz.sizeOf3,
  v3 := Tryz.zeroValue3,
  t4 := Tryz.underlying4,
  a4 := Tryz.isAgg4,
  z4 := Tryz.sizeOf4,
  v4 := Tryz.zeroValue4,
  t5 := Tryz.underlying5,
  a5 := Tryz.isAgg5,
  z5 := Tryz.sizeOf5,
  v5 := Tryz.zeroValue5,
  t9 := Tryz.underlying9,
  a9 := Tryz.isAgg9,
  z9 := Tryz.sizeOf9,
  v9 := Tryz.zeroValue9,
  t21 := Tryz.underlying21,
  a21 := Tryz.isAgg21,
  z21 := Tryz.sizeOf21,
  v21 := Tryz.zeroValue21,
  t46 := Tryz.underlying58,
  a46 := Tryz.isAgg58,
  z46 := Tryz.sizeOf58,
  v46 := Tryz.zeroValue58,
  t105 := Tryz.underlying49,
  a105 := Tryz.isAgg49,
  z105 := Tryz.sizeOf49,
  v105 := Tryz.zeroValue49,
  t119 := Tryz.underlying87,
  a119 := Tryz.isAgg87,
  z119 := Tryz.sizeOf87,
  t138 := Tryz.underlying89,
  a138 := Tryz.isAgg89,
  z138 := Tryz.sizeOf89,
  v138 := Tryz.zeroValue89,
  t139 := Tryz.underlying90,
  a139 := Tryz.isAgg90,
  z139 := Tryz.sizeOf90,
  v139 := Tryz.zeroValue90,
  g3 := by kernel_rfl,
  g4 := by kernel_rfl }
theorem Tryz.builder105 : Builder.Extra Tryz.prog Tryz.lays105_ren where
  sizeBuilder := by kernel_rfl
  liesBuilder := by kernel_rfl
  t5 := Tryz.underlying5
  a5 := Tryz.isAgg5
  z5 := Tryz.sizeOf5
  v5 := Tryz.zeroValue5
  infoByte := by kernel_rfl
  cellsByte := by kernel_rfl
  sizeByte := by kernel_rfl
  neB5 := by decide
end Go.Proofs
namespace Go.Proofs.YtlngkiipgkociaaGreatDoor.Pm
open Go Go.RowKit

theorem mixed : Tryz.prog.follows .mixedOrders = true := by kernel_rfl
theorem hasPrefix_pc (s p : List UInt8) : PC Tryz.prog 28 [sv (st s), sv (st p)] [] (bv (Lib.hasPrefix s p)) [] :=
  pc_flat (fn_ok Tryz.func28 (by kernel_rfl) (by kernel_rfl)) rfl rfl fun w => (Any.strings_HasPrefix Tryz.lays99 (st s) (st p) w).mono fun e w' ⟨h1, h2⟩ => ⟨h1, h2 ▸ Below.refl _ _⟩
theorem trimPrefix_pc (s p : List UInt8) : PC Tryz.prog 35 [sv (st s), sv (st p)] [] (sv (st (Lib.trimPrefix s p))) [] :=
  pc_flat (fn_ok Tryz.func35 (by kernel_rfl) (by kernel_rfl)) rfl rfl fun w => (Any.strings_TrimPrefix Tryz.lays101 (st s) (st p) w).mono fun e w' ⟨h1, h2⟩ => ⟨h1, h2 ▸ Below.refl _ _⟩
theorem index_pc (s : List UInt8) (c : UInt8) : PC Tryz.prog 27 [sv (st s), sv (st [c])] [] (iv (Lib.indexByte s c)) [] :=
  pc_flat (fn_ok Tryz.func27 (by kernel_rfl) (by kernel_rfl)) rfl rfl fun w => (Any.strings_Index_one Tryz.lays143 (st s) c w).mono fun e w' ⟨h1, h2⟩ => ⟨h1, h2 ▸ Below.refl _ _⟩
theorem contains_pc (s : List UInt8) (c : UInt8) : PC Tryz.prog 26 [sv (st s), sv (st [c])] [] (bv (decide (0 ≤ Lib.indexByte s c))) [] :=
  pc_flat (fn_ok Tryz.func26 (by kernel_rfl) (by kernel_rfl)) rfl rfl fun w => (Any.strings_Contains_one Tryz.lays144 (st s) c w).mono fun e w' ⟨h1, h2⟩ => ⟨h1, h2 ▸ Below.refl _ _⟩
theorem trim_pc (s cs : List UInt8) (hs : s.length ≤ 9223372036854775807) (hc : cs.length < 4294967281) (ha : ∀ (j : Nat) b, cs[j]? = some b → b.toNat < 128) : PC Tryz.prog 37 [sv (st s), sv (st cs)] [] (sv (st (Lib.trimS s cs))) [] :=
  pc_flat (fn_ok Tryz.func37 (by kernel_rfl) (by kernel_rfl)) rfl rfl fun w => (Any.strings_Trim_laid Tryz.lays160 (by kernel_rfl) (st s) (st cs) w hs hc ha).mono fun e w' ⟨h1, h2⟩ => ⟨h1, h2⟩
theorem trimLeft_pc (s cs : List UInt8) (hc : cs.length < 4294967281) (ha : ∀ (j : Nat) b, cs[j]? = some b → b.toNat < 128) : PC Tryz.prog 36 [sv (st s), sv (st cs)] [] (sv (st (Lib.trimLeftS s cs))) [] :=
  pc_flat (fn_ok Tryz.func36 (by kernel_rfl) (by kernel_rfl)) rfl rfl fun w => (Any.strings_TrimLeft_laid Tryz.lays161 (by kernel_rfl) (st s) (st cs) w hc ha).mono fun e w' ⟨h1, h2⟩ => ⟨h1, h2⟩
theorem repeat_pc (s : List UInt8) (c : Nat) (hc : c ≤ 9223372036854775807) (hl : s.length * c ≤ 140737488355328) : PC Tryz.prog 20 [sv (st s), iv ((c : Nat) : Int)] [] (sv (st (Lib.repeatL s c))) [] :=
  pc_flat (fn_ok Tryz.func20 (by kernel_rfl) (by kernel_rfl)) rfl rfl fun w => (Any.strings_Repeat Tryz.lays105 Tryz.builder105 (st s) c w hc hl)
theorem atoi_pc (s : List UInt8) (n : Int) (hs : s.length ≤ 18) (h : Lib.atoi s = some n) : PC Tryz.prog 48 [sv (st s)] [] (.tup [iv n, .av .nilIface]) [] :=
  pc_flat (fn_ok Tryz.func48 (by kernel_rfl) (by kernel_rfl)) rfl rfl fun w => (Any.strconv_Atoi Tryz.lays172 (st s) n hs h w).mono fun e w' ⟨h1, t, h2⟩ => ⟨h1, h2 ▸ Lib.bytesWorld_below _ _ _⟩
theorem itoa_pc (n : Int) (h0 : -9223372036854775808 ≤ n) (h1 : n ≤ 9223372036854775807) : PC Tryz.prog 13 [iv n] [] (sv (st (Lib.itoa n))) [] :=
  pc_flatL (fn_ok Tryz.func13 (by kernel_rfl) (by kernel_rfl)) rfl rfl fun w hL => (Any.strconv_Itoa Tryz.laysM171 n h0 h1 w hL.2.1).mono fun e w' ⟨h1, k, os, h2⟩ => ⟨h1, h2 ▸ Lib.below_grow _ _ (Nat.le_refl _) _ _⟩
theorem decode_pc (s : List UInt8) : PC Tryz.prog 29 [sv (st s)] [] (.tup [.av (.int .i32 (((Lib.decodeGo (st s)).1 : Nat) : Int)), iv (((Lib.decodeGo (st s)).2 : Nat) : Int)]) [] :=
  pc_flatL (fn_ok Tryz.func29 (by kernel_rfl) (by kernel_rfl)) rfl rfl fun w hL => (Any.utf8_DecodeRuneInString Tryz.lays197 (st s) w hL.2.2)
end Go.Proofs.YtlngkiipgkociaaGreatDoor.Pm
namespace Go.Proofs.YtlngkiipgkociaaGreatDoor.Pi

/-- Half tones of a letter above C. -/
def nat7 (l : Int) : Int := if l = 0 then 0 else if l = 1 then 2 else if l = 2 then 4 else if l = 3 then 5 else if l = 4 then 7 else if l = 5 then 9 else 11
theorem nat7_range (l : Int) : 0 ≤ nat7 l ∧ nat7 l ≤ 11 := by unfold nat7; omega
def rightB (l a o : Int) : Bool := decide (0 ≤ l ∧ l ≤ 6 ∧ -3 ≤ a ∧ a ≤ 3 ∧ -12 ≤ o ∧ o ≤ 12)
theorem rightB_iff {l a o : Int} : rightB l a o = true ↔ 0 ≤ l ∧ l ≤ 6 ∧ -3 ≤ a ∧ a ≤ 3 ∧ -12 ≤ o ∧ o ≤ 12 := by simp [rightB]
def withinB (s h : Int) : Bool := decide (-200 ≤ s ∧ s ≤ 200 ∧ -4096 ≤ h ∧ h ≤ 4096)
theorem withinB_iff {s h : Int} : withinB s h = true ↔ -200 ≤ s ∧ s ≤ 200 ∧ -4096 ≤ h ∧ h ≤ 4096 := by simp [withinB]
def steps (l o : Int) : Int := 7 * o + l
def halves (l a o : Int) : Int := 12 * o + nat7 l + a
def key (l a o : Int) : Int × Int := if rightB l a o then (halves l a o + 12, 0) else (0, 2)
/-- What lies between, and what is wrong. -/
def between (l a o l' a' o' : Int) : Int × Int × Int :=
  if rightB l a o && rightB l' a' o' then (steps l' o' - steps l o, halves l' a' o' - halves l a o, 0) else (0, 0, 2)
/-- The pitch at so many steps and half tones from C0; what is wrong. -/
def at_ (s h : Int) : Int × Int × Int × Int :=
  if rightB (s % 7) (h - (12 * (s / 7) + nat7 (s % 7))) (s / 7) then (s % 7, h - (12 * (s / 7) + nat7 (s % 7)), s / 7, 0) else (0, 0, 0, 3)
def move (l a o s h : Int) : Int × Int × Int × Int :=
  if rightB l a o then (if withinB s h then at_ (steps l o + s) (halves l a o + h) else (0, 0, 0, 3)) else (0, 0, 0, 2)
def sum (s h s' h' : Int) : Int × Int × Int :=
  if withinB s h && withinB s' h' && withinB (s + s') (h + h') then (s + s', h + h', 0) else (0, 0, 3)
def mirror (l a o l' a' o' : Int) : Int × Int × Int × Int :=
  if rightB l a o && rightB l' a' o' then move l' a' o' (steps l' o' - steps l o) (halves l' a' o' - halves l a o) else (0, 0, 0, 2)

theorem at_ok {s h l a o : Int} (k : at_ s h = (l, a, o, 0)) : rightB l a o = true ∧ steps l o = s ∧ halves l a o = h := by
  unfold at_ at k
  split at k
  · rename_i hr
    simp only [Prod.mk.injEq, and_true] at k
    obtain ⟨rfl, rfl, rfl⟩ := k
    exact ⟨hr, by unfold steps; omega, by unfold halves; omega⟩
  · simp at k
theorem at_of {s h l a o : Int} (hr : rightB l a o = true) (hs : steps l o = s) (hh : halves l a o = h) : at_ s h = (l, a, o, 0) := by
  obtain ⟨r1, r2, r3, r4, r5, r6⟩ := rightB_iff.1 hr
  unfold steps at hs
  unfold halves at hh
  have e1 : s / 7 = o := by omega
  have e2 : s % 7 = l := by omega
  have e3 : h - (12 * o + nat7 l) = a := by omega
  unfold at_
  rw [e1, e2, e3, if_pos hr]
theorem at_err {s h l a o e : Int} (k : at_ s h = (l, a, o, e)) (he : e ≠ 0) : l = 0 ∧ a = 0 ∧ o = 0 ∧ e = 3 := by
  unfold at_ at k
  split at k <;> simp only [Prod.mk.injEq] at k <;> omega
theorem at_range (s h : Int) : rightB (at_ s h).1 (at_ s h).2.1 (at_ s h).2.2.1 = true ∧ (0 ≤ (at_ s h).2.2.2 ∧ (at_ s h).2.2.2 ≤ 3) := by
  unfold at_
  split
  · rename_i h; exact ⟨h, by simp⟩
  · simp [rightB]

theorem move_ok {l a o s h l' a' o' : Int} (k : move l a o s h = (l', a', o', 0)) :
    rightB l a o = true ∧ withinB s h = true ∧ rightB l' a' o' = true ∧ steps l' o' = steps l o + s ∧ halves l' a' o' = halves l a o + h := by
  unfold move at k
  split at k
  · rename_i h1
    split at k
    · rename_i h2
      have := at_ok k
      exact ⟨h1, h2, this⟩
    · simp at k
  · simp at k
theorem move_of {l a o s h l' a' o' : Int} (h1 : rightB l a o = true) (h2 : withinB s h = true) (h3 : rightB l' a' o' = true) (h4 : steps l' o' = steps l o + s) (h5 : halves l' a' o' = halves l a o + h) :
    move l a o s h = (l', a', o', 0) := by
  unfold move
  rw [if_pos h1, if_pos h2, at_of h3 h4 h5]
theorem move_at {l a o s h : Int} (h1 : rightB l a o = true) (h2 : withinB s h = true) : move l a o s h = at_ (steps l o + s) (halves l a o + h) := by
  unfold move; rw [if_pos h1, if_pos h2]
theorem move_right (l a o s h : Int) : rightB (move l a o s h).1 (move l a o s h).2.1 (move l a o s h).2.2.1 = true := by
  unfold move
  split
  · split
    · exact (at_range _ _).1
    · rfl
  · rfl
theorem between_of {l a o l' a' o' : Int} (h1 : rightB l a o = true) (h2 : rightB l' a' o' = true) : between l a o l' a' o' = (steps l' o' - steps l o, halves l' a' o' - halves l a o, 0) := by
  simp [between, h1, h2]
theorem between_ok {l a o l' a' o' s h : Int} (k : between l a o l' a' o' = (s, h, 0)) : rightB l a o = true ∧ rightB l' a' o' = true ∧ s = steps l' o' - steps l o ∧ h = halves l' a' o' - halves l a o := by
  unfold between at k
  split at k
  · rename_i hr
    simp only [Bool.and_eq_true] at hr
    simp only [Prod.mk.injEq, and_true] at k
    exact ⟨hr.1, hr.2, k.1.symm, k.2.symm⟩
  · simp at k
theorem bounds {l a o : Int} (h : rightB l a o = true) : (-84 ≤ steps l o ∧ steps l o ≤ 90) ∧ (-147 ≤ halves l a o ∧ halves l a o ≤ 158) := by
  have := rightB_iff.1 h
  have := nat7_range l
  unfold steps halves
  omega
/-- Between two pitches nothing is too wide. -/
theorem between_within {l a o l' a' o' : Int} (h1 : rightB l a o = true) (h2 : rightB l' a' o' = true) (h : -200 ≤ steps l' o' - steps l o ∧ steps l' o' - steps l o ≤ 200) : withinB (steps l' o' - steps l o) (halves l' a' o' - halves l a o) = true := by
  have := bounds h1
  have := bounds h2
  rw [withinB_iff]; omega
theorem mirror_of {l a o l' a' o' : Int} (h1 : rightB l a o = true) (h2 : rightB l' a' o' = true) : mirror l a o l' a' o' = move l' a' o' (steps l' o' - steps l o) (halves l' a' o' - halves l a o) := by
  simp [mirror, h1, h2]
theorem mirror_ok {l a o l' a' o' x y z : Int} (k : mirror l a o l' a' o' = (x, y, z, 0)) :
    rightB l a o = true ∧ rightB l' a' o' = true ∧ rightB x y z = true ∧ steps x z = 2 * steps l' o' - steps l o ∧ halves x y z = 2 * halves l' a' o' - halves l a o := by
  unfold mirror at k
  split at k
  · rename_i hr
    simp only [Bool.and_eq_true] at hr
    have := move_ok k
    exact ⟨hr.1, hr.2, this.2.2.1, by omega, by omega⟩
  · simp at k
theorem mirror_within {l a o l' a' o' x y z : Int} (k : mirror l a o l' a' o' = (x, y, z, 0)) : withinB (steps l' o' - steps l o) (halves l' a' o' - halves l a o) = true := by
  unfold mirror at k
  split at k
  · exact (move_ok k).2.1
  · simp at k
/-- One pitch to its steps and half tones. -/
theorem one {l a o l' a' o' : Int} (h1 : rightB l a o = true) (h2 : rightB l' a' o' = true) (hs : steps l o = steps l' o') (hh : halves l a o = halves l' a' o') : l = l' ∧ a = a' ∧ o = o' := by
  have := rightB_iff.1 h1
  have := rightB_iff.1 h2
  unfold steps at hs
  unfold halves at hh
  have e1 : o = o' := by omega
  have e2 : l = l' := by omega
  subst e1 e2
  omega

/-! TWICE MIRRORED -/
theorem mirror_back {l a o l' a' o' x y z : Int} (k : mirror l a o l' a' o' = (x, y, z, 0)) : mirror x y z l' a' o' = (l, a, o, 0) := by
  obtain ⟨h1, h2, h3, h4, h5⟩ := mirror_ok k
  have hw := withinB_iff.1 (mirror_within k)
  rw [mirror_of h3 h2]
  refine move_of h2 ?_ h1 (by omega) (by omega)
  rw [withinB_iff]; omega
/-- Two mirrors move by twice what is between them. -/
theorem mirror_twice {l a o l' a' o' l2 a2 o2 x y z x' y' z' u v w : Int} (k : mirror l a o l' a' o' = (x, y, z, 0)) (k2 : mirror x y z l2 a2 o2 = (x', y', z', 0))
    (k3 : move l a o (2 * (steps l2 o2 - steps l' o')) (2 * (halves l2 a2 o2 - halves l' a' o')) = (u, v, w, 0)) : u = x' ∧ v = y' ∧ w = z' := by
  obtain ⟨h1, h2, h3, h4, h5⟩ := mirror_ok k
  obtain ⟨g1, g2, g3, g4, g5⟩ := mirror_ok k2
  obtain ⟨f1, f2, f3, f4, f5⟩ := move_ok k3
  exact one f3 g3 (by omega) (by omega)
/-- What is moved and mirrored is mirrored and moved back. -/
theorem mirror_moved {l a o l' a' o' x y z s h m1 m2 m3 n1 n2 n3 p1 p2 p3 : Int} (k : mirror l a o l' a' o' = (x, y, z, 0)) (k1 : move l a o s h = (m1, m2, m3, 0))
    (k2 : mirror m1 m2 m3 l' a' o' = (n1, n2, n3, 0)) (k3 : move x y z (-s) (-h) = (p1, p2, p3, 0)) : n1 = p1 ∧ n2 = p2 ∧ n3 = p3 := by
  obtain ⟨h1, h2, h3, h4, h5⟩ := mirror_ok k
  obtain ⟨g1, g2, g3, g4, g5⟩ := move_ok k1
  obtain ⟨f1, f2, f3, f4, f5⟩ := mirror_ok k2
  obtain ⟨d1, d2, d3, d4, d5⟩ := move_ok k3
  exact one f3 d3 (by omega) (by omega)

/-! INTERVALS MOVE PITCHES -/
theorem move_between {l a o l' a' o' : Int} (h1 : rightB l a o = true) (h2 : rightB l' a' o' = true) (h : withinB (steps l' o' - steps l o) (halves l' a' o' - halves l a o) = true) :
    move l a o (steps l' o' - steps l o) (halves l' a' o' - halves l a o) = (l', a', o', 0) := move_of h1 h h2 (by omega) (by omega)
theorem move_none {l a o : Int} (h1 : rightB l a o = true) : move l a o 0 0 = (l, a, o, 0) := move_of h1 (by rw [withinB_iff]; omega) h1 (by omega) (by omega)
theorem move_back {l a o s h l' a' o' : Int} (k : move l a o s h = (l', a', o', 0)) : between l a o l' a' o' = (s, h, 0) := by
  obtain ⟨h1, h2, h3, h4, h5⟩ := move_ok k
  rw [between_of h1 h3]
  simp only [Prod.mk.injEq, and_true]
  omega
theorem move_sum {l a o s h s' h' l' a' o' u v : Int} (k : move l a o s h = (l', a', o', 0)) (k2 : sum s h s' h' = (u, v, 0)) : move l' a' o' s' h' = move l a o u v := by
  obtain ⟨h1, h2, h3, h4, h5⟩ := move_ok k
  unfold sum at k2
  split at k2
  · rename_i hw
    simp only [Bool.and_eq_true] at hw
    simp only [Prod.mk.injEq, and_true] at k2
    obtain ⟨rfl, rfl⟩ := k2
    rw [move_at h3 hw.1.2, move_at h1 hw.2, h4, h5, Int.add_assoc, Int.add_assoc]
  · simp at k2
end Go.Proofs.YtlngkiipgkociaaGreatDoor.Pi
namespace Go.Proofs.YtlngkiipgkociaaGreatDoor.Pm
open Go Go.Proofs.YtlngkiipgkociaaGreatDoor.Pi

def letB : List UInt8 := [67, 68, 69, 70, 71, 65, 66]
def signL (a : Int) : List UInt8 :=
  if a = 1 then [226, 153, 175] else if a = 2 then [240, 157, 132, 170] else if a = 3 then [240, 157, 132, 170, 226, 153, 175]
  else if a = -1 then [226, 153, 173] else if a = -2 then [240, 157, 132, 171] else if a = -3 then [240, 157, 132, 171, 226, 153, 173] else []
/-- A pitch, written. -/
def printS (l a o : Int) : List UInt8 × Int := if rightB l a o = true then ((letB.drop l.toNat).take 1 ++ signL a ++ Lib.itoa o, 0) else ([], 2)
/-- What a rune alters; false: it is no sign. -/
def signB (r : Int) : Int × Bool :=
  if r = 9839 ∨ r = 35 then (1, true) else if r = 119082 ∨ r = 120 then (2, true) else if r = 9837 ∨ r = 98 then (-1, true) else if r = 119083 then (-2, true) else (0, false)
def digs : List UInt8 := [48, 49, 50, 51, 52, 53, 54, 55, 56, 57]
def atoiN (t : List UInt8) : Int := (Lib.atoi t).getD 0
def body (s : List UInt8) : List UInt8 := if Lib.hasPrefix s [45] = true then s.drop 1 else s
/-- Whether what stands behind the minus is no number. -/
def noNum (m : Bool) (t : List UInt8) : Prop := t = [] ∨ 4 < t.length ∨ ((t.getD 0 0).toNat = 48 ∧ (1 < t.length ∨ m = true)) ∨ Lib.trimS t digs ≠ []
instance (m : Bool) (t : List UInt8) : Decidable (noNum m t) := by unfold noNum; infer_instance
/-- A number without noughts ahead; false: it is none. -/
def numS (s : List UInt8) : Int × Bool :=
  if noNum (Lib.hasPrefix s [45]) (body s) then (0, false) else (if Lib.hasPrefix s [45] = true then 0 - atoiN (body s) else atoiN (body s), true)
def dec1 (l : List UInt8) : Nat := (Lib.decodeGo (st l)).1
def dec2 (l : List UInt8) : Nat := (Lib.decodeGo (st l)).2
/-- The signs at a text's beginning: whether they are fair, what they alter together, where they end. -/
def signsR (l : List UInt8) (a : Int) (n : Nat) : Bool × Int × Nat :=
  if _h : (signB (dec1 l)).2 = true ∧ 1 ≤ dec2 l ∧ 1 ≤ l.length then
    if (a + (signB (dec1 l)).1) * (signB (dec1 l)).1 < 0 ∨ 3 < max (a + (signB (dec1 l)).1) (0 - (a + (signB (dec1 l)).1)) then (false, a + (signB (dec1 l)).1, n)
    else signsR (l.drop (dec2 l)) (a + (signB (dec1 l)).1) (n + dec2 l)
  else (true, a, n)
termination_by l.length
decreasing_by rw [List.length_drop]; omega
/-- What stands behind the letter. -/
def behind (s : List UInt8) : Bool × Int × Nat := if Lib.hasPrefix (s.drop 1) [226, 153, 174] = true then (true, 0, 4) else signsR (s.drop 1) 0 1
/-- A pitch, read, and what is wrong with it where. -/
def readS (s : List UInt8) : (Int × Int × Int) × Int × Int :=
  if s = [] ∨ ¬ 0 ≤ Lib.indexByte letB (s.getD 0 0) then ((0, 0, 0), 2, 0)
  else if (behind s).1 = false then ((0, 0, 0), 3, (behind s).2.2)
  else if (numS (s.drop (behind s).2.2)).2 = false then ((0, 0, 0), 2, (behind s).2.2)
  else if rightB (Lib.indexByte letB (s.getD 0 0)) (behind s).2.1 (numS (s.drop (behind s).2.2)).1 = true then ((Lib.indexByte letB (s.getD 0 0), (behind s).2.1, (numS (s.drop (behind s).2.2)).1), 0, 0)
  else ((0, 0, 0), 3, (behind s).2.2)

/-! ### decoding -/
theorem dec_nil : dec1 [] = 65533 ∧ dec2 [] = 0 := ⟨rfl, rfl⟩
theorem dec2_pos {l : List UInt8} (h : l ≠ []) : 1 ≤ dec2 l := by
  have hs : (st l).size ≠ 0 := by
    intro e
    exact h (List.length_eq_zero_iff.1 e)
  unfold dec2 Lib.decodeGo
  rw [if_neg hs]
  unfold Utf8.decode
  dsimp only
  repeat' split
  all_goals first | decide | (show 1 ≤ _; omega)
theorem dec2_le (l : List UInt8) : dec2 l ≤ l.length := by
  by_cases h : l = []
  · subst h; exact Nat.le_refl 0
  have hs : (st l).size ≠ 0 := by
    intro e
    exact h (List.length_eq_zero_iff.1 e)
  have hl : (st l).size = l.length := rfl
  unfold dec2 Lib.decodeGo
  rw [if_neg hs]
  unfold Utf8.decode
  dsimp only
  repeat' split
  all_goals simp only [Bool.and_eq_true, decide_eq_true_eq] at *
  all_goals omega
theorem sign_some {l : List UInt8} (h : (signB (dec1 l)).2 = true) : l ≠ [] ∧ 1 ≤ dec2 l ∧ 1 ≤ l.length := by
  have h1 : l ≠ [] := by
    rintro rfl
    revert h
    decide
  exact ⟨h1, dec2_pos h1, by cases l with | nil => exact absurd rfl h1 | cons a l => simp⟩
theorem signsR_end {l : List UInt8} {a : Int} {n : Nat} (h : ¬ (signB (dec1 l)).2 = true) : signsR l a n = (true, a, n) := by
  rw [signsR, dif_neg (fun c => h c.1)]
theorem signsR_bad {l : List UInt8} {a : Int} {n : Nat} (h : (signB (dec1 l)).2 = true) (hb : (a + (signB (dec1 l)).1) * (signB (dec1 l)).1 < 0 ∨ 3 < max (a + (signB (dec1 l)).1) (0 - (a + (signB (dec1 l)).1))) : signsR l a n = (false, a + (signB (dec1 l)).1, n) := by
  rw [signsR, dif_pos ⟨h, (sign_some h).2⟩, if_pos hb]
theorem signsR_on {l : List UInt8} {a : Int} {n : Nat} (h : (signB (dec1 l)).2 = true) (hb : ¬ ((a + (signB (dec1 l)).1) * (signB (dec1 l)).1 < 0 ∨ 3 < max (a + (signB (dec1 l)).1) (0 - (a + (signB (dec1 l)).1)))) : signsR l a n = signsR (l.drop (dec2 l)) (a + (signB (dec1 l)).1) (n + dec2 l) := by
  rw [signsR, dif_pos ⟨h, (sign_some h).2⟩, if_neg hb]
theorem signB_bd (r : Int) : -2 ≤ (signB r).1 ∧ (signB r).1 ≤ 2 := by
  unfold signB
  repeat' split
  all_goals decide
theorem dropWhile_nil {p : UInt8 → Bool} : ∀ {l : List UInt8}, l.dropWhile p = [] → ∀ b ∈ l, p b = true
  | [], _, b, hb => by simp at hb
  | a :: l, h, b, hb => by
    by_cases ha : p a = true
    · rw [List.dropWhile_cons_of_pos ha] at h
      rcases List.mem_cons.1 hb with rfl | hb
      · exact ha
      · exact dropWhile_nil h b hb
    · rw [List.dropWhile_cons_of_neg ha] at h
      cases h
theorem takeWhile_mem {p : UInt8 → Bool} : ∀ {l : List UInt8}, ∀ b ∈ l.takeWhile p, p b = true
  | [], b, hb => by simp at hb
  | a :: l, b, hb => by
    by_cases ha : p a = true
    · rw [List.takeWhile_cons_of_pos ha] at hb
      rcases List.mem_cons.1 hb with rfl | hb
      · exact ha
      · exact takeWhile_mem b hb
    · rw [List.takeWhile_cons_of_neg ha] at hb
      cases hb
/-- Digits alone: they have a value. -/
theorem trim_all {t : List UInt8} (h : Lib.trimS t digs = []) : ∀ b ∈ t, b ∈ digs := by
  unfold Lib.trimS Lib.trimLeftS Lib.trimRightS at h
  replace h := dropWhile_nil h
  intro b hb
  have hb' : b ∈ t.reverse := by simpa using hb
  rw [← List.takeWhile_append_dropWhile (p := fun x => digs.contains x) (l := t.reverse), List.mem_append] at hb'
  rcases hb' with hb' | hb'
  · have := takeWhile_mem b hb'
    simpa using this
  · have := h b (by simpa using hb')
    simpa using this
theorem dig_val {b : UInt8} (h : b ∈ digs) : ∃ d, Lib.digitVal b = some d ∧ d ≤ 9 ∧ b.toNat = 48 + d := by
  have : ∀ b ∈ digs, ∃ d : Fin 10, Lib.digitVal b = some d.1 ∧ b.toNat = 48 + d.1 := by decide
  obtain ⟨d, h1, h2⟩ := this b h
  exact ⟨d.1, h1, by omega, h2⟩
theorem dec_from : ∀ {t : List UInt8} {acc : Nat}, (∀ b ∈ t, b ∈ digs) → ∃ n, Lib.decFrom acc t = some n ∧ n < (acc + 1) * 10 ^ t.length
  | [], acc, _ => ⟨acc, rfl, by simp⟩
  | b :: r, acc, h => by
    obtain ⟨d, h1, h2, _⟩ := dig_val (h b (by simp))
    obtain ⟨n, h3, h4⟩ := dec_from (t := r) (acc := acc * 10 + d) (fun c hc => h c (by simp [hc]))
    refine ⟨n, ?_, ?_⟩
    · simp only [Lib.decFrom, h1]
      exact h3
    · rw [List.length_cons, Nat.pow_succ]
      have hp := Nat.pow_pos (n := r.length) (show 0 < 10 by decide)
      have : (acc * 10 + d + 1) * 10 ^ r.length ≤ (acc + 1) * (10 ^ r.length * 10) := by
        rw [Nat.mul_comm (10 ^ r.length) 10, ← Nat.mul_assoc]
        exact Nat.mul_le_mul_right _ (by omega)
      omega
theorem digs_val {t : List UInt8} (h0 : t ≠ []) (h : ∀ b ∈ t, b ∈ digs) : ∃ n : Nat, Lib.atoi t = some (n : Int) ∧ n < 10 ^ t.length := by
  cases t with
  | nil => exact absurd rfl h0
  | cons b r =>
    obtain ⟨d, _, h2, h3⟩ := dig_val (h b (by simp))
    obtain ⟨n, h4, h5⟩ := dec_from (acc := 0) h
    refine ⟨n, ?_, by simpa using h5⟩
    have e1 : (b == 45) = false := by
      rw [beq_eq_false_iff_ne]; rintro rfl
      have : (45 : UInt8).toNat = 45 := rfl
      omega
    have e2 : (b == 43) = false := by
      rw [beq_eq_false_iff_ne]; rintro rfl
      have : (43 : UInt8).toNat = 43 := rfl
      omega
    simp only [Lib.atoi, e1, e2, Lib.decNat, Bool.false_eq_true, if_false, List.isEmpty_cons, h4]
    rfl
/-- What is a number has a value: small. -/
theorem num_val {m : Bool} {t : List UInt8} (h : ¬ noNum m t) : Lib.atoi t = some (atoiN t) ∧ 0 ≤ atoiN t ∧ atoiN t ≤ 9999 ∧ t.length ≤ 4 ∧ 1 ≤ t.length := by
  unfold noNum at h
  simp only [not_or] at h
  obtain ⟨h1, h2, _, h4⟩ := h
  obtain ⟨n, h5, h6⟩ := digs_val h1 (trim_all (by simpa using h4))
  have h7 : (10 : Nat) ^ t.length ≤ 10 ^ 4 := Nat.pow_le_pow_right (by decide) (by omega)
  have h8 : 1 ≤ t.length := by cases t with | nil => exact absurd rfl h1 | cons a l => simp
  unfold atoiN
  rw [h5]
  refine ⟨rfl, ?_, ?_, by omega, h8⟩
  · show (0 : Int) ≤ n; omega
  · show (n : Int) ≤ 9999; omega
theorem digs_ascii : ∀ (j : Nat) b, digs[j]? = some b → b.toNat < 128 := by
  intro j b h
  have : ∀ b ∈ digs, b.toNat < 128 := by decide
  exact this b (List.mem_of_getElem? h)
theorem pre_len {s : List UInt8} (h : Lib.hasPrefix s [45] = true) : 1 ≤ s.length := by
  cases s with
  | nil => cases h
  | cons a l => simp
theorem body_min {s : List UInt8} (h : Lib.hasPrefix s [45] = true) : body s = s.drop 1 := if_pos h
theorem body_plain {s : List UInt8} (h : ¬ Lib.hasPrefix s [45] = true) : body s = s := if_neg h
theorem noNum_not {m : Bool} {t : List UInt8} (h1 : ¬ t = []) (h2 : ¬ (4 : Int) < ((t.length : Nat) : Int)) (h3 : ¬ (((t.getD 0 0).toNat : Nat) : Int) = 48 ∨ (¬ (1 : Int) < ((t.length : Nat) : Int) ∧ ¬ m = true)) (h4 : Lib.trimS t digs = []) : ¬ noNum m t := by
  unfold noNum
  rintro (h | h | ⟨h5, h6⟩ | h)
  · exact h1 h
  · omega
  · rcases h3 with h3 | ⟨h3, h7⟩
    · omega
    · rcases h6 with h6 | h6
      · omega
      · exact h7 h6
  · exact h h4
theorem numS_no {s : List UInt8} (h : noNum (Lib.hasPrefix s [45]) (body s)) : numS s = (0, false) := if_pos h
theorem numS_neg {s : List UInt8} (h : ¬ noNum (Lib.hasPrefix s [45]) (s.drop 1)) (h1 : Lib.hasPrefix s [45] = true) : numS s = (0 - atoiN (s.drop 1), true) := by
  unfold numS; rw [body_min h1, if_neg h, if_pos h1]
theorem numS_pos {s : List UInt8} (h : ¬ noNum (Lib.hasPrefix s [45]) s) (h1 : ¬ Lib.hasPrefix s [45] = true) : numS s = (atoiN s, true) := by
  unfold numS; rw [body_plain h1, if_neg h, if_neg h1]
theorem printS_at {l a o : Int} {S : List UInt8} (h : rightB l a o = true) (hs : signL a = S) : printS l a o = ((letB.drop l.toNat).take 1 ++ S ++ Lib.itoa o, 0) := by unfold printS; rw [if_pos h, hs]
theorem printS_no {l a o : Int} (h : ¬ rightB l a o = true) : printS l a o = ([], 2) := if_neg h
theorem letter_cut {l : Int} (h : 0 ≤ l) : (st letB).extract (l : Int).toNat (l + 1 : Int).toNat = st ((letB.drop l.toNat).take 1) := by
  rw [st_cut, show (l + 1 : Int).toNat - (l : Int).toNat = 1 from by omega]
theorem letter_len (l : Int) : ((letB.drop l.toNat).take 1).length ≤ 1 := by rw [List.length_take]; omega
theorem itoa_len {o : Int} (h0 : -1000 ≤ o) (h1 : o ≤ 1000) : (Lib.itoa o).length ≤ 21 := Lib.itoa_length_le o (by omega) (by omega)
theorem len_pos {s : List UInt8} (h : ¬ s = []) : 1 ≤ s.length := List.length_pos_iff.2 h
theorem first_cut {s : List UInt8} (h : ¬ s = []) : (st s).extract (0 : Int).toNat (1 : Int).toNat = st [s.getD 0 0] := by
  cases s with
  | nil => exact absurd rfl h
  | cons a l => exact st_upto _ 1
theorem pre3_len {s : List UInt8} (h : Lib.hasPrefix s [226, 153, 174] = true) : 3 ≤ s.length := by
  unfold Lib.hasPrefix at h
  have := (List.isPrefixOf_iff_prefix.1 h).length_le
  simpa using this
theorem mul_small {x y : Int} (h1 : -5 ≤ x) (h2 : x ≤ 5) (h3 : -2 ≤ y) (h4 : y ≤ 2) : -10 ≤ x * y ∧ x * y ≤ 10 := by
  have h5 : y = -2 ∨ y = -1 ∨ y = 0 ∨ y = 1 ∨ y = 2 := by omega
  rcases h5 with rfl | rfl | rfl | rfl | rfl <;> omega
theorem readS_no0 {s : List UInt8} (h : s = [] ∨ ¬ 0 ≤ Lib.indexByte letB (s.getD 0 0)) : readS s = ((0, 0, 0), 2, 0) := if_pos h
section
variable {s : List UInt8} {a : Int} {n : Nat} (h0 : ¬ s = []) (h1 : 0 ≤ Lib.indexByte letB (s.getD 0 0))
include h0 h1
theorem readS_bad (hb : behind s = (false, a, n)) : readS s = ((0, 0, 0), 3, (n : Int)) := by
  unfold readS; rw [if_neg (by rintro (h | h); exact h0 h; exact h h1), hb, if_pos rfl]
theorem readS_num (hb : behind s = (true, a, n)) (h2 : ¬ (numS (s.drop n)).2 = true) : readS s = ((0, 0, 0), 2, (n : Int)) := by
  unfold readS; rw [if_neg (by rintro (h | h); exact h0 h; exact h h1), hb, if_neg (fun h => Bool.noConfusion h), if_pos (eq_false_of_ne_true h2)]
theorem readS_yes (hb : behind s = (true, a, n)) (h2 : (numS (s.drop n)).2 = true) (h3 : rightB (Lib.indexByte letB (s.getD 0 0)) a (numS (s.drop n)).1 = true) : readS s = ((Lib.indexByte letB (s.getD 0 0), a, (numS (s.drop n)).1), 0, 0) := by
  unfold readS; rw [if_neg (by rintro (h | h); exact h0 h; exact h h1), hb, if_neg (fun h => Bool.noConfusion h), if_neg (by rw [h2]; decide), if_pos h3]
theorem readS_out (hb : behind s = (true, a, n)) (h2 : (numS (s.drop n)).2 = true) (h3 : ¬ rightB (Lib.indexByte letB (s.getD 0 0)) a (numS (s.drop n)).1 = true) : readS s = ((0, 0, 0), 3, (n : Int)) := by
  unfold readS; rw [if_neg (by rintro (h | h); exact h0 h; exact h h1), hb, if_neg (fun h => Bool.noConfusion h), if_neg (by rw [h2]; decide), if_neg h3]
end
theorem behind_nat {s : List UInt8} (h : Lib.hasPrefix (s.drop 1) [226, 153, 174] = true) : behind s = (true, 0, 4) := if_pos h
theorem behind_signs {s : List UInt8} {r : Bool × Int × Nat} (h : ¬ Lib.hasPrefix (s.drop 1) [226, 153, 174] = true) {a : Int} {n : Nat} (hS : signsR (s.drop n) a n = signsR (s.drop 1) 0 1) (hr : signsR (s.drop n) a n = r) : behind s = r := by
  unfold behind; rw [if_neg h, ← hS, hr]
theorem num_bd (s : List UInt8) : -9999 ≤ (numS s).1 ∧ (numS s).1 ≤ 9999 := by
  unfold numS
  split
  · decide
  · rename_i h
    have := num_val h
    split
    · show -9999 ≤ 0 - atoiN (body s) ∧ 0 - atoiN (body s) ≤ 9999; omega
    · show -9999 ≤ atoiN (body s) ∧ atoiN (body s) ≤ 9999; omega
end Go.Proofs.YtlngkiipgkociaaGreatDoor.Pm
namespace Go.Proofs.YtlngkiipgkociaaGreatDoor
open Go.RowKit

theorem ret_int {k : IntKind} {a b : Int} (h : a = b) : Ending.returned (.int k a) = .returned (.int k b) := by rw [h]
theorem ret_bool {a b : Bool} (h : a = b) : Ending.returned (.bool a) = .returned (.bool b) := by rw [h]
theorem bcell {W w1 : World} (hb : Below W.heap.size W w1) :
    (∀ b o, b < W.heap.size → w1.cell? ⟨b, o, none⟩ = W.cell? ⟨b, o, none⟩) ∧ (∀ b o, b < W.heap.size → w1.frozen? ⟨b, o, none⟩ = W.frozen? ⟨b, o, none⟩) :=
  ⟨fun b o h => hb.cell (p := ⟨b, o, none⟩) h, fun b o h => hb.frozen (p := ⟨b, o, none⟩) h⟩
theorem below_drewN {B : Nat} {a w : World} (h : Below B a w) (n : Nat) : Below B a (w.drewN n) := ⟨h.os, h.tape, h.output, h.size, h.block⟩
theorem below_then {a w w' : World} (h : Below w.heap.size w w') (k : Below a.heap.size a w) : Below a.heap.size a w' := k.trans (h.mono k.size)
theorem below_new {a w : World} (k : Below a.heap.size a w) (o : Obj) : Below a.heap.size a (w.alloc o) := k.alloc k.size o
theorem size_then {w w' : World} {n : Nat} (h : Below w.heap.size w w') (hn : n ≤ w.heap.size) : n ≤ w'.heap.size := Nat.le_trans hn h.size
theorem cell_then {W w' : World} {a : Addr} {v : Value} (h : W.cell? a = some v) (hb : Below W.heap.size W w') : w'.cell? a = some v :=
  (hb.cell (World.block_lt_of_cell? W _ h)).trans h
/-- A callee that leaves the world alone, met in a quiet region. -/
theorem quiet_left {P : Program} {f : FuncId} {args : Array Value} {w : World} {n : Nat} {v : Value}
    (h : Calls P f args (w.drewN n) fun e w' => e = .returned v ∧ w.drewN n = w') : Calls P f args (w.drewN n) fun e w'' => e = .returned v ∧ ∃ m, w'' = w.drewN m :=
  h.mono fun _ _ ⟨he, hm⟩ => ⟨he, n, hm.symm⟩
theorem quiet_add {P : Program} {f : FuncId} {args : Array Value} {w : World} {a n : Nat} {v : Value}
    (h : Calls P f args (w.drewN (a + n)) fun e w' => e = .returned v ∧ ∃ m, w' = (w.drewN (a + n)).drewN m) :
    Calls P f args (w.drewN (a + n)) fun e w'' => e = .returned v ∧ ∃ m, w'' = w.drewN (a + m) :=
  h.mono fun _ _ ⟨he, m, hm⟩ => ⟨he, n + m, by rw [hm, World.drewN_drewN, Nat.add_assoc]⟩
theorem quiet_add_left {P : Program} {f : FuncId} {args : Array Value} {w : World} {a n : Nat} {v : Value}
    (h : Calls P f args (w.drewN (a + n)) fun e w' => e = .returned v ∧ w.drewN (a + n) = w') :
    Calls P f args (w.drewN (a + n)) fun e w'' => e = .returned v ∧ ∃ m, w'' = w.drewN (a + m) :=
  h.mono fun _ _ ⟨he, hm⟩ => ⟨he, n, hm.symm⟩

end Go.Proofs.YtlngkiipgkociaaGreatDoor
namespace Go.Proofs.YtlngkiipgkociaaGreatDoor
open Go

section
variable {P : Program} {ops : Array Oper} {md : Region.Mode} {C : World → Prop}

/-- Whatever order is picked for the first n operations; then L. -/
def wpAnyC (P : Program) (md : Region.Mode) (ops : Array Oper) (C : World → Prop) (n : Nat) (L : Array Bool → Act → Prop) : Nat → Array Bool → Act → Prop
  | 0, listed, a => L listed a
  | f + 1, listed, a => Region.ready md ops listed ≠ [] ∧ ∀ i ∈ Region.ready md ops listed, i < n ∧ qOp P ops C i (wpAnyC P md ops C n L f (listed.setIfInBounds i true)) a

theorem wpAny_of_headC {n g : Nat} {L : Array Bool → Act → Prop} {Q' : Exit → Act → World → Prop} (hL : ∀ listed a w, C w → L listed a → wpAny P md ops Q' g listed a w) :
    ∀ (f : Nat) (listed : Array Bool) (a : Act) (w : World), C w → wpAnyC P md ops C n L f listed a → wpAny P md ops Q' (f + g) listed a w
  | 0, _, _, _, hw, h => by rw [Nat.zero_add]; exact hL _ _ _ hw h
  | f + 1, _, _, _, hw, h => by
    rw [show f + 1 + g = (f + g) + 1 by omega]
    exact ⟨fun h0 => absurd h0 h.1, fun i hi => wpOp_of_qOp hw (fun a' w' hw' h' => wpAny_of_headC hL f _ a' w' hw' h') (h.2 i hi).2⟩

theorem wpAnyC_first {n i : Nat} {oi : Oper} {v : Value} {L : Array Bool → Act → Prop} (hi : ops[i]? = some oi) (hsel : ∀ (j : Nat) (o : Oper) cs b, ops[j]? = some o → o.op ≠ .select cs b)
    (hs : Region.sinkB md ops n = true) (hc : Region.chainB md ops n = true) (hn : n < ops.size) (hin : i < n)
    (hdone : ∀ listed a, L listed a → ∀ j ∈ Region.ready md ops listed, n ≤ j) :
    ∀ (f : Nat) (listed : Array Bool) (a : Act), HeadInv md ops n listed →
      (∀ j oj, ops[j]? = some oj → j ≠ i → listed.getD j true = false → (∀ e ∈ oj.after, Region.binds md e = true → e.on ≠ i) → oi.apart ops oj = true) →
      i ∈ Region.ready md ops listed → YieldsIn P ops C oi v a →
      wpAnyC P md ops C n L f (listed.setIfInBounds i true) (a.put oi.dst v) → wpAnyC P md ops C n L (f + 1) listed a := by
  intro f
  induction f with
  | zero =>
    intro listed a inv _ hr hy H
    have hun := (mem_ready.1 hr).1
    refine ⟨fun h => (by rw [h] at hr; cases hr), fun j hj => ?_⟩
    have hjn : j < n := by
      rcases Nat.lt_or_ge j n with h | h
      · exact h
      · exact absurd hj (tail_waits hs hc hn inv _ i rfl hin hun j h)
    refine ⟨hjn, ?_⟩
    by_cases hji : j = i
    · subst hji; exact hy.qOp hi H
    · have := hdone _ _ H j (ready_mono hj hji)
      omega
  | succ f ih =>
    intro listed a inv hfree hr hy H
    have hun := (mem_ready.1 hr).1
    refine ⟨fun h => (by rw [h] at hr; cases hr), fun j hj => ?_⟩
    have hjn : j < n := by
      rcases Nat.lt_or_ge j n with h | h
      · exact h
      · exact absurd hj (tail_waits hs hc hn inv _ i rfl hin hun j h)
    refine ⟨hjn, ?_⟩
    by_cases hji : j = i
    · subst hji; exact hy.qOp hi H
    · have h1 := (H.2 j (ready_mono hj hji)).2
      obtain ⟨hjun, oj, hoj, hall⟩ := mem_ready.1 hj
      have hnot : ∀ e ∈ oj.after, Region.binds md e = true → e.on ≠ i := fun e he hb heq => by
        have h1 := hall e he hb
        rw [heq, getD_both hun] at h1
        cases h1
      have h2 := qOp_put hoj (hfree j oj hoj hji hjun hnot) (fun cs b => hsel i oi cs b hi) (fun cs b => hsel j oj cs b hoj) hy h1
      have hfree' : ∀ k ok, ops[k]? = some ok → k ≠ i → (listed.setIfInBounds j true).getD k true = false →
          (∀ e ∈ ok.after, Region.binds md e = true → e.on ≠ i) → oi.apart ops ok = true := fun k ok hk hki hun hno => by
        refine hfree k ok hk hki ?_ hno
        by_cases hjk : j = k
        · subst hjk; exact hjun
        · rw [getD_set_ne true hjk] at hun; exact hun
      refine qOp_mono (fun a' h3 => ih (listed.setIfInBounds j true) a' (inv.set hj hjn) hfree' (ready_mono hr (Ne.symm hji)) h3.1 ?_) h2
      rw [Array.setIfInBounds_comm _ _ hji]
      exact h3.2

theorem wpAnyC_lex {n g : Nat} {Lq : Act → Prop} (hsel : Region.noSelect ops = true) (hs : Region.sinkB md ops n = true) (hc : Region.chainB md ops n = true) (hn : n < ops.size) :
    ∀ (l : List Oper) (k : Nat) (listed : Array Bool) (a : Act), (∀ j, j < l.length → l[j]? = ops[k + j]?) → k + l.length = n → HeadInv md ops n listed →
    Region.lexHead md ops g l.length k listed = true → wpQuiet P ops C Lq l a →
    wpAnyC P md ops C n (fun listed' a' => Region.seqB md ops g n listed' = true ∧ Lq a') l.length listed a
  | [], k, _, _, _, hk, _, hB, h => by
    have : k = n := by simpa using hk
    subst this
    exact ⟨by simpa [Region.lexHead] using hB, h⟩
  | o :: l, k, listed, a, hl, hk, inv, hB, h => by
    have h0 : ops[k]? = some o := by simpa using (hl 0 (by simp)).symm
    simp only [List.length_cons, Region.lexHead, Bool.and_eq_true] at hB
    obtain ⟨⟨hr, hf⟩, hB'⟩ := hB
    have hkn : k < n := by simp only [List.length_cons] at hk; omega
    have hr' : k ∈ Region.ready md ops listed := by simpa using hr
    have hst : qOp P ops C k (wpQuiet P ops C Lq l) a := by unfold qOp; simp only [h0]; exact h
    obtain ⟨v, hy, hK⟩ := yieldsIn_of_qOp h0 hst
    exact wpAnyC_first h0 (Region.noSelect_spec hsel) hs hc hn hkn (fun listed' a' hL => seqB_ready hL.1) l.length listed a inv (Region.free_spec h0 hf) hr' hy
      (wpAnyC_lex hsel hs hc hn l (k + 1) _ _ (fun j hj => by have := hl (j + 1) (by simp; omega); simpa [Nat.add_assoc, Nat.add_comm 1 j] using this) (by simp only [List.length_cons] at hk; omega) (inv.set hr' hkn) hB' hK)

/-- THE FIRST n OPERATIONS QUIET IN C, THE REST FORCED: one walk. -/
theorem wp_region_class_tail {id : Nat} {Q : Exit → Act → World → Prop} {a : Act} {w : World} {l : List Oper} (C : World → Prop) (n : Nat) (hm : P.follows .mixedOrders = true) (hB : Region.lexTailB .any l.toArray n = true)
    (hC : C { w with drawn := w.drawn + 1 })
    (h : wpQuiet P l.toArray C (fun a' => ∀ w', C w' → wpList P l.toArray Q (l.drop n) a' w') (l.take n) a) : (Code.region id l.toArray true).wp P Q a w := by
  simp only [Region.lexTailB, Bool.and_eq_true, decide_eq_true_eq] at hB
  obtain ⟨⟨⟨⟨hsel, hn⟩, hs⟩, hc⟩, hlex⟩ := hB
  have hn' : n < l.length := by simpa using hn
  have htl : (l.take n).length = n := by simp; omega
  have hdl : (l.drop n).length = l.toArray.size - n := by simp
  have inv0 : HeadInv .any l.toArray n (Array.replicate l.toArray.size false) :=
    ⟨by simp, fun j oj _ hl => (by rw [getD_replicate_false] at hl; cases hl), fun t _ ht => getD_in (by simpa using ht) (getD_replicate_false _ _)⟩
  have H := wpAnyC_lex (md := .any) (g := l.toArray.size - n) hsel hs hc hn (l.take n) 0 _ a (fun j hj => by
    have hj' : j < n := by rw [htl] at hj; exact hj
    simp [hj']) (by simpa using htl) inv0 (by rw [htl]; exact hlex) h
  refine wp_region_any hm ?_
  have := wpAny_of_headC (Q' := Q) (g := l.toArray.size - n) (fun listed a' w' hw' hL => by
    have := wpAny_of_seq (md := .any) (Q' := Q) (l.drop n) n listed a' w' (fun j => by simp [List.getElem?_drop]) (by rw [hdl]; exact hL.1) (hL.2 w' hw')
    rwa [hdl] at this) _ _ _ _ hC H
  rw [htl, show n + (l.toArray.size - n) = l.toArray.size by omega] at this
  exact this

end

/-- A world with more in it: what was there is as it was. -/
structure Ext (w : World) where
  u : World
  h : RowKit.Below w.heap.size w u
instance Ext.some_ (w : World) : Nonempty (Ext w) := ⟨⟨w, RowKit.Below.refl _ _⟩⟩
theorem Ext.cells (w : World) : ∀ (d : Ext w) (b o : Nat), b < w.heap.size → d.u.cell? ⟨b, o, none⟩ = w.cell? ⟨b, o, none⟩ := fun d b o h => d.h.cell (p := ⟨b, o, none⟩) h

section
variable {P : Program}
theorem wp_region_ext_tail {id : Nat} {Q : Exit → Act → World → Prop} {a : Act} {w : World} {l : List Oper} (n : Nat) (hm : P.follows .mixedOrders = true) (hB : Region.lexTailB .any l.toArray n = true)
    (h : wpQuiet P l.toArray (fun w' => ∃ d : Ext w, w' = d.u) (fun a' => ∀ w', (∃ d : Ext w, w' = d.u) → wpList P l.toArray Q (l.drop n) a' w') (l.take n) a) :
    (Code.region id l.toArray true).wp P Q a w :=
  wp_region_class_tail (fun w' => ∃ d : Ext w, w' = d.u) n hm hB ⟨⟨{ w with drawn := w.drawn + 1 }, rfl, rfl, rfl, Nat.le_refl _, fun _ _ => rfl⟩, rfl⟩ h
theorem wp_region_ext {id : Nat} {Q : Exit → Act → World → Prop} {a : Act} {w : World} {l : List Oper} (hm : P.follows .mixedOrders = true) (hB : Region.lexB .any l.toArray = true)
    (h : wpQuiet P l.toArray (fun w' => ∃ d : Ext w, w' = d.u) (fun a' => ∀ w', (∃ d : Ext w, w' = d.u) → Q .normal a' w') l a) :
    (Code.region id l.toArray true).wp P Q a w :=
  wp_region_quiet (C := fun w' => ∃ d : Ext w, w' = d.u) hm hB ⟨⟨{ w with drawn := w.drawn + 1 }, rfl, rfl, rfl, Nat.le_refl _, fun _ _ => rfl⟩, rfl⟩ (by simpa using h)
/-- A call in such a region, by the callee's contract. -/
theorem ext_call {f : FuncId} {args : Array Value} {w : World} {d : Ext w} {v : Value} (h : Calls P f args d.u fun e w' => e = .returned v ∧ RowKit.Below d.u.heap.size d.u w') :
    Calls P f args d.u fun e w'' => e = .returned v ∧ ∃ d' : Ext w, w'' = d'.u :=
  h.mono fun _ w' ⟨he, hb⟩ => ⟨he, ⟨w', d.h.trans (hb.mono d.h.size)⟩, rfl⟩
theorem ext_same {f : FuncId} {args : Array Value} {w : World} {d : Ext w} {v : Value} (h : Calls P f args d.u fun e w' => e = .returned v ∧ d.u = w') :
    Calls P f args d.u fun e w'' => e = .returned v ∧ ∃ d' : Ext w, w'' = d'.u :=
  h.mono fun _ _ ⟨he, hb⟩ => ⟨he, d, hb.symm⟩
theorem ext_drewN {f : FuncId} {args : Array Value} {w : World} {d : Ext w} {v : Value} (h : Calls P f args d.u fun e w' => e = .returned v ∧ ∃ n, w' = d.u.drewN n) :
    Calls P f args d.u fun e w'' => e = .returned v ∧ ∃ d' : Ext w, w'' = d'.u :=
  h.mono fun _ w' ⟨he, n, hb⟩ => ⟨he, ⟨w', by subst hb; exact ⟨d.h.os, d.h.tape, d.h.output, d.h.size, d.h.block⟩⟩, rfl⟩
end
end Go.Proofs.YtlngkiipgkociaaGreatDoor
namespace Go.Proofs.YtlngkiipgkociaaGreatDoor.Pi
open Go.RowKit

def I64 (n : Int) : Prop := -9223372036854775808 ≤ n ∧ n ≤ 9223372036854775807
theorem one_ {n m : Nat} (h : n + 1 ≤ m) : n < m := h
theorem nat7_0 : nat7 0 = 0 := rfl

set_option maxHeartbeats 1000000 in
theorem natural_any (l : Int) (w : World) :
    Calls Tryz.prog 19 #[.int .i64 l] w fun e w' => e = .returned (.int .i64 (nat7 l)) ∧ w = w' := by
  have h : l = 0 ∨ l = 1 ∨ l = 2 ∨ l = 3 ∨ l = 4 ∨ l = 5 ∨ (¬ l = 0 ∧ ¬ l = 1 ∧ ¬ l = 2 ∧ ¬ l = 3 ∧ ¬ l = 4 ∧ ¬ l = 5) := by omega
  rcases h with rfl | rfl | rfl | rfl | rfl | rfl | ⟨h0, h1, h2, h3, h4, h5⟩
  all_goals
    go_enter Tryz.func19, Tryz.ntmps19
    go_wp2
    go_ret
    exact ⟨ret_int (by unfold nat7; omega), rfl⟩

set_option maxHeartbeats 1000000 in
theorem right_any (l a o : Int) (w : World) :
    Calls Tryz.prog 12 #[.agg #[.int .i64 l, .int .i64 a, .int .i64 o]] w fun e w' => e = .returned (.bool (rightB l a o)) ∧ Below w.heap.size w w' := by
  by_cases h1 : 0 ≤ l
  · by_cases h2 : l < 7
    · by_cases h3 : -3 ≤ a
      · by_cases h4 : a ≤ 3
        · by_cases h5 : -12 ≤ o
          · go_enter Tryz.func12, Tryz.ntmps12
            go_wp2
            go_ret
            refine ⟨ret_bool ?_, (by repeat (first | exact Below.refl _ _ | assumption | refine below_drewN ?_ _ | refine Below.drew ?_ | refine below_new ?_ _ | refine Below.setCell ?_ (by first | omega | (simp <;> omega)) _ | refine below_then (by assumption) ?_))⟩
            rw [Bool.eq_iff_iff, rightB_iff]; simp; omega
          · go_enter Tryz.func12, Tryz.ntmps12
            go_wp2
            go_ret
            refine ⟨ret_bool ?_, (by repeat (first | exact Below.refl _ _ | assumption | refine below_drewN ?_ _ | refine Below.drew ?_ | refine below_new ?_ _ | refine Below.setCell ?_ (by first | omega | (simp <;> omega)) _ | refine below_then (by assumption) ?_))⟩
            rw [eq_comm, ← Bool.not_eq_true, rightB_iff]; omega
        · go_enter Tryz.func12, Tryz.ntmps12
          go_wp2
          go_ret
          refine ⟨ret_bool ?_, (by repeat (first | exact Below.refl _ _ | assumption | refine below_drewN ?_ _ | refine Below.drew ?_ | refine below_new ?_ _ | refine Below.setCell ?_ (by first | omega | (simp <;> omega)) _ | refine below_then (by assumption) ?_))⟩
          rw [eq_comm, ← Bool.not_eq_true, rightB_iff]; omega
      · go_enter Tryz.func12, Tryz.ntmps12
        go_wp2
        go_ret
        refine ⟨ret_bool ?_, (by repeat (first | exact Below.refl _ _ | assumption | refine below_drewN ?_ _ | refine Below.drew ?_ | refine below_new ?_ _ | refine Below.setCell ?_ (by first | omega | (simp <;> omega)) _ | refine below_then (by assumption) ?_))⟩
        rw [eq_comm, ← Bool.not_eq_true, rightB_iff]; omega
    · go_enter Tryz.func12, Tryz.ntmps12
      go_wp2
      go_ret
      refine ⟨ret_bool ?_, (by repeat (first | exact Below.refl _ _ | assumption | refine below_drewN ?_ _ | refine Below.drew ?_ | refine below_new ?_ _ | refine Below.setCell ?_ (by first | omega | (simp <;> omega)) _ | refine below_then (by assumption) ?_))⟩
      rw [eq_comm, ← Bool.not_eq_true, rightB_iff]; omega
  · go_enter Tryz.func12, Tryz.ntmps12
    go_wp2
    go_ret
    refine ⟨ret_bool ?_, (by repeat (first | exact Below.refl _ _ | assumption | refine below_drewN ?_ _ | refine Below.drew ?_ | refine below_new ?_ _ | refine Below.setCell ?_ (by first | omega | (simp <;> omega)) _ | refine below_then (by assumption) ?_))⟩
    rw [eq_comm, ← Bool.not_eq_true, rightB_iff]; omega

theorem nat7_lo (l : Int) : 0 ≤ nat7 l := (nat7_range l).1
theorem nat7_hi (l : Int) : nat7 l ≤ 11 := (nat7_range l).2

end Go.Proofs.YtlngkiipgkociaaGreatDoor.Pi
namespace Go.Proofs.YtlngkiipgkociaaGreatDoor.Pi
open Go.RowKit

/-- Two integers and what is wrong; three. -/
def R3 (r : Int × Int × Int) : Value := .tuple #[.agg #[.int .i64 r.1, .int .i64 r.2.1], .int .i64 r.2.2]
def R4 (r : Int × Int × Int × Int) : Value := .tuple #[.agg #[.int .i64 r.1, .int .i64 r.2.1, .int .i64 r.2.2.1], .int .i64 r.2.2.2]
def R2 (r : Int × Int) : Value := .tuple #[.int .i64 r.1, .int .i64 r.2]
theorem ret_R2 {r : Int × Int} {a b : Int} (h : r = (a, b)) : Ending.returned (.tuple #[.int .i64 a, .int .i64 b]) = .returned (R2 r) := by rw [h]; rfl
theorem three {n m : Nat} (h : n + 1 + 1 + 1 ≤ m) : n < m ∧ n + 1 < m ∧ n + 1 + 1 < m := by omega
theorem two_ {n m : Nat} (h : n + 1 + 1 ≤ m) : n < m ∧ n + 1 < m := by omega

theorem wrap_least : wrap64 9223372036854775808 = -9223372036854775808 := by unfold wrap64; decide

set_option maxHeartbeats 4000000 in
theorem within_any (s h : Int) (w : World) (hs : I64 s) (hh : I64 h) :
    Calls Tryz.prog 17 #[.agg #[.int .i64 s, .int .i64 h]] w fun e w' => e = .returned (.bool (withinB s h)) ∧ Below w.heap.size w w' := by
  unfold I64 at hs hh
  have hw := wrap_least
  have cs : s = -9223372036854775808 ∨ (-9223372036854775808 < s ∧ s < -200) ∨ (-200 ≤ s ∧ s ≤ 200) ∨ 200 < s := by omega
  have ch : h = -9223372036854775808 ∨ (-9223372036854775808 < h ∧ h < -4096) ∨ (-4096 ≤ h ∧ h ≤ 4096) ∨ 4096 < h := by omega
  rcases cs with rfl | ⟨c1, c2⟩ | ⟨c1, c2⟩ | c1 <;> rcases ch with rfl | ⟨d1, d2⟩ | ⟨d1, d2⟩ | d1
  all_goals
    go_enter Tryz.func17, Tryz.ntmps17
    go_wp2
    all_goals
      go_ret
      refine ⟨ret_bool ?_, (by repeat (first | exact Below.refl _ _ | assumption | refine below_drewN ?_ _ | refine Below.drew ?_ | refine below_new ?_ _ | refine Below.setCell ?_ (by first | omega | (simp <;> omega)) _ | refine below_then (by assumption) ?_))⟩
      rw [Bool.eq_iff_iff, withinB_iff]
      simp
      try omega


theorem sum_ok {s h s' h' : Int} (h1 : withinB s h = true) (h2 : withinB s' h' = true) (h3 : withinB (s + s') (h + h') = true) : sum s h s' h' = (s + s', h + h', 0) := by simp [sum, h1, h2, h3]
theorem sum_no3 {s h s' h' : Int} (h3 : withinB (s + s') (h + h') = false) : sum s h s' h' = (0, 0, 3) := by simp [sum, h3]
theorem sum_no2 {s h s' h' : Int} (h2 : withinB s' h' = false) : sum s h s' h' = (0, 0, 3) := by simp [sum, h2]
theorem sum_no1 {s h s' h' : Int} (h1 : withinB s h = false) : sum s h s' h' = (0, 0, 3) := by simp [sum, h1]

theorem tq (n k : Int) (hk : 0 < k) : k * n.tdiv k + n.tmod k = n ∧ -k < n.tmod k ∧ n.tmod k < k := by
  have h1 := Int.natAbs_tmod n k
  have h2 := Nat.mod_lt n.natAbs (show 0 < k.natAbs by omega)
  exact ⟨Int.mul_tdiv_add_tmod n k, by omega, by omega⟩

set_option maxHeartbeats 1000000 in
theorem floor_any (n : Int) (w : World) (h1 : -1000 ≤ n) (h2 : n ≤ 1000) :
    Calls Tryz.prog 18 #[.int .i64 n, .int .i64 7] w fun e w' => e = .returned (R2 (n / 7, n % 7)) ∧ ∃ k, w' = w.drewN k := by
  have t := tq n 7 (by omega)
  have e1 : IntKind.i64.wrap (n.tdiv 7) = n.tdiv 7 := IntWalk.i64_in _ (by omega)
  by_cases hc : n.tmod 7 < 0
  · have HR := Lib.hid (show n.tdiv 7 - 1 = n / 7 ∧ n.tmod 7 + 7 = n % 7 by omega)
    have q1 : -1000 ≤ n.tdiv 7 ∧ n.tdiv 7 ≤ 1000 := by omega
    have q2 : -7 ≤ n.tmod 7 := by omega
    clear t
    go_enter Tryz.func18, Tryz.ntmps18
    go_wp2
    go_quiet (fail)
    go_wp2
    go_ret2
    exact ⟨ret_R2 (by rw [HR.out.1, HR.out.2]), nq, rfl⟩
  · have HR := Lib.hid (show n.tdiv 7 = n / 7 ∧ n.tmod 7 = n % 7 by omega)
    have hc' : 0 ≤ n.tmod 7 := by omega
    clear t
    go_enter Tryz.func18, Tryz.ntmps18
    go_wp2
    go_quiet (fail)
    go_wp2
    go_ret2
    exact ⟨ret_R2 (by rw [HR.out.1, HR.out.2]), nq, rfl⟩

end Go.Proofs.YtlngkiipgkociaaGreatDoor.Pi
namespace Go.Proofs.YtlngkiipgkociaaGreatDoor.Pi
open Go.RowKit

theorem move_no1 {l a o s h : Int} (k : rightB l a o = false) : move l a o s h = (0, 0, 0, 2) := by simp [move, k]
theorem move_no2 {l a o s h : Int} (k : rightB l a o = true) (k2 : withinB s h = false) : move l a o s h = (0, 0, 0, 3) := by simp [move, k, k2]

theorem at_yes {S H : Int} (k : rightB (S % 7) (H - halves (S % 7) 0 (S / 7)) (S / 7) = true) : at_ S H = (S % 7, H - halves (S % 7) 0 (S / 7), S / 7, 0) := by
  have e : H - halves (S % 7) 0 (S / 7) = H - (12 * (S / 7) + nat7 (S % 7)) := by unfold halves; omega
  rw [e] at k ⊢
  unfold at_
  rw [if_pos k]
theorem at_no {S H : Int} (k : rightB (S % 7) (H - halves (S % 7) 0 (S / 7)) (S / 7) = false) : at_ S H = (0, 0, 0, 3) := by
  have e : H - halves (S % 7) 0 (S / 7) = H - (12 * (S / 7) + nat7 (S % 7)) := by unfold halves; omega
  rw [e] at k
  unfold at_
  rw [if_neg (by rw [k]; exact Bool.false_ne_true)]
theorem halves_bd (S : Int) (h : -1000 ≤ S ∧ S ≤ 1000) : -2000 ≤ halves (S % 7) 0 (S / 7) ∧ halves (S % 7) 0 (S / 7) ≤ 2000 := by
  have := nat7_range (S % 7)
  unfold halves
  omega
end Go.Proofs.YtlngkiipgkociaaGreatDoor.Pi
namespace Go.Proofs.YtlngkiipgkociaaGreatDoor.Pi

/-- Half tones from C0 to so many steps above it. -/
def white (t : Int) : Int := 12 * (t / 7) + nat7 (t % 7)
/-- Half tones from a letter to the next one. -/
def up (l : Int) : Int := if l = 2 ∨ l = 6 then 1 else 2
theorem up_range (l : Int) : 1 ≤ up l ∧ up l ≤ 2 := by unfold up; split <;> omega
theorem white_succ (t : Int) : white (t + 1) = white t + up (t % 7) := by
  have h : t % 7 = 0 ∨ t % 7 = 1 ∨ t % 7 = 2 ∨ t % 7 = 3 ∨ t % 7 = 4 ∨ t % 7 = 5 ∨ t % 7 = 6 := by omega
  unfold white
  rcases h with h | h | h | h | h | h | h
  · rw [show (t + 1) % 7 = 1 by omega, show (t + 1) / 7 = t / 7 by omega, h]; (have e0 : nat7 0 = 0 := rfl); (have e1 : nat7 1 = 2 := rfl); (have e2 : nat7 2 = 4 := rfl); (have e3 : nat7 3 = 5 := rfl); (have e4 : nat7 4 = 7 := rfl); (have e5 : nat7 5 = 9 := rfl); (have e6 : nat7 6 = 11 := rfl); (have u : up 0 = 2 ∧ up 1 = 2 ∧ up 2 = 1 ∧ up 3 = 2 ∧ up 4 = 2 ∧ up 5 = 2 ∧ up 6 = 1 := by decide); omega
  · rw [show (t + 1) % 7 = 2 by omega, show (t + 1) / 7 = t / 7 by omega, h]; (have e0 : nat7 0 = 0 := rfl); (have e1 : nat7 1 = 2 := rfl); (have e2 : nat7 2 = 4 := rfl); (have e3 : nat7 3 = 5 := rfl); (have e4 : nat7 4 = 7 := rfl); (have e5 : nat7 5 = 9 := rfl); (have e6 : nat7 6 = 11 := rfl); (have u : up 0 = 2 ∧ up 1 = 2 ∧ up 2 = 1 ∧ up 3 = 2 ∧ up 4 = 2 ∧ up 5 = 2 ∧ up 6 = 1 := by decide); omega
  · rw [show (t + 1) % 7 = 3 by omega, show (t + 1) / 7 = t / 7 by omega, h]; (have e0 : nat7 0 = 0 := rfl); (have e1 : nat7 1 = 2 := rfl); (have e2 : nat7 2 = 4 := rfl); (have e3 : nat7 3 = 5 := rfl); (have e4 : nat7 4 = 7 := rfl); (have e5 : nat7 5 = 9 := rfl); (have e6 : nat7 6 = 11 := rfl); (have u : up 0 = 2 ∧ up 1 = 2 ∧ up 2 = 1 ∧ up 3 = 2 ∧ up 4 = 2 ∧ up 5 = 2 ∧ up 6 = 1 := by decide); omega
  · rw [show (t + 1) % 7 = 4 by omega, show (t + 1) / 7 = t / 7 by omega, h]; (have e0 : nat7 0 = 0 := rfl); (have e1 : nat7 1 = 2 := rfl); (have e2 : nat7 2 = 4 := rfl); (have e3 : nat7 3 = 5 := rfl); (have e4 : nat7 4 = 7 := rfl); (have e5 : nat7 5 = 9 := rfl); (have e6 : nat7 6 = 11 := rfl); (have u : up 0 = 2 ∧ up 1 = 2 ∧ up 2 = 1 ∧ up 3 = 2 ∧ up 4 = 2 ∧ up 5 = 2 ∧ up 6 = 1 := by decide); omega
  · rw [show (t + 1) % 7 = 5 by omega, show (t + 1) / 7 = t / 7 by omega, h]; (have e0 : nat7 0 = 0 := rfl); (have e1 : nat7 1 = 2 := rfl); (have e2 : nat7 2 = 4 := rfl); (have e3 : nat7 3 = 5 := rfl); (have e4 : nat7 4 = 7 := rfl); (have e5 : nat7 5 = 9 := rfl); (have e6 : nat7 6 = 11 := rfl); (have u : up 0 = 2 ∧ up 1 = 2 ∧ up 2 = 1 ∧ up 3 = 2 ∧ up 4 = 2 ∧ up 5 = 2 ∧ up 6 = 1 := by decide); omega
  · rw [show (t + 1) % 7 = 6 by omega, show (t + 1) / 7 = t / 7 by omega, h]; (have e0 : nat7 0 = 0 := rfl); (have e1 : nat7 1 = 2 := rfl); (have e2 : nat7 2 = 4 := rfl); (have e3 : nat7 3 = 5 := rfl); (have e4 : nat7 4 = 7 := rfl); (have e5 : nat7 5 = 9 := rfl); (have e6 : nat7 6 = 11 := rfl); (have u : up 0 = 2 ∧ up 1 = 2 ∧ up 2 = 1 ∧ up 3 = 2 ∧ up 4 = 2 ∧ up 5 = 2 ∧ up 6 = 1 := by decide); omega
  · rw [show (t + 1) % 7 = 0 by omega, show (t + 1) / 7 = t / 7 + 1 by omega, h]; (have e0 : nat7 0 = 0 := rfl); (have e1 : nat7 1 = 2 := rfl); (have e2 : nat7 2 = 4 := rfl); (have e3 : nat7 3 = 5 := rfl); (have e4 : nat7 4 = 7 := rfl); (have e5 : nat7 5 = 9 := rfl); (have e6 : nat7 6 = 11 := rfl); (have u : up 0 = 2 ∧ up 1 = 2 ∧ up 2 = 1 ∧ up 3 = 2 ∧ up 4 = 2 ∧ up 5 = 2 ∧ up 6 = 1 := by decide); omega
theorem white_pred (t : Int) : white (t - 1) = white t - up ((t - 1) % 7) := by
  have h := white_succ (t - 1)
  rw [show t - 1 + 1 = t by omega] at h
  omega
theorem white_bd (t : Int) (h : -1000 ≤ t ∧ t ≤ 1000) : -2000 ≤ white t ∧ white t ≤ 2000 := by
  have := nat7_range (t % 7)
  unfold white
  omega
theorem white_steps {l o : Int} (h1 : 0 ≤ l) (h2 : l ≤ 6) : white (steps l o) = 12 * o + nat7 l := by
  unfold white steps
  rw [show (7 * o + l) / 7 = o by omega, show (7 * o + l) % 7 = l by omega]
theorem white_halves {l a o : Int} (h : rightB l a o = true) : white (steps l o) + a = halves l a o := by
  have := rightB_iff.1 h
  rw [white_steps this.1 this.2.1]; unfold halves; omega
/-- What the reference's At tells. -/
theorem at_white (s h : Int) : at_ s h = if rightB (s % 7) (h - white s) (s / 7) then (s % 7, h - white s, s / 7, 0) else (0, 0, 0, 3) := rfl
end Go.Proofs.YtlngkiipgkociaaGreatDoor.Pi
namespace Go.Proofs.YtlngkiipgkociaaGreatDoor.Pi
open Go.RowKit

theorem abs_any (n : Int) (w : World) (h1 : -9223372036854775808 < n) (h2 : n ≤ 9223372036854775807) :
    Calls Tryz.prog 33 #[.int .i64 n] w fun e w' => e = .returned (.int .i64 (n.natAbs : Int)) ∧ w = w' := by
  go_enter Tryz.func33, Tryz.ntmps33
  go_wp2
  all_goals
    go_ret
    exact ⟨ret_int (by omega), rfl⟩
theorem abs_least (w : World) :
    Calls Tryz.prog 33 #[.int .i64 (-9223372036854775808)] w fun e w' => e = .returned (.int .i64 (-9223372036854775808)) ∧ w = w' := by
  have hw := wrap_least
  go_enter Tryz.func33, Tryz.ntmps33
  go_wp2
  go_ret
  exact ⟨ret_int hw, rfl⟩

set_option maxHeartbeats 4000000 in
theorem ref_right_any (l a o : Int) (w : World) (ha : I64 a) :
    Calls Tryz.prog 14 #[.agg #[.int .i64 l, .int .i64 a, .int .i64 o]] w fun e w' => e = .returned (.bool (rightB l a o)) ∧ Below w.heap.size w w' := by
  unfold I64 at ha
  have cl : l < 0 ∨ 6 < l ∨ (0 ≤ l ∧ l ≤ 6) := by omega
  have ca : a = -9223372036854775808 ∨ (-9223372036854775808 < a ∧ 3 < (a.natAbs : Int)) ∨ (-3 ≤ a ∧ (a.natAbs : Int) ≤ 3) := by omega
  have co : o < -12 ∨ 12 < o ∨ (-12 ≤ o ∧ o ≤ 12) := by omega
  rcases cl with c1 | c1 | ⟨c1, c2⟩
  · go_enter Tryz.func14, Tryz.ntmps14
    go_wp2
    go_ret
    refine ⟨ret_bool ?_, (by repeat (first | exact Below.refl _ _ | assumption | refine below_drewN ?_ _ | refine Below.drew ?_ | refine below_new ?_ _ | refine Below.setCell ?_ (by first | omega | (simp <;> omega)) _ | refine below_then (by assumption) ?_))⟩
    rw [eq_comm, ← Bool.not_eq_true, rightB_iff]; omega
  · go_enter Tryz.func14, Tryz.ntmps14
    go_wp2
    go_ret
    refine ⟨ret_bool ?_, (by repeat (first | exact Below.refl _ _ | assumption | refine below_drewN ?_ _ | refine Below.drew ?_ | refine below_new ?_ _ | refine Below.setCell ?_ (by first | omega | (simp <;> omega)) _ | refine below_then (by assumption) ?_))⟩
    rw [eq_comm, ← Bool.not_eq_true, rightB_iff]; omega
  · rcases ca with rfl | ⟨d1, d2⟩ | ⟨d1, d2⟩
    · rcases co with k1 | k1 | ⟨k1, k2⟩
      all_goals
        go_enter Tryz.func14, Tryz.ntmps14
        go_wp2_with (go_at_call 33; refine (abs_least _).mono ?_; rintro e w1 ⟨rfl, rfl⟩)
        go_ret
        refine ⟨ret_bool ?_, (by repeat (first | exact Below.refl _ _ | assumption | refine below_drewN ?_ _ | refine Below.drew ?_ | refine below_new ?_ _ | refine Below.setCell ?_ (by first | omega | (simp <;> omega)) _ | refine below_then (by assumption) ?_))⟩
        rw [eq_comm, ← Bool.not_eq_true, rightB_iff]; omega
    · go_enter Tryz.func14, Tryz.ntmps14
      go_wp2_with (go_at_call 33; refine (abs_any a _ (by omega) (by omega)).mono ?_; rintro e w1 ⟨rfl, rfl⟩)
      go_ret
      refine ⟨ret_bool ?_, (by repeat (first | exact Below.refl _ _ | assumption | refine below_drewN ?_ _ | refine Below.drew ?_ | refine below_new ?_ _ | refine Below.setCell ?_ (by first | omega | (simp <;> omega)) _ | refine below_then (by assumption) ?_))⟩
      rw [eq_comm, ← Bool.not_eq_true, rightB_iff]; omega
    · rcases co with k1 | k1 | ⟨k1, k2⟩
      all_goals
        go_enter Tryz.func14, Tryz.ntmps14
        go_wp2_with (go_at_call 33; refine (abs_any a _ (by omega) (by omega)).mono ?_; rintro e w1 ⟨rfl, rfl⟩)
        go_ret
        refine ⟨ret_bool ?_, (by repeat (first | exact Below.refl _ _ | assumption | refine below_drewN ?_ _ | refine Below.drew ?_ | refine below_new ?_ _ | refine Below.setCell ?_ (by first | omega | (simp <;> omega)) _ | refine below_then (by assumption) ?_))⟩
        rw [Bool.eq_iff_iff, rightB_iff]
        simp
        try omega

theorem up_any (l : Int) (w : World) :
    Calls Tryz.prog 44 #[.int .i64 l] w fun e w' => e = .returned (.int .i64 (up l)) ∧ w = w' := by
  by_cases h2 : l = 2
  · subst h2
    go_enter Tryz.func44, Tryz.ntmps44
    go_wp2
    go_ret
    exact ⟨rfl, rfl⟩
  · by_cases h6 : l = 6
    · subst h6
      go_enter Tryz.func44, Tryz.ntmps44
      go_wp2
      go_ret
      exact ⟨rfl, rfl⟩
    · have HU := Lib.hid (show up l = 2 by unfold up; rw [if_neg (by omega)])
      replace h2 : (l == 2) = false := by simpa using h2
      replace h6 : (l == 6) = false := by simpa using h6
      go_enter Tryz.func44, Tryz.ntmps44
      go_wp2
      go_ret
      exact ⟨ret_int HU.out.symm, rfl⟩

set_option maxHeartbeats 2000000 in
theorem white_pos (n : Int) (w : World) (h0 : 0 ≤ n) (h1 : n ≤ 1000) :
    Calls Tryz.prog 23 #[.int .i64 n] w fun e w' => e = .returned (.int .i64 (white n)) ∧ w = w' := by
  go_enter Tryz.func23, Tryz.ntmps23
  go_wp2
  go_loop [0, 3, 4] (fun x m l => ∃ t : Int, 0 ≤ t ∧ t ≤ n ∧ x = .int .i64 (n - t) ∧ m = .int .i64 (white t) ∧ l = .int .i64 (t % 7)) (fun x _ _ => (intOf x).toNat)
  case atStart => exact ⟨0, by omega, h0, by go_num, by go_num, by go_num⟩
  case round =>
    obtain ⟨t, ht0, ht1, rfl, rfl, rfl⟩ := hrel
    have hb := white_bd t (by omega)
    have hu := up_range (t % 7)
    have hl : 0 ≤ t % 7 ∧ t % 7 ≤ 6 := by omega
    have HS := Lib.hid (white_succ t)
    have HL := Lib.hid (show (t % 7 + 1) % 7 = (t + 1) % 7 by omega)
    by_cases hc : t < n
    · have hc' : 0 < n - t := by omega
      go_wp2_with (go_at_call 44; refine (up_any (t % 7) _).mono ?_; rintro e w1 ⟨rfl, rfl⟩)
      go_round
      case rel => exact ⟨t + 1, by omega, by omega, by go_num, by rw [HS.out], by rw [HL.out]⟩
      case measure => (simp [intOf] <;> omega)
    · obtain rfl : t = n := by omega
      have hz : t - t = 0 := by omega
      go_wp2
      refine wp_loop_rounds 1 ?_
      rw [rounds_succ]
      go_wp2
      go_ret
      exact ⟨rfl, rfl⟩

set_option maxHeartbeats 2000000 in
theorem white_neg (n : Int) (w : World) (h0 : n < 0) (h1 : -1000 ≤ n) :
    Calls Tryz.prog 23 #[.int .i64 n] w fun e w' => e = .returned (.int .i64 (white n)) ∧ w = w' := by
  go_enter Tryz.func23, Tryz.ntmps23
  go_wp2
  refine wp_loop_rounds 1 ?_
  rw [rounds_succ]
  go_wp2
  go_loop [0, 3, 4] (fun x m l => ∃ t : Int, t ≤ 0 ∧ n ≤ t ∧ x = .int .i64 (n - t) ∧ m = .int .i64 (white t) ∧ l = .int .i64 (t % 7)) (fun x _ _ => (-(intOf x)).toNat)
  case atStart => exact ⟨0, by omega, by omega, by go_num, by go_num, by go_num⟩
  case round =>
    obtain ⟨t, ht0, ht1, rfl, rfl, rfl⟩ := hrel
    have hb := white_bd t (by omega)
    have hu := up_range ((t - 1) % 7)
    have hl : 0 ≤ t % 7 ∧ t % 7 ≤ 6 := by omega
    have HS := Lib.hid (white_pred t)
    have hL : (t % 7 + 6) % 7 = (t - 1) % 7 := by omega
    by_cases hc : n < t
    · have hc' : n - t < 0 := by omega
      go_wp2_with (go_at_call 44; refine (up_any ((t - 1) % 7) _).mono ?_; rintro e w1 ⟨rfl, rfl⟩)
      go_round
      case rel => exact ⟨t - 1, by omega, by omega, by go_num, by rw [HS.out], rfl⟩
      case measure => (simp [intOf] <;> omega)
    · obtain rfl : t = n := by omega
      have hz : t - t = 0 := by omega
      go_wp2
      go_ret
      exact ⟨rfl, rfl⟩

theorem white_any (n : Int) (w : World) (h0 : -1000 ≤ n) (h1 : n ≤ 1000) :
    Calls Tryz.prog 23 #[.int .i64 n] w fun e w' => e = .returned (.int .i64 (white n)) ∧ w = w' := by
  by_cases h : 0 ≤ n
  · exact white_pos n w h h1
  · exact white_neg n w (by omega) h0

theorem ref_within_any (s h : Int) (w : World) :
    Calls Tryz.prog 22 #[.agg #[.int .i64 s, .int .i64 h]] w fun e w' => e = .returned (.bool (withinB s h)) ∧ Below w.heap.size w w' := by
  have cs : s < -200 ∨ 200 < s ∨ (-200 ≤ s ∧ s ≤ 200) := by omega
  have ch : h < -4096 ∨ 4096 < h ∨ (-4096 ≤ h ∧ h ≤ 4096) := by omega
  rcases cs with c1 | c1 | ⟨c1, c2⟩ <;> rcases ch with d1 | d1 | ⟨d1, d2⟩
  all_goals
    go_enter Tryz.func22, Tryz.ntmps22
    go_wp2
    go_ret
    refine ⟨ret_bool ?_, (by repeat (first | exact Below.refl _ _ | assumption | refine below_drewN ?_ _ | refine Below.drew ?_ | refine below_new ?_ _ | refine Below.setCell ?_ (by first | omega | (simp <;> omega)) _ | refine below_then (by assumption) ?_))⟩
    rw [Bool.eq_iff_iff, withinB_iff]
    simp
    try omega

end Go.Proofs.YtlngkiipgkociaaGreatDoor.Pi
namespace Go.Proofs.YtlngkiipgkociaaGreatDoor.Pi
open Go.RowKit

/-- What At tells, as a value. -/
def RA (s h : Int) : Value := .tuple #[.agg #[.int .i64 (s % 7), .int .i64 (h - white s), .int .i64 (s / 7)], .bool (rightB (s % 7) (h - white s) (s / 7))]

end Go.Proofs.YtlngkiipgkociaaGreatDoor.Pi
namespace Go.Proofs.YtlngkiipgkociaaGreatDoor.Pm
open Go Go.Proofs.YtlngkiipgkociaaGreatDoor.Pi

abbrev pitP (l a o : Int) : PV := .agg [iv l, iv a, iv o]
abbrev invP (s h : Int) : PV := .agg [iv s, iv h]
theorem natural_pc (l : Int) : PC Tryz.prog 19 [iv l] [] (iv (Pi.nat7 l)) [] :=
  pc_flat (fn_ok Tryz.func19 (by kernel_rfl) (by kernel_rfl)) rfl rfl fun w => (natural_any l w).mono fun _ w' ⟨e1, e2⟩ => ⟨e1, e2 ▸ RowKit.Below.refl _ _⟩
theorem pright_pc (l a o : Int) : PC Tryz.prog 12 [pitP l a o] [] (bv (rightB l a o)) [] :=
  pc_flat (fn_ok Tryz.func12 (by kernel_rfl) (by kernel_rfl)) rfl rfl fun w => right_any l a o w
theorem pwithin_pc (s h : Int) (i1 : Pi.I64 s) (i2 : Pi.I64 h) : PC Tryz.prog 17 [invP s h] [] (bv (withinB s h)) [] :=
  pc_flat (fn_ok Tryz.func17 (by kernel_rfl) (by kernel_rfl)) rfl rfl fun w => within_any s h w i1 i2
theorem pfloor_pc (n : Int) (h1 : -1000 ≤ n) (h2 : n ≤ 1000) : PC Tryz.prog 18 [iv n, iv 7] [] (.tup [iv (n / 7), iv (n % 7)]) [] :=
  pc_flat (fn_ok Tryz.func18 (by kernel_rfl) (by kernel_rfl)) rfl rfl fun w => (floor_any n w h1 h2).mono fun _ w' ⟨e1, k, e2⟩ => ⟨e1, by rw [e2]; exact ⟨rfl, rfl, rfl, Nat.le_refl _, fun _ _ => rfl⟩⟩
theorem ref_pright_pc (l a o : Int) (ha : Pi.I64 a) : PC Tryz.prog 14 [pitP l a o] [] (bv (rightB l a o)) [] :=
  pc_flat (fn_ok Tryz.func14 (by kernel_rfl) (by kernel_rfl)) rfl rfl fun w => ref_right_any l a o w ha
theorem ref_pwithin_pc (s h : Int) : PC Tryz.prog 22 [invP s h] [] (bv (withinB s h)) [] :=
  pc_flat (fn_ok Tryz.func22 (by kernel_rfl) (by kernel_rfl)) rfl rfl fun w => ref_within_any s h w
end Go.Proofs.YtlngkiipgkociaaGreatDoor.Pm
