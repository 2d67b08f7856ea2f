/-
  THE VALUE MACHINE (Open): whatever came in, by its type: numbers, truth values, floats, strings, slices and structs of such, as deep as they are. | What came in, at its types: lists of numbers, lists of such; how much they hold. | FLOATS: positive numbers of the double format, by their rungs: doubled, halved, multiplied, in order. No program in sight. | FLOATS: products and the order of positive numbers. No program in sight. | FLOATS: their bits, taken apart and put together; scaled; who is fair. No program in sight. | FLOATS: all of them by sign and rung: how they are read, what they are worth, their order. No program in sight. | FLOATS: rounded to the nearest whole number, and by the floor: the same. No program in sight. | FLOATS: rounded to the nearest whole number, and by the floor: the same (the end). No program in sight. | FLOATS: a float as a sample, by two ways: the same. No program in sight. | SUMS: what rounds has no body: what it gives; a NaN. | SUMS: rounded: walks. (Printed by wip/pm.) | mix.Sum and the reference's Same, by values. (Printed by wip/pm.) | What MixOrder makes, over plain lists; a track cut in two. Plain, but for the contracts at the end.
-/
import Derived.Test.YtgkahjaoajjgcaaJLawSums22
import GoSem.Core.Float
import Derived.Test.YtgkahjaoajjgcaaJLawSums21
namespace Go.Proofs.Ytgkahjaoajjgcaa.Pm
open Go Go.Deep Go.ChangeShapes Go.WideShapes Go.ChangeAt Go.RowKit

/-- The parts of a struct, one behind the other. -/
def ShF (r : TypeId → List PV → Prop) : List Field → List PV → Prop
  | [], ps => ps = []
  | f :: fs, ps => ∃ a b, ps = a ++ b ∧ r f.type a ∧ ShF r fs b
/-- The tree's form, by the type. -/
def Sh (P : Program) : Nat → TypeId → List PV → Prop
  | 0, _, _ => False
  | n + 1, t, ps => match P.underlying t with
    | some .bool => ∃ b, ps = [.av (.bool b)]
    | some (.int k) => ∃ m, ps = [.av (.int k m)] ∧ (Lit.int k m).wf = true
    | some (.float k) => ∃ b, ps = [.av (.float k b)] ∧ (Lit.float k b).wf = true
    | some .string => ∃ s : ByteArray, ps = [.av (.string s)] ∧ s.size ≤ maxLen
    | some (.slice e) => ∃ ess : List (List PV), ps = [.ssl ess.flatten 0 ess.length] ∧ ess.length ≤ maxLen ∧ ess.length * P.bytesOf e ≤ reachBytes ∧ ∀ es ∈ ess, Sh P n e es
    | some (.struct fs) => ShF (Sh P n) fs.toList ps
    | _ => False
mutual
/-- How much a reading holds. -/
def bulkW {H : Type} : DataW H → Nat
  | .lit (.string bytes) => bytes.length + 1
  | .lit _ => 1
  | .nil => 1
  | .ptr d => bulkW d + 1
  | .slice elems spare => bulkAll elems + bulkAll spare + 1
  | .agg parts => bulkAll parts + 1
  | .iface _ d => bulkW d + 1
  | .map entries => bulkEntries entries + 1
  | .held _ => 1
def bulkAll {H : Type} : List (DataW H) → Nat
  | [] => 0
  | d :: r => bulkW d + bulkAll r
def bulkEntries {H : Type} : List (Lit × DataW H) → Nat
  | [] => 0
  | x :: r => bulkEntry x + bulkEntries r
def bulkEntry {H : Type} : Lit × DataW H → Nat
  | (.string bytes, d) => bytes.length + bulkW d + 1
  | (_, d) => bulkW d + 1
end
mutual
/-- How much a tree holds. -/
def pvw : PV → Nat
  | .av (.string s) => s.size + 1
  | .ssl cs _ _ => pvws cs + 1
  | .agg cs => pvws cs + 1
  | _ => 1
def pvws : List PV → Nat
  | [] => 0
  | p :: l => pvw p + pvws l
end
theorem pvws_app : ∀ a b : List PV, pvws (a ++ b) = pvws a + pvws b
  | [], b => by simp [pvws]
  | p :: a, b => by rw [List.cons_append, pvws, pvws, pvws_app a b]; omega
theorem pvws_flatten : ∀ l : List (List PV), pvws l.flatten = (l.map pvws).sum
  | [] => rfl
  | a :: l => by rw [List.flatten_cons, pvws_app, pvws_flatten l, List.map_cons, List.sum_cons]
theorem sum_le {H : Type} : ∀ (n : Nat) (f : Nat → Nat) (ds : List (DataW H)), ds.length = n → (∀ i (h : i < ds.length), f i ≤ bulkW ds[i]) → ((List.range n).map f).sum ≤ bulkAll ds
  | 0, f, ds, hl, h => by simp
  | n + 1, f, [], hl, h => by simp at hl
  | n + 1, f, d :: ds, hl, h => by
    rw [List.range_succ_eq_map, List.map_cons, List.sum_cons, List.map_map, bulkAll]
    have h0 := h 0 (by simp)
    have h1 := sum_le n (f ∘ Nat.succ) ds (by simpa using hl) fun i hi => by have := h (i + 1) (by simpa using hi); simpa using this
    simp only [List.getElem_cons_zero] at h0
    omega
def contig (P : Program) : List Field → Nat → Option Nat
  | [], o => some o
  | f :: fs, o => if f.offset = o then contig P fs (o + P.cellsOf f.type) else none
/-- These types can be opened, with all that is in them. -/
def openB (P : Program) (Ts : List TypeId) : Bool := Ts.all fun t => match P.underlying t with
  | some .bool | some (.int _) | some (.float _) | some .string => Nat.beq (P.cellsOf t) 1
  | some (.slice e) => Nat.beq (P.cellsOf t) 1 && Nat.ble 1 (P.cellsOf e) && Ts.contains e
  | some (.struct fs) => contig P fs.toList 0 == some (P.cellsOf t) && fs.toList.all fun f => Ts.contains f.type
  | _ => false
theorem List.getD_app {α : Type} {l m : List α} {i : Nat} {d : α} (h : i < l.length) : (l ++ m).getD i d = l.getD i d := by
  rw [List.getD_eq_getElem?_getD, List.getD_eq_getElem?_getD, List.getElem?_append_left h]
theorem List.getD_app_r {α : Type} {l m : List α} {i : Nat} {d : α} (h : l.length ≤ i) : (l ++ m).getD i d = m.getD (i - l.length) d := by
  rw [List.getD_eq_getElem?_getD, List.getD_eq_getElem?_getD, List.getElem?_append_right h]
theorem flatten_get {k : Nat} : ∀ {ess : List (List PV)}, (∀ es ∈ ess, es.length = k) → ess.flatten.length = ess.length * k ∧ ∀ i j, j < k → i < ess.length → ess.flatten.getD (i * k + j) P0 = (ess.getD i []).getD j P0
  | [], _ => ⟨by simp, fun i j _ h => absurd h (Nat.not_lt_zero _)⟩
  | es :: ess, h => by
    have h0 := h es (by simp)
    obtain ⟨h1, h2⟩ := flatten_get (ess := ess) fun x hx => h x (by simp [hx])
    refine ⟨by rw [List.flatten_cons, List.length_append, h0, h1, List.length_cons, Nat.succ_mul]; omega, fun i j hj hi => ?_⟩
    rw [List.flatten_cons]
    cases i with
    | zero => rw [Nat.zero_mul, Nat.zero_add, List.getD_app (by omega)]; rfl
    | succ i =>
      rw [List.getD_app_r (by rw [h0, Nat.succ_mul]; omega), h0, show (i + 1) * k + j - k = i * k + j from by rw [Nat.succ_mul]; omega, h2 i j hj (by simpa using hi)]
      rfl
section
variable {H : Type} {enc : TypeId × Value → H} {P : Program} {w : World} {base : Nat} {held : Bool}
abbrev Opened (w : World) (ps : List PV) (cs : List Value) : Prop := ones ps ∧ ps.length = cs.length ∧ ∀ i, i < ps.length → SRep w (fun b => b < w.heap.size) (ps.getD i P0) (cs.getD i undef)
theorem opened_one {p : PV} {v : Value} (h : p.one = true) (hr : SRep w (fun b => b < w.heap.size) p v) : Opened w [p] [v] :=
  ⟨fun q hq => by simp only [List.mem_singleton] at hq; rw [hq]; exact h, rfl, fun i hi => by
    have : i = 0 := by simp at hi; omega
    subst this; exact hr⟩
theorem open_fs {Ts : List TypeId} {n : Nat} (ih : ∀ (t : TypeId) (cs : List Value) (x : DataW H × List MemPlace), t ∈ Ts → DataW.trod enc P w base (fun _ => true) held n t cs = some x → (x.1.weights P t).all (· ≤ reachBytes) = true →
    ∃ ps, Sh P n t ps ∧ Opened w ps cs ∧ cs.length = P.cellsOf t ∧ pvws ps ≤ bulkW x.1) (cs : List Value) :
    ∀ (fs : List Field) (xs : List (DataW H × List MemPlace)) (o e : Nat), contig P fs o = some e → e ≤ cs.length → (∀ f ∈ fs, f.type ∈ Ts) → xs.length = fs.length →
      (∀ (i : Nat) (f : Field), fs[i]? = some f → DataW.trod enc P w base (fun _ => true) held n f.type ((cs.drop f.offset).take (P.cellsOf f.type)) = xs[i]?) →
      (DataW.weightsEach P (fs.map (·.type)) (xs.map (·.1))).all (· ≤ reachBytes) = true → ∃ ps, ShF (Sh P n) fs ps ∧ Opened w ps ((cs.drop o).take (e - o)) ∧ o ≤ e ∧ pvws ps ≤ bulkAll (xs.map (·.1))
  | [], xs, o, e, hc, he, _, _, _, _ => by
    simp only [contig, Option.some.injEq] at hc
    subst hc
    exact ⟨[], rfl, ⟨fun p hp => (by cases hp), by simp, fun i hi => by simp at hi⟩, Nat.le_refl _, Nat.zero_le _⟩
  | f :: fs, [], o, e, hc, he, hT, hx, hf, hw => by simp at hx
  | f :: fs, x :: xs, o, e, hc, he, hT, hx, hf, hw => by
    simp only [contig] at hc
    split at hc
    case isFalse => cases hc
    rename_i ho
    simp only [List.map_cons, DataW.weightsEach, List.all_append, Bool.and_eq_true] at hw
    obtain ⟨b, hb1, hb2, hb3, hb4⟩ := open_fs ih cs fs xs _ e hc he (fun g hg => hT g (by simp [hg])) (by simpa using hx) (fun i g hg => by have := hf (i + 1) g (by simpa using hg); simpa using this) hw.2
    obtain ⟨a, ha1, ha2, ha3, ha4⟩ := ih f.type _ x (hT f (by simp)) (by have := hf 0 f (by simp); simpa using this) hw.1
    rw [ho] at ha2 ha3
    have hla : (List.take (P.cellsOf f.type) (List.drop o cs)).length = P.cellsOf f.type := ha3
    have e1 : (cs.drop o).take (e - o) = (cs.drop o).take (P.cellsOf f.type) ++ (cs.drop (o + P.cellsOf f.type)).take (e - (o + P.cellsOf f.type)) := by
      rw [← List.drop_drop, show e - o = P.cellsOf f.type + (e - (o + P.cellsOf f.type)) from by omega, List.take_add]
    refine ⟨a ++ b, ⟨a, b, rfl, ha1, hb1⟩, ?_, by omega, by rw [pvws_app, List.map_cons, bulkAll]; omega⟩
    rw [e1]
    refine ⟨fun p hp => ?_, by rw [List.length_append, List.length_append, ha2.2.1, hb2.2.1], fun i hi => ?_⟩
    · rcases List.mem_append.1 hp with h | h
      · exact ha2.1 p h
      · exact hb2.1 p h
    · have hl := ha2.2.1
      rw [List.length_append] at hi
      by_cases h : i < a.length
      · rw [List.getD_app h, List.getD_app (by omega)]
        exact ha2.2.2 i h
      · rw [List.getD_app_r (by omega), List.getD_app_r (by omega), ← hl]
        exact hb2.2.2 _ (by omega)
theorem open_any {Ts : List TypeId} (hT : openB P Ts = true) : ∀ (n : Nat) (t : TypeId) (cs : List Value) (x : DataW H × List MemPlace), t ∈ Ts → DataW.trod enc P w base (fun _ => true) held n t cs = some x → (x.1.weights P t).all (· ≤ reachBytes) = true →
    ∃ ps, Sh P n t ps ∧ Opened w ps cs ∧ cs.length = P.cellsOf t ∧ pvws ps ≤ bulkW x.1
  | 0, _, _, _, _, h, _ => by simp [DataW.trod] at h
  | n + 1, t, cs, x, ht, h, hw => by
    have hB := List.all_eq_true.1 hT t ht
    split at hB
    · rename_i hu
      obtain ⟨b, rfl, rfl⟩ := DataW.trod_bool hu h
      exact ⟨[.av (.bool b)], by simp only [Sh, hu]; exact ⟨b, rfl⟩, opened_one rfl (.av _), (Nat.eq_of_beq_eq_true hB).symm, by simp [pvws, pvw, bulkW]⟩
    · rename_i k hu
      obtain ⟨b, rfl, rfl, hwf⟩ := DataW.trod_int hu h
      exact ⟨[.av (.int k b)], by simp only [Sh, hu]; exact ⟨b, rfl, hwf⟩, opened_one rfl (.av _), (Nat.eq_of_beq_eq_true hB).symm, by simp [pvws, pvw, bulkW]⟩
    · rename_i k hu
      have : ∃ b, cs = [.float k b] ∧ (Lit.float k b).wf = true ∧ x = (.lit (.float k b), []) := by
        unfold DataW.trod at h
        rw [hu] at h
        split at h <;> simp_all
      obtain ⟨b, rfl, hwf, rfl⟩ := this
      exact ⟨[.av (.float k b)], by simp only [Sh, hu]; exact ⟨b, rfl, hwf⟩, opened_one rfl (.av _), (Nat.eq_of_beq_eq_true hB).symm, by simp [pvws, pvw, bulkW]⟩
    · rename_i hu
      obtain ⟨s, rfl, rfl, hs⟩ := DataW.trod_string hu h
      exact ⟨[.av (.string s)], by simp only [Sh, hu]; exact ⟨s, rfl, hs⟩, opened_one rfl (.av _), (Nat.eq_of_beq_eq_true hB).symm, by simp [pvws, pvw, bulkW]⟩
    · rename_i e hu
      simp only [Bool.and_eq_true] at hB
      obtain ⟨⟨hB1, hB2⟩, hB3⟩ := hB
      have hB1 := Nat.eq_of_beq_eq_true hB1
      have hk := Nat.le_of_ble_eq_true hB2
      have he : e ∈ Ts := by simpa using hB3
      rcases DataW.trod_slice hu h with ⟨rfl, rfl⟩ | ⟨a, len, cap, elems, rest, m, hm, rfl, rfl, hb, hl, hcap, hel, hE, _, _⟩
      · refine ⟨[.ssl [] 0 0], ?_, opened_one rfl .emp, hB1.symm, by simp [pvws, pvw, bulkW]⟩
        simp only [Sh, hu]
        exact ⟨[], rfl, Nat.zero_le _, by simp, by simp⟩
      · obtain rfl : m = n := by omega
        simp only [DataW.weights, hu, List.length_map, List.all_cons, List.all_append, Bool.and_eq_true, decide_eq_true_eq] at hw
        have hwl : ∀ i (hi : i < elems.length), ((elems[i].1).weights P e).all (· ≤ reachBytes) = true := by
          intro i hi
          refine List.all_eq_true.2 fun z hz => ?_
          exact List.all_eq_true.1 hw.2.1 z (weights_all_mem (List.mem_map.2 ⟨elems[i], List.getElem_mem hi, rfl⟩) z hz)
        have each : ∀ i, i < len → ∃ q : List PV × List Value, Sh P m e q.1 ∧ Opened w q.1 q.2 ∧ q.2.length = P.cellsOf e ∧ (∀ j, j < P.cellsOf e → w.cell? (a.add (i * P.cellsOf e + j)) = some (q.2.getD j undef)) ∧ ∀ h : i < elems.length, pvws q.1 ≤ bulkW (elems[i]).1 := by
          intro i hi
          have h1 := hE i hi
          rw [List.getElem?_eq_getElem (by omega), Option.bind_eq_some_iff] at h1
          obtain ⟨cs', h2, h3⟩ := h1
          obtain ⟨ps, h4, h5, h6, h7⟩ := open_any hT m e cs' _ he h3 (hwl i (by omega))
          refine ⟨(ps, cs'), h4, h5, h6, fun j hj => ?_, fun _ => h7⟩
          rw [← Addr.add_add, (World.cells?_some h2).2.2 j hj]
          have : j < cs'.length := by omega
          simp [List.getD_eq_getElem?_getD, this]
        let Q : Nat → List PV × List Value := fun i => if hi : i < len then (each i hi).choose else ([], [])
        have hQ : ∀ i, i < len → Sh P m e (Q i).1 ∧ Opened w (Q i).1 (Q i).2 ∧ (Q i).2.length = P.cellsOf e ∧ (∀ j, j < P.cellsOf e → w.cell? (a.add (i * P.cellsOf e + j)) = some ((Q i).2.getD j undef)) ∧ ∀ h : i < elems.length, pvws (Q i).1 ≤ bulkW (elems[i]).1 := by
          intro i hi
          have e1 : Q i = (each i hi).choose := dif_pos hi
          rw [e1]
          exact (each i hi).choose_spec
        have hlen : ((List.range len).map fun i => (Q i).1).length = len := by simp
        refine ⟨[.ssl ((List.range len).map fun i => (Q i).1).flatten 0 ((List.range len).map fun i => (Q i).1).length], ?_, opened_one rfl ?_, hB1.symm, ?_⟩
        · simp only [Sh, hu]
          refine ⟨_, rfl, by rw [hlen]; omega, by rw [hlen]; exact Nat.le_trans (Nat.mul_le_mul_right _ (by omega)) hw.1, fun es hes => ?_⟩
          obtain ⟨i, hi, rfl⟩ := List.mem_map.1 hes
          exact (hQ i (List.mem_range.1 hi)).1
        · rw [hlen]
          rcases Nat.eq_zero_or_pos len with h0 | h0
          · subst h0; exact .emp
          · have hes : ∀ es ∈ (List.range len).map fun i => (Q i).1, es.length = P.cellsOf e := fun es hes => by
              obtain ⟨i, hi, rfl⟩ := List.mem_map.1 hes
              obtain ⟨_, h2, h3, _⟩ := hQ i (List.mem_range.1 hi)
              exact h2.2.1.trans h3
            obtain ⟨hf1, hf2⟩ := flatten_get hes
            rw [hlen] at hf1 hf2
            have hg : ∀ i, i < len → ((List.range len).map fun i => (Q i).1).getD i [] = (Q i).1 := fun i hi => by simp [List.getD_eq_getElem?_getD, hi]
            obtain ⟨b, o, rfl, hbs, hcell⟩ := cells_from (w := w) (a := a) (n := len * P.cellsOf e) (f := fun c => (Q (c / P.cellsOf e)).2.getD (c % P.cellsOf e) undef) (fun c hc => by
              have hd : c / P.cellsOf e < len := Nat.div_lt_of_lt_mul (by rw [Nat.mul_comm]; exact hc)
              have := (hQ _ hd).2.2.2.1 (c % P.cellsOf e) (Nat.mod_lt _ hk)
              rw [Nat.mul_comm, Nat.div_add_mod] at this
              exact this) (Nat.mul_pos h0 hk)
            refine SRep.ssl (a := o) (off := 0) (vf := fun c => (Q (c / P.cellsOf e)).2.getD (c % P.cellsOf e) undef) hbs (fun j hj => hcell j (by omega)) (fun j hj => ?_) (fun p hp => ?_) hl
            · rw [hf1] at hj
              have hd : j / P.cellsOf e < len := Nat.div_lt_of_lt_mul (by rw [Nat.mul_comm]; exact hj)
              have hm := Nat.mod_lt j hk
              have e1 := hf2 (j / P.cellsOf e) (j % P.cellsOf e) hm hd
              rw [Nat.mul_comm, Nat.div_add_mod, hg _ hd] at e1
              rw [e1]
              obtain ⟨_, h2, h3, _⟩ := hQ _ hd
              exact h2.2.2 _ (by rw [h2.2.1, h3]; exact hm)
            · obtain ⟨es, hes', hp'⟩ := List.mem_flatten.1 hp
              obtain ⟨i, hi, rfl⟩ := List.mem_map.1 hes'
              exact (hQ i (List.mem_range.1 hi)).2.1.1 p hp'
        · simp only [pvws, pvw, bulkW, pvws_flatten, List.map_map]
          have := sum_le len (pvws ∘ fun i => (Q i).1) (elems.map (·.1)) (by simpa using hel) fun i hi => by
            have hi' : i < elems.length := by simpa using hi
            have := (hQ i (by omega)).2.2.2.2 hi'
            simpa using this
          omega
    · rename_i fs hu
      simp only [Bool.and_eq_true, beq_iff_eq, List.all_eq_true] at hB
      obtain ⟨xs, m, hm, rfl, hl, hxl, hf⟩ := DataW.trod_struct hu h
      obtain rfl : m = n := by omega
      simp only [DataW.weights, hu] at hw
      obtain ⟨ps, h1, h2, _, h4⟩ := open_fs (open_any hT m) cs fs.toList xs 0 _ hB.1 (by omega) (fun f hf => by simpa using hB.2 f hf) (by simpa using hxl) (fun i f hif => hf i f (by simpa using hif)) hw
      rw [List.drop_zero, Nat.sub_zero, ← hl, List.take_length] at h2
      exact ⟨ps, by simp only [Sh, hu]; exact h1, h2, hl, by simp only [bulkW]; omega⟩
    · cases hB
end
theorem weights_at {H : Type} {P : Program} {ts : List TypeId} {ds : List (DataW H)} (h : (DataW.weightsEach P ts ds).all (· ≤ reachBytes) = true) {j : Nat} {t : TypeId} {d : DataW H} (ht : ts[j]? = some t) (hd : ds[j]? = some d) : (d.weights P t).all (· ≤ reachBytes) = true :=
  List.all_eq_true.2 fun n hn => List.all_eq_true.1 h n (DataW.weights_mem_each ht hd n hn)
/-- An argument, whatever its type. -/
theorem arg_any {H : Type} {enc : TypeId × Value → H} {P : Program} {w : World} {base : Nat} {t : TypeId} {v : Value} {d : DataW H} {pl : List MemPlace} {r : Reach} {b0 : Nat} {held : Bool} {Ts : List TypeId}
    (hT : openB P Ts = true) (ht : t ∈ Ts) (hv : Value.okWide P w r b0 t v) (h : DataW.Trod enc P w base (fun _ => true) held t v d pl)
    {ts : List TypeId} {ds : List (DataW H)} (hs : (DataW.weightsEach P ts ds).all (· ≤ reachBytes) = true) {j : Nat} (hj : ts[j]? = some t) (hd : ds[j]? = some d) :
    ∃ n ps, Sh P n t ps ∧ pvws ps ≤ bulkW d ∧ match isAggD (P.underlying t) with
      | some true => SRep w (fun b => b < w.heap.size) (.agg ps) v
      | _ => ∃ p, ps = [p] ∧ SRep w (fun b => b < w.heap.size) p v := by
  obtain ⟨n, hf⟩ := h
  obtain ⟨ps, h1, ⟨h2, h3, h4⟩, h5, h6⟩ := open_any hT n t _ _ ht hf (weights_at hs hj hd)
  refine ⟨n, ps, h1, h6, ?_⟩
  have hB := List.all_eq_true.1 hT t ht
  have one : v.cells = #[v] → ∃ p, ps = [p] ∧ SRep w (fun b => b < w.heap.size) p v := fun hc => by
    rw [hc] at h3 h4
    simp only [List.length_cons, List.length_nil] at h3
    obtain ⟨p, rfl⟩ := List.length_eq_one_iff.1 h3
    exact ⟨p, rfl, h4 0 (by simp)⟩
  split at hB
  · rename_i hu
    obtain ⟨b, rfl⟩ := okWide_bool hu hv
    simp only [hu, isAggD]
    exact one rfl
  · rename_i k hu
    obtain ⟨b, rfl⟩ := okWide_int hu hv
    simp only [hu, isAggD]
    exact one rfl
  · rename_i k hu
    have : ∃ b, v = .float k b := by
      simp only [Value.okWide, hu, Cell.okWide] at hv
      cases v <;> simp_all [Cell.ok]
    obtain ⟨b, rfl⟩ := this
    simp only [hu, isAggD]
    exact one rfl
  · rename_i hu
    obtain ⟨b, rfl⟩ := okWide_string hu hv
    simp only [hu, isAggD]
    exact one rfl
  · rename_i e hu
    obtain ⟨a, l, c, rfl⟩ := okWide_slice hu hv
    simp only [hu, isAggD]
    exact one rfl
  · rename_i fs hu
    obtain ⟨cs, rfl, hsz⟩ := okWide_struct hu hv
    simp only [hu, isAggD]
    simp only [Value.cells] at h3 h4
    refine .agg (by simpa using h3.symm) fun i hi => ?_
    have := h4 i hi
    rwa [show cs.toList.getD i undef = cs.getD i undef from by rw [List.getD_eq_getElem?_getD, Array.getElem?_toList, Array.getD_eq_getD_getElem?]] at this
  · cases hB
end Go.Proofs.Ytgkahjaoajjgcaa.Pm
namespace Go.Proofs.Ytgkahjaoajjgcaa.Pm
open Go Go.Deep Go.ChangeShapes Go.WideShapes Go.ChangeAt Go.RowKit

mutual
theorem bulk_eq {H : Type} : ∀ d : DataW H, Rows.uptoBulk d = bulkW d
  | .lit (.string b) => by simp [Rows.uptoBulk, bulkW]
  | .lit (.bool _) => by simp [Rows.uptoBulk, bulkW]
  | .lit (.int _ _) => by simp [Rows.uptoBulk, bulkW]
  | .lit (.float _ _) => by simp [Rows.uptoBulk, bulkW]
  | .lit .nil => by simp [Rows.uptoBulk, bulkW]
  | .nil => by simp [Rows.uptoBulk, bulkW]
  | .ptr d => by simp [Rows.uptoBulk, bulkW, bulk_eq d]
  | .slice e s => by simp [Rows.uptoBulk, bulkW, bulk_all e, bulk_all s]
  | .agg ps => by simp [Rows.uptoBulk, bulkW, bulk_all ps]
  | .iface _ d => by simp [Rows.uptoBulk, bulkW, bulk_eq d]
  | .map es => by simp [Rows.uptoBulk, bulkW, bulk_entries es]
  | .held _ => by simp [Rows.uptoBulk, bulkW]
theorem bulk_all {H : Type} : ∀ l : List (DataW H), Rows.uptoBulkAll l = bulkAll l
  | [] => by simp [Rows.uptoBulkAll, bulkAll]
  | d :: l => by simp [Rows.uptoBulkAll, bulkAll, bulk_eq d, bulk_all l]
theorem bulk_entries {H : Type} : ∀ l : List (Lit × DataW H), Rows.uptoBulkEntries l = bulkEntries l
  | [] => by simp [Rows.uptoBulkEntries, bulkEntries]
  | x :: l => by simp [Rows.uptoBulkEntries, bulkEntries, bulk_entry x, bulk_entries l]
theorem bulk_entry {H : Type} : ∀ x : Lit × DataW H, Rows.uptoBulkEntry x = bulkEntry x
  | (.string b, d) => by simp [Rows.uptoBulkEntry, bulkEntry, bulk_eq d]
  | (.bool _, d) => by simp [Rows.uptoBulkEntry, bulkEntry, bulk_eq d]
  | (.int _ _, d) => by simp [Rows.uptoBulkEntry, bulkEntry, bulk_eq d]
  | (.float _ _, d) => by simp [Rows.uptoBulkEntry, bulkEntry, bulk_eq d]
  | (.nil, d) => by simp [Rows.uptoBulkEntry, bulkEntry, bulk_eq d]
end
theorem small_bulk {H : Type} {l : List (DataW H)} (hk : Rows.uptoSmall H l = true) : bulkAll l ≤ 1048576 := by
  have h : Rows.uptoBulkAll l ≤ 1048576 := of_decide_eq_true hk
  rwa [bulk_all] at h
theorem bulk_mem {H : Type} {d : DataW H} : ∀ {l : List (DataW H)}, d ∈ l → bulkW d ≤ bulkAll l
  | x :: l, h => by
    rw [bulkAll]
    rcases List.mem_cons.1 h with rfl | h
    · omega
    · have := bulk_mem h; omega
theorem list_of {α : Type} {g : α → List PV} {q : α → Prop} : ∀ {ess : List (List PV)}, (∀ es ∈ ess, ∃ x, es = g x ∧ q x) → ∃ l : List α, ess = l.map g ∧ ∀ x ∈ l, q x
  | [], _ => ⟨[], rfl, by simp⟩
  | es :: ess, h => by
    obtain ⟨x, rfl, hx⟩ := h es (by simp)
    obtain ⟨l, rfl, hl⟩ := list_of (ess := ess) fun e he => h e (by simp [he])
    exact ⟨x :: l, rfl, fun y hy => by
      rcases List.mem_cons.1 hy with rfl | hy
      · exact hx
      · exact hl y hy⟩
theorem flat_of {α : Type} (g : α → List PV) (l : List α) : (l.map g).flatten = l.flatMap g := List.flatMap_def.symm
theorem getD_of {α : Type} {q : α → Prop} {l : List α} (h : ∀ x ∈ l, q x) (d : α) (hd : q d) (i : Nat) : q (l.getD i d) := by
  rcases Nat.lt_or_ge i l.length with h1 | h1
  · rw [List.getD_eq_getElem?_getD, List.getElem?_eq_getElem h1]
    exact h _ (List.getElem_mem h1)
  · rw [List.getD_eq_getElem?_getD, List.getElem?_eq_none h1]
    exact hd
/-- A number of a kind. -/
theorem sh_num {P : Program} {t : TypeId} {k : IntKind} (ht : P.underlying t = some (.int k)) {n : Nat} {ps : List PV} (h : Sh P n t ps) : ∃ m, ps = [.av (.int k m)] ∧ (Lit.int k m).wf = true := by
  cases n with
  | zero => exact h.elim
  | succ n => simpa only [Sh, ht] using h
theorem sh_bool {P : Program} {t : TypeId} (ht : P.underlying t = some .bool) {n : Nat} {ps : List PV} (h : Sh P n t ps) : ∃ b, ps = [bv b] := by
  cases n with
  | zero => exact h.elim
  | succ n => simpa only [Sh, ht] using h
theorem sh_str {P : Program} {t : TypeId} (ht : P.underlying t = some .string) {n : Nat} {ps : List PV} (h : Sh P n t ps) : ∃ s : ByteArray, ps = [.av (.string s)] ∧ s.size ≤ maxLen := by
  cases n with
  | zero => exact h.elim
  | succ n => simpa only [Sh, ht] using h
theorem sh_float {P : Program} {t : TypeId} {k : FloatKind} (ht : P.underlying t = some (.float k)) {n : Nat} {ps : List PV} (h : Sh P n t ps) : ∃ b, ps = [.av (.float k b)] ∧ (Lit.float k b).wf = true := by
  cases n with
  | zero => exact h.elim
  | succ n => simpa only [Sh, ht] using h
/-- A slice of elements that are told. -/
theorem sh_list {P : Program} {t e : TypeId} (ht : P.underlying t = some (.slice e)) {α : Type} {g : α → List PV} {q : α → Prop} {n : Nat} {ps : List PV} (h : Sh P n t ps) (hg : ∀ m es, m < n → Sh P m e es → ∃ x, es = g x ∧ q x) :
    ∃ l : List α, ps = [.ssl (l.flatMap g) 0 l.length] ∧ (∀ x ∈ l, q x) ∧ l.length ≤ maxLen ∧ l.length * P.bytesOf e ≤ reachBytes := by
  cases n with
  | zero => exact h.elim
  | succ n =>
    simp only [Sh, ht] at h
    obtain ⟨ess, rfl, h1, h2, h3⟩ := h
    obtain ⟨l, rfl, hl⟩ := list_of fun es hes => hg n es (Nat.lt_succ_self _) (h3 es hes)
    rw [List.length_map] at h1 h2
    refine ⟨l, by rw [flat_of, List.length_map], hl, h1, h2⟩
theorem sh_ints {P : Program} {t e : TypeId} (ht : P.underlying t = some (.slice e)) (he : P.underlying e = some (.int .i64)) {n : Nat} {ps : List PV} (h : Sh P n t ps) :
    ∃ l : List Int, ps = [.ssl (ints l) 0 l.length] ∧ (∀ m ∈ l, (Lit.int .i64 m).wf = true) ∧ l.length ≤ maxLen ∧ l.length * P.bytesOf e ≤ reachBytes := by
  obtain ⟨l, h1, h2, h3, h4⟩ := sh_list (g := fun m => [iv m]) (q := fun m => (Lit.int .i64 m).wf = true) ht h fun m es _ hs => by
    obtain ⟨x, h1, h2⟩ := sh_num he hs
    exact ⟨x, h1, h2⟩
  exact ⟨l, h1, h2, h3, h4⟩
theorem sh_rows {P : Program} {t e k : TypeId} (ht : P.underlying t = some (.slice e)) (he : P.underlying e = some (.slice k)) (hk : P.underlying k = some (.int .i64)) {n : Nat} {ps : List PV} (h : Sh P n t ps) :
    ∃ T : List (List Int), ps = [.ssl (rows T) 0 T.length] ∧ (∀ l ∈ T, (∀ m ∈ l, (Lit.int .i64 m).wf = true) ∧ l.length * P.bytesOf k ≤ reachBytes) ∧ T.length ≤ maxLen := by
  obtain ⟨l, h1, h2, h3, _⟩ := sh_list (g := fun l : List Int => [.ssl (ints l) 0 l.length]) (q := fun l => (∀ m ∈ l, (Lit.int .i64 m).wf = true) ∧ l.length * P.bytesOf k ≤ reachBytes) ht h fun m es _ hs => by
    obtain ⟨x, h1, h2, _, h3⟩ := sh_ints he hk hs
    exact ⟨x, h1, h2, h3⟩
  exact ⟨l, h1, h2, h3⟩
theorem pvws_ints (l : List Int) : pvws (ints l) = l.length := by
  induction l with
  | nil => rfl
  | cons a l ih =>
    rw [ints_map] at ih ⊢
    rw [List.map_cons, pvws, ih, List.length_cons, pvw]
    · omega
    all_goals intros; simp_all
theorem pvws_rows : ∀ T : List (List Int), pvws (rows T) = (T.map List.length).sum + T.length
  | [] => rfl
  | l :: T => by
    have ih := pvws_rows T
    rw [rows_map] at ih ⊢
    rw [List.map_cons, pvws, ih, pvw, pvws_ints, List.map_cons, List.sum_cons, List.length_cons]
    omega
end Go.Proofs.Ytgkahjaoajjgcaa.Pm
namespace Go.Proofs.Ytgkahjaoajjgcaa.Fl
open Go Ieee

abbrev F := Ieee.double
theorem D_binade : F.binade = 4503599627370496 := rfl
theorem D_inf : F.infRung = 9218868437227405312 := rfl
theorem D_least : F.leastPlace = -1074 := rfl
theorem D_sign : F.signWeight = 9223372036854775808 := rfl
/-- A positive normal number. -/
def Nrm (r : Nat) : Prop := 4503599627370496 ≤ r ∧ r < 9218868437227405312
/-- Its digits, and its last digit's place. -/
def mnt (r : Nat) : Nat := 4503599627370496 + r % 4503599627370496
def plc (r : Nat) : Int := -1074 + ((r / 4503599627370496 - 1 : Nat) : Int)
theorem mnt_bd (r : Nat) : 4503599627370496 ≤ mnt r ∧ mnt r < 9007199254740992 := by unfold mnt; omega
theorem rung_of {r : Nat} (h : Nrm r) : r = (plc r + 1074).toNat * 4503599627370496 + mnt r := by unfold Nrm at h; unfold plc mnt; omega
theorem read_nrm {r : Nat} (h : Nrm r) : F.read r = .number false (mnt r) (plc r) := by
  unfold Nrm at h
  unfold Format.read
  rw [D_binade, D_inf, D_least, D_sign]
  have e1 : r % 9223372036854775808 = r := Nat.mod_eq_of_lt (by omega)
  have e2 : (r / 9223372036854775808 % 2 == 1) = false := by rw [Nat.div_eq_of_lt (by omega)]; rfl
  simp only [e1, e2]
  rw [if_neg (by omega), if_pos (by omega)]
  rfl
theorem log2_of {n k : Nat} (h1 : 2 ^ k ≤ n) (h2 : n < 2 ^ (k + 1)) : n.log2 = k := by
  have hn : n ≠ 0 := by intro e; subst e; have := Nat.pow_pos (n := k) (show 0 < 2 by decide); omega
  exact (Nat.log2_eq_iff hn).2 ⟨h1, h2⟩
/-- A cut where nothing is left over. -/
theorem cut_exact (m s : Nat) (hm : 1 ≤ m) : Toward.even.cut false (m * 2 ^ s) s = m := by
  have hs : s ≤ (m * 2 ^ s).log2 + 2 := by
    have : s ≤ (m * 2 ^ s).log2 := by
      apply (Nat.le_log2 (by have := Nat.pow_pos (n := s) (show 0 < 2 by decide); exact Nat.mul_ne_zero (by omega) (by omega))).2
      exact Nat.le_mul_of_pos_left _ (by omega)
    omega
  unfold Toward.cut
  rw [Nat.min_eq_left hs, Nat.one_shiftLeft]
  have hp := Nat.pow_pos (n := s) (show 0 < 2 by decide)
  simp only [Nat.mul_div_cancel _ hp, Nat.mul_mod_left]
  have h1 : decide (2 ^ s < 2 * 0) = false := by simp
  have h2 : (2 ^ s == 2 * 0) = false := by rw [beq_eq_false_iff_ne]; omega
  simp [h2]
/-- A number that the format has is written as it is. -/
theorem nearest_exact {m s : Nat} {p : Int} (h1 : 4503599627370496 ≤ m) (h2 : m < 9007199254740992) (hp : -1074 ≤ p + s) (hi : (p + s + 1074).toNat * 4503599627370496 + m ≤ 9218868437227405312) :
    F.nearest false (m * 2 ^ s) p = (p + s + 1074).toNat * 4503599627370496 + m := by
  have hs := Nat.pow_pos (n := s) (show 0 < 2 by decide)
  have hl : (m * 2 ^ s).log2 = 52 + s := log2_of (by rw [Nat.pow_add]; exact Nat.mul_le_mul_right _ h1) (by
    rw [show 52 + s + 1 = 53 + s from by omega, Nat.pow_add]
    exact Nat.mul_lt_mul_of_pos_right h2 hs)
  unfold Format.nearest
  rw [if_neg (Nat.mul_ne_zero (by omega) (by omega)), hl, D_least, D_inf, D_binade]
  have e : max (p + ((52 + s : Nat) : Int) - ((F.fractionBits : Nat) : Int)) (-1074) = p + s := by
    rw [show ((F.fractionBits : Nat) : Int) = 52 from rfl]; omega
  rw [e]
  simp only [show (p - (p + (s : Int))).toNat = 0 from by omega, show (p + (s : Int) - p).toNat = s from by omega, Nat.shiftLeft_zero]
  rw [cut_exact m s (by omega), show p + (s : Int) - -1074 = p + s + 1074 from by omega, Nat.min_eq_left hi]
  rfl
theorem one_nrm : F.read 4607182418800017408 = .number false 4503599627370496 (-52) := by decide +kernel
theorem two_nrm : F.read 4611686018427387904 = .number false 4503599627370496 (-51) := by decide +kernel
theorem pow52 : (4503599627370496 : Nat) = 2 ^ 52 := by decide
/-- Once. -/
theorem mul_one_l {r : Nat} (h : Nrm r) : F.mul 4607182418800017408 r = some r := by
  unfold Format.mul
  rw [one_nrm, read_nrm h]
  show some (F.nearest false (4503599627370496 * mnt r) (-52 + plc r)) = some r
  have hb := mnt_bd r
  have hr := rung_of h
  rw [Nat.mul_comm, show mnt r * 4503599627370496 = mnt r * 2 ^ 52 from rfl, nearest_exact hb.1 hb.2 (by unfold plc; omega) (by unfold Nrm at h; rw [show -52 + plc r + ((52 : Nat) : Int) + 1074 = plc r + 1074 from by omega, ← hr]; omega)]
  rw [show -52 + plc r + ((52 : Nat) : Int) + 1074 = plc r + 1074 from by omega, ← hr]
/-- Twice. -/
theorem mul_two {r : Nat} (h : Nrm r) (h2 : Nrm (r + 4503599627370496)) : F.mul r 4611686018427387904 = some (r + 4503599627370496) := by
  unfold Format.mul
  rw [two_nrm, read_nrm h]
  show some (F.nearest false (mnt r * 4503599627370496) (plc r + -51)) = some _
  have hb := mnt_bd r
  have hr := rung_of h
  have e : (plc r + -51 + ((52 : Nat) : Int) + 1074).toNat * 4503599627370496 + mnt r = r + 4503599627370496 := by
    unfold plc at *; omega
  unfold Nrm at h2
  rw [show mnt r * 4503599627370496 = mnt r * 2 ^ 52 from rfl, nearest_exact hb.1 hb.2 (by unfold plc; omega) (by rw [e]; omega), e]
/-- A half. -/
theorem div_two {r : Nat} (h : Nrm (r + 4503599627370496)) (h1 : Nrm r) : F.div (r + 4503599627370496) 4611686018427387904 = some r := by
  unfold Format.div
  rw [two_nrm, read_nrm h]
  have hb := mnt_bd (r + 4503599627370496)
  have hl : (mnt (r + 4503599627370496)).log2 = 52 := log2_of (by omega) (by omega)
  have hm : mnt (r + 4503599627370496) = mnt r := by unfold mnt; omega
  have hb' := mnt_bd r
  have hr := rung_of h1
  show some (F.write (.number (false ^^ false) (2 * ((mnt (r + 4503599627370496) <<< (F.fractionBits + 2 + (4503599627370496 : Nat).log2 - (mnt (r + 4503599627370496)).log2)) / 4503599627370496) + ((mnt (r + 4503599627370496) <<< (F.fractionBits + 2 + (4503599627370496 : Nat).log2 - (mnt (r + 4503599627370496)).log2)) % 4503599627370496 != 0).toNat) (plc (r + 4503599627370496) - -51 - ((F.fractionBits + 2 + (4503599627370496 : Nat).log2 - (mnt (r + 4503599627370496)).log2 : Nat) : Int) - 1))) = some r
  rw [hl, show (4503599627370496 : Nat).log2 = 52 from by decide +kernel, show F.fractionBits + 2 + 52 - 52 = 54 from rfl, Nat.shiftLeft_eq, hm]
  have e1 : mnt r * 2 ^ 54 = mnt r * 4 * 4503599627370496 := by rw [Nat.mul_assoc, show 4 * 4503599627370496 = 2 ^ 54 from by decide]
  rw [e1, Nat.mul_div_cancel _ (by decide), Nat.mul_mod_left]
  show some (F.nearest false (2 * (mnt r * 4) + 0) _) = some r
  have e2 : 2 * (mnt r * 4) + 0 = mnt r * 2 ^ 3 := by rw [show (2 : Nat) ^ 3 = 8 from by decide]; omega
  have hp : plc (r + 4503599627370496) = plc r + 1 := by
    unfold Nrm at h1
    unfold plc
    clear e1 e2 hr hl hm
    omega
  have hq : (-1074 : Int) ≤ plc r := by unfold plc; omega
  clear e1
  have e3 : (plc (r + 4503599627370496) - -51 - ((54 : Nat) : Int) - 1 + ((3 : Nat) : Int) + 1074).toNat * 4503599627370496 + mnt r = r := by
    rw [hp, show plc r + 1 - -51 - ((54 : Nat) : Int) - 1 + ((3 : Nat) : Int) + 1074 = plc r + 1074 from by omega, ← hr]
  rw [e2, nearest_exact hb'.1 hb'.2 (by rw [hp]; omega) (by rw [e3]; unfold Nrm at h1; omega), e3]
end Go.Proofs.Ytgkahjaoajjgcaa.Fl
namespace Go.Proofs.Ytgkahjaoajjgcaa.Fl
open Go Ieee

/-- The product of two positive normal numbers. -/
def mulR (a s : Nat) : Nat := F.nearest false (mnt a * mnt s) (plc a + plc s)
theorem mul_nrm {a s : Nat} (ha : Nrm a) (hs : Nrm s) : F.mul a s = some (mulR a s) := by
  unfold Format.mul
  rw [read_nrm ha, read_nrm hs]
  rfl
theorem word_pos (r : Nat) : F.word false r = r := rfl
/-- What is kept of a number of 53 + d digits. -/
def keep (n d : Nat) : Nat := n / 2 ^ d + (decide (2 ^ d < 2 * (n % 2 ^ d)) || (2 ^ d == 2 * (n % 2 ^ d) && n / 2 ^ d % 2 == 1)).toNat
theorem cut_keep {n d : Nat} (h : n.log2 = 52 + d) : Toward.even.cut false n d = keep n d := by
  unfold Toward.cut keep
  rw [Nat.min_eq_left (by omega), Nat.one_shiftLeft]
theorem log_bd {n k : Nat} (hn : n ≠ 0) (h : n.log2 = k) : 2 ^ k ≤ n ∧ n < 2 ^ (k + 1) := (Nat.log2_eq_iff hn).1 h
theorem keep_bd {n d : Nat} (hn : n ≠ 0) (h : n.log2 = 52 + d) : 4503599627370496 ≤ keep n d ∧ keep n d ≤ 9007199254740992 := by
  obtain ⟨h1, h2⟩ := log_bd hn h
  have hp := Nat.pow_pos (n := d) (show 0 < 2 by decide)
  have e1 : 4503599627370496 ≤ n / 2 ^ d := (Nat.le_div_iff_mul_le hp).2 (by rw [pow52, ← Nat.pow_add]; exact h1)
  have e2 : n / 2 ^ d < 9007199254740992 := (Nat.div_lt_iff_lt_mul hp).2 (by
    rw [show (9007199254740992 : Nat) = 2 ^ 53 from by decide, ← Nat.pow_add, show 53 + d = 52 + d + 1 from by omega]; exact h2)
  unfold keep
  have := Bool.toNat_le (decide (2 ^ d < 2 * (n % 2 ^ d)) || (2 ^ d == 2 * (n % 2 ^ d) && n / 2 ^ d % 2 == 1))
  omega
theorem nearest_keep {n d : Nat} {p : Int} (hn : n ≠ 0) (h : n.log2 = 52 + d) (hp : -1074 ≤ p + d) : F.nearest false n p = min ((p + d + 1074).toNat * 4503599627370496 + keep n d) 9218868437227405312 := by
  unfold Format.nearest
  rw [if_neg hn, h, D_least, D_inf, D_binade]
  have e : max (p + ((52 + d : Nat) : Int) - ((F.fractionBits : Nat) : Int)) (-1074) = p + d := by
    rw [show ((F.fractionBits : Nat) : Int) = 52 from rfl]; omega
  rw [e]
  simp only [show (p - (p + (d : Int))).toNat = 0 from by omega, show (p + (d : Int) - p).toNat = d from by omega, Nat.shiftLeft_zero]
  rw [cut_keep h, show p + (d : Int) - -1074 = p + d + 1074 from by omega, word_pos]
theorem keep_mono {n m d : Nat} (h : n ≤ m) : keep n d ≤ keep m d := by
  have hp := Nat.pow_pos (n := d) (show 0 < 2 by decide)
  have h1 : n / 2 ^ d ≤ m / 2 ^ d := Nat.div_le_div_right h
  unfold keep
  have b1 := Bool.toNat_le (decide (2 ^ d < 2 * (n % 2 ^ d)) || (2 ^ d == 2 * (n % 2 ^ d) && n / 2 ^ d % 2 == 1))
  rcases Nat.lt_or_ge (n / 2 ^ d) (m / 2 ^ d) with h2 | h2
  · omega
  · have h3 : n / 2 ^ d = m / 2 ^ d := by omega
    have e1 := Nat.div_add_mod n (2 ^ d)
    have e2 := Nat.div_add_mod m (2 ^ d)
    have h4 : n % 2 ^ d ≤ m % 2 ^ d := by rw [h3] at e1; omega
    rw [h3]
    apply Nat.add_le_add_left
    generalize n % 2 ^ d = x at *
    generalize m % 2 ^ d = y at *
    by_cases c1 : 2 ^ d < 2 * y
    · simp only [c1, decide_true, Bool.true_or, Bool.toNat_true]; exact Bool.toNat_le _
    · by_cases c2 : 2 ^ d < 2 * x
      · omega
      · simp only [c1, c2, decide_false, Bool.false_or]
        by_cases c3 : 2 ^ d = 2 * x
        · have c4 : 2 ^ d = 2 * y := by omega
          rw [show (2 ^ d == 2 * x) = true from by rw [beq_iff_eq]; exact c3, show (2 ^ d == 2 * y) = true from by rw [beq_iff_eq]; exact c4]
          exact Nat.le_refl _
        · rw [show (2 ^ d == 2 * x) = false from by rw [beq_eq_false_iff_ne]; exact c3]
          simp
theorem nearest_mono {n m d e : Nat} {p : Int} (hn : n ≠ 0) (h : n ≤ m) (h1 : n.log2 = 52 + d) (h2 : m.log2 = 52 + e) (hp : -1074 ≤ p + d) : F.nearest false n p ≤ F.nearest false m p := by
  have hm : m ≠ 0 := by omega
  obtain ⟨a1, a2⟩ := log_bd hn h1
  obtain ⟨b1, b2⟩ := log_bd hm h2
  have hde : d ≤ e := by
    rcases Nat.lt_or_ge e d with g | g
    · have : 2 ^ (52 + e + 1) ≤ 2 ^ (52 + d) := Nat.pow_le_pow_right (by decide) (by omega)
      omega
    · exact g
  rw [nearest_keep hn h1 hp, nearest_keep hm h2 (by omega)]
  have k1 := keep_bd hn h1
  have k2 := keep_bd hm h2
  rcases Nat.lt_or_ge d e with g | g
  · have : (p + d + 1074).toNat * 4503599627370496 + keep n d ≤ (p + e + 1074).toNat * 4503599627370496 + keep m e := by
      have : (p + d + 1074).toNat + 1 ≤ (p + e + 1074).toNat := by omega
      omega
    exact Nat.le_min.2 ⟨Nat.le_trans (Nat.min_le_left _ _) this, Nat.min_le_right _ _⟩
  · have hd : d = e := by omega
    subst hd
    have := keep_mono (d := d) h
    exact Nat.le_min.2 ⟨Nat.le_trans (Nat.min_le_left _ _) (Nat.add_le_add_left this _), Nat.min_le_right _ _⟩
theorem prod_log {m n : Nat} (h1 : 4503599627370496 ≤ m) (h2 : m < 9007199254740992) (h3 : 4503599627370496 ≤ n) (h4 : n < 9007199254740992) : m * n ≠ 0 ∧ ((m * n).log2 = 52 + 52 ∨ (m * n).log2 = 52 + 53) := by
  have a1 : 4503599627370496 * 4503599627370496 ≤ m * n := Nat.mul_le_mul h1 h3
  have a2 : m * n < 9007199254740992 * 9007199254740992 := Nat.mul_lt_mul'' h2 h4
  have hn : m * n ≠ 0 := by omega
  refine ⟨hn, ?_⟩
  have b1 : 104 ≤ (m * n).log2 := (Nat.le_log2 hn).2 (by rw [show (2 : Nat) ^ 104 = 4503599627370496 * 4503599627370496 from by decide]; exact a1)
  have b2 : (m * n).log2 < 106 := (Nat.log2_lt hn).2 (by rw [show (2 : Nat) ^ 106 = 9007199254740992 * 9007199254740992 from by decide]; exact a2)
  omega
/-- A product of two numbers of such a size has such a size. -/
theorem near_bd {z : Int} {d : Nat} {q : Nat} (h0 : -1074 ≤ z + d) (h1 : z + d ≤ 900) (hq : q ≤ 9007199254740992) : min ((z + d + 1074).toNat * 4503599627370496 + q) 9218868437227405312 = (z + d + 1074).toNat * 4503599627370496 + q := by
  have h2 : (z + d + 1074).toNat ≤ 1974 := by omega
  exact Nat.min_eq_left (by omega)
theorem mulR_bd {a s : Nat} (hp : -1074 ≤ plc a + plc s + 52) (hq : plc a + plc s ≤ 800) : (plc a + plc s + 52 + 1074).toNat * 4503599627370496 + 4503599627370496 ≤ mulR a s ∧ mulR a s ≤ (plc a + plc s + 53 + 1074).toNat * 4503599627370496 + 9007199254740992 := by
  obtain ⟨hn, hl⟩ := prod_log (mnt_bd a).1 (mnt_bd a).2 (mnt_bd s).1 (mnt_bd s).2
  unfold mulR
  have hz : (plc a + plc s + 53 + 1074).toNat = (plc a + plc s + 52 + 1074).toNat + 1 := by omega
  rcases hl with hl | hl
  · have k := keep_bd hn hl
    rw [nearest_keep hn hl (by omega), near_bd (by omega) (by omega) k.2, show plc a + plc s + ((52 : Nat) : Int) + 1074 = plc a + plc s + 52 + 1074 from rfl, hz]
    generalize (plc a + plc s + 52 + 1074).toNat = z at *
    generalize keep (mnt a * mnt s) 52 = q at *
    clear hl hn hz
    omega
  · have k := keep_bd hn hl
    rw [nearest_keep hn hl (by omega), near_bd (by omega) (by omega) k.2, show plc a + plc s + ((53 : Nat) : Int) + 1074 = plc a + plc s + 53 + 1074 from rfl, hz]
    generalize (plc a + plc s + 52 + 1074).toNat = z at *
    generalize keep (mnt a * mnt s) 53 = q at *
    clear hl hn hz
    omega
theorem mulR_mono {a s t : Nat} (hp : -1074 ≤ plc a + plc s + 52) (he : plc s = plc t) (h : mnt s ≤ mnt t) : mulR a s ≤ mulR a t := by
  obtain ⟨hn, hl⟩ := prod_log (mnt_bd a).1 (mnt_bd a).2 (mnt_bd s).1 (mnt_bd s).2
  obtain ⟨hm, hk⟩ := prod_log (mnt_bd a).1 (mnt_bd a).2 (mnt_bd t).1 (mnt_bd t).2
  unfold mulR
  rw [← he]
  have hle := Nat.mul_le_mul_left (mnt a) h
  rcases hl with hl | hl <;> rcases hk with hk | hk
  · exact nearest_mono hn hle hl hk (by omega)
  · exact nearest_mono hn hle hl hk (by omega)
  · exact nearest_mono hn hle hl hk (by omega)
  · exact nearest_mono hn hle hl hk (by omega)
/-- Less than twice, if it is less than twice. -/
theorem mulR_less {a s : Nat} (ha : Nrm a) (h2 : Nrm (a + 4503599627370496)) (hs : plc s = -52) : mulR a s ≤ a + 4503599627370496 := by
  obtain ⟨hn, hl⟩ := prod_log (mnt_bd a).1 (mnt_bd a).2 (mnt_bd s).1 (mnt_bd s).2
  have hb := mnt_bd a
  have hr := rung_of ha
  have hq : -1074 ≤ plc a := by unfold plc; omega
  have ep : mnt a * 2 ^ 53 ≠ 0 := by have := Nat.pow_pos (n := 53) (show 0 < 2 by decide); exact Nat.mul_ne_zero (by omega) (by omega)
  have el : (mnt a * 2 ^ 53).log2 = 52 + 53 := log2_of (by rw [Nat.pow_add]; exact Nat.mul_le_mul_right _ hb.1) (by
    rw [show 52 + 53 + 1 = 53 + 53 from by omega, Nat.pow_add]
    exact Nat.mul_lt_mul_of_pos_right hb.2 (Nat.pow_pos (by decide)))
  have ea : plc a + -52 + ((53 : Nat) : Int) + 1074 = plc a + 1074 + 1 := by omega
  have er : (plc a + -52 + ((53 : Nat) : Int) + 1074).toNat * 4503599627370496 + mnt a = a + 4503599627370496 := by
    rw [ea]
    generalize mnt a = q at *
    generalize plc a = z at *
    clear hl hn ep el
    omega
  have ex := nearest_exact (m := mnt a) (s := 53) (p := plc a + -52) hb.1 hb.2 (by omega) (by rw [er]; unfold Nrm at h2; omega)
  have hle : mnt a * mnt s ≤ mnt a * 2 ^ 53 := Nat.mul_le_mul_left _ (Nat.le_of_lt (mnt_bd s).2)
  rw [← er, ← ex]
  unfold mulR
  rw [hs]
  rcases hl with hl | hl
  · exact nearest_mono hn hle hl el (by omega)
  · exact nearest_mono hn hle hl el (by omega)
theorem mulR_one {a : Nat} (ha : Nrm a) : mulR a 4607182418800017408 = a := by
  have h := mul_nrm ha (show Nrm 4607182418800017408 by unfold Nrm; omega)
  have hb := mnt_bd a
  have hr := rung_of ha
  have hq : -1074 ≤ plc a := by unfold plc; omega
  have e1 : mnt 4607182418800017408 = 2 ^ 52 := by decide +kernel
  have e2 : plc 4607182418800017408 = -52 := by decide +kernel
  unfold mulR
  rw [e1, e2, nearest_exact hb.1 hb.2 (by omega) (by
    rw [show plc a + -52 + ((52 : Nat) : Int) + 1074 = plc a + 1074 from by omega, ← hr]; unfold Nrm at ha; omega),
    show plc a + -52 + ((52 : Nat) : Int) + 1074 = plc a + 1074 from by omega, ← hr]

/-! ### The order -/
theorem shl_bd {m d : Nat} (h : 4503599627370496 ≤ m) (hd : 1 ≤ d) : 9007199254740992 ≤ m <<< d := by
  rw [Nat.shiftLeft_eq]
  have : 2 ^ 1 ≤ 2 ^ d := Nat.pow_le_pow_right (by decide) hd
  have := Nat.mul_le_mul h this
  omega
theorem order_nrm {r s : Nat} (hr : Nrm r) (hs : Nrm s) : F.order r s = some (compare r s) := by
  unfold Format.order
  rw [read_nrm hr, read_nrm hs]
  show some (compare (signed false (mnt r) (plc r - min (plc r) (plc s)).toNat) (signed false (mnt s) (plc s - min (plc r) (plc s)).toNat)) = _
  congr 1
  have e1 := rung_of hr
  have e2 := rung_of hs
  have b1 := mnt_bd r
  have b2 := mnt_bd s
  have p1 : -1074 ≤ plc r := by unfold plc; omega
  have p2 : -1074 ≤ plc s := by unfold plc; omega
  unfold signed
  simp only [Bool.false_eq_true, if_false]
  rcases Int.lt_trichotomy (plc r) (plc s) with h | h | h
  · have hb := shl_bd b2.1 (show 1 ≤ (plc s - plc r).toNat from by omega)
    rw [Int.min_eq_left (Int.le_of_lt h), show (plc r - plc r).toNat = 0 from by omega, Nat.shiftLeft_zero]
    rw [Int.compare_eq_lt.2 (by omega), Nat.compare_eq_lt.2 (by omega)]
  · rw [h, Int.min_eq_left (Int.le_refl _), show (plc s - plc s).toNat = 0 from by omega, Nat.shiftLeft_zero, Nat.shiftLeft_zero]
    rw [h] at e1
    rcases Nat.lt_trichotomy (mnt r) (mnt s) with g | g | g
    · rw [Int.compare_eq_lt.2 (by omega), Nat.compare_eq_lt.2 (by omega)]
    · rw [Int.compare_eq_eq.2 (by omega), Nat.compare_eq_eq.2 (by omega)]
    · rw [Int.compare_eq_gt.2 (by omega), Nat.compare_eq_gt.2 (by omega)]
  · have hb := shl_bd b1.1 (show 1 ≤ (plc r - plc s).toNat from by omega)
    rw [Int.min_eq_right (Int.le_of_lt h), show (plc s - plc s).toNat = 0 from by omega, Nat.shiftLeft_zero]
    rw [Int.compare_eq_gt.2 (by omega), Nat.compare_eq_gt.2 (by omega)]
end Go.Proofs.Ytgkahjaoajjgcaa.Fl
namespace Go.Proofs.Ytgkahjaoajjgcaa.Fl
open Go Ieee

theorem wrap_u {n : Nat} (h : n < 18446744073709551616) : IntKind.wrap .u64 ((n : Nat) : Int) = ((n : Nat) : Int) := Pm.wrap_in (by simp only [Pm.InK]; omega)
theorem wrap_i {n : Nat} (h : n < 9223372036854775808) : IntKind.wrap .i64 ((n : Nat) : Int) = ((n : Nat) : Int) := Pm.wrap_in (by simp only [Pm.InK]; omega)
theorem mask_2047 (x : Nat) (h : x < 2048) : IntKind.wrap .i64 (BitVec.ofInt (IntKind.bits .i64) ((x : Nat) : Int) &&& BitVec.ofInt (IntKind.bits .i64) 2047).toNat = ((x : Nat) : Int) := by
  have e : (BitVec.ofInt 64 ((x : Nat) : Int) &&& BitVec.ofInt 64 2047).toNat = x := by
    rw [BitVec.ofInt_natCast, show (BitVec.ofInt 64 2047) = BitVec.ofNat 64 2047 from rfl, BitVec.toNat_and, BitVec.toNat_ofNat, BitVec.toNat_ofNat, Nat.mod_eq_of_lt (by omega), show 2047 % 2 ^ 64 = 2 ^ 11 - 1 from by decide, Nat.and_two_pow_sub_one_eq_mod]
    omega
  show IntKind.wrap .i64 ((BitVec.ofInt 64 ((x : Nat) : Int) &&& BitVec.ofInt 64 2047).toNat : Int) = _
  rw [e]; exact wrap_i (by omega)
theorem bit_in {r : Nat} (h : r < 9223372036854775808) {i : Nat} (hi : 63 ≤ i) : r.testBit i = false := Nat.testBit_lt_two_pow (Nat.lt_of_lt_of_le h (by
  rw [show (9223372036854775808 : Nat) = 2 ^ 63 from by decide]; exact Nat.pow_le_pow_right (by decide) hi))
theorem mask_frac {r : Nat} (h : r < 9223372036854775808) : IntKind.wrap .u64 (BitVec.ofInt (IntKind.bits .u64) ((r : Nat) : Int) &&& ~~~ BitVec.ofInt (IntKind.bits .u64) 9218868437227405312).toNat = ((r % 4503599627370496 : Nat) : Int) := by
  have e : (BitVec.ofInt 64 ((r : Nat) : Int) &&& ~~~ BitVec.ofInt 64 9218868437227405312).toNat = r % 4503599627370496 := by
    rw [BitVec.ofInt_natCast, show (~~~ BitVec.ofInt 64 9218868437227405312) = BitVec.ofNat 64 (2 ^ 63 + (2 ^ 52 - 1)) from by decide, BitVec.toNat_and, BitVec.toNat_ofNat, BitVec.toNat_ofNat, Nat.mod_eq_of_lt (by omega), show (2 ^ 63 + (2 ^ 52 - 1)) % 2 ^ 64 = 2 ^ 63 + (2 ^ 52 - 1) from by decide]
    apply Nat.eq_of_testBit_eq
    intro i
    rw [Nat.testBit_and, show (4503599627370496 : Nat) = 2 ^ 52 from by decide, Nat.testBit_mod_two_pow]
    by_cases h1 : i < 52
    · rw [Nat.testBit_two_pow_add_gt (by omega), Nat.testBit_two_pow_sub_one, decide_eq_true h1, Bool.and_true, Bool.true_and]
    · rw [decide_eq_false h1, Bool.false_and]
      by_cases h2 : i < 63
      · rw [Nat.testBit_two_pow_add_gt h2, Nat.testBit_two_pow_sub_one, decide_eq_false h1, Bool.and_false]
      · rw [bit_in h (by omega), Bool.false_and]
  show IntKind.wrap .u64 ((BitVec.ofInt 64 ((r : Nat) : Int) &&& ~~~ BitVec.ofInt 64 9218868437227405312).toNat : Int) = _
  rw [e]; exact wrap_u (by omega)
theorem mask_abs {r : Nat} (h : r < 9223372036854775808) : IntKind.wrap .u64 (BitVec.ofInt (IntKind.bits .u64) ((r : Nat) : Int) &&& ~~~ BitVec.ofInt (IntKind.bits .u64) 9223372036854775808).toNat = ((r : Nat) : Int) := by
  have e : (BitVec.ofInt 64 ((r : Nat) : Int) &&& ~~~ BitVec.ofInt 64 9223372036854775808).toNat = r := by
    rw [BitVec.ofInt_natCast, show (~~~ BitVec.ofInt 64 9223372036854775808) = BitVec.ofNat 64 (2 ^ 63 - 1) from by decide, BitVec.toNat_and, BitVec.toNat_ofNat, BitVec.toNat_ofNat, Nat.mod_eq_of_lt (by omega), show (2 ^ 63 - 1) % 2 ^ 64 = 2 ^ 63 - 1 from by decide, Nat.and_two_pow_sub_one_eq_mod]
    exact Nat.mod_eq_of_lt h
  show IntKind.wrap .u64 ((BitVec.ofInt 64 ((r : Nat) : Int) &&& ~~~ BitVec.ofInt 64 9223372036854775808).toNat : Int) = _
  rw [e]; exact wrap_u (by omega)
theorem join_bits {f x : Nat} (hf : f < 4503599627370496) (hx : x < 2048) : IntKind.wrap .u64 (BitVec.ofInt (IntKind.bits .u64) ((f : Nat) : Int) ||| BitVec.ofInt (IntKind.bits .u64) ((x * 4503599627370496 : Nat) : Int)).toNat = ((f + x * 4503599627370496 : Nat) : Int) := by
  have e : (BitVec.ofInt 64 ((f : Nat) : Int) ||| BitVec.ofInt 64 ((x * 4503599627370496 : Nat) : Int)).toNat = f + x * 4503599627370496 := by
    rw [BitVec.ofInt_natCast, BitVec.ofInt_natCast, BitVec.toNat_or, BitVec.toNat_ofNat, BitVec.toNat_ofNat, Nat.mod_eq_of_lt (by omega), Nat.mod_eq_of_lt (by omega), Nat.or_comm]
    have := Nat.shiftLeft_add_eq_or_of_lt (i := 52) hf x
    rw [Nat.shiftLeft_eq, show (2 : Nat) ^ 52 = 4503599627370496 from by decide] at this
    omega
  show IntKind.wrap .u64 ((BitVec.ofInt 64 ((f : Nat) : Int) ||| BitVec.ofInt 64 ((x * 4503599627370496 : Nat) : Int)).toNat : Int) = _
  rw [e]; exact wrap_u (by omega)
theorem shr_52 (r : Nat) : (((r : Nat) : Int)).fdiv (2 ^ (52 : Int).toNat) = ((r / 4503599627370496 : Nat) : Int) := by
  rw [show (2 ^ (52 : Int).toNat : Int) = 4503599627370496 from by decide, Int.fdiv_eq_ediv_of_nonneg _ (by decide)]; rfl
/-- A number scaled by a power of two. -/
def ldR (r : Nat) (e : Int) : Nat := r % 4503599627370496 + (((r / 4503599627370496 : Nat) : Int) + e).toNat * 4503599627370496
theorem ldR_nrm {r : Nat} {e : Int} (h1 : 1 ≤ ((r / 4503599627370496 : Nat) : Int) + e) (h2 : ((r / 4503599627370496 : Nat) : Int) + e ≤ 2046) : Nrm (ldR r e) := by unfold Nrm ldR; omega
theorem ldR_zero (r : Nat) : ldR r 0 = r := by unfold ldR; omega
theorem ldR_succ {r : Nat} {e : Int} (h1 : 0 ≤ ((r / 4503599627370496 : Nat) : Int) + e) : ldR r (e + 1) = ldR r e + 4503599627370496 := by unfold ldR; omega
theorem order_zero {r : Nat} (h : Nrm r) : F.order r 0 = some .gt := by
  unfold Format.order
  rw [read_nrm h, show F.read 0 = .number false 0 (-1074) from by decide +kernel]
  show some (compare (signed false (mnt r) (plc r - min (plc r) (-1074)).toNat) (signed false 0 (-1074 - min (plc r) (-1074)).toNat)) = _
  congr 1
  have b := mnt_bd r
  unfold signed
  simp only [Bool.false_eq_true, if_false, Nat.zero_shiftLeft]
  apply Int.compare_eq_gt.2
  have : 0 < mnt r <<< (plc r - min (plc r) (-1074)).toNat := by
    rw [Nat.shiftLeft_eq]
    exact Nat.mul_pos (by omega) (Nat.pow_pos (by decide))
  omega
theorem cmp_lt {r s : Nat} (h : r < s) : compare r s = .lt := Nat.compare_eq_lt.2 h
theorem cmp_gt {r s : Nat} (h : s < r) : compare r s = .gt := Nat.compare_eq_gt.2 h
theorem cmp_eq {r s : Nat} (h : r = s) : compare r s = .eq := Nat.compare_eq_eq.2 h
/-- Whether a float is from 1 to 100000. -/
def fairB (a : Nat) : Bool := (F.order a 4607182418800017408 == some .gt || F.order a 4607182418800017408 == some .eq) && (F.order a 4681608360884174848 == some .lt || F.order a 4681608360884174848 == some .eq)
theorem one_ok : Nrm 4607182418800017408 := by unfold Nrm; omega
theorem most_ok : Nrm 4681608360884174848 := by unfold Nrm; omega
theorem signed_neg_le (m u : Nat) : signed true m u ≤ 0 := by unfold signed; simp only [if_true]; exact Int.neg_nonpos_of_nonneg (Int.natCast_nonneg _)
theorem signed_pos (m u : Nat) (h : 1 ≤ m) : 0 < signed false m u := by
  unfold signed
  simp only [Bool.false_eq_true, if_false]
  have : 0 < m <<< u := by rw [Nat.shiftLeft_eq]; exact Nat.mul_pos h (Nat.pow_pos (by decide))
  omega
theorem fair_nrm {a : Nat} (ha : a < 18446744073709551616) (h : fairB a = true) : Nrm a ∧ 4607182418800017408 ≤ a ∧ a ≤ 4681608360884174848 := by
  unfold fairB at h
  simp only [Bool.and_eq_true, Bool.or_eq_true, beq_iff_eq] at h
  obtain ⟨h1, h2⟩ := h
  by_cases hn : Nrm a
  · refine ⟨hn, ?_⟩
    rw [order_nrm hn one_ok] at h1
    rw [order_nrm hn most_ok] at h2
    simp only [Option.some.injEq] at h1 h2
    rcases h1 with h1 | h1 <;> rcases h2 with h2 | h2
    · have := Nat.compare_eq_gt.1 h1; have := Nat.compare_eq_lt.1 h2; omega
    · have := Nat.compare_eq_gt.1 h1; have := Nat.compare_eq_eq.1 h2; omega
    · have := Nat.compare_eq_eq.1 h1; have := Nat.compare_eq_lt.1 h2; omega
    · have := Nat.compare_eq_eq.1 h1; have := Nat.compare_eq_eq.1 h2; omega
  · exfalso
    unfold Nrm at hn
    have r1 := read_nrm one_ok
    have r2 := read_nrm most_ok
    unfold Format.order at h1 h2
    rw [r1] at h1
    rw [r2] at h2
    by_cases hs : a < 9223372036854775808
    · -- not negative
      by_cases h3 : a < 4503599627370496
      · have e : F.read a = .number false a (-1074) := by
          unfold Format.read
          rw [D_binade, D_sign, D_least]
          have e1 : a % 9223372036854775808 = a := Nat.mod_eq_of_lt (by omega)
          have e2 : (a / 9223372036854775808 % 2 == 1) = false := by rw [Nat.div_eq_of_lt (by omega)]; rfl
          simp only [e1, e2]
          rw [if_pos h3]
        rw [e] at h1
        have hp : plc 4607182418800017408 = -52 := by decide +kernel
        have hm : mnt 4607182418800017408 = 4503599627370496 := by decide +kernel
        simp only [Datum.order, hp, hm, Option.some.injEq] at h1
        have gl : ∀ u : Nat, a < 4503599627370496 <<< u := fun u => by
          rw [Nat.shiftLeft_eq]
          exact Nat.lt_of_lt_of_le h3 (Nat.le_mul_of_pos_right _ (Nat.pow_pos (by decide)))
        have lt : signed false a (-1074 - min (-1074) (-52)).toNat < signed false 4503599627370496 (-52 - min (-1074) (-52)).toNat := by
          rw [show (-1074 - min (-1074) (-52) : Int).toNat = 0 from by decide, show (-52 - min (-1074) (-52) : Int).toNat = 1022 from by decide]
          unfold signed
          simp only [Bool.false_eq_true, if_false, Nat.shiftLeft_zero]
          exact Int.ofNat_lt.2 (gl _)
        rw [Int.compare_eq_lt.2 lt] at h1
        rcases h1 with h1 | h1 <;> cases h1
      · have h4 : 9218868437227405312 ≤ a := by omega
        by_cases h5 : a = 9218868437227405312
        · subst h5
          rw [show F.read 9218868437227405312 = .infinity false from by decide +kernel] at h2
          simp only [Datum.order] at h2
          rcases h2 with h2 | h2 <;> cases h2
        · have e : ∃ s t, F.read a = .nan s t := by
            refine ⟨false, a - 9218868437227405312, ?_⟩
            unfold Format.read
            rw [D_binade, D_sign, D_inf]
            have e1 : a % 9223372036854775808 = a := Nat.mod_eq_of_lt (by omega)
            have e2 : (a / 9223372036854775808 % 2 == 1) = false := by rw [Nat.div_eq_of_lt (by omega)]; rfl
            simp only [e1, e2]
            rw [if_neg h3, if_neg (by omega), if_neg h5]
          obtain ⟨s, t, e⟩ := e
          rw [e] at h1
          simp only [Datum.order] at h1
          rcases h1 with h1 | h1 <;> cases h1
    · have e2 : (a / 9223372036854775808 % 2 == 1) = true := by rw [beq_iff_eq]; omega
      -- negative
      cases hr : F.read a with
      | nan s t =>
        rw [hr] at h1
        simp only [Datum.order] at h1
        rcases h1 with h1 | h1 <;> cases h1
      | infinity s =>
        have hs' : s = true := by
          unfold Format.read at hr
          rw [D_sign] at hr
          simp only [e2] at hr
          split at hr
          · cases hr
          · split at hr
            · cases hr
            · split at hr
              · cases hr; rfl
              · cases hr
        subst hs'
        rw [hr] at h1
        simp only [Datum.order, if_true] at h1
        rcases h1 with h1 | h1 <;> cases h1
      | number s m i =>
        have hs' : s = true := by
          unfold Format.read at hr
          rw [D_sign] at hr
          simp only [e2] at hr
          split at hr
          · cases hr; rfl
          · split at hr
            · cases hr; rfl
            · split at hr <;> cases hr
        subst hs'
        rw [hr] at h1
        simp only [Datum.order, Option.some.injEq] at h1
        have lt : signed true m (i - min i (plc 4607182418800017408)).toNat < signed false (mnt 4607182418800017408) (plc 4607182418800017408 - min i (plc 4607182418800017408)).toNat :=
          Int.lt_of_le_of_lt (signed_neg_le _ _) (signed_pos _ _ (by have := mnt_bd 4607182418800017408; omega))
        rw [Int.compare_eq_lt.2 lt] at h1
        rcases h1 with h1 | h1 <;> cases h1
/-- A whole number, as a float. -/
theorem near_int {n : Nat} (h1 : 1 ≤ n) (h2 : n ≤ 1073741824) : Nrm (FloatKind.f64.nearest (n : Int)) ∧ plc (FloatKind.f64.nearest (n : Int)) ≤ -22 ∧ -52 ≤ plc (FloatKind.f64.nearest (n : Int)) := by
  have e : FloatKind.f64.nearest (n : Int) = F.nearest false n 0 := by
    unfold FloatKind.nearest FloatKind.encode
    rw [show (decide ((n : Int) < 0)) = false from decide_eq_false (by omega), show (n : Int).natAbs = n from Int.natAbs_natCast n]
    rfl
  have hn : n ≠ 0 := by omega
  obtain ⟨b1, b2⟩ := log_bd hn rfl
  have hl : n.log2 ≤ 30 := by
    rcases Nat.lt_or_ge 30 n.log2 with g | g
    · have : 2 ^ 31 ≤ 2 ^ n.log2 := Nat.pow_le_pow_right (by decide) g
      omega
    · exact g
  have c1 : 4503599627370496 ≤ n <<< (52 - n.log2) := by
    rw [Nat.shiftLeft_eq, show (4503599627370496 : Nat) = 2 ^ n.log2 * 2 ^ (52 - n.log2) from by rw [← Nat.pow_add, show n.log2 + (52 - n.log2) = 52 from by omega]]
    exact Nat.mul_le_mul_right _ b1
  have c2 : n <<< (52 - n.log2) < 9007199254740992 := by
    rw [Nat.shiftLeft_eq, show (9007199254740992 : Nat) = 2 ^ (n.log2 + 1) * 2 ^ (52 - n.log2) from by rw [← Nat.pow_add, show n.log2 + 1 + (52 - n.log2) = 53 from by omega]]
    exact Nat.mul_lt_mul_of_pos_right b2 (Nat.pow_pos (by decide))
  have r : F.nearest false n 0 = (n.log2 + 1022) * 4503599627370496 + n <<< (52 - n.log2) := by
    unfold Format.nearest
    rw [if_neg hn, D_least, D_inf, D_binade]
    have em : max (0 + ((n.log2 : Nat) : Int) - ((F.fractionBits : Nat) : Int)) (-1074) = ((n.log2 : Nat) : Int) - 52 := by
      rw [show ((F.fractionBits : Nat) : Int) = 52 from rfl]; omega
    rw [em]
    simp only [show ((0 : Int) - (((n.log2 : Nat) : Int) - 52)).toNat = 52 - n.log2 from by omega, show (((n.log2 : Nat) : Int) - 52 - 0).toNat = 0 from by omega]
    have ec : Toward.even.cut false (n <<< (52 - n.log2)) 0 = n <<< (52 - n.log2) := by
      have := cut_exact (n <<< (52 - n.log2)) 0 (by omega)
      rwa [Nat.pow_zero, Nat.mul_one] at this
    rw [ec, show (((n.log2 : Nat) : Int) - 52 - -1074).toNat = n.log2 + 1022 from by omega, Nat.min_eq_left (by omega), word_pos]
  rw [e, r]
  generalize n <<< (52 - n.log2) = q at *
  generalize n.log2 = z at *
  clear b1 b2 e r
  refine ⟨?_, ?_, ?_⟩
  · unfold Nrm; omega
  · unfold plc; omega
  · unfold plc; omega
def fdiv (a b : Nat) : Nat := (F.div a b).getD 0
theorem div_nrm {a b : Nat} (ha : Nrm a) (hb : Nrm b) : F.div a b = some (fdiv a b) := by
  have h : ∃ q, F.div a b = some q := by
    unfold Format.div
    rw [read_nrm ha, read_nrm hb]
    have := mnt_bd b
    simp only [Datum.quotient]
    rw [if_neg (by omega)]
    exact ⟨_, rfl⟩
  obtain ⟨q, hq⟩ := h
  unfold fdiv; rw [hq]; rfl
end Go.Proofs.Ytgkahjaoajjgcaa.Fl
namespace Go.Proofs.Ytgkahjaoajjgcaa.Fl
open Go Ieee

def mag (x : Nat) : Nat := x % 9223372036854775808
def sgn (x : Nat) : Bool := x / 9223372036854775808 % 2 == 1
/-- The digits of a finite number of a rung. -/
def md (a : Nat) : Nat := if a < 4503599627370496 then a else mnt a
theorem md_bd (a : Nat) : md a < 9007199254740992 := by unfold md mnt; split <;> omega
theorem plc_lo (a : Nat) : -1074 ≤ plc a := by unfold plc; omega
theorem read_fin {x : Nat} (h : mag x < 9218868437227405312) : F.read x = .number (sgn x) (md (mag x)) (plc (mag x)) := by
  unfold Format.read
  rw [D_binade, D_inf, D_least, D_sign]
  show (if mag x < 4503599627370496 then Datum.number (sgn x) (mag x) (-1074) else if mag x < 9218868437227405312 then Datum.number (sgn x) (4503599627370496 + mag x % 4503599627370496) (-1074 + ((mag x / 4503599627370496 - 1 : Nat) : Int)) else if mag x = 9218868437227405312 then Datum.infinity (sgn x) else Datum.nan (sgn x) (mag x - 9218868437227405312)) = _
  by_cases h1 : mag x < 4503599627370496
  · rw [if_pos h1, md, if_pos h1, plc, Nat.div_eq_of_lt h1]; rfl
  · rw [if_neg h1, if_pos h, md, if_neg h1]; rfl
theorem read_inf {x : Nat} (h : mag x = 9218868437227405312) : F.read x = .infinity (sgn x) := by
  unfold Format.read
  rw [D_binade, D_inf, D_least, D_sign]
  show (if mag x < 4503599627370496 then Datum.number (sgn x) (mag x) (-1074) else if mag x < 9218868437227405312 then Datum.number (sgn x) (4503599627370496 + mag x % 4503599627370496) (-1074 + ((mag x / 4503599627370496 - 1 : Nat) : Int)) else if mag x = 9218868437227405312 then Datum.infinity (sgn x) else Datum.nan (sgn x) (mag x - 9218868437227405312)) = _
  rw [if_neg (by omega), if_neg (by omega), if_pos h]
theorem read_nan {x : Nat} (h : 9218868437227405312 < mag x) : ∃ s t, F.read x = .nan s t := by
  unfold Format.read
  rw [D_binade, D_inf, D_least, D_sign]
  refine ⟨sgn x, mag x - 9218868437227405312, ?_⟩
  show (if mag x < 4503599627370496 then Datum.number (sgn x) (mag x) (-1074) else if mag x < 9218868437227405312 then Datum.number (sgn x) (4503599627370496 + mag x % 4503599627370496) (-1074 + ((mag x / 4503599627370496 - 1 : Nat) : Int)) else if mag x = 9218868437227405312 then Datum.infinity (sgn x) else Datum.nan (sgn x) (mag x - 9218868437227405312)) = _
  rw [if_neg (by omega), if_neg (by omega), if_neg (by omega)]
/-- The word of a sign and a rung. -/
def wd (s : Bool) (q : Nat) : Nat := if s then 9223372036854775808 + q else q
theorem wd_eq (s : Bool) (q : Nat) : F.word s q = wd s q := by cases s <;> rfl
theorem wd_mag {s : Bool} {q : Nat} (h : q < 9223372036854775808) : mag (wd s q) = q ∧ sgn (wd s q) = s := by
  unfold mag sgn wd
  cases s
  · rw [if_neg (by decide)]
    exact ⟨Nat.mod_eq_of_lt h, by rw [Nat.div_eq_of_lt h]; rfl⟩
  · rw [if_pos rfl]
    refine ⟨by omega, ?_⟩
    rw [beq_iff_eq]; omega
theorem wd_false (q : Nat) : wd false q = q := by unfold wd; exact if_neg (by decide)
theorem cut_sign (s : Bool) (k d : Nat) : Toward.even.cut s k d = Toward.even.cut false k d := rfl
theorem near_sign (s : Bool) (n : Nat) (p : Int) : F.nearest s n p = wd s (F.nearest false n p) := by
  unfold Format.nearest
  by_cases h : n = 0
  · rw [if_pos h, if_pos h, wd_eq, wd_eq, wd_false]
  · rw [if_neg h, if_neg h]
    simp only [wd_eq, wd_false, cut_sign s]
theorem near_le (n : Nat) (p : Int) : F.nearest false n p ≤ 9218868437227405312 := by
  unfold Format.nearest
  by_cases h : n = 0
  · rw [if_pos h, word_pos]; omega
  · rw [if_neg h, word_pos, D_inf]; exact Nat.min_le_right _ _

/-! ### What a rung is worth -/
/-- In units of the least number. -/
def V (a : Nat) : Nat := md a * 2 ^ (plc a + 1074).toNat
theorem V_low {a : Nat} (h : a < 4503599627370496) : V a = a := by
  unfold V md plc
  rw [if_pos h, Nat.div_eq_of_lt h]
  exact Nat.mul_one a
theorem V_high {e f : Nat} (hf : f < 4503599627370496) : V ((e + 1) * 4503599627370496 + f) = (4503599627370496 + f) * 2 ^ e := by
  unfold V md mnt plc
  rw [if_neg (by omega), show ((e + 1) * 4503599627370496 + f) % 4503599627370496 = f from by omega, show ((e + 1) * 4503599627370496 + f) / 4503599627370496 = e + 1 from by omega]
  congr 2
  omega
theorem V_succ (a : Nat) : V a < V (a + 1) := by
  by_cases h : a < 4503599627370496
  · rw [V_low h]
    by_cases h1 : a + 1 < 4503599627370496
    · rw [V_low h1]; omega
    · have := V_high (e := 0) (f := 0) (by decide)
      rw [show a + 1 = (0 + 1) * 4503599627370496 + 0 from by omega, this]
      omega
  · obtain ⟨e, f, hf, rfl⟩ : ∃ e f, f < 4503599627370496 ∧ a = (e + 1) * 4503599627370496 + f := ⟨a / 4503599627370496 - 1, a % 4503599627370496, Nat.mod_lt _ (by decide), by omega⟩
    have hp := Nat.pow_pos (n := e) (show 0 < 2 by decide)
    rw [V_high hf]
    by_cases h1 : f + 1 < 4503599627370496
    · rw [show (e + 1) * 4503599627370496 + f + 1 = (e + 1) * 4503599627370496 + (f + 1) from by omega, V_high h1]
      exact Nat.mul_lt_mul_of_pos_right (by omega) hp
    · have hf1 : f = 4503599627370495 := by omega
      subst hf1
      rw [show (e + 1) * 4503599627370496 + 4503599627370495 + 1 = (e + 1 + 1) * 4503599627370496 + 0 from by omega, V_high (by decide), Nat.pow_succ]
      have : (4503599627370496 + 0) * (2 ^ e * 2) = 9007199254740992 * 2 ^ e := by
        rw [Nat.mul_comm (2 ^ e) 2, ← Nat.mul_assoc]
      rw [this]
      exact Nat.mul_lt_mul_of_pos_right (by omega) hp
theorem V_lt {a b : Nat} (h : a < b) : V a < V b := by
  induction b with
  | zero => omega
  | succ b ih =>
    rcases Nat.lt_or_ge a b with g | g
    · exact Nat.lt_trans (ih g) (V_succ b)
    · rw [show a = b from by omega]; exact V_succ b
theorem V_cmp (a b : Nat) : compare (V a) (V b) = compare a b := by
  rcases Nat.lt_trichotomy a b with h | h | h
  · rw [cmp_lt h, cmp_lt (V_lt h)]
  · rw [h, cmp_eq rfl, cmp_eq rfl]
  · rw [cmp_gt h, cmp_gt (V_lt h)]
theorem V_inj {a b : Nat} (h : V a = V b) : a = b := by
  rcases Nat.lt_trichotomy a b with g | g | g
  · have := V_lt g; omega
  · exact g
  · have := V_lt g; omega
/-- A number of at most 53 digits is written as it is. -/
theorem near_V {n : Nat} {p : Int} (h1 : 1 ≤ n) (h2 : n < 9007199254740992) (hp : -1074 ≤ p) (hq : p ≤ 900) : F.nearest false n p < 9218868437227405312 ∧ V (F.nearest false n p) = n * 2 ^ (p + 1074).toNat := by
  have hn : n ≠ 0 := by omega
  obtain ⟨b1, b2⟩ := log_bd hn rfl
  have hl : n.log2 ≤ 52 := by
    rcases Nat.lt_or_ge 52 n.log2 with g | g
    · have : 2 ^ 53 ≤ 2 ^ n.log2 := Nat.pow_le_pow_right (by decide) g
      omega
    · exact g
  have e0 : ∀ last : Int, last ≤ p → Toward.even.cut false (n <<< (p - last).toNat) (last - p).toNat = n * 2 ^ (p - last).toNat := fun last hle => by
    rw [show (last - p).toNat = 0 from by omega, Nat.shiftLeft_eq]
    have hpp := Nat.pow_pos (n := (p - last).toNat) (show 0 < 2 by decide)
    have := cut_exact (n * 2 ^ (p - last).toNat) 0 (Nat.mul_pos h1 hpp)
    rwa [Nat.pow_zero, Nat.mul_one] at this
  have er : F.nearest false n p = min ((max (p + n.log2 - 52) (-1074) + 1074).toNat * 4503599627370496 + n * 2 ^ (p - max (p + n.log2 - 52) (-1074)).toNat) 9218868437227405312 := by
    unfold Format.nearest
    rw [if_neg hn, D_least, D_inf, D_binade, show ((F.fractionBits : Nat) : Int) = 52 from rfl, word_pos]
    rw [e0 _ (by omega), show max (p + (n.log2 : Int) - 52) (-1074) - -1074 = max (p + (n.log2 : Int) - 52) (-1074) + 1074 from by omega]
  rw [er]
  by_cases hc : -1074 ≤ p + n.log2 - 52
  · rw [Int.max_eq_left hc, show (p - (p + (n.log2 : Int) - 52)).toNat = 52 - n.log2 from by omega]
    have c1 : 4503599627370496 ≤ n * 2 ^ (52 - n.log2) := by
      rw [show (4503599627370496 : Nat) = 2 ^ n.log2 * 2 ^ (52 - n.log2) from by rw [← Nat.pow_add, show n.log2 + (52 - n.log2) = 52 from by omega]]
      exact Nat.mul_le_mul_right _ b1
    have c2 : n * 2 ^ (52 - n.log2) < 9007199254740992 := by
      rw [show (9007199254740992 : Nat) = 2 ^ (n.log2 + 1) * 2 ^ (52 - n.log2) from by rw [← Nat.pow_add, show n.log2 + 1 + (52 - n.log2) = 53 from by omega]]
      exact Nat.mul_lt_mul_of_pos_right b2 (Nat.pow_pos (by decide))
    have hE : (p + (n.log2 : Int) - 52 + 1074).toNat ≤ 1974 := by omega
    obtain ⟨K, hK⟩ : ∃ K, K = n * 2 ^ (52 - n.log2) := ⟨_, rfl⟩
    obtain ⟨E, hE0⟩ : ∃ E, E = (p + (n.log2 : Int) - 52 + 1074).toNat := ⟨_, rfl⟩
    rw [← hK] at c1 c2 ⊢
    rw [← hE0] at hE ⊢
    rw [Nat.min_eq_left (by omega)]
    refine ⟨by omega, ?_⟩
    rw [show E * 4503599627370496 + K = (E + 1) * 4503599627370496 + (K - 4503599627370496) from by omega, V_high (by omega), show 4503599627370496 + (K - 4503599627370496) = K from by omega, hK, Nat.mul_assoc, ← Nat.pow_add]
    congr 2
    omega
  · rw [Int.max_eq_right (by omega), show ((-1074 : Int) + 1074).toNat = 0 from rfl, Nat.zero_mul, Nat.zero_add, show (p - -1074).toNat = (p + 1074).toNat from by omega]
    have c2 : n * 2 ^ (p + 1074).toNat < 4503599627370496 := by
      have : n * 2 ^ (p + 1074).toNat < 2 ^ (n.log2 + 1) * 2 ^ (p + 1074).toNat := Nat.mul_lt_mul_of_pos_right b2 (Nat.pow_pos (by decide))
      rw [← Nat.pow_add] at this
      have h52 : 2 ^ (n.log2 + 1 + (p + 1074).toNat) ≤ 2 ^ 52 := Nat.pow_le_pow_right (by decide) (by omega)
      have : (4503599627370496 : Nat) = 2 ^ 52 := by decide
      omega
    rw [Nat.min_eq_left (by omega)]
    exact ⟨by omega, V_low c2⟩

/-! ### The order -/
/-- Where a float stands among all. -/
def key (x : Nat) : Int := if sgn x then -((mag x : Nat) : Int) else ((mag x : Nat) : Int)
theorem cmp_scale {a b : Int} {k : Nat} (hk : 1 ≤ k) : compare (a * (k : Int)) (b * (k : Int)) = compare a b := by
  have hk' : (0 : Int) < (k : Int) := by omega
  rcases Int.lt_trichotomy a b with h | h | h
  · rw [Int.compare_eq_lt.2 h, Int.compare_eq_lt.2 (Int.mul_lt_mul_of_pos_right h hk')]
  · rw [h, Int.compare_eq_eq.2 rfl, Int.compare_eq_eq.2 rfl]
  · rw [Int.compare_eq_gt.2 h, Int.compare_eq_gt.2 (Int.mul_lt_mul_of_pos_right h hk')]
def sg (s : Bool) (n : Nat) : Int := if s then -(n : Int) else (n : Int)
theorem signed_V {s : Bool} {a : Nat} {base : Int} (h : base ≤ plc a) (hb : -1074 ≤ base) : signed s (md a) (plc a - base).toNat * ((2 ^ (base + 1074).toNat : Nat) : Int) = sg s (V a) := by
  have e : md a <<< (plc a - base).toNat * 2 ^ (base + 1074).toNat = V a := by
    rw [Nat.shiftLeft_eq, Nat.mul_assoc, ← Nat.pow_add]
    unfold V
    congr 2
    omega
  unfold signed sg
  cases s
  · rw [if_neg (by decide), if_neg (by decide), ← Int.natCast_mul, e]
  · rw [if_pos rfl, if_pos rfl, Int.neg_mul, ← Int.natCast_mul, e]
theorem sg_cmp (s t : Bool) (a b : Nat) : compare (sg s (V a)) (sg t (V b)) = compare (sg s a) (sg t b) := by
  have h0 : ∀ n, n = 0 → V n = 0 := fun n hn => by subst hn; exact V_low (by decide)
  have h1 : ∀ n, 1 ≤ n → 1 ≤ V n := fun n hn => by have := V_lt (show 0 < n from hn); omega
  unfold sg
  have hv := V_cmp a b
  cases s <;> cases t <;> simp only [if_true, Bool.false_eq_true, if_false]
  · rcases Nat.lt_trichotomy a b with h | h | h
    · have := V_lt h; rw [Int.compare_eq_lt.2 (by omega), Int.compare_eq_lt.2 (by omega)]
    · rw [h, Int.compare_eq_eq.2 rfl, Int.compare_eq_eq.2 rfl]
    · have := V_lt h; rw [Int.compare_eq_gt.2 (by omega), Int.compare_eq_gt.2 (by omega)]
  · rcases Nat.eq_zero_or_pos a with h | h <;> rcases Nat.eq_zero_or_pos b with g | g
    · rw [h0 a h, h0 b g, h, g]
    · have := h1 b g; rw [h0 a h, h, Int.compare_eq_gt.2 (by omega), Int.compare_eq_gt.2 (by omega)]
    · have := h1 a h; rw [h0 b g, g, Int.compare_eq_gt.2 (by omega), Int.compare_eq_gt.2 (by omega)]
    · have := h1 a h; have := h1 b g; rw [Int.compare_eq_gt.2 (by omega), Int.compare_eq_gt.2 (by omega)]
  · rcases Nat.eq_zero_or_pos a with h | h <;> rcases Nat.eq_zero_or_pos b with g | g
    · rw [h0 a h, h0 b g, h, g]
    · have := h1 b g; rw [h0 a h, h, Int.compare_eq_lt.2 (by omega), Int.compare_eq_lt.2 (by omega)]
    · have := h1 a h; rw [h0 b g, g, Int.compare_eq_lt.2 (by omega), Int.compare_eq_lt.2 (by omega)]
    · have := h1 a h; have := h1 b g; rw [Int.compare_eq_lt.2 (by omega), Int.compare_eq_lt.2 (by omega)]
  · rcases Nat.lt_trichotomy a b with h | h | h
    · have := V_lt h; rw [Int.compare_eq_gt.2 (by omega), Int.compare_eq_gt.2 (by omega)]
    · rw [h, Int.compare_eq_eq.2 rfl, Int.compare_eq_eq.2 rfl]
    · have := V_lt h; rw [Int.compare_eq_lt.2 (by omega), Int.compare_eq_lt.2 (by omega)]
theorem order_key {x y : Nat} (hx : mag x ≤ 9218868437227405312) (hy : mag y ≤ 9218868437227405312) : F.order x y = some (compare (key x) (key y)) := by
  unfold Format.order
  by_cases h1 : mag x = 9218868437227405312
  · rw [read_inf h1]
    by_cases h2 : mag y = 9218868437227405312
    · rw [read_inf h2]
      show some (compare (sgn y).toNat (sgn x).toNat) = _
      unfold key
      rw [h1, h2]
      cases sgn x <;> cases sgn y <;> decide
    · rw [read_fin (by omega)]
      show some (if sgn x then Ordering.lt else Ordering.gt) = _
      unfold key
      rw [h1]
      cases sgn x
      · simp only [Bool.false_eq_true, if_false]
        rw [Int.compare_eq_gt.2 (by split <;> omega)]
      · simp only [if_true]
        rw [Int.compare_eq_lt.2 (by split <;> omega)]
  · rw [read_fin (by omega)]
    by_cases h2 : mag y = 9218868437227405312
    · rw [read_inf h2]
      show some (if sgn y then Ordering.gt else Ordering.lt) = _
      unfold key
      rw [h2]
      cases sgn y
      · simp only [Bool.false_eq_true, if_false]
        rw [Int.compare_eq_lt.2 (by split <;> omega)]
      · simp only [if_true]
        rw [Int.compare_eq_gt.2 (by split <;> omega)]
    · rw [read_fin (by omega)]
      show some (compare (signed (sgn x) (md (mag x)) (plc (mag x) - min (plc (mag x)) (plc (mag y))).toNat) (signed (sgn y) (md (mag y)) (plc (mag y) - min (plc (mag x)) (plc (mag y))).toNat)) = _
      have p1 := plc_lo (mag x)
      have p2 := plc_lo (mag y)
      congr 1
      rw [← cmp_scale (k := 2 ^ (min (plc (mag x)) (plc (mag y)) + 1074).toNat) (Nat.pow_pos (by decide)), signed_V (by omega) (by omega), signed_V (by omega) (by omega), sg_cmp]
      rfl
end Go.Proofs.Ytgkahjaoajjgcaa.Fl
namespace Go.Proofs.Ytgkahjaoajjgcaa.Fl
open Go Ieee

theorem log2_shift {n k : Nat} (hn : 1 ≤ n) : (n * 2 ^ k).log2 = n.log2 + k := by
  obtain ⟨b1, b2⟩ := log_bd (n := n) (by omega) rfl
  have hp := Nat.pow_pos (n := k) (show 0 < 2 by decide)
  exact log2_of (by rw [Nat.pow_add]; exact Nat.mul_le_mul_right _ b1) (by
    rw [show n.log2 + k + 1 = n.log2 + 1 + k from by omega, Nat.pow_add]
    exact Nat.mul_lt_mul_of_pos_right b2 hp)
theorem cut_none {n : Nat} (hn : 1 ≤ n) : Toward.even.cut false n 0 = n := by
  have := cut_exact n 0 hn
  rwa [Nat.pow_zero, Nat.mul_one] at this
/-- Twice as many units, each half as great. -/
theorem near_shift {n k : Nat} {p : Int} (hn : 1 ≤ n) (hl : n.log2 ≤ 52) (hp : -1074 ≤ p + k) : F.nearest false (n * 2 ^ k) p = F.nearest false n (p + k) := by
  have hk := Nat.pow_pos (n := k) (show 0 < 2 by decide)
  have hn0 : n ≠ 0 := by omega
  have hnk : n * 2 ^ k ≠ 0 := Nat.mul_ne_zero hn0 (by omega)
  unfold Format.nearest
  rw [if_neg hnk, if_neg hn0, D_least, D_inf, D_binade, log2_shift hn, show ((F.fractionBits : Nat) : Int) = 52 from rfl]
  rw [show p + ((n.log2 + k : Nat) : Int) - 52 = p + (k : Int) + ((n.log2 : Nat) : Int) - 52 from by omega]
  obtain ⟨L, hL⟩ : ∃ L, L = max (p + (k : Int) + ((n.log2 : Nat) : Int) - 52) (-1074) := ⟨_, rfl⟩
  rw [← hL]
  have hLk : L ≤ p + k := by omega
  have e : Toward.even.cut false ((n * 2 ^ k) <<< (p - L).toNat) (L - p).toNat = Toward.even.cut false (n <<< (p + k - L).toNat) (L - (p + k)).toNat := by
    rw [show (L - (p + k)).toNat = 0 from by omega, Nat.shiftLeft_eq, Nat.shiftLeft_eq]
    rw [cut_none (Nat.mul_pos hn (Nat.pow_pos (by decide)))]
    rcases Int.le_total L p with h | h
    · rw [show (L - p).toNat = 0 from by omega, cut_none (Nat.mul_pos (by omega) (Nat.pow_pos (by decide))), Nat.mul_assoc, ← Nat.pow_add]
      congr 2; omega
    · rw [show (p - L).toNat = 0 from by omega, Nat.pow_zero, Nat.mul_one]
      have e2 : n * 2 ^ k = n * 2 ^ (p + k - L).toNat * 2 ^ (L - p).toNat := by
        rw [Nat.mul_assoc, ← Nat.pow_add]
        congr 2; omega
      rw [e2]
      exact cut_exact _ _ (Nat.mul_pos hn (Nat.pow_pos (by decide)))
  show F.word false (min ((L - -1074).toNat * 4503599627370496 + Toward.even.cut false ((n * 2 ^ k) <<< (p - L).toNat) (L - p).toNat) 9218868437227405312) = F.word false (min ((L - -1074).toNat * 4503599627370496 + Toward.even.cut false (n <<< (p + k - L).toNat) (L - (p + k)).toNat) 9218868437227405312)
  rw [e]
theorem small_log (m : Nat) : m < 2 ^ (m.log2 + 1) := by
  rcases Nat.eq_zero_or_pos m with h | h
  · subst h; exact Nat.pow_pos (by decide)
  · exact (log_bd (n := m) (by omega) rfl).2
/-- What is cut, in one way or another. -/
theorem gap_cut (m k : Nat) : (m / 2 ^ min k (m.log2 + 2) = m / 2 ^ k ∧ m % 2 ^ min k (m.log2 + 2) = m % 2 ^ k) ∧ (min k (m.log2 + 2) = k ∨ (m % 2 ^ k = m ∧ 2 * m < 2 ^ k ∧ 2 * m < 2 ^ min k (m.log2 + 2))) := by
  rcases Nat.le_total k (m.log2 + 2) with h | h
  · rw [Nat.min_eq_left h]; exact ⟨⟨rfl, rfl⟩, .inl rfl⟩
  · have h1 := small_log m
    have h2 : 2 ^ (m.log2 + 2) = 2 * 2 ^ (m.log2 + 1) := by rw [show m.log2 + 2 = m.log2 + 1 + 1 from rfl, Nat.pow_succ, Nat.mul_comm]
    have h3 : 2 ^ (m.log2 + 2) ≤ 2 ^ k := Nat.pow_le_pow_right (by decide) h
    rw [Nat.min_eq_right h]
    have h4 : m < 2 ^ (m.log2 + 2) := by omega
    have h5 : m < 2 ^ k := by omega
    refine ⟨⟨by rw [Nat.div_eq_of_lt h4, Nat.div_eq_of_lt h5], by rw [Nat.mod_eq_of_lt h4, Nat.mod_eq_of_lt h5]⟩, .inr ⟨Nat.mod_eq_of_lt h5, by omega, by omega⟩⟩
theorem cut_even (s : Bool) (m k : Nat) : Toward.even.cut s m k = m / 2 ^ k + (decide (2 ^ k < 2 * (m % 2 ^ k)) || (2 ^ k == 2 * (m % 2 ^ k) && m / 2 ^ k % 2 == 1)).toNat := by
  obtain ⟨⟨h1, h2⟩, h3⟩ := gap_cut m k
  unfold Toward.cut
  simp only [Nat.one_shiftLeft]
  rw [h1, h2]
  rcases h3 with h3 | ⟨h3, h4, h5⟩
  · rw [h3]
  · rw [h3, decide_eq_false (show ¬ 2 ^ k < 2 * m by omega), decide_eq_false (show ¬ 2 ^ min k (m.log2 + 2) < 2 * m by omega), show (2 ^ k == 2 * m) = false from by rw [beq_eq_false_iff_ne]; omega, show (2 ^ min k (m.log2 + 2) == 2 * m) = false from by rw [beq_eq_false_iff_ne]; omega]
theorem cut_down (s : Bool) (m k : Nat) : Toward.down.cut s m k = m / 2 ^ k + (s && m % 2 ^ k != 0).toNat := by
  obtain ⟨⟨h1, h2⟩, _⟩ := gap_cut m k
  unfold Toward.cut
  simp only [Nat.one_shiftLeft]
  rw [h1, h2]
theorem cut_zero (s : Bool) (m k : Nat) : Toward.zero.cut s m k = m / 2 ^ k := by
  obtain ⟨⟨h1, h2⟩, _⟩ := gap_cut m k
  unfold Toward.cut
  simp only [Nat.one_shiftLeft]
  rw [h1]
  rfl

/-! ### 1, in units of the least number -/
theorem pw_split {a b c : Nat} (h : a + b = c) : 2 ^ a * 2 ^ b = 2 ^ c := by rw [← Nat.pow_add, h]
def U : Nat := 2 ^ 1074
theorem U_eq {c : Nat} (h : c = 1074) : 2 ^ c = U := by unfold U; rw [h]
theorem U_split {k : Nat} (h : k ≤ 1074) : 2 ^ k * 2 ^ (1074 - k) = U := by
  rw [pw_split (c := k + (1074 - k)) rfl, U_eq (by omega)]
theorem U_pos : 1 ≤ U := by
  obtain ⟨t, ht⟩ : ∃ t, t = 1074 := ⟨_, rfl⟩
  rw [← U_eq ht]; exact Nat.pow_pos (by decide)
theorem U_at {m k n : Nat} (hk : k ≤ 1074) (h : m = n * 2 ^ k) : m * 2 ^ (1074 - k) = n * U := by rw [h, Nat.mul_assoc, U_split hk]
theorem V_at {x e f n k : Nat} (hk : k ≤ 1074) (hx : x = (e + 1) * 4503599627370496 + f) (hf : f < 4503599627370496) (he : e = 1074 - k) (h : 4503599627370496 + f = n * 2 ^ k) : V x = n * U := by
  rw [hx, V_high hf, he, U_at hk h]
theorem V_C : V 4674736413210574848 = 32768 * U := V_at (e := 1037) (f := 0) (k := 37) (by decide) (by decide) (by decide) (by decide) (by decide)
theorem V_c1 : V 4674736138332667904 = 32767 * U := V_at (e := 1036) (f := 4503324749463552) (k := 38) (by decide) (by decide) (by decide) (by decide) (by decide)
theorem V_half : 2 * V 4602678819172646912 = U := by
  have := V_high (e := 1021) (f := 0) (by decide)
  rw [show (1021 + 1) * 4503599627370496 + 0 = 4602678819172646912 from by decide] at this
  have h2 := U_at (k := 53) (m := 9007199254740992) (n := 1) (by decide) (by decide)
  rw [show 1074 - 53 = 1021 from rfl, Nat.one_mul] at h2
  rw [this, ← h2]
  generalize 2 ^ 1021 = z
  omega
/-- A whole number as a float. -/
theorem whole {N : Nat} (h : N < 9007199254740992) : F.nearest false N 0 < 9218868437227405312 ∧ V (F.nearest false N 0) = N * U := by
  rcases Nat.eq_zero_or_pos N with h0 | h0
  · subst h0
    have e : F.nearest false 0 0 = 0 := by unfold Format.nearest; rw [if_pos rfl, word_pos]
    rw [e, V_low (by decide), Nat.zero_mul]
    exact ⟨by decide, rfl⟩
  · have := near_V (p := 0) h0 h (by decide) (by decide)
    rw [U_eq (c := ((0 : Int) + 1074).toNat) (by decide)] at this
    exact this
theorem cut_whole (s : Bool) {Y N : Nat} (h : V Y = N * U) : Toward.zero.cut s (md Y <<< (plc Y).toNat) (-plc Y).toNat = N := by
  rw [cut_zero, Nat.shiftLeft_eq]
  have hl := plc_lo Y
  unfold V at h
  rcases Int.le_total 0 (plc Y) with g | g
  · rw [show (-plc Y).toNat = 0 from by omega, Nat.pow_zero, Nat.div_one]
    obtain ⟨t, ht⟩ : ∃ t, t = 1074 := ⟨_, rfl⟩
    rw [show (plc Y + 1074).toNat = (plc Y).toNat + t from by omega, Nat.pow_add, ← Nat.mul_assoc, U_eq ht] at h
    exact Nat.mul_right_cancel U_pos h
  · rw [show (plc Y).toNat = 0 from by omega, Nat.pow_zero, Nat.mul_one]
    obtain ⟨k, hk⟩ : ∃ k, k = (-plc Y).toNat := ⟨_, rfl⟩
    rw [show (plc Y + 1074).toNat = 1074 - k from by omega, ← U_split (k := k) (by omega), ← Nat.mul_assoc] at h
    have hp := Nat.pow_pos (n := 1074 - k) (show 0 < 2 by decide)
    have h2 := Nat.mul_right_cancel hp h
    rw [← hk, h2, Nat.mul_div_cancel _ (Nat.pow_pos (by decide))]

/-! ### what is done -/
def rte (y : Nat) : Nat := F.write ((F.read y).integral .even)
def flr (y : Nat) : Nat := F.write ((F.read y).integral .down)
def cutI (y : Nat) : Int := ((F.read y).toInt .zero).getD 0
def y0 (x : Nat) : Nat := (F.mul x 4674736413210574848).getD 0
theorem read_C : F.read 4674736413210574848 = .number false 4503599627370496 (-37) := by decide +kernel
theorem mul_C {x : Nat} (h : mag x ≤ 9218868437227405312) : ∃ q, F.mul x 4674736413210574848 = some (wd (sgn x) q) ∧ q ≤ 9218868437227405312 ∧ (mag x < 4607182418800017408 → q < 4674736413210574848) ∧ (4607182418800017408 ≤ mag x → 4674736413210574848 ≤ q) := by
  unfold Format.mul
  rw [read_C]
  by_cases h1 : mag x = 9218868437227405312
  · rw [read_inf h1]
    refine ⟨9218868437227405312, ?_, by omega, fun g => by omega, fun _ => by omega⟩
    show Option.map F.write (if 4503599627370496 = 0 then none else some (Datum.infinity (sgn x ^^ false))) = _
    rw [if_neg (by decide), Bool.xor_false]
    show some (F.word (sgn x) F.infRung) = _
    rw [wd_eq, D_inf]
  · have h2 : mag x < 9218868437227405312 := by omega
    rw [read_fin h2]
    refine ⟨F.nearest false (md (mag x) * 2 ^ 52) (plc (mag x) + -37), ?_, near_le _ _, ?_, ?_⟩
    · show some (F.nearest (sgn x ^^ false) (md (mag x) * 4503599627370496) (plc (mag x) + -37)) = _
      rw [Bool.xor_false, near_sign, pow52]
    · intro g
      generalize mag x = a at *
      rcases Nat.eq_zero_or_pos (md a) with h3 | h3
      · rw [h3, Nat.zero_mul]
        unfold Format.nearest
        rw [if_pos rfl, word_pos]
        decide
      · have hb := md_bd a
        have hl := plc_lo a
        have hpl : plc a ≤ -53 := by unfold plc; omega
        obtain ⟨b1, b2⟩ := log_bd (n := md a) (by omega) rfl
        have hlog : (md a).log2 ≤ 52 := by
          rcases Nat.lt_or_ge 52 (md a).log2 with u | u
          · have : 2 ^ 53 ≤ 2 ^ (md a).log2 := Nat.pow_le_pow_right (by decide) u
            omega
          · exact u
        rw [near_shift h3 hlog (by omega), show plc a + -37 + ((52 : Nat) : Int) = plc a + 15 from by omega]
        obtain ⟨_, v⟩ := near_V (p := plc a + 15) h3 hb (by omega) (by omega)
        have v2 : V (F.nearest false (md a) (plc a + 15)) = V a * 32768 := by
          rw [v]
          unfold V
          rw [show (plc a + 15 + 1074).toNat = (plc a + 1074).toNat + 15 from by omega, Nat.pow_add, ← Nat.mul_assoc]
        have v3 : V 4674736413210574848 = V 4607182418800017408 * 32768 := by
          rw [V_C, show V 4607182418800017408 = 1 * U from V_at (e := 1022) (f := 0) (k := 52) (by decide) (by decide) (by decide) (by decide) (by decide)]
          omega
        have v4 := V_lt g
        rcases Nat.lt_or_ge (F.nearest false (md a) (plc a + 15)) 4674736413210574848 with u | u
        · exact u
        · exfalso
          have v5 : V 4674736413210574848 ≤ V (F.nearest false (md a) (plc a + 15)) := by
            rcases Nat.lt_or_ge 4674736413210574848 (F.nearest false (md a) (plc a + 15)) with z | z
            · exact Nat.le_of_lt (V_lt z)
            · rw [show F.nearest false (md a) (plc a + 15) = 4674736413210574848 from by omega]; exact Nat.le_refl _
          rw [v2, v3] at v5
          have := Nat.le_of_mul_le_mul_right v5 (by decide)
          omega
    · intro g
      generalize mag x = a at *
      have hm : md a = mnt a := by unfold md; rw [if_neg (by omega)]
      have hb := mnt_bd a
      have hlog : (mnt a).log2 = 52 + 0 := log2_of (by omega) (by omega)
      have hpl : -52 ≤ plc a := by unfold plc; omega
      rw [hm, near_shift (by omega) (by omega) (by omega), nearest_keep (by omega) hlog (by omega)]
      have hk := keep_bd (by omega) hlog
      rw [show plc a + -37 + ((52 : Nat) : Int) + ((0 : Nat) : Int) + 1074 = plc a + 1089 from by omega]
      generalize keep (mnt a) 0 = K at *
      obtain ⟨E, hE⟩ : ∃ E, E = (plc a + 1089).toNat := ⟨_, rfl⟩
      rw [← hE]
      have : 1037 ≤ E := by omega
      clear hE hlog hm hb h h1 h2
      exact Nat.le_min.2 ⟨by omega, by decide⟩
theorem y0_eq {x : Nat} (h : mag x ≤ 9218868437227405312) : F.mul x 4674736413210574848 = some (y0 x) := by
  obtain ⟨q, h1, _⟩ := mul_C h
  unfold y0; rw [h1]; rfl
end Go.Proofs.Ytgkahjaoajjgcaa.Fl
namespace Go.Proofs.Ytgkahjaoajjgcaa.Fl
open Go Ieee

theorem key_wd {s : Bool} {q : Nat} (h : q < 9223372036854775808) : key (wd s q) = sg s q := by
  unfold key
  rw [(wd_mag h).1, (wd_mag h).2]
  rfl
theorem rte_fin {s : Bool} {q : Nat} (h : q < 9218868437227405312) : rte (wd s q) = wd s (F.nearest false (Toward.even.cut s (md q <<< (plc q).toNat) (-plc q).toNat) 0) := by
  unfold rte
  have hm := wd_mag (s := s) (q := q) (by omega)
  rw [read_fin (by rw [hm.1]; exact h), hm.1, hm.2]
  show F.nearest s (Toward.even.cut s (md q <<< (plc q).toNat) (-plc q).toNat) 0 = _
  rw [near_sign]
theorem flr_fin {s : Bool} {q : Nat} (h : q < 9218868437227405312) : flr (wd s q) = wd s (F.nearest false (Toward.down.cut s (md q <<< (plc q).toNat) (-plc q).toNat) 0) := by
  unfold flr
  have hm := wd_mag (s := s) (q := q) (by omega)
  rw [read_fin (by rw [hm.1]; exact h), hm.1, hm.2]
  show F.nearest s (Toward.down.cut s (md q <<< (plc q).toNat) (-plc q).toNat) 0 = _
  rw [near_sign]
theorem rte_inf (s : Bool) : rte (wd s 9218868437227405312) = wd s 9218868437227405312 := by
  unfold rte
  have hm := wd_mag (s := s) (q := 9218868437227405312) (by decide)
  rw [read_inf hm.1, hm.2]
  show F.word s F.infRung = _
  rw [wd_eq, D_inf]
/-- A number of at least 15 digits stays one. -/
theorem near_big {N : Nat} (h : 32768 ≤ N) : 4674736413210574848 ≤ F.nearest false N 0 := by
  rcases Nat.lt_or_ge N 9007199254740992 with g | g
  · obtain ⟨_, v⟩ := whole g
    rcases Nat.lt_or_ge (F.nearest false N 0) 4674736413210574848 with z | z
    · exfalso
      have v1 := V_lt z
      rw [v, V_C] at v1
      have := Nat.lt_of_mul_lt_mul_right v1
      omega
    · exact z
  · have hn : N ≠ 0 := by omega
    obtain ⟨b1, b2⟩ := log_bd hn rfl
    have hl : 53 ≤ N.log2 := (Nat.le_log2 hn).2 g
    have hd : N.log2 = 52 + (N.log2 - 52) := by omega
    rw [nearest_keep hn hd (by omega)]
    have hk := keep_bd hn hd
    obtain ⟨E, hE⟩ : ∃ E, E = ((0 : Int) + ((N.log2 - 52 : Nat) : Int) + 1074).toNat := ⟨_, rfl⟩
    rw [← hE]
    have : 1075 ≤ E := by omega
    generalize keep N (N.log2 - 52) = K at *
    exact Nat.le_min.2 ⟨by omega, by decide⟩
theorem rte_big {s : Bool} {q : Nat} (h1 : 4674736413210574848 ≤ q) (h2 : q ≤ 9218868437227405312) : ∃ Y, rte (wd s q) = wd s Y ∧ 4674736413210574848 ≤ Y ∧ Y ≤ 9218868437227405312 := by
  rcases Nat.lt_or_ge q 9218868437227405312 with g | g
  · refine ⟨_, rte_fin g, near_big ?_, near_le _ _⟩
    have hm : md q = mnt q := by unfold md; rw [if_neg (by omega)]
    have hb := mnt_bd q
    have hpl : -37 ≤ plc q := by unfold plc; omega
    rw [hm, cut_even, Nat.shiftLeft_eq]
    generalize mnt q = m at *
    rcases Int.le_total 0 (plc q) with z | z
    · rw [show (-plc q).toNat = 0 from by omega, Nat.pow_zero, Nat.div_one]
      have : m ≤ m * 2 ^ (plc q).toNat := Nat.le_mul_of_pos_right _ (Nat.pow_pos (by decide))
      omega
    · rw [show (plc q).toNat = 0 from by omega, Nat.pow_zero, Nat.mul_one]
      have h37 : 2 ^ (-plc q).toNat ≤ 2 ^ 37 := Nat.pow_le_pow_right (by decide) (by omega)
      have : 32768 ≤ m / 2 ^ (-plc q).toNat := (Nat.le_div_iff_mul_le (Nat.pow_pos (by decide))).2 (by omega)
      omega
  · rw [show q = 9218868437227405312 from by omega]
    exact ⟨_, rte_inf s, by decide, Nat.le_refl _⟩
theorem cut_int {s : Bool} {Y N : Nat} (h : Y < 9218868437227405312) (hv : V Y = N * U) : (F.read (wd s Y)).toInt .zero = some (sg s N) := by
  have hm := wd_mag (s := s) (q := Y) (by omega)
  rw [read_fin (by rw [hm.1]; exact h), hm.1, hm.2]
  show some (signed s (Toward.zero.cut s (md Y <<< (plc Y).toNat) (-plc Y).toNat) 0) = _
  rw [cut_whole s hv]
  unfold signed sg
  rw [Nat.shiftLeft_zero]

/-- What is known of a small one: its digits, how many of them are behind the point, the whole numbers above and below. -/
structure Small (s : Bool) (q m k Y N G L : Nat) : Prop where
  hm : m < 9007199254740992
  k1 : 38 ≤ k
  k2 : k ≤ 1074
  v : V q = m * 2 ^ (1074 - k)
  kq : plc q = -(k : Int)
  rq : q < 9218868437227405312
  r : rte (wd s q) = wd s Y
  f : flr (wd s q) = wd s G
  hY : Y < 9218868437227405312
  vY : V Y = N * U
  hG : G < 9218868437227405312
  vG : V G = L * U
  eN : N = m / 2 ^ k + (decide (2 ^ k < 2 * (m % 2 ^ k)) || (2 ^ k == 2 * (m % 2 ^ k) && m / 2 ^ k % 2 == 1)).toNat
  eL : L = m / 2 ^ k + (s && m % 2 ^ k != 0).toNat
  low : m / 2 ^ k ≤ 32767
theorem small_of (s : Bool) {q : Nat} (h : q < 4674736413210574848) : ∃ m k Y N G L, Small s q m k Y N G L := by
  have hpl : plc q ≤ -38 := by unfold plc; omega
  have hlo := plc_lo q
  have hq : q < 9218868437227405312 := by omega
  have e0 : (plc q).toNat = 0 := by omega
  have hm := md_bd q
  obtain ⟨k, hk⟩ : ∃ k, k = (-plc q).toNat := ⟨_, rfl⟩
  have hlow : md q / 2 ^ k ≤ 32767 := by
    have : 2 ^ 38 ≤ 2 ^ k := Nat.pow_le_pow_right (by decide) (by omega)
    have : md q / 2 ^ k < 32768 := (Nat.div_lt_iff_lt_mul (Nat.pow_pos (by decide))).2 (by omega)
    omega
  have r := rte_fin (s := s) hq
  have f := flr_fin (s := s) hq
  rw [e0, Nat.shiftLeft_zero, ← hk, cut_even] at r
  rw [e0, Nat.shiftLeft_zero, ← hk, cut_down] at f
  have b1 := Bool.toNat_le (decide (2 ^ k < 2 * (md q % 2 ^ k)) || (2 ^ k == 2 * (md q % 2 ^ k) && md q / 2 ^ k % 2 == 1))
  have b2 := Bool.toNat_le (s && md q % 2 ^ k != 0)
  obtain ⟨w1, w2⟩ := whole (N := md q / 2 ^ k + (decide (2 ^ k < 2 * (md q % 2 ^ k)) || (2 ^ k == 2 * (md q % 2 ^ k) && md q / 2 ^ k % 2 == 1)).toNat) (by omega)
  obtain ⟨w3, w4⟩ := whole (N := md q / 2 ^ k + (s && md q % 2 ^ k != 0).toNat) (by omega)
  exact ⟨md q, k, _, _, _, _, hm, by omega, by omega, by unfold V; congr 2; omega, by omega, hq, r, f, w1, w2, w3, w4, rfl, rfl, hlow⟩
/-- What is left, when the floor is taken away: in units of which 2^k are one. -/
theorem rest {s : Bool} {q m k Y N G L : Nat} (h : Small s q m k Y N G L) : ∃ d t D : Nat, F.sub (wd s q) (wd s G) = some D ∧ d = (if s then (if m % 2 ^ k = 0 then 0 else 2 ^ k - m % 2 ^ k) else m % 2 ^ k) ∧ D = F.nearest false (d * 2 ^ t) (-(k : Int) - t) ∧ k + t ≤ 1074 := by
  obtain ⟨d, hd⟩ : ∃ d, d = (if s then (if m % 2 ^ k = 0 then 0 else 2 ^ k - m % 2 ^ k) else m % 2 ^ k) := ⟨_, rfl⟩
  have hmq := wd_mag (s := s) (q := q) (by have := h.rq; omega)
  have hmG := wd_mag (s := s) (q := G) (by have := h.hG; omega)
  have p1 := plc_lo q
  have p2 := plc_lo G
  have hp := Nat.pow_pos (n := k) (show 0 < 2 by decide)
  have hr := Nat.mod_lt m hp
  -- the difference, in units of the least number
  have hv : sg s (V q) + sg (!s) (V G) = ((d * 2 ^ (1074 - k) : Nat) : Int) := by
    have e1 : V G = L * 2 ^ k * 2 ^ (1074 - k) := by rw [h.vG, Nat.mul_assoc, U_split h.k2]
    have e2 := Nat.div_add_mod m (2 ^ k)
    rw [h.v, e1, h.eL, hd]
    generalize 2 ^ (1074 - k) = u at *
    generalize 2 ^ k = w at *
    generalize m % w = ρ at *
    generalize m / w = l at *
    subst e2
    cases s
    · simp only [sg, Bool.not_false, if_true, Bool.false_eq_true, if_false, Bool.false_and, Bool.toNat_false, Nat.add_zero]
      rw [Nat.add_mul, Nat.mul_comm w l, Int.natCast_add]
      omega
    · simp only [sg, Bool.not_true, if_true, Bool.false_eq_true, if_false, Bool.true_and]
      by_cases z : ρ = 0
      · rw [if_pos z, z]
        simp only [bne_self_eq_false, Bool.toNat_false, Nat.add_zero, Nat.zero_mul]
        rw [Nat.mul_comm w l]; omega
      · rw [if_neg z, show (ρ != 0) = true from by rw [bne_iff_ne]; exact z]
        simp only [Bool.toNat_true]
        have e3 : (l + 1) * w * u = (w * l + ρ) * u + (w - ρ) * u := by
          rw [← Nat.add_mul, Nat.add_assoc, show ρ + (w - ρ) = w from by omega, Nat.add_mul, Nat.one_mul, Nat.mul_comm l w]
        rw [e3]; omega
  obtain ⟨B, hB⟩ : ∃ B, B = min (plc q) (plc G) := ⟨_, rfl⟩
  have hkq := h.kq
  have hk2 := h.k2
  obtain ⟨t, ht⟩ : ∃ t, t = (-(k : Int) - B).toNat := ⟨_, rfl⟩
  have hBt : B = -(k : Int) - (t : Int) := by omega
  have ep : d * 2 ^ (1074 - k) = d * 2 ^ t * 2 ^ (B + 1074).toNat := by
    rw [Nat.mul_assoc, pw_split (c := 1074 - k) (by omega)]
  have hpB := Nat.pow_pos (n := (B + 1074).toNat) (show 0 < 2 by decide)
  have et : signed s (md q) (plc q - B).toNat + signed (!s) (md G) (plc G - B).toNat = ((d * 2 ^ t : Nat) : Int) := by
    apply Int.eq_of_mul_eq_mul_right (a := ((2 ^ (B + 1074).toNat : Nat) : Int)) (by omega)
    rw [Int.add_mul, signed_V (by omega) (by omega), signed_V (by omega) (by omega), hv, ep, Int.natCast_mul (d * 2 ^ t)]
  refine ⟨d, t, _, ?_, hd, rfl, by omega⟩
  unfold Format.sub
  rw [read_fin (by rw [hmq.1]; exact h.rq), read_fin (by rw [hmG.1]; exact h.hG), hmq.1, hmq.2, hmG.1, hmG.2]
  show some (F.nearest (if signed s (md q) (plc q - min (plc q) (plc G)).toNat + signed (!s) (md G) (plc G - min (plc q) (plc G)).toNat = 0 then s && !s else decide (signed s (md q) (plc q - min (plc q) (plc G)).toNat + signed (!s) (md G) (plc G - min (plc q) (plc G)).toNat < 0)) (signed s (md q) (plc q - min (plc q) (plc G)).toNat + signed (!s) (md G) (plc G - min (plc q) (plc G)).toNat).natAbs (min (plc q) (plc G))) = _
  rw [← hB, et, Int.natAbs_natCast, hBt]
  have es : (if ((d * 2 ^ t : Nat) : Int) = 0 then s && !s else decide (((d * 2 ^ t : Nat) : Int) < 0)) = false := by
    split
    · cases s <;> rfl
    · exact decide_eq_false (by omega)
  rw [es]
/-- Against a half. -/
theorem half_cmp {d t k : Nat} (hk : k + t ≤ 1074) (hd : d < 9007199254740992) (h1 : 1 ≤ k) : F.nearest false (d * 2 ^ t) (-(k : Int) - t) < 9218868437227405312 ∧ compare (F.nearest false (d * 2 ^ t) (-(k : Int) - t)) 4602678819172646912 = compare (2 * d) (2 ^ k) := by
  rcases Nat.eq_zero_or_pos d with z | z
  · subst z
    have e : F.nearest false (0 * 2 ^ t) (-(k : Int) - t) = 0 := by rw [Nat.zero_mul]; unfold Format.nearest; rw [if_pos rfl, word_pos]
    rw [e]
    have := Nat.pow_pos (n := k) (show 0 < 2 by decide)
    exact ⟨by decide, by rw [cmp_lt (by decide), cmp_lt (by omega)]⟩
  · obtain ⟨b1, b2⟩ := log_bd (n := d) (by omega) rfl
    have hl : d.log2 ≤ 52 := by
      rcases Nat.lt_or_ge 52 d.log2 with u | u
      · have : 2 ^ 53 ≤ 2 ^ d.log2 := Nat.pow_le_pow_right (by decide) u
        omega
      · exact u
    rw [near_shift z hl (by omega), show -(k : Int) - (t : Int) + (t : Int) = -(k : Int) from by omega]
    obtain ⟨w1, w2⟩ := near_V (p := -(k : Int)) z hd (by omega) (by omega)
    refine ⟨w1, ?_⟩
    rw [← V_cmp, w2]
    have hv := V_half
    have hU := U_split (k := k) (by omega)
    rw [show (-(k : Int) + 1074).toNat = 1074 - k from by omega]
    have hp := Nat.pow_pos (n := 1074 - k) (show 0 < 2 by decide)
    generalize V 4602678819172646912 = X at *
    generalize 2 ^ (1074 - k) = u at *
    generalize 2 ^ k = w at *
    have e2 : 2 * X = w * u := by omega
    have e3 : 2 * (d * u) = 2 * d * u := (Nat.mul_assoc 2 d u).symm
    rcases Nat.lt_trichotomy (2 * d) w with g | g | g
    · have : 2 * d * u < w * u := Nat.mul_lt_mul_of_pos_right g hp
      rw [cmp_lt g, cmp_lt (by omega)]
    · have : 2 * d * u = w * u := by rw [g]
      rw [cmp_eq g, cmp_eq (by omega)]
    · have : w * u < 2 * d * u := Nat.mul_lt_mul_of_pos_right g hp
      rw [cmp_gt g, cmp_gt (by omega)]
/-- What is more than a half, and has so many digits that some are lost, is a half at least. -/
theorem half_le {d t k : Nat} (hk : k + t ≤ 1074) (h1 : 54 ≤ k) (h : 2 ^ (k - 1) ≤ d) : 4602678819172646912 ≤ F.nearest false (d * 2 ^ t) (-(k : Int) - t) := by
  have hp := Nat.pow_pos (n := k - 1) (show 0 < 2 by decide)
  have hd0 : d ≠ 0 := by omega
  have hl : k - 1 ≤ d.log2 := (Nat.le_log2 hd0).2 h
  have hn : d * 2 ^ t ≠ 0 := Nat.mul_ne_zero hd0 (by have := Nat.pow_pos (n := t) (show 0 < 2 by decide); omega)
  have hlog : (d * 2 ^ t).log2 = 52 + (d.log2 + t - 52) := by rw [log2_shift (by omega)]; omega
  rw [nearest_keep hn hlog (by omega)]
  have hb := keep_bd hn hlog
  obtain ⟨E, hE⟩ : ∃ E, E = (-(k : Int) - (t : Int) + ((d.log2 + t - 52 : Nat) : Int) + 1074).toNat := ⟨_, rfl⟩
  rw [← hE]
  have : 1021 ≤ E := by omega
  generalize keep (d * 2 ^ t) (d.log2 + t - 52) = K at *
  clear hE hl hlog hn h hp
  exact Nat.le_min.2 ⟨by omega, by decide⟩
end Go.Proofs.Ytgkahjaoajjgcaa.Fl
namespace Go.Proofs.Ytgkahjaoajjgcaa.Fl
open Go Ieee

def ddif (x : Nat) : Nat := (F.sub (y0 x) (flr (y0 x))).getD 0
/-- The nearest whole number, of two the even one, clipped. -/
def mixI (x : Nat) : Int := if (F.order (rte (y0 x)) 4674736138332667904 == some .gt) = true then 32767 else if (F.order (rte (y0 x)) 13898108450065350656 == some .lt) = true then -32768 else cutI (rte (y0 x))
def refUp (x : Nat) : Bool := F.order (ddif x) 4602678819172646912 == some .gt || (F.order (ddif x) 4602678819172646912 == some .eq && !decide ((cutI (flr (y0 x))).tmod 2 = 0))
def refN (x : Nat) : Int := if refUp x = true then cutI (flr (y0 x)) + 1 else cutI (flr (y0 x))
def refHi (x : Nat) : Bool := F.order x 4607182418800017408 == some .gt || F.order x 4607182418800017408 == some .eq
def refLo (x : Nat) : Bool := F.order x 13830554455654793216 == some .lt || F.order x 13830554455654793216 == some .eq
/-- By the floor. -/
def refI (x : Nat) : Int := if refHi x = true then 32767 else if refLo x = true then -32768 else if 32767 < refN x then 32767 else refN x

theorem key_mag (x : Nat) : key x = sg (sgn x) (mag x) := rfl
theorem key_pos {c : Nat} (h : c < 9223372036854775808) : key c = c := by
  have := key_wd (s := false) h
  rw [wd_false] at this
  exact this
theorem key_neg {c q : Nat} (h : c = 9223372036854775808 + q) (hq : q < 9223372036854775808) : key c = -(q : Int) := by
  have := key_wd (s := true) hq
  unfold wd at this
  rw [if_pos rfl, ← h] at this
  exact this
theorem mag_pos {c : Nat} (h : c < 9223372036854775808) : mag c = c := Nat.mod_eq_of_lt h
theorem mag_neg {c q : Nat} (h : c = 9223372036854775808 + q) (hq : q < 9223372036854775808) : mag c = q := by unfold mag; omega
theorem ord_pos {x c : Nat} (hx : mag x ≤ 9218868437227405312) (hc : c ≤ 9218868437227405312) : F.order x c = some (compare (key x) (c : Int)) := by
  rw [order_key hx (by rw [mag_pos (c := c) (by omega)]; exact hc), key_pos (c := c) (by omega)]
theorem ord_neg {x c q : Nat} (hx : mag x ≤ 9218868437227405312) (h : c = 9223372036854775808 + q) (hq : q ≤ 9218868437227405312) : F.order x c = some (compare (key x) (-(q : Int))) := by
  rw [order_key hx (by rw [mag_neg h (by omega)]; exact hq), key_neg h (by omega)]
theorem gt_iff {a b : Int} : ((some (compare a b) : Option Ordering) == some .gt) = decide (b < a) := by
  rcases Int.lt_trichotomy a b with h | h | h
  · rw [Int.compare_eq_lt.2 h, decide_eq_false (by omega)]; rfl
  · rw [Int.compare_eq_eq.2 h, decide_eq_false (by omega)]; rfl
  · rw [Int.compare_eq_gt.2 h, decide_eq_true h]; rfl
theorem lt_iff {a b : Int} : ((some (compare a b) : Option Ordering) == some .lt) = decide (a < b) := by
  rcases Int.lt_trichotomy a b with h | h | h
  · rw [Int.compare_eq_lt.2 h, decide_eq_true h]; rfl
  · rw [Int.compare_eq_eq.2 h, decide_eq_false (by omega)]; rfl
  · rw [Int.compare_eq_gt.2 h, decide_eq_false (by omega)]; rfl
theorem eq_iff {a b : Int} : ((some (compare a b) : Option Ordering) == some .eq) = decide (a = b) := by
  rcases Int.lt_trichotomy a b with h | h | h
  · rw [Int.compare_eq_lt.2 h, decide_eq_false (by omega)]; rfl
  · rw [Int.compare_eq_eq.2 h, decide_eq_true h]; rfl
  · rw [Int.compare_eq_gt.2 h, decide_eq_false (by omega)]; rfl
theorem refHi_eq {x : Nat} (hx : mag x ≤ 9218868437227405312) : refHi x = decide (4607182418800017408 ≤ key x) := by
  unfold refHi
  rw [ord_pos hx (by decide), gt_iff, eq_iff, ← Bool.decide_or]
  exact decide_eq_decide.2 (by omega)
theorem refLo_eq {x : Nat} (hx : mag x ≤ 9218868437227405312) : refLo x = decide (key x ≤ -4607182418800017408) := by
  unfold refLo
  rw [ord_neg (q := 4607182418800017408) hx (by decide) (by decide), lt_iff, eq_iff, ← Bool.decide_or]
  exact decide_eq_decide.2 (by omega)
/-- What a product is, and what it is rounded to. -/
theorem y0_of {x : Nat} (hx : mag x ≤ 9218868437227405312) : ∃ q, y0 x = wd (sgn x) q ∧ q ≤ 9218868437227405312 ∧ (mag x < 4607182418800017408 → q < 4674736413210574848) ∧ (4607182418800017408 ≤ mag x → 4674736413210574848 ≤ q) := by
  obtain ⟨q, h1, h2⟩ := mul_C hx
  rw [y0_eq hx] at h1
  exact ⟨q, Option.some.inj h1, h2⟩
theorem y0_mag {x : Nat} (hx : mag x ≤ 9218868437227405312) : mag (y0 x) ≤ 9218868437227405312 := by
  obtain ⟨q, h1, h2, _⟩ := y0_of hx
  rw [h1, (wd_mag (by omega)).1]; exact h2
theorem rte_of {x : Nat} (hx : mag x ≤ 9218868437227405312) : ∃ Y, rte (y0 x) = wd (sgn x) Y ∧ Y ≤ 9218868437227405312 ∧ ((∃ N, N ≤ 32768 ∧ Y < 9218868437227405312 ∧ V Y = N * U) ∨ 4674736413210574848 ≤ Y) := by
  obtain ⟨q, h1, h2, h3, h4⟩ := y0_of hx
  rw [h1]
  by_cases h : mag x < 4607182418800017408
  · obtain ⟨m, k, Y, N, G, L, hS⟩ := small_of (sgn x) (h3 h)
    have := hS.hY
    refine ⟨Y, hS.r, by omega, .inl ⟨N, ?_, hS.hY, hS.vY⟩⟩
    have := hS.eN
    have := hS.low
    have := Bool.toNat_le (decide (2 ^ k < 2 * (m % 2 ^ k)) || (2 ^ k == 2 * (m % 2 ^ k) && m / 2 ^ k % 2 == 1))
    omega
  · obtain ⟨Y, h5, h6, h7⟩ := rte_big (s := sgn x) (h4 (by omega)) h2
    exact ⟨Y, h5, h7, .inr h6⟩
theorem rte_mag {x : Nat} (hx : mag x ≤ 9218868437227405312) : mag (rte (y0 x)) ≤ 9218868437227405312 := by
  obtain ⟨Y, h1, h2, _⟩ := rte_of hx
  rw [h1, (wd_mag (by omega)).1]; exact h2
theorem rte_self {x : Nat} (hx : mag x ≤ 9218868437227405312) : (F.order (rte (y0 x)) (rte (y0 x)) != some .eq) = false := by
  rw [order_key (rte_mag hx) (rte_mag hx), bne, eq_iff, decide_eq_true rfl]; rfl
theorem V_le {a b : Nat} (h : V a ≤ V b) : a ≤ b := by
  rcases Nat.lt_or_ge b a with g | g
  · have := V_lt g; omega
  · exact g
theorem cut_C (s : Bool) : (F.read (wd s 4674736413210574848)).toInt .zero = some (sg s 32768) := cut_int (by decide) V_C
/-- What is cut is there, where it is not clipped. -/
theorem mix_cut {x : Nat} (hx : mag x ≤ 9218868437227405312) (h1 : (F.order (rte (y0 x)) 4674736138332667904 == some .gt) = false) (h2 : (F.order (rte (y0 x)) 13898108450065350656 == some .lt) = false) : (F.read (rte (y0 x))).toInt .zero = some (cutI (rte (y0 x))) ∧ -32768 ≤ cutI (rte (y0 x)) ∧ cutI (rte (y0 x)) ≤ 32767 := by
  rw [ord_pos (rte_mag hx) (by decide), gt_iff, decide_eq_false_iff_not] at h1
  rw [ord_neg (q := 4674736413210574848) (rte_mag hx) (by decide) (by decide), lt_iff, decide_eq_false_iff_not] at h2
  obtain ⟨Y, e, hY, hN⟩ := rte_of hx
  unfold cutI
  rw [e] at h1 h2 ⊢
  rw [key_wd (by omega)] at h1 h2
  obtain ⟨N, hN1, hN2, hN3⟩ : ∃ N, N ≤ 32768 ∧ Y < 9218868437227405312 ∧ V Y = N * U := by
    rcases hN with hN | hN
    · exact hN
    · have : Y = 4674736413210574848 := by
        unfold sg at h1 h2
        cases hs : sgn x <;> rw [hs] at h1 h2 <;> simp only [Bool.false_eq_true, if_false, if_true] at h1 h2 <;> omega
      subst this
      exact ⟨32768, by decide, by decide, V_C⟩
  rw [cut_int hN2 hN3]
  refine ⟨rfl, ?_⟩
  show -32768 ≤ sg (sgn x) N ∧ sg (sgn x) N ≤ 32767
  unfold sg at h1 ⊢
  cases hs : sgn x <;> rw [hs] at h1 <;> simp only [Bool.false_eq_true, if_false, if_true] at h1 ⊢
  · have : N ≤ 32767 := by
      rcases Nat.lt_or_ge 32767 N with g | g
      · have hN4 : N = 32768 := by omega
        subst hN4
        rw [← V_C] at hN3
        have := V_inj hN3
        omega
      · exact g
    omega
  · omega
theorem ref_small {x : Nat} (hx : mag x ≤ 9218868437227405312) (h1 : refHi x = false) (h2 : refLo x = false) : mag x < 4607182418800017408 := by
  rw [refHi_eq hx, decide_eq_false_iff_not] at h1
  rw [refLo_eq hx, decide_eq_false_iff_not] at h2
  rw [key_mag] at h1 h2
  unfold sg at h1 h2
  cases hs : sgn x <;> rw [hs] at h1 h2 <;> simp only [Bool.false_eq_true, if_false, if_true] at h1 h2 <;> omega
theorem ref_cut {x : Nat} (hx : mag x ≤ 9218868437227405312) (h : mag x < 4607182418800017408) : (F.read (flr (y0 x))).toInt .zero = some (cutI (flr (y0 x))) ∧ -32768 ≤ cutI (flr (y0 x)) ∧ cutI (flr (y0 x)) ≤ 32768 ∧ F.sub (y0 x) (flr (y0 x)) = some (ddif x) := by
  obtain ⟨q, h1, h2, h3, h4⟩ := y0_of hx
  obtain ⟨m, k, Y, N, G, L, hS⟩ := small_of (sgn x) (h3 h)
  obtain ⟨d, t, D, r1, _⟩ := rest hS
  unfold ddif cutI
  rw [h1, hS.f, r1, cut_int hS.hG hS.vG]
  have := hS.eL
  have := hS.low
  have := Bool.toNat_le (sgn x && m % 2 ^ k != 0)
  refine ⟨rfl, ?_, ?_, rfl⟩
  · show -32768 ≤ sg (sgn x) L
    unfold sg; split <;> omega
  · show sg (sgn x) L ≤ 32768
    unfold sg; split <;> omega
theorem natcmp (a b : Nat) : compare (a : Int) (b : Int) = compare a b := by
  rcases Nat.lt_trichotomy a b with g | g | g
  · rw [cmp_lt g, Int.compare_eq_lt.2 (by omega)]
  · rw [cmp_eq g, Int.compare_eq_eq.2 (by omega)]
  · rw [cmp_gt g, Int.compare_eq_gt.2 (by omega)]
theorem toNat_or (a b : Bool) : (a || b).toNat = if a = true ∨ b = true then 1 else 0 := by cases a <;> cases b <;> rfl
/-- The same, of a small one. -/
theorem round_small {x : Nat} (hx : mag x ≤ 9218868437227405312) (h : mag x < 4607182418800017408) : mixI x = (if 32767 < refN x then 32767 else refN x) := by
  obtain ⟨q, h1, h2, h3, h4⟩ := y0_of hx
  obtain ⟨m, k, Y, N, G, L, hS⟩ := small_of (sgn x) (h3 h)
  obtain ⟨d, t, D, r1, r2, r3, r4⟩ := rest hS
  have hD : D ≤ 9218868437227405312 := by rw [r3]; exact near_le _ _
  have hY := hS.hY
  have hlow := hS.low
  have hp := Nat.pow_pos (n := k) (show 0 < 2 by decide)
  have hr := Nat.mod_lt m hp
  have hdm := Nat.div_add_mod m (2 ^ k)
  -- the one
  have eN : (N : Int) = ((m / 2 ^ k : Nat) : Int) + (if 2 ^ k < 2 * (m % 2 ^ k) ∨ (2 ^ k = 2 * (m % 2 ^ k) ∧ m / 2 ^ k % 2 = 1) then 1 else 0) := by
    rw [hS.eN, toNat_or]
    simp only [decide_eq_true_eq, Bool.and_eq_true, beq_iff_eq]
    split <;> simp
  have hm : mixI x = if sgn x = false ∧ 32767 < N then 32767 else sg (sgn x) N := by
    have hN : N ≤ 32768 := by split at eN <;> omega
    have hYC : Y ≤ 4674736413210574848 := V_le (by rw [hS.vY, V_C]; exact Nat.mul_le_mul_right _ hN)
    unfold mixI cutI
    rw [ord_pos (rte_mag hx) (by decide), ord_neg (q := 4674736413210574848) (rte_mag hx) (by decide) (by decide), gt_iff, lt_iff, h1, hS.r, cut_int hS.hY hS.vY, key_wd (by omega)]
    simp only [decide_eq_true_eq, Option.getD_some]
    have e1 : 4674736138332667904 < Y ↔ 32767 < N := by
      constructor
      · intro g
        have := V_lt g
        rw [V_c1, hS.vY] at this
        exact Nat.lt_of_mul_lt_mul_right this
      · intro g
        rcases Nat.lt_or_ge 4674736138332667904 Y with z | z
        · exact z
        · exfalso
          have : V Y ≤ V 4674736138332667904 := by
            rcases Nat.lt_or_ge Y 4674736138332667904 with y | y
            · exact Nat.le_of_lt (V_lt y)
            · rw [show Y = 4674736138332667904 from by omega]; exact Nat.le_refl _
          rw [V_c1, hS.vY] at this
          have := Nat.le_of_mul_le_mul_right this U_pos
          omega
    cases hs : sgn x
    · simp only [sg, Bool.false_eq_true, if_false, true_and]
      by_cases g : 32767 < N
      · rw [if_pos (by have := e1.2 g; omega), if_pos g]
      · rw [if_neg (fun c => g (e1.1 (by omega))), if_neg (by omega), if_neg g]
    · simp only [sg, if_true, Bool.true_eq_false, false_and, if_false]
      rw [if_neg (by omega), if_neg (by omega)]
  -- the other
  have eL : (L : Int) = ((m / 2 ^ k : Nat) : Int) + (if sgn x = true ∧ m % 2 ^ k ≠ 0 then 1 else 0) := by
    rw [hS.eL]
    cases sgn x
    · simp
    · by_cases z : m % 2 ^ k = 0
      · simp [z]
      · rw [show (m % 2 ^ k != 0) = true from by rw [bne_iff_ne]; exact z]
        simp [z]
  have hf : cutI (flr (y0 x)) = sg (sgn x) L := by unfold cutI; rw [h1, hS.f, cut_int hS.hG hS.vG]; rfl
  have hdd : ddif x = D := by unfold ddif; rw [h1, hS.f, r1]; rfl
  have hmd : mag D ≤ 9218868437227405312 := by rw [mag_pos (c := D) (by omega)]; exact hD
  have hup : refUp x = (decide (4602678819172646912 < D) || (decide (D = 4602678819172646912) && !decide ((sg (sgn x) L).tmod 2 = 0))) := by
    unfold refUp
    rw [hdd, hf, ord_pos hmd (by decide), gt_iff, eq_iff, key_pos (c := D) (by omega)]
    congr 1
    · exact decide_eq_decide.2 (by omega)
    · congr 1
      exact decide_eq_decide.2 (by omega)
  -- against a half
  have hc : (4602678819172646912 < D ↔ 2 ^ k < 2 * d) ∧ (D = 4602678819172646912 ↔ 2 * d = 2 ^ k) ∨ (sgn x = true ∧ m / 2 ^ k = 0 ∧ m % 2 ^ k ≠ 0 ∧ 2 * (m % 2 ^ k) < 2 ^ k ∧ 4602678819172646912 ≤ D) := by
    by_cases g : d < 9007199254740992
    · left
      obtain ⟨w1, w2⟩ := half_cmp r4 g (by have := hS.k1; omega)
      rw [← r3] at w1 w2
      rcases Nat.lt_trichotomy (2 * d) (2 ^ k) with z | z | z
      · rw [cmp_lt z] at w2; have := Nat.compare_eq_lt.1 w2; omega
      · rw [cmp_eq z] at w2; have := Nat.compare_eq_eq.1 w2; omega
      · rw [cmp_gt z] at w2; have := Nat.compare_eq_gt.1 w2; omega
    · right
      have hmb := hS.hm
      have hle : m % 2 ^ k ≤ m := Nat.mod_le _ _
      cases hs : sgn x
      · rw [hs] at r2
        simp only [Bool.false_eq_true, if_false] at r2
        omega
      · rw [hs] at r2
        simp only [if_true] at r2
        by_cases z : m % 2 ^ k = 0
        · rw [if_pos z] at r2; omega
        · rw [if_neg z] at r2
          have hk : 54 ≤ k := by
            rcases Nat.lt_or_ge k 54 with y | y
            · have : 2 ^ k ≤ 2 ^ 53 := Nat.pow_le_pow_right (by decide) (by omega)
              omega
            · exact y
          have h54 : 2 ^ 54 ≤ 2 ^ k := Nat.pow_le_pow_right (by decide) hk
          have hm0 : m / 2 ^ k = 0 := Nat.div_eq_of_lt (by omega)
          refine ⟨rfl, hm0, z, by omega, ?_⟩
          rw [r3]
          refine half_le r4 hk ?_
          have : 2 ^ k = 2 * 2 ^ (k - 1) := by rw [show k = k - 1 + 1 from by omega, Nat.pow_succ, Nat.mul_comm, Nat.add_sub_cancel]
          omega
  rw [hm]
  unfold refN
  rw [hup, hf]
  simp only [Bool.or_eq_true, decide_eq_true_eq, Bool.and_eq_true, Bool.not_eq_true', decide_eq_false_iff_not]
  generalize 2 ^ k = w at *
  generalize m % w = ρ at *
  generalize m / w = l at *
  clear hm hup hf r1 r3 h1 hS
  have tm : (L : Int).tmod 2 = ((L % 2 : Nat) : Int) := by rw [Int.tmod_eq_emod_of_nonneg (by omega)]; rfl
  cases hs : sgn x
  · rw [hs] at eL r2 hc
    simp only [Bool.false_eq_true, if_false, false_and] at eL r2 hc
    simp only [sg, Bool.false_eq_true, if_false, true_and, tm]
    have hc' : (4602678819172646912 < D ↔ w < 2 * d) ∧ (D = 4602678819172646912 ↔ 2 * d = w) := hc.resolve_right (fun c => c)
    have e : (4602678819172646912 < D ∨ D = 4602678819172646912 ∧ ¬ ((L % 2 : Nat) : Int) = 0) ↔ (w < 2 * ρ ∨ (w = 2 * ρ ∧ l % 2 = 1)) := by
      rw [hc'.1, hc'.2, r2]
      omega
    have hL : L = l := by omega
    by_cases z : w < 2 * ρ ∨ (w = 2 * ρ ∧ l % 2 = 1)
    · rw [if_pos z] at eN
      rw [if_pos (e.2 z)]
      split <;> split <;> omega
    · rw [if_neg z] at eN
      rw [if_neg (fun c => z (e.1 c))]
      split <;> split <;> omega
  · rw [hs] at eL r2 hc
    simp only [if_true, true_and] at eL r2 hc
    have tn : (-(L : Int)).tmod 2 = -((L % 2 : Nat) : Int) := by rw [Int.neg_tmod, tm]
    simp only [sg, if_true, Bool.true_eq_false, false_and, if_false, tn]
    rw [if_neg (show ¬ (32767 : Int) < if 4602678819172646912 < D ∨ D = 4602678819172646912 ∧ ¬ -((L % 2 : Nat) : Int) = 0 then -(L : Int) + 1 else -(L : Int) by split <;> omega)]
    by_cases zr : ρ = 0
    · subst zr
      simp only [ne_eq, not_true_eq_false, if_false, if_true] at eL r2 hc
      have hc' : (4602678819172646912 < D ↔ w < 2 * d) ∧ (D = 4602678819172646912 ↔ 2 * d = w) := hc.resolve_right (fun c => c.2.1)
      rw [if_neg (by omega)] at eN
      rw [if_neg (by rw [hc'.1, hc'.2, r2]; omega)]
      omega
    · rw [if_pos zr] at eL
      rw [if_neg zr] at r2
      rcases hc with hc | ⟨c1, c2, c3, c4⟩
      · have e : (4602678819172646912 < D ∨ D = 4602678819172646912 ∧ ¬ -((L % 2 : Nat) : Int) = 0) ↔ ¬ (w < 2 * ρ ∨ (w = 2 * ρ ∧ l % 2 = 1)) := by
          rw [hc.1, hc.2, r2]
          omega
        by_cases z : w < 2 * ρ ∨ (w = 2 * ρ ∧ l % 2 = 1)
        · rw [if_pos z] at eN
          rw [if_neg (fun c => e.1 c z)]
          omega
        · rw [if_neg z] at eN
          rw [if_pos (e.2 z)]
          omega
      · rw [if_neg (by omega)] at eN
        rw [if_pos (by omega)]
        omega
theorem big_of {x : Nat} (hx : mag x ≤ 9218868437227405312) (h : 4607182418800017408 ≤ mag x) : ∃ Y, rte (y0 x) = wd (sgn x) Y ∧ Y ≤ 9218868437227405312 ∧ 4674736413210574848 ≤ Y := by
  obtain ⟨q, h1, h2, h3, h4⟩ := y0_of hx
  obtain ⟨Y, h5, h6, h7⟩ := rte_big (s := sgn x) (h4 h) h2
  rw [h1]
  exact ⟨Y, h5, h7, h6⟩
theorem round_same {x : Nat} (hx : mag x ≤ 9218868437227405312) : mixI x = refI x := by
  unfold refI
  by_cases h1 : refHi x = true
  · rw [if_pos h1]
    rw [refHi_eq hx, decide_eq_true_eq, key_mag] at h1
    have hs : sgn x = false := by
      cases hs : sgn x
      · rfl
      · rw [hs] at h1; unfold sg at h1; simp only [if_true] at h1; omega
    rw [hs] at h1
    simp only [sg, Bool.false_eq_true, if_false] at h1
    obtain ⟨Y, e, hY, hN⟩ := big_of hx (by omega)
    unfold mixI
    rw [ord_pos (rte_mag hx) (by decide), gt_iff, e, key_wd (by omega), hs]
    simp only [sg, Bool.false_eq_true, if_false]
    rw [if_pos (by rw [decide_eq_true_eq]; omega)]
  · by_cases h2 : refLo x = true
    · rw [if_neg h1, if_pos h2]
      rw [refLo_eq hx, decide_eq_true_eq, key_mag] at h2
      have hs : sgn x = true := by
        cases hs : sgn x
        · rw [hs] at h2; unfold sg at h2; simp only [Bool.false_eq_true, if_false] at h2; omega
        · rfl
      rw [hs] at h2
      simp only [sg, if_true] at h2
      obtain ⟨Y, e, hY, hN⟩ := big_of hx (by omega)
      unfold mixI cutI
      rw [ord_pos (rte_mag hx) (by decide), ord_neg (q := 4674736413210574848) (rte_mag hx) (by decide) (by decide), gt_iff, lt_iff, e, key_wd (by omega), hs]
      simp only [sg, if_true]
      rw [if_neg (by rw [decide_eq_true_eq]; omega)]
      by_cases z : Y = 4674736413210574848
      · subst z
        rw [if_neg (by rw [decide_eq_true_eq]; omega), cut_C true]
        rfl
      · rw [if_pos (by rw [decide_eq_true_eq]; omega)]
    · rw [if_neg h1, if_neg h2]
      exact round_small hx (ref_small hx (by simpa using h1) (by simpa using h2))
end Go.Proofs.Ytgkahjaoajjgcaa.Fl
namespace Go.Proofs.Ytgkahjaoajjgcaa.Pm
open Go Go.Proofs.Ytgkahjaoajjgcaa.Fl

theorem ext_round {name : String} {way : Ieee.Toward} {y : Nat} (h : mag y ≤ 9218868437227405312) (w : World) (P : Program) :
    (Extern.MathFloor.toIntegral name way #[.float .f64 y]).run P w = .ok (.float .f64 (F.write ((F.read y).integral way))) w := by
  conv in Extern.MathFloor.toIntegral _ _ _ => whnf
  rw [show FloatKind.f64.decode y = F.read y from rfl]
  by_cases h1 : mag y = 9218868437227405312
  · rw [read_inf h1]; rfl
  · rw [read_fin (by omega)]; rfl
theorem ext_rte {y : Nat} (h : mag y ≤ 9218868437227405312) : ExtTo Try.prog 20 [flv y] (.float .f64 (rte y)) :=
  ⟨Try.f20, Extern.MathFloor.toIntegral "math.RoundToEven" .even, [.float .f64 y], rfl, Try.func20, by kernel_rfl, by kernel_rfl, by kernel_rfl, by kernel_rfl, fun w => ext_round h w _⟩
theorem ext_flr {y : Nat} (h : mag y ≤ 9218868437227405312) : ExtTo Try.prog 24 [flv y] (.float .f64 (flr y)) :=
  ⟨Try.f24, Extern.MathFloor.toIntegral "math.archFloor" .down, [.float .f64 y], rfl, Try.func24, by kernel_rfl, by kernel_rfl, by kernel_rfl, by kernel_rfl, fun w => ext_round h w _⟩
theorem nan_ord {x y : Nat} (h : 9218868437227405312 < mag x) : F.order x y = none := by
  obtain ⟨s, t, e⟩ := read_nan h
  unfold Ieee.Format.order
  rw [e]
  cases F.read y <;> rfl
theorem nan_self {x : Nat} (h : 9218868437227405312 < mag x) : (F.order x x != some .eq) = true := by rw [nan_ord h]; rfl
theorem num_self {x : Nat} (h : mag x ≤ 9218868437227405312) : (F.order x x != some .eq) = false := by
  rw [order_key h h, bne, eq_iff, decide_eq_true rfl]; rfl
theorem nan_mul {x : Nat} (h : 9218868437227405312 < mag x) : F.mul x 4674736413210574848 = none := by
  obtain ⟨s, t, e⟩ := read_nan h
  unfold Ieee.Format.mul
  rw [e, read_C]
  rfl
theorem mixI_hi {x : Nat} (h : (F.order (rte (y0 x)) 4674736138332667904 == some .gt) = true) : mixI x = 32767 := if_pos h
theorem mixI_lo {x : Nat} (h : ¬ (F.order (rte (y0 x)) 4674736138332667904 == some .gt) = true) (h2 : (F.order (rte (y0 x)) 13898108450065350656 == some .lt) = true) : mixI x = -32768 := by unfold mixI; rw [if_neg h, if_pos h2]
theorem mixI_in {x : Nat} (h : ¬ (F.order (rte (y0 x)) 4674736138332667904 == some .gt) = true) (h2 : ¬ (F.order (rte (y0 x)) 13898108450065350656 == some .lt) = true) : mixI x = cutI (rte (y0 x)) := by unfold mixI; rw [if_neg h, if_neg h2]
theorem refI_hi {x : Nat} (h : refHi x = true) : refI x = 32767 := if_pos h
theorem refI_lo {x : Nat} (h : ¬ refHi x = true) (h2 : refLo x = true) : refI x = -32768 := by unfold refI; rw [if_neg h, if_pos h2]
theorem refI_top {x : Nat} (h : ¬ refHi x = true) (h2 : ¬ refLo x = true) {n : Int} (hn : refN x = n) (h3 : 32767 < n) : refI x = 32767 := by unfold refI; rw [if_neg h, if_neg h2, hn, if_pos h3]
theorem refI_in {x : Nat} (h : ¬ refHi x = true) (h2 : ¬ refLo x = true) {n : Int} (hn : refN x = n) (h3 : ¬ 32767 < n) : refI x = n := by unfold refI; rw [if_neg h, if_neg h2, hn, if_neg h3]
theorem refN_gt {x : Nat} (h : (F.order (ddif x) 4602678819172646912 == some .gt) = true) : refN x = cutI (flr (y0 x)) + 1 := by unfold refN refUp; rw [h]; rfl
theorem refN_odd {x : Nat} (h : ¬ (F.order (ddif x) 4602678819172646912 == some .gt) = true) (h2 : (F.order (ddif x) 4602678819172646912 == some .eq) = true) (h3 : ¬ (cutI (flr (y0 x))).tmod 2 = 0) : refN x = cutI (flr (y0 x)) + 1 := by
  unfold refN refUp; rw [eq_false_of_ne_true h, h2, decide_eq_false h3]; rfl
theorem refN_two {x : Nat} (h : ¬ (F.order (ddif x) 4602678819172646912 == some .gt) = true) (h2 : (F.order (ddif x) 4602678819172646912 == some .eq) = true) (h3 : (cutI (flr (y0 x))).tmod 2 = 0) : refN x = cutI (flr (y0 x)) := by
  unfold refN refUp; rw [eq_false_of_ne_true h, h2, decide_eq_true h3]; rfl
theorem refN_lt {x : Nat} (h : ¬ (F.order (ddif x) 4602678819172646912 == some .gt) = true) (h2 : ¬ (F.order (ddif x) 4602678819172646912 == some .eq) = true) : refN x = cutI (flr (y0 x)) := by
  unfold refN refUp; rw [eq_false_of_ne_true h, eq_false_of_ne_true h2]; rfl
end Go.Proofs.Ytgkahjaoajjgcaa.Pm
namespace Go.Proofs.Ytgkahjaoajjgcaa.Pm
open Go Go.Proofs.Ytgkahjaoajjgcaa.Fl

set_option maxRecDepth 100000 in
set_option maxHeartbeats 4000000 in
theorem round_num_pc (x : Nat) (hx : mag x ≤ 9218868437227405312) : PC Try.prog 13 [(flv x)] [] (iv (mixI x)) [] := by
  refine pc_intro Try.func13 rfl (by kernel_rfl) (Nat.le_of_ble_eq_true rfl) (by kernel_rfl) (l0 := [ps 0 (flv x)]) rfl (fun c0 Bor hc0 => ?_)
  refine T_seq ?_
  refine T_region [] [ks 0] (fun _ => mixed) (l' := [ps 0 (flv x)]) (obs := []) (by kernel_rfl) (obs_nil) ?_
  refine T_seq ?_
  refine T_region [(1, .nat (y0 x)), (2, .val (.av (.float .f64 (rte (y0 x)))))] [ks 3] (fun _ => mixed) (l' := [ps 3 (flv (rte (y0 x)))]) (obs := [FloatKind.f64.format.mul x 4674736413210574848 = some (y0 x), ExtTo Try.prog 20 [(flv (y0 x))] (.float .f64 (rte (y0 x)))]) (by kernel_rfl) (obs_cons (y0_eq hx) (obs_cons (ext_rte (y0_mag hx)) (obs_nil))) ?_
  refine T_block ?_
  refine T_seq ?_
  refine T_region [] [ks 3, ks 9] (fun _ => mixed) (l' := [ps 3 (flv (rte (y0 x))), ps 9 (bv (FloatKind.f64.format.order (rte (y0 x)) (rte (y0 x)) != some .eq))]) (obs := []) (by kernel_rfl) (obs_nil) ?_
  have h1 : ¬ ((FloatKind.f64.format.order (rte (y0 x)) (rte (y0 x)) != some .eq) = true) := (ne_true_of_eq_false (rte_self hx))
  refine T_else (b := (FloatKind.f64.format.order (rte (y0 x)) (rte (y0 x)) != some .eq)) rfl (Bool.eq_false_iff.2 h1) ?_
  refine T_seq ?_
  refine T_region [] [ks 3, ks 13] (fun _ => mixed) (l' := [ps 3 (flv (rte (y0 x))), ps 13 (bv (FloatKind.f64.format.order (rte (y0 x)) 4674736138332667904 == some .gt))]) (obs := []) (by kernel_rfl) (obs_nil) ?_
  by_cases h2 : (FloatKind.f64.format.order (rte (y0 x)) 4674736138332667904 == some .gt) = true
  · refine T_then (b := (FloatKind.f64.format.order (rte (y0 x)) 4674736138332667904 == some .gt)) rfl h2 ?_
    refine T_seq ?_
    refine T_region [] [ks 2] (fun _ => mixed) (l' := [ps 2 (iv 32767)]) (obs := []) (by kernel_rfl) (obs_nil) ?_
    rw [mixI_hi (x := x) h2]
    exact T_ret fun cx_ a_ hI_ => ret_ok (H' := []) (.inr rfl) (Wk.ren2 [ps 2 (iv 32767)] 0 hc0 [] rfl rfl (by kernel_rfl) (by kernel_rfl)) rfl (obs_nil) (fun cx_ a_ hI_ => ret_res (l' := [ps 2 (iv 32767)]) (by kernel_rfl) cx_ a_ hI_) hI_
  · refine T_else (b := (FloatKind.f64.format.order (rte (y0 x)) 4674736138332667904 == some .gt)) rfl (Bool.eq_false_iff.2 h2) ?_
    refine T_seq ?_
    refine T_region [] [ks 3, ks 16] (fun _ => mixed) (l' := [ps 3 (flv (rte (y0 x))), ps 16 (bv (FloatKind.f64.format.order (rte (y0 x)) 13898108450065350656 == some .lt))]) (obs := []) (by kernel_rfl) (obs_nil) ?_
    by_cases h3 : (FloatKind.f64.format.order (rte (y0 x)) 13898108450065350656 == some .lt) = true
    · refine T_then (b := (FloatKind.f64.format.order (rte (y0 x)) 13898108450065350656 == some .lt)) rfl h3 ?_
      refine T_seq ?_
      refine T_region [] [ks 2] (fun _ => mixed) (l' := [ps 2 (iv (-32768))]) (obs := []) (by kernel_rfl) (obs_nil) ?_
      rw [mixI_lo (x := x) h2 h3]
      exact T_ret fun cx_ a_ hI_ => ret_ok (H' := []) (.inr rfl) (Wk.ren2 [ps 2 (iv (-32768))] 0 hc0 [] rfl rfl (by kernel_rfl) (by kernel_rfl)) rfl (obs_nil) (fun cx_ a_ hI_ => ret_res (l' := [ps 2 (iv (-32768))]) (by kernel_rfl) cx_ a_ hI_) hI_
    · refine T_else (b := (FloatKind.f64.format.order (rte (y0 x)) 13898108450065350656 == some .lt)) rfl (Bool.eq_false_iff.2 h3) ?_
      refine T_seq ?_
      refine T_region [(1, .val (.av (.int .i64 (cutI (rte (y0 x))))))] [ks 2] (fun _ => mixed) (l' := [ps 2 (iv (cutI (rte (y0 x))))]) (obs := [CutTo .f64 (rte (y0 x)) .i64 (cutI (rte (y0 x)))]) (by kernel_rfl) (obs_cons (by have hc := mix_cut hx (eq_false_of_ne_true h2) (eq_false_of_ne_true h3); exact ⟨hc.1, by show (-9223372036854775808 : Int) ≤ _; omega, by show _ ≤ (9223372036854775807 : Int); omega⟩) (obs_nil)) ?_
      rw [mixI_in (x := x) h2 h3]
      exact T_ret fun cx_ a_ hI_ => ret_ok (H' := []) (.inr rfl) (Wk.ren2 [ps 2 (iv (cutI (rte (y0 x))))] 0 hc0 [] rfl rfl (by kernel_rfl) (by kernel_rfl)) rfl (obs_nil) (fun cx_ a_ hI_ => ret_res (l' := [ps 2 (iv (cutI (rte (y0 x))))]) (by kernel_rfl) cx_ a_ hI_) hI_
set_option maxRecDepth 100000 in
set_option maxHeartbeats 4000000 in
theorem floor_pc (y : Nat) (hy : mag y ≤ 9218868437227405312) : PC Try.prog 21 [(flv y)] [] (flv (flr y)) [] := by
  refine pc_intro Try.func21 rfl (by kernel_rfl) (Nat.le_of_ble_eq_true rfl) (by kernel_rfl) (l0 := [ps 0 (flv y)]) rfl (fun c0 Bor hc0 => ?_)
  refine T_seq ?_
  refine T_region [] [ks 0] (fun _ => mixed) (l' := [ps 0 (flv y)]) (obs := []) (by kernel_rfl) (obs_nil) ?_
  refine T_seq ?_
  refine T_thenc ?_
  refine T_seq ?_
  refine T_region [(1, .val (.av (.float .f64 (flr y))))] [ks 2] (fun _ => mixed) (l' := [ps 2 (flv (flr y))]) (obs := [ExtTo Try.prog 24 [(flv y)] (.float .f64 (flr y))]) (by kernel_rfl) (obs_cons (ext_flr hy) (obs_nil)) ?_
  exact T_ret fun cx_ a_ hI_ => ret_ok (H' := []) (.inr rfl) (Wk.ren2 [ps 2 (flv (flr y))] 0 hc0 [] rfl rfl (by kernel_rfl) (by kernel_rfl)) rfl (obs_nil) (fun cx_ a_ hI_ => ret_res (l' := [ps 2 (flv (flr y))]) (by kernel_rfl) cx_ a_ hI_) hI_
set_option maxRecDepth 100000 in
set_option maxHeartbeats 4000000 in
theorem ref_round_nan_pc (x : Nat) (hx : 9218868437227405312 < mag x) : PC Try.prog 14 [(flv x)] [] (iv 0) [] := by
  refine pc_intro Try.func14 rfl (by kernel_rfl) (Nat.le_of_ble_eq_true rfl) (by kernel_rfl) (l0 := [ps 0 (flv x)]) rfl (fun c0 Bor hc0 => ?_)
  refine T_seq ?_
  refine T_region [] [ks 0] (fun _ => mixed) (l' := [ps 0 (flv x)]) (obs := []) (by kernel_rfl) (obs_nil) ?_
  refine T_seq ?_
  refine T_seq ?_
  refine T_region [] [ks 0, ks 8] (fun _ => mixed) (l' := [ps 0 (flv x), ps 8 (bv (FloatKind.f64.format.order x x != some .eq))]) (obs := []) (by kernel_rfl) (obs_nil) ?_
  have h1 : (FloatKind.f64.format.order x x != some .eq) = true := (nan_self hx)
  refine T_then (b := (FloatKind.f64.format.order x x != some .eq)) rfl h1 ?_
  refine T_seq ?_
  refine T_region [] [ks 2] (fun _ => mixed) (l' := [ps 2 (iv 0)]) (obs := []) (by kernel_rfl) (obs_nil) ?_
  exact T_ret fun cx_ a_ hI_ => ret_ok (H' := []) (.inr rfl) (Wk.ren2 [ps 2 (iv 0)] 0 hc0 [] rfl rfl (by kernel_rfl) (by kernel_rfl)) rfl (obs_nil) (fun cx_ a_ hI_ => ret_res (l' := [ps 2 (iv 0)]) (by kernel_rfl) cx_ a_ hI_) hI_
set_option maxRecDepth 100000 in
set_option maxHeartbeats 4000000 in
theorem ref_round_num_pc (x : Nat) (hx : mag x ≤ 9218868437227405312) : PC Try.prog 14 [(flv x)] [] (iv (refI x)) [] := by
  refine pc_intro Try.func14 rfl (by kernel_rfl) (Nat.le_of_ble_eq_true rfl) (by kernel_rfl) (l0 := [ps 0 (flv x)]) rfl (fun c0 Bor hc0 => ?_)
  refine T_seq ?_
  refine T_region [] [ks 0] (fun _ => mixed) (l' := [ps 0 (flv x)]) (obs := []) (by kernel_rfl) (obs_nil) ?_
  refine T_seq ?_
  refine T_seq ?_
  refine T_region [] [ks 0, ks 8] (fun _ => mixed) (l' := [ps 0 (flv x), ps 8 (bv (FloatKind.f64.format.order x x != some .eq))]) (obs := []) (by kernel_rfl) (obs_nil) ?_
  have h1 : ¬ ((FloatKind.f64.format.order x x != some .eq) = true) := (ne_true_of_eq_false (num_self hx))
  refine T_else (b := (FloatKind.f64.format.order x x != some .eq)) rfl (Bool.eq_false_iff.2 h1) ?_
  refine T_skip ?_
  refine T_seq ?_
  refine T_seq ?_
  refine T_region [] [ks 0, ks 10] (fun _ => mixed) (l' := [ps 0 (flv x), ps 10 (bv (FloatKind.f64.format.order x 4607182418800017408 == some .gt || FloatKind.f64.format.order x 4607182418800017408 == some .eq))]) (obs := []) (by kernel_rfl) (obs_nil) ?_
  by_cases h2 : (FloatKind.f64.format.order x 4607182418800017408 == some .gt || FloatKind.f64.format.order x 4607182418800017408 == some .eq) = true
  · refine T_then (b := (FloatKind.f64.format.order x 4607182418800017408 == some .gt || FloatKind.f64.format.order x 4607182418800017408 == some .eq)) rfl h2 ?_
    refine T_seq ?_
    refine T_region [] [ks 2] (fun _ => mixed) (l' := [ps 2 (iv 32767)]) (obs := []) (by kernel_rfl) (obs_nil) ?_
    rw [refI_hi (x := x) h2]
    exact T_ret fun cx_ a_ hI_ => ret_ok (H' := []) (.inr rfl) (Wk.ren2 [ps 2 (iv 32767)] 0 hc0 [] rfl rfl (by kernel_rfl) (by kernel_rfl)) rfl (obs_nil) (fun cx_ a_ hI_ => ret_res (l' := [ps 2 (iv 32767)]) (by kernel_rfl) cx_ a_ hI_) hI_
  · refine T_else (b := (FloatKind.f64.format.order x 4607182418800017408 == some .gt || FloatKind.f64.format.order x 4607182418800017408 == some .eq)) rfl (Bool.eq_false_iff.2 h2) ?_
    refine T_skip ?_
    refine T_seq ?_
    refine T_seq ?_
    refine T_region [] [ks 0, ks 12] (fun _ => mixed) (l' := [ps 0 (flv x), ps 12 (bv (FloatKind.f64.format.order x 13830554455654793216 == some .lt || FloatKind.f64.format.order x 13830554455654793216 == some .eq))]) (obs := []) (by kernel_rfl) (obs_nil) ?_
    by_cases h3 : (FloatKind.f64.format.order x 13830554455654793216 == some .lt || FloatKind.f64.format.order x 13830554455654793216 == some .eq) = true
    · refine T_then (b := (FloatKind.f64.format.order x 13830554455654793216 == some .lt || FloatKind.f64.format.order x 13830554455654793216 == some .eq)) rfl h3 ?_
      refine T_seq ?_
      refine T_region [] [ks 2] (fun _ => mixed) (l' := [ps 2 (iv (-32768))]) (obs := []) (by kernel_rfl) (obs_nil) ?_
      rw [refI_lo (x := x) h2 h3]
      exact T_ret fun cx_ a_ hI_ => ret_ok (H' := []) (.inr rfl) (Wk.ren2 [ps 2 (iv (-32768))] 0 hc0 [] rfl rfl (by kernel_rfl) (by kernel_rfl)) rfl (obs_nil) (fun cx_ a_ hI_ => ret_res (l' := [ps 2 (iv (-32768))]) (by kernel_rfl) cx_ a_ hI_) hI_
    · refine T_else (b := (FloatKind.f64.format.order x 13830554455654793216 == some .lt || FloatKind.f64.format.order x 13830554455654793216 == some .eq)) rfl (Bool.eq_false_iff.2 h3) ?_
      refine T_skip ?_
      refine T_seq ?_
      have hsm := ref_small hx (eq_false_of_ne_true h2) (eq_false_of_ne_true h3)
      have hrc := ref_cut hx hsm
      refine T_region [(1, .nat (y0 x))] [ks 3] (fun _ => mixed) (l' := [ps 3 (flv (y0 x))]) (obs := [FloatKind.f64.format.mul x 4674736413210574848 = some (y0 x)]) (by kernel_rfl) (obs_cons (y0_eq hx) (obs_nil)) ?_
      refine T_seq ?_
      refine T_region [(1, .call [] [(flv (y0 x))] [] (flv (flr (y0 x))) [])] [ks 3, ks 4] (fun _ => mixed) (l' := [ps 3 (flv (y0 x)), ps 4 (flv (flr (y0 x)))]) (obs := [PC Try.prog 21 [(flv (y0 x))] [] (flv (flr (y0 x))) [], [(flv (y0 x))] = renL (sigi [] 96) [(flv (y0 x))]]) (by kernel_rfl) (obs_cons (floor_pc (y0 x) (y0_mag hx)) (obs_cons rfl (obs_nil))) ?_
      refine T_seq ?_
      refine T_region [(1, .val (.av (.int .i64 (cutI (flr (y0 x))))))] [ks 3, ks 4, ks 5] (fun _ => mixed) (l' := [ps 3 (flv (y0 x)), ps 4 (flv (flr (y0 x))), ps 5 (iv (cutI (flr (y0 x))))]) (obs := [CutTo .f64 (flr (y0 x)) .i64 (cutI (flr (y0 x)))]) (by kernel_rfl) (obs_cons (⟨hrc.1, by show (-9223372036854775808 : Int) ≤ _; omega, by show _ ≤ (9223372036854775807 : Int); omega⟩) (obs_nil)) ?_
      refine T_seq ?_
      refine T_seq ?_
      by_cases h4 : (FloatKind.f64.format.order (ddif x) 4602678819172646912 == some .gt) = true
      · refine T_region [(2, .nat (ddif x)), (5, .gd true .no), (6, .gd true .no), (7, .gd true .no), (8, .gd true .no), (9, .gd true .no), (13, .gd true .no), (14, .yes true)] [ks 5, ks 33] (fun _ => mixed) (l' := [ps 5 (iv (cutI (flr (y0 x)))), ps 33 (bv true)]) (obs := [FloatKind.f64.format.sub (y0 x) (flr (y0 x)) = some (ddif x), (FloatKind.f64.format.order (ddif x) 4602678819172646912 == some .gt) = true, (FloatKind.f64.format.order (ddif x) 4602678819172646912 == some .gt) = true, (FloatKind.f64.format.order (ddif x) 4602678819172646912 == some .gt) = true, (FloatKind.f64.format.order (ddif x) 4602678819172646912 == some .gt) = true, (FloatKind.f64.format.order (ddif x) 4602678819172646912 == some .gt) = true, (FloatKind.f64.format.order (ddif x) 4602678819172646912 == some .gt) = true, (FloatKind.f64.format.order (ddif x) 4602678819172646912 == some .gt) = true]) (by kernel_rfl) (obs_cons hrc.2.2.2 (obs_cons h4 (obs_cons h4 (obs_cons h4 (obs_cons h4 (obs_cons h4 (obs_cons h4 (obs_cons h4 (obs_nil))))))))) ?_
        refine T_then (b := true) rfl rfl ?_
        refine T_region [] [ks 5] (fun _ => mixed) (l' := [ps 5 (iv ((cutI (flr (y0 x))) + 1))]) (obs := [InK .i64 ((cutI (flr (y0 x))) + 1)]) (by kernel_rfl) (obs_cons (by simp only [InK]; omega) (obs_nil)) ?_
        refine T_seq ?_
        refine T_seq ?_
        refine T_region [] [ks 5, ks 37] (fun _ => mixed) (l' := [ps 5 (iv ((cutI (flr (y0 x))) + 1)), ps 37 (bv (decide (32767 < ((cutI (flr (y0 x))) + 1))))]) (obs := []) (by kernel_rfl) (obs_nil) ?_
        by_cases h5 : 32767 < ((cutI (flr (y0 x))) + 1)
        · refine T_then (b := (decide (32767 < ((cutI (flr (y0 x))) + 1)))) rfl (decide_eq_true h5) ?_
          refine T_seq ?_
          refine T_region [] [ks 2] (fun _ => mixed) (l' := [ps 2 (iv 32767)]) (obs := []) (by kernel_rfl) (obs_nil) ?_
          rw [refI_top (x := x) h2 h3 (refN_gt h4) h5]
          exact T_ret fun cx_ a_ hI_ => ret_ok (H' := []) (.inr rfl) (Wk.ren2 [ps 2 (iv 32767)] 0 hc0 [] rfl rfl (by kernel_rfl) (by kernel_rfl)) rfl (obs_nil) (fun cx_ a_ hI_ => ret_res (l' := [ps 2 (iv 32767)]) (by kernel_rfl) cx_ a_ hI_) hI_
        · refine T_else (b := (decide (32767 < ((cutI (flr (y0 x))) + 1)))) rfl (decide_eq_false h5) ?_
          refine T_skip ?_
          refine T_seq ?_
          refine T_region [] [ks 2] (fun _ => mixed) (l' := [ps 2 (iv ((cutI (flr (y0 x))) + 1))]) (obs := []) (by kernel_rfl) (obs_nil) ?_
          rw [refI_in (x := x) h2 h3 (refN_gt h4) h5]
          exact T_ret fun cx_ a_ hI_ => ret_ok (H' := []) (.inr rfl) (Wk.ren2 [ps 2 (iv ((cutI (flr (y0 x))) + 1))] 0 hc0 [] rfl rfl (by kernel_rfl) (by kernel_rfl)) rfl (obs_nil) (fun cx_ a_ hI_ => ret_res (l' := [ps 2 (iv ((cutI (flr (y0 x))) + 1))]) (by kernel_rfl) cx_ a_ hI_) hI_
      · by_cases h6 : (FloatKind.f64.format.order (ddif x) 4602678819172646912 == some .eq) = true
        · refine T_region [(2, .nat (ddif x)), (5, .gd false (.no)), (6, .gd false (.no)), (7, .gd false (.nat (ddif x))), (8, .gd false (.no)), (9, .gd false (.no)), (10, .gd true (.no)), (11, .gd true (.no)), (12, .gd true (.no)), (13, .gd false (.yes true)), (14, .yes false)] [ks 5, ks 33] (fun _ => mixed) (l' := [ps 5 (iv (cutI (flr (y0 x)))), ps 33 (bv (!(decide ((((cutI (flr (y0 x)))).tmod 2) = 0))))]) (obs := [FloatKind.f64.format.sub (y0 x) (flr (y0 x)) = some (ddif x), (FloatKind.f64.format.order (ddif x) 4602678819172646912 == some .gt) = false, (FloatKind.f64.format.order (ddif x) 4602678819172646912 == some .gt) = false, (FloatKind.f64.format.order (ddif x) 4602678819172646912 == some .gt) = false, FloatKind.f64.format.sub (y0 x) (flr (y0 x)) = some (ddif x), (FloatKind.f64.format.order (ddif x) 4602678819172646912 == some .gt) = false, (FloatKind.f64.format.order (ddif x) 4602678819172646912 == some .gt) = false, (FloatKind.f64.format.order (ddif x) 4602678819172646912 == some .eq) = true, (FloatKind.f64.format.order (ddif x) 4602678819172646912 == some .eq) = true, 2 ≠ (0 : Int), (FloatKind.f64.format.order (ddif x) 4602678819172646912 == some .eq) = true, (FloatKind.f64.format.order (ddif x) 4602678819172646912 == some .gt) = false, (FloatKind.f64.format.order (ddif x) 4602678819172646912 == some .eq) = true, (FloatKind.f64.format.order (ddif x) 4602678819172646912 == some .gt) = false]) (by kernel_rfl) (obs_cons hrc.2.2.2 (obs_cons (Bool.eq_false_iff.2 h4) (obs_cons (Bool.eq_false_iff.2 h4) (obs_cons (Bool.eq_false_iff.2 h4) (obs_cons hrc.2.2.2 (obs_cons (Bool.eq_false_iff.2 h4) (obs_cons (Bool.eq_false_iff.2 h4) (obs_cons h6 (obs_cons h6 (obs_cons (by decide) (obs_cons h6 (obs_cons (Bool.eq_false_iff.2 h4) (obs_cons h6 (obs_cons (Bool.eq_false_iff.2 h4) (obs_nil))))))))))))))) ?_
          by_cases h7 : (((cutI (flr (y0 x)))).tmod 2) = 0
          · refine T_else (b := (!(decide ((((cutI (flr (y0 x)))).tmod 2) = 0)))) rfl (congrArg Bool.not (decide_eq_true h7)) ?_
            refine T_skip ?_
            refine T_seq ?_
            refine T_seq ?_
            refine T_region [] [ks 5, ks 37] (fun _ => mixed) (l' := [ps 5 (iv (cutI (flr (y0 x)))), ps 37 (bv (decide (32767 < (cutI (flr (y0 x))))))]) (obs := []) (by kernel_rfl) (obs_nil) ?_
            by_cases h8 : 32767 < (cutI (flr (y0 x)))
            · refine T_then (b := (decide (32767 < (cutI (flr (y0 x)))))) rfl (decide_eq_true h8) ?_
              refine T_seq ?_
              refine T_region [] [ks 2] (fun _ => mixed) (l' := [ps 2 (iv 32767)]) (obs := []) (by kernel_rfl) (obs_nil) ?_
              rw [refI_top (x := x) h2 h3 (refN_two h4 h6 h7) h8]
              exact T_ret fun cx_ a_ hI_ => ret_ok (H' := []) (.inr rfl) (Wk.ren2 [ps 2 (iv 32767)] 0 hc0 [] rfl rfl (by kernel_rfl) (by kernel_rfl)) rfl (obs_nil) (fun cx_ a_ hI_ => ret_res (l' := [ps 2 (iv 32767)]) (by kernel_rfl) cx_ a_ hI_) hI_
            · refine T_else (b := (decide (32767 < (cutI (flr (y0 x)))))) rfl (decide_eq_false h8) ?_
              refine T_skip ?_
              refine T_seq ?_
              refine T_region [] [ks 2] (fun _ => mixed) (l' := [ps 2 (iv (cutI (flr (y0 x))))]) (obs := []) (by kernel_rfl) (obs_nil) ?_
              rw [refI_in (x := x) h2 h3 (refN_two h4 h6 h7) h8]
              exact T_ret fun cx_ a_ hI_ => ret_ok (H' := []) (.inr rfl) (Wk.ren2 [ps 2 (iv (cutI (flr (y0 x))))] 0 hc0 [] rfl rfl (by kernel_rfl) (by kernel_rfl)) rfl (obs_nil) (fun cx_ a_ hI_ => ret_res (l' := [ps 2 (iv (cutI (flr (y0 x))))]) (by kernel_rfl) cx_ a_ hI_) hI_
          · refine T_then (b := (!(decide ((((cutI (flr (y0 x)))).tmod 2) = 0)))) rfl (congrArg Bool.not (decide_eq_false h7)) ?_
            refine T_region [] [ks 5] (fun _ => mixed) (l' := [ps 5 (iv ((cutI (flr (y0 x))) + 1))]) (obs := [InK .i64 ((cutI (flr (y0 x))) + 1)]) (by kernel_rfl) (obs_cons (by simp only [InK]; omega) (obs_nil)) ?_
            refine T_seq ?_
            refine T_seq ?_
            refine T_region [] [ks 5, ks 37] (fun _ => mixed) (l' := [ps 5 (iv ((cutI (flr (y0 x))) + 1)), ps 37 (bv (decide (32767 < ((cutI (flr (y0 x))) + 1))))]) (obs := []) (by kernel_rfl) (obs_nil) ?_
            by_cases h9 : 32767 < ((cutI (flr (y0 x))) + 1)
            · refine T_then (b := (decide (32767 < ((cutI (flr (y0 x))) + 1)))) rfl (decide_eq_true h9) ?_
              refine T_seq ?_
              refine T_region [] [ks 2] (fun _ => mixed) (l' := [ps 2 (iv 32767)]) (obs := []) (by kernel_rfl) (obs_nil) ?_
              rw [refI_top (x := x) h2 h3 (refN_odd h4 h6 h7) h9]
              exact T_ret fun cx_ a_ hI_ => ret_ok (H' := []) (.inr rfl) (Wk.ren2 [ps 2 (iv 32767)] 0 hc0 [] rfl rfl (by kernel_rfl) (by kernel_rfl)) rfl (obs_nil) (fun cx_ a_ hI_ => ret_res (l' := [ps 2 (iv 32767)]) (by kernel_rfl) cx_ a_ hI_) hI_
            · refine T_else (b := (decide (32767 < ((cutI (flr (y0 x))) + 1)))) rfl (decide_eq_false h9) ?_
              refine T_skip ?_
              refine T_seq ?_
              refine T_region [] [ks 2] (fun _ => mixed) (l' := [ps 2 (iv ((cutI (flr (y0 x))) + 1))]) (obs := []) (by kernel_rfl) (obs_nil) ?_
              rw [refI_in (x := x) h2 h3 (refN_odd h4 h6 h7) h9]
              exact T_ret fun cx_ a_ hI_ => ret_ok (H' := []) (.inr rfl) (Wk.ren2 [ps 2 (iv ((cutI (flr (y0 x))) + 1))] 0 hc0 [] rfl rfl (by kernel_rfl) (by kernel_rfl)) rfl (obs_nil) (fun cx_ a_ hI_ => ret_res (l' := [ps 2 (iv ((cutI (flr (y0 x))) + 1))]) (by kernel_rfl) cx_ a_ hI_) hI_
        · refine T_region [(2, .nat (ddif x)), (5, .gd false (.no)), (6, .gd false (.no)), (7, .gd false (.nat (ddif x))), (8, .gd false (.no)), (9, .gd false (.no)), (10, .gd false .no), (11, .gd false .no), (12, .gd false .no), (13, .gd false (.yes false)), (14, .yes false)] [ks 5, ks 33] (fun _ => mixed) (l' := [ps 5 (iv (cutI (flr (y0 x)))), ps 33 (bv false)]) (obs := [FloatKind.f64.format.sub (y0 x) (flr (y0 x)) = some (ddif x), (FloatKind.f64.format.order (ddif x) 4602678819172646912 == some .gt) = false, (FloatKind.f64.format.order (ddif x) 4602678819172646912 == some .gt) = false, (FloatKind.f64.format.order (ddif x) 4602678819172646912 == some .gt) = false, FloatKind.f64.format.sub (y0 x) (flr (y0 x)) = some (ddif x), (FloatKind.f64.format.order (ddif x) 4602678819172646912 == some .gt) = false, (FloatKind.f64.format.order (ddif x) 4602678819172646912 == some .gt) = false, (FloatKind.f64.format.order (ddif x) 4602678819172646912 == some .eq) = false, (FloatKind.f64.format.order (ddif x) 4602678819172646912 == some .eq) = false, (FloatKind.f64.format.order (ddif x) 4602678819172646912 == some .eq) = false, (FloatKind.f64.format.order (ddif x) 4602678819172646912 == some .gt) = false, (FloatKind.f64.format.order (ddif x) 4602678819172646912 == some .eq) = false, (FloatKind.f64.format.order (ddif x) 4602678819172646912 == some .gt) = false]) (by kernel_rfl) (obs_cons hrc.2.2.2 (obs_cons (Bool.eq_false_iff.2 h4) (obs_cons (Bool.eq_false_iff.2 h4) (obs_cons (Bool.eq_false_iff.2 h4) (obs_cons hrc.2.2.2 (obs_cons (Bool.eq_false_iff.2 h4) (obs_cons (Bool.eq_false_iff.2 h4) (obs_cons (Bool.eq_false_iff.2 h6) (obs_cons (Bool.eq_false_iff.2 h6) (obs_cons (Bool.eq_false_iff.2 h6) (obs_cons (Bool.eq_false_iff.2 h4) (obs_cons (Bool.eq_false_iff.2 h6) (obs_cons (Bool.eq_false_iff.2 h4) (obs_nil)))))))))))))) ?_
          refine T_else (b := false) rfl rfl ?_
          refine T_skip ?_
          refine T_seq ?_
          refine T_seq ?_
          refine T_region [] [ks 5, ks 37] (fun _ => mixed) (l' := [ps 5 (iv (cutI (flr (y0 x)))), ps 37 (bv (decide (32767 < (cutI (flr (y0 x))))))]) (obs := []) (by kernel_rfl) (obs_nil) ?_
          by_cases h10 : 32767 < (cutI (flr (y0 x)))
          · refine T_then (b := (decide (32767 < (cutI (flr (y0 x)))))) rfl (decide_eq_true h10) ?_
            refine T_seq ?_
            refine T_region [] [ks 2] (fun _ => mixed) (l' := [ps 2 (iv 32767)]) (obs := []) (by kernel_rfl) (obs_nil) ?_
            rw [refI_top (x := x) h2 h3 (refN_lt h4 h6) h10]
            exact T_ret fun cx_ a_ hI_ => ret_ok (H' := []) (.inr rfl) (Wk.ren2 [ps 2 (iv 32767)] 0 hc0 [] rfl rfl (by kernel_rfl) (by kernel_rfl)) rfl (obs_nil) (fun cx_ a_ hI_ => ret_res (l' := [ps 2 (iv 32767)]) (by kernel_rfl) cx_ a_ hI_) hI_
          · refine T_else (b := (decide (32767 < (cutI (flr (y0 x)))))) rfl (decide_eq_false h10) ?_
            refine T_skip ?_
            refine T_seq ?_
            refine T_region [] [ks 2] (fun _ => mixed) (l' := [ps 2 (iv (cutI (flr (y0 x))))]) (obs := []) (by kernel_rfl) (obs_nil) ?_
            rw [refI_in (x := x) h2 h3 (refN_lt h4 h6) h10]
            exact T_ret fun cx_ a_ hI_ => ret_ok (H' := []) (.inr rfl) (Wk.ren2 [ps 2 (iv (cutI (flr (y0 x))))] 0 hc0 [] rfl rfl (by kernel_rfl) (by kernel_rfl)) rfl (obs_nil) (fun cx_ a_ hI_ => ret_res (l' := [ps 2 (iv (cutI (flr (y0 x))))]) (by kernel_rfl) cx_ a_ hI_) hI_
end Go.Proofs.Ytgkahjaoajjgcaa.Pm
namespace Go.Proofs.Ytgkahjaoajjgcaa.Pm
open Go Mx

set_option maxRecDepth 100000 in
set_option maxHeartbeats 2000000 in
theorem sum_pc (T : List (List Int)) (G : List Int) (hTl : T.length ≤ 9223372036854775807) (hrow : ∀ i, (T.getD i []).length * 8 ≤ 140737488351232) : PC Try.prog 8 [(.ssl (rows T) 0 T.length), (.ssl (ints G) 0 G.length)] [] (sumR T G) [] := by
  refine pc_intro Try.func8 rfl (by kernel_rfl) (by decide) (by kernel_rfl) (l0 := [ps 0 (.ssl (rows T) 0 T.length), ps 1 (.ssl (ints G) 0 G.length)]) rfl (fun c0 Bor hc0 => ?_)
  refine T_seq ?_
  refine T_region [] [ks 0, ks 1] (fun _ => mixed) (l' := [ps 0 (.ssl (rows T) 0 T.length), ps 1 (.ssl (ints G) 0 G.length)]) (obs := []) (by kernel_rfl) (obs_nil) ?_
  refine T_seq ?_
  refine T_seq ?_
  refine T_region [] [ks 0, ks 1, ks 18] (fun _ => mixed) (l' := [ps 0 (.ssl (rows T) 0 T.length), ps 1 (.ssl (ints G) 0 G.length), ps 18 (bv (decide (256 < ((T.length : Nat) : Int))))]) (obs := []) (by kernel_rfl) (obs_nil) ?_
  by_cases h1 : 256 < ((T.length : Nat) : Int)
  · refine T_then (b := (decide (256 < ((T.length : Nat) : Int)))) rfl (decide_eq_true h1) ?_
    refine T_seq ?_
    refine T_region [] [ks 4, ks 5] (fun _ => mixed) (l' := [ps 4 (.av (.slice none 0 0)), ps 5 (iv 5)]) (obs := []) (by kernel_rfl) (obs_nil) ?_
    rw [sumR_no (c := 5) (fun h => by have := h.n; rw [RR_len] at this; omega) (if_pos (by omega))]
    exact T_ret fun cx a hI => ret_ok (H' := []) (.inr rfl) (Wk.ren2 [ps 4 (.av (.slice none 0 0)), ps 5 (iv 5)] 0 hc0 [] rfl rfl (by kernel_rfl) (by kernel_rfl)) rfl (obs_nil) (fun cx a hI => ret_res (l' := [ps 4 (.av (.slice none 0 0)), ps 5 (iv 5)]) (by kernel_rfl) cx a hI) hI
  · refine T_else (b := (decide (256 < ((T.length : Nat) : Int)))) rfl (decide_eq_false h1) ?_
    refine T_skip ?_
    refine T_seq ?_
    refine T_seq ?_
    refine T_region [] [ks 0, ks 1, ks 23] (fun _ => mixed) (l' := [ps 0 (.ssl (rows T) 0 T.length), ps 1 (.ssl (ints G) 0 G.length), ps 23 (bv (!(decide (((G.length : Nat) : Int) = ((T.length : Nat) : Int)))))]) (obs := []) (by kernel_rfl) (obs_nil) ?_
    by_cases h2 : ((G.length : Nat) : Int) = ((T.length : Nat) : Int)
    · refine T_else (b := (!(decide (((G.length : Nat) : Int) = ((T.length : Nat) : Int))))) rfl (congrArg Bool.not (decide_eq_true h2)) ?_
      refine T_skip ?_
      refine T_seq ?_
      refine T_region [] [ks 0, ks 1, ks 6] (fun _ => mixed) (l' := [ps 0 (.ssl (rows T) 0 T.length), ps 1 (.ssl (ints G) 0 G.length), ps 6 (iv 0)]) (obs := []) (by kernel_rfl) (obs_nil) ?_
      refine T_seq ?_
      refine T_seq ?_
      refine T_region [] [ks 0, ks 1, ks 6, ks 24, ks 25, ks 26] (fun _ => mixed) (l' := [ps 0 (.ssl (rows T) 0 T.length), ps 1 (.ssl (ints G) 0 G.length), ps 6 (iv 0), ps 24 (.ssl (rows T) 0 T.length), ps 25 (iv ((T.length : Nat) : Int)), ps 26 (iv 0)]) (obs := []) (by kernel_rfl) (obs_nil) ?_
      refine T_block ?_
      refine T_loop (α := {x : Nat // x ≤ T.length ∧ ∀ j, j < x → LoudOk (G.getD j 0) ∧ RowGood (T.getD j [])}) (fun x => [ps 0 (.ssl (rows T) 0 T.length), ps 1 (.ssl (ints G) 0 G.length), ps 6 (iv ((long (RR T) x.1 : Nat) : Int)), ps 24 (.ssl (rows T) 0 T.length), ps 25 (iv ((T.length : Nat) : Int)), ps 26 (iv ((x.1 : Nat) : Int))]) (fun x => T.length - x.1) 0 ⟨0, ⟨Nat.zero_le _, fun j hj => absurd hj (Nat.not_lt_zero _)⟩⟩ (Wk.ren2 [ps 0 (.ssl (rows T) 0 T.length), ps 1 (.ssl (ints G) 0 G.length), ps 6 (iv ((long (RR T) 0 : Nat) : Int)), ps 24 (.ssl (rows T) 0 T.length), ps 25 (iv ((T.length : Nat) : Int)), ps 26 (iv ((0 : Nat) : Int))] 0 hc0 [] rfl rfl (by kernel_rfl) (by kernel_rfl)) ?_
      rintro ⟨i, ⟨hi, hgd⟩⟩
      refine T_seq ?_
      refine T_region [] [ks 0, ks 1, ks 6, ks 24, ks 25, ks 26, ks 27] (fun _ => mixed) (l' := [ps 0 (.ssl (rows T) 0 T.length), ps 1 (.ssl (ints G) 0 G.length), ps 6 (iv ((long (RR T) i : Nat) : Int)), ps 24 (.ssl (rows T) 0 T.length), ps 25 (iv ((T.length : Nat) : Int)), ps 26 (iv ((i : Nat) : Int)), ps 27 (bv (decide (((i : Nat) : Int) < ((T.length : Nat) : Int))))]) (obs := []) (by kernel_rfl) (obs_nil) ?_
      refine T_seq ?_
      by_cases h3 : ((i : Nat) : Int) < ((T.length : Nat) : Int)
      · refine T_then (b := (decide (((i : Nat) : Int) < ((T.length : Nat) : Int)))) rfl (decide_eq_true h3) ?_
        refine T_skip ?_
        refine T_seq ?_
        refine T_block ?_
        refine T_seq ?_
        refine T_region [(1, .nat i), (2, .val (.ssl (ints (T.getD i [])) 0 ((T.getD i []).length)))] [ks 0, ks 1, ks 6, ks 7, ks 8, ks 24, ks 25, ks 26] (fun _ => mixed) (l' := [ps 0 (.ssl (rows T) 0 T.length), ps 1 (.ssl (ints G) 0 G.length), ps 6 (iv ((long (RR T) i : Nat) : Int)), ps 7 (iv ((i : Nat) : Int)), ps 8 (.ssl (ints (T.getD i [])) 0 ((T.getD i []).length)), ps 24 (.ssl (rows T) 0 T.length), ps 25 (iv ((T.length : Nat) : Int)), ps 26 (iv ((i : Nat) : Int))]) (obs := [0 ≤ ((i : Nat) : Int) ∧ ((i : Nat) : Int) < ((T.length : Nat) : Int), 0 + (((i : Nat) : Int) : Int).toNat * 1 = i, i + 1 ≤ ((rows T)).length ∧ (((rows T)).drop i).take 1 = [(.ssl (ints (T.getD i [])) 0 ((T.getD i []).length))]]) (by kernel_rfl) (obs_cons (p := 0 ≤ ((i : Nat) : Int) ∧ ((i : Nat) : Int) < ((T.length : Nat) : Int)) (by omega) (obs_cons (p := 0 + (((i : Nat) : Int) : Int).toNat * 1 = i) (by omega) (obs_cons (p := i + 1 ≤ ((rows T)).length ∧ (((rows T)).drop i).take 1 = [(.ssl (ints (T.getD i [])) 0 ((T.getD i []).length))]) (flat_at1 rowC (fun _ => rfl) [] T i (by omega)) (obs_nil)))) ?_
        refine T_seq ?_
        refine T_seq ?_
        refine T_region [(2, .nat i), (3, .val (iv (G.getD i 0))), (4, .call [] [(iv (G.getD i 0)), (iv 1048576)] [] (bv (decide (-1048576 ≤ (G.getD i 0) ∧ (G.getD i 0) ≤ 1048576))) [])] [ks 0, ks 1, ks 6, ks 8, ks 24, ks 25, ks 26, ks 36] (fun _ => mixed) (l' := [ps 0 (.ssl (rows T) 0 T.length), ps 1 (.ssl (ints G) 0 G.length), ps 6 (iv ((long (RR T) i : Nat) : Int)), ps 8 (.ssl (ints (T.getD i [])) 0 ((T.getD i []).length)), ps 24 (.ssl (rows T) 0 T.length), ps 25 (iv ((T.length : Nat) : Int)), ps 26 (iv ((i : Nat) : Int)), ps 36 (bv (!(decide (-1048576 ≤ (G.getD i 0) ∧ (G.getD i 0) ≤ 1048576))))]) (obs := [0 ≤ ((i : Nat) : Int) ∧ ((i : Nat) : Int) < ((G.length : Nat) : Int), 0 + (((i : Nat) : Int) : Int).toNat * 1 = i, i + 1 ≤ ((ints G)).length ∧ (((ints G)).drop i).take 1 = [(iv (G.getD i 0))], PC Try.prog 15 [(iv (G.getD i 0)), (iv 1048576)] [] (bv (decide (-1048576 ≤ (G.getD i 0) ∧ (G.getD i 0) ≤ 1048576))) [], [(iv (G.getD i 0)), (iv 1048576)] = renL (sigi [] 80) [(iv (G.getD i 0)), (iv 1048576)]]) (by kernel_rfl) (obs_cons (p := 0 ≤ ((i : Nat) : Int) ∧ ((i : Nat) : Int) < ((G.length : Nat) : Int)) (by omega) (obs_cons (p := 0 + (((i : Nat) : Int) : Int).toNat * 1 = i) (by omega) (obs_cons (p := i + 1 ≤ ((ints G)).length ∧ (((ints G)).drop i).take 1 = [(iv (G.getD i 0))]) (ints_at (by omega)) (obs_cons (p := PC Try.prog 15 [(iv (G.getD i 0)), (iv 1048576)] [] (bv (decide (-1048576 ≤ (G.getD i 0) ∧ (G.getD i 0) ≤ 1048576))) []) (within_pc (G.getD i 0) 1048576 (by decide)) (obs_cons (p := [(iv (G.getD i 0)), (iv 1048576)] = renL (sigi [] 80) [(iv (G.getD i 0)), (iv 1048576)]) rfl (obs_nil)))))) ?_
        by_cases h4 : -1048576 ≤ (G.getD i 0) ∧ (G.getD i 0) ≤ 1048576
        · refine T_else (b := (!(decide (-1048576 ≤ (G.getD i 0) ∧ (G.getD i 0) ≤ 1048576)))) rfl (congrArg Bool.not (decide_eq_true h4)) ?_
          refine T_skip ?_
          refine T_seq ?_
          refine T_seq ?_
          refine T_region [] [ks 0, ks 1, ks 6, ks 8, ks 24, ks 25, ks 26, ks 37, ks 38, ks 39] (fun _ => mixed) (l' := [ps 0 (.ssl (rows T) 0 T.length), ps 1 (.ssl (ints G) 0 G.length), ps 6 (iv ((long (RR T) i : Nat) : Int)), ps 8 (.ssl (ints (T.getD i [])) 0 ((T.getD i []).length)), ps 24 (.ssl (rows T) 0 T.length), ps 25 (iv ((T.length : Nat) : Int)), ps 26 (iv ((i : Nat) : Int)), ps 37 (.ssl (ints (T.getD i [])) 0 ((T.getD i []).length)), ps 38 (iv (((T.getD i []).length : Nat) : Int)), ps 39 (iv 0)]) (obs := []) (by kernel_rfl) (obs_nil) ?_
          refine T_block ?_
          refine T_loop (α := {x : Nat // x ≤ (T.getD i []).length ∧ ∀ j, j < x → SampOk (X (T.getD i []) j)}) (fun x => [ps 0 (.ssl (rows T) 0 T.length), ps 1 (.ssl (ints G) 0 G.length), ps 6 (iv ((long (RR T) i : Nat) : Int)), ps 8 (.ssl (ints (T.getD i [])) 0 ((T.getD i []).length)), ps 24 (.ssl (rows T) 0 T.length), ps 25 (iv ((T.length : Nat) : Int)), ps 26 (iv ((i : Nat) : Int)), ps 37 (.ssl (ints (T.getD i [])) 0 ((T.getD i []).length)), ps 38 (iv (((T.getD i []).length : Nat) : Int)), ps 39 (iv ((x.1 : Nat) : Int))]) (fun x => (T.getD i []).length - x.1) 0 ⟨0, ⟨Nat.zero_le _, fun j hj => absurd hj (Nat.not_lt_zero _)⟩⟩ (Wk.ren2 [ps 0 (.ssl (rows T) 0 T.length), ps 1 (.ssl (ints G) 0 G.length), ps 6 (iv ((long (RR T) i : Nat) : Int)), ps 8 (.ssl (ints (T.getD i [])) 0 ((T.getD i []).length)), ps 24 (.ssl (rows T) 0 T.length), ps 25 (iv ((T.length : Nat) : Int)), ps 26 (iv ((i : Nat) : Int)), ps 37 (.ssl (ints (T.getD i [])) 0 ((T.getD i []).length)), ps 38 (iv (((T.getD i []).length : Nat) : Int)), ps 39 (iv ((0 : Nat) : Int))] 0 hc0 [] rfl rfl (by kernel_rfl) (by kernel_rfl)) ?_
          rintro ⟨k, ⟨hk, hsm⟩⟩
          refine T_seq ?_
          refine T_region [] [ks 0, ks 1, ks 6, ks 8, ks 24, ks 25, ks 26, ks 37, ks 38, ks 39, ks 40] (fun _ => mixed) (l' := [ps 0 (.ssl (rows T) 0 T.length), ps 1 (.ssl (ints G) 0 G.length), ps 6 (iv ((long (RR T) i : Nat) : Int)), ps 8 (.ssl (ints (T.getD i [])) 0 ((T.getD i []).length)), ps 24 (.ssl (rows T) 0 T.length), ps 25 (iv ((T.length : Nat) : Int)), ps 26 (iv ((i : Nat) : Int)), ps 37 (.ssl (ints (T.getD i [])) 0 ((T.getD i []).length)), ps 38 (iv (((T.getD i []).length : Nat) : Int)), ps 39 (iv ((k : Nat) : Int)), ps 40 (bv (decide (((k : Nat) : Int) < (((T.getD i []).length : Nat) : Int))))]) (obs := []) (by kernel_rfl) (obs_nil) ?_
          refine T_seq ?_
          by_cases h5 : ((k : Nat) : Int) < (((T.getD i []).length : Nat) : Int)
          · refine T_then (b := (decide (((k : Nat) : Int) < (((T.getD i []).length : Nat) : Int)))) rfl (decide_eq_true h5) ?_
            refine T_skip ?_
            refine T_seq ?_
            refine T_block ?_
            refine T_seq ?_
            refine T_region [(0, .nat k), (1, .val (iv ((T.getD i []).getD k 0)))] [ks 0, ks 1, ks 6, ks 8, ks 10, ks 24, ks 25, ks 26, ks 37, ks 38, ks 39] (fun _ => mixed) (l' := [ps 0 (.ssl (rows T) 0 T.length), ps 1 (.ssl (ints G) 0 G.length), ps 6 (iv ((long (RR T) i : Nat) : Int)), ps 8 (.ssl (ints (T.getD i [])) 0 ((T.getD i []).length)), ps 10 (iv ((T.getD i []).getD k 0)), ps 24 (.ssl (rows T) 0 T.length), ps 25 (iv ((T.length : Nat) : Int)), ps 26 (iv ((i : Nat) : Int)), ps 37 (.ssl (ints (T.getD i [])) 0 ((T.getD i []).length)), ps 38 (iv (((T.getD i []).length : Nat) : Int)), ps 39 (iv ((k : Nat) : Int))]) (obs := [0 ≤ ((k : Nat) : Int) ∧ ((k : Nat) : Int) < (((T.getD i []).length : Nat) : Int), 0 + (((k : Nat) : Int) : Int).toNat * 1 = k, k + 1 ≤ ((ints (T.getD i []))).length ∧ (((ints (T.getD i []))).drop k).take 1 = [(iv ((T.getD i []).getD k 0))]]) (by kernel_rfl) (obs_cons (p := 0 ≤ ((k : Nat) : Int) ∧ ((k : Nat) : Int) < (((T.getD i []).length : Nat) : Int)) (by omega) (obs_cons (p := 0 + (((k : Nat) : Int) : Int).toNat * 1 = k) (by omega) (obs_cons (p := k + 1 ≤ ((ints (T.getD i []))).length ∧ (((ints (T.getD i []))).drop k).take 1 = [(iv ((T.getD i []).getD k 0))]) (ints_at (by omega)) (obs_nil)))) ?_
            refine T_seq ?_
            refine T_region [(1, .call [] [(iv ((T.getD i []).getD k 0)), (iv 16777216)] [] (bv (decide (-16777216 ≤ ((T.getD i []).getD k 0) ∧ ((T.getD i []).getD k 0) ≤ 16777216))) [])] [ks 0, ks 1, ks 6, ks 8, ks 24, ks 25, ks 26, ks 37, ks 38, ks 39, ks 45] (fun _ => mixed) (l' := [ps 0 (.ssl (rows T) 0 T.length), ps 1 (.ssl (ints G) 0 G.length), ps 6 (iv ((long (RR T) i : Nat) : Int)), ps 8 (.ssl (ints (T.getD i [])) 0 ((T.getD i []).length)), ps 24 (.ssl (rows T) 0 T.length), ps 25 (iv ((T.length : Nat) : Int)), ps 26 (iv ((i : Nat) : Int)), ps 37 (.ssl (ints (T.getD i [])) 0 ((T.getD i []).length)), ps 38 (iv (((T.getD i []).length : Nat) : Int)), ps 39 (iv ((k : Nat) : Int)), ps 45 (bv (!(decide (-16777216 ≤ ((T.getD i []).getD k 0) ∧ ((T.getD i []).getD k 0) ≤ 16777216))))]) (obs := [PC Try.prog 15 [(iv ((T.getD i []).getD k 0)), (iv 16777216)] [] (bv (decide (-16777216 ≤ ((T.getD i []).getD k 0) ∧ ((T.getD i []).getD k 0) ≤ 16777216))) [], [(iv ((T.getD i []).getD k 0)), (iv 16777216)] = renL (sigi [] 40) [(iv ((T.getD i []).getD k 0)), (iv 16777216)]]) (by kernel_rfl) (obs_cons (p := PC Try.prog 15 [(iv ((T.getD i []).getD k 0)), (iv 16777216)] [] (bv (decide (-16777216 ≤ ((T.getD i []).getD k 0) ∧ ((T.getD i []).getD k 0) ≤ 16777216))) []) (within_pc ((T.getD i []).getD k 0) 16777216 (by decide)) (obs_cons (p := [(iv ((T.getD i []).getD k 0)), (iv 16777216)] = renL (sigi [] 40) [(iv ((T.getD i []).getD k 0)), (iv 16777216)]) rfl (obs_nil))) ?_
            by_cases h6 : -16777216 ≤ ((T.getD i []).getD k 0) ∧ ((T.getD i []).getD k 0) ≤ 16777216
            · refine T_else (b := (!(decide (-16777216 ≤ ((T.getD i []).getD k 0) ∧ ((T.getD i []).getD k 0) ≤ 16777216)))) rfl (congrArg Bool.not (decide_eq_true h6)) ?_
              refine T_skip ?_
              refine T_blk ?_
              refine T_region [] [ks 0, ks 1, ks 6, ks 8, ks 24, ks 25, ks 26, ks 37, ks 38, ks 39] (fun _ => mixed) (l' := [ps 0 (.ssl (rows T) 0 T.length), ps 1 (.ssl (ints G) 0 G.length), ps 6 (iv ((long (RR T) i : Nat) : Int)), ps 8 (.ssl (ints (T.getD i [])) 0 ((T.getD i []).length)), ps 24 (.ssl (rows T) 0 T.length), ps 25 (iv ((T.length : Nat) : Int)), ps 26 (iv ((i : Nat) : Int)), ps 37 (.ssl (ints (T.getD i [])) 0 ((T.getD i []).length)), ps 38 (iv (((T.getD i []).length : Nat) : Int)), ps 39 (iv (((k : Nat) : Int) + 1))]) (obs := [InK .i64 (((k : Nat) : Int) + 1)]) (by kernel_rfl) (obs_cons (p := InK .i64 (((k : Nat) : Int) + 1)) (by have := hrow i; simp only [InK]; omega) (obs_nil)) ?_
              exact T_back ⟨k + 1, ⟨by omega, fun j hj => if e : j = k then e ▸ h6 else hsm j (by omega)⟩⟩ (Wk.ren2 [ps 0 (.ssl (rows T) 0 T.length), ps 1 (.ssl (ints G) 0 G.length), ps 6 (iv ((long (RR T) i : Nat) : Int)), ps 8 (.ssl (ints (T.getD i [])) 0 ((T.getD i []).length)), ps 24 (.ssl (rows T) 0 T.length), ps 25 (iv ((T.length : Nat) : Int)), ps 26 (iv ((i : Nat) : Int)), ps 37 (.ssl (ints (T.getD i [])) 0 ((T.getD i []).length)), ps 38 (iv (((T.getD i []).length : Nat) : Int)), ps 39 (iv (((k + 1) : Nat) : Int))] 0 hc0 [] rfl rfl (by kernel_rfl) (by kernel_rfl)) (show (T.getD i []).length - (k + 1) < (T.getD i []).length - k from by omega)
            · refine T_then (b := (!(decide (-16777216 ≤ ((T.getD i []).getD k 0) ∧ ((T.getD i []).getD k 0) ≤ 16777216)))) rfl (congrArg Bool.not (decide_eq_false h6)) ?_
              refine T_seq ?_
              refine T_region [] [ks 4, ks 5] (fun _ => mixed) (l' := [ps 4 (.av (.slice none 0 0)), ps 5 (iv 3)]) (obs := []) (by kernel_rfl) (obs_nil) ?_
              rw [sumR_no (c := 3) (fun h => h6 ((good_at h (show i < T.length from by omega)).2 k (by omega))) (by unfold errC; rw [if_neg (by omega), if_neg (by omega)])]
              exact T_ret fun cx a hI => loop_ret (loop_ret (ret_ok (H' := []) (.inr rfl) (Wk.ren2 [ps 4 (.av (.slice none 0 0)), ps 5 (iv 3)] 0 hc0 [] rfl rfl (by kernel_rfl) (by kernel_rfl)) rfl (obs_nil) (fun cx a hI => ret_res (l' := [ps 4 (.av (.slice none 0 0)), ps 5 (iv 3)]) (by kernel_rfl) cx a hI) hI))
          · refine T_else (b := (decide (((k : Nat) : Int) < (((T.getD i []).length : Nat) : Int)))) rfl (decide_eq_false h5) ?_
            refine T_break rfl rfl ?_
            obtain rfl : k = (T.getD i []).length := by omega
            have hsm2 : RowGood (T.getD i []) := hsm
            refine T_region [] [ks 0, ks 1, ks 6, ks 24, ks 25, ks 26] (fun _ => mixed) (l' := [ps 0 (.ssl (rows T) 0 T.length), ps 1 (.ssl (ints G) 0 G.length), ps 6 (iv (max ((long (RR T) i : Nat) : Int) (((T.getD i []).length : Nat) : Int))), ps 24 (.ssl (rows T) 0 T.length), ps 25 (iv ((T.length : Nat) : Int)), ps 26 (iv ((i : Nat) : Int))]) (obs := []) (by kernel_rfl) (obs_nil) ?_
            refine T_blk ?_
            refine T_region [] [ks 0, ks 1, ks 6, ks 24, ks 25, ks 26] (fun _ => mixed) (l' := [ps 0 (.ssl (rows T) 0 T.length), ps 1 (.ssl (ints G) 0 G.length), ps 6 (iv (max ((long (RR T) i : Nat) : Int) (((T.getD i []).length : Nat) : Int))), ps 24 (.ssl (rows T) 0 T.length), ps 25 (iv ((T.length : Nat) : Int)), ps 26 (iv (((i : Nat) : Int) + 1))]) (obs := [InK .i64 (((i : Nat) : Int) + 1)]) (by kernel_rfl) (obs_cons (p := InK .i64 (((i : Nat) : Int) + 1)) (by simp only [InK]; omega) (obs_nil)) ?_
            exact T_back ⟨i + 1, ⟨by omega, fun j hj => if e : j = i then e ▸ ⟨h4, hsm2⟩ else hgd j (by omega)⟩⟩ (Wk.trans (Wk.eq (show [ps 0 (.ssl (rows T) 0 T.length), ps 1 (.ssl (ints G) 0 G.length), ps 6 (iv (max ((long (RR T) i : Nat) : Int) (((T.getD i []).length : Nat) : Int))), ps 24 (.ssl (rows T) 0 T.length), ps 25 (iv ((T.length : Nat) : Int)), ps 26 (iv (((i : Nat) : Int) + 1))] = [ps 0 (.ssl (rows T) 0 T.length), ps 1 (.ssl (ints G) 0 G.length), ps 6 (iv ((long (RR T) (i + 1) : Nat) : Int)), ps 24 (.ssl (rows T) 0 T.length), ps 25 (iv ((T.length : Nat) : Int)), ps 26 (iv (((i : Nat) : Int) + 1))] from by rw [show max ((long (RR T) i : Nat) : Int) (((T.getD i []).length : Nat) : Int) = ((long (RR T) (i + 1) : Nat) : Int) from by rw [long_step]; omega])) (Wk.ren2 [ps 0 (.ssl (rows T) 0 T.length), ps 1 (.ssl (ints G) 0 G.length), ps 6 (iv ((long (RR T) (i + 1) : Nat) : Int)), ps 24 (.ssl (rows T) 0 T.length), ps 25 (iv ((T.length : Nat) : Int)), ps 26 (iv (((i + 1) : Nat) : Int))] 0 hc0 [] rfl rfl (by kernel_rfl) (by kernel_rfl))) (show T.length - (i + 1) < T.length - i from by omega)
        · refine T_then (b := (!(decide (-1048576 ≤ (G.getD i 0) ∧ (G.getD i 0) ≤ 1048576)))) rfl (congrArg Bool.not (decide_eq_false h4)) ?_
          refine T_seq ?_
          refine T_region [] [ks 4, ks 5] (fun _ => mixed) (l' := [ps 4 (.av (.slice none 0 0)), ps 5 (iv 3)]) (obs := []) (by kernel_rfl) (obs_nil) ?_
          rw [sumR_no (c := 3) (fun h => h4 (good_at h (show i < T.length from by omega)).1) (by unfold errC; rw [if_neg (by omega), if_neg (by omega)])]
          exact T_ret fun cx a hI => loop_ret (ret_ok (H' := []) (.inr rfl) (Wk.ren2 [ps 4 (.av (.slice none 0 0)), ps 5 (iv 3)] 0 hc0 [] rfl rfl (by kernel_rfl) (by kernel_rfl)) rfl (obs_nil) (fun cx a hI => ret_res (l' := [ps 4 (.av (.slice none 0 0)), ps 5 (iv 3)]) (by kernel_rfl) cx a hI) hI)
      · refine T_else (b := (decide (((i : Nat) : Int) < ((T.length : Nat) : Int)))) rfl (decide_eq_false h3) ?_
        refine T_break rfl rfl ?_
        refine T_seq ?_
        obtain rfl : i = T.length := by omega
        have hG : Mx.Good (RR T) G := good_of (by omega) (by omega) hgd
        refine T_region [(1, .cells (ints (outF T G (long (RR T) T.length) 0 0)))] [ks 0, ks 1, ks 11, kb 16] (fun _ => mixed) (l' := [ps 0 (.ssl (rows T) 0 T.length), ps 1 (.ssl (ints G) 0 G.length), ps 11 (.osl 16 0 (long (RR T) T.length)), pb 16 3 (ints (outF T G (long (RR T) T.length) 0 0))]) (obs := [0 ≤ ((long (RR T) T.length : Nat) : Int) ∧ ((long (RR T) T.length : Nat) : Int) ≤ ((long (RR T) T.length : Nat) : Int) ∧ ((long (RR T) T.length : Nat) : Int) ≤ 140737488355328 ∧ ((8 : Nat) : Int) * ((long (RR T) T.length : Nat) : Int) ≤ 140737488355328, zeros [(iv 0)] (((long (RR T) T.length : Nat) : Int) : Int).toNat = (ints (outF T G (long (RR T) T.length) 0 0))]) (by kernel_rfl) (obs_cons (p := 0 ≤ ((long (RR T) T.length : Nat) : Int) ∧ ((long (RR T) T.length : Nat) : Int) ≤ ((long (RR T) T.length : Nat) : Int) ∧ ((long (RR T) T.length : Nat) : Int) ≤ 140737488355328 ∧ ((8 : Nat) : Int) * ((long (RR T) T.length : Nat) : Int) ≤ 140737488355328) (by have := long_lim hrow T.length; omega) (obs_cons (p := zeros [(iv 0)] (((long (RR T) T.length : Nat) : Int) : Int).toNat = (ints (outF T G (long (RR T) T.length) 0 0))) (outF_zero T G _) (obs_nil))) ?_
        refine T_seq ?_
        refine T_seq ?_
        refine T_region [] [ks 1, ks 11, ks 54, ks 55, ks 56, kb 16] (fun _ => mixed) (l' := [ps 1 (.ssl (ints G) 0 G.length), ps 11 (.osl 16 0 (long (RR T) T.length)), ps 54 (.ssl (rows T) 0 T.length), ps 55 (iv ((T.length : Nat) : Int)), ps 56 (iv 0), pb 16 3 (ints (outF T G (long (RR T) T.length) 0 0))]) (obs := []) (by kernel_rfl) (obs_nil) ?_
        refine T_block ?_
        refine T_loop (α := {x : Nat // x ≤ T.length}) (fun x => [ps 1 (.ssl (ints G) 0 G.length), ps 11 (.osl 0 0 (long (RR T) T.length)), ps 54 (.ssl (rows T) 0 T.length), ps 55 (iv ((T.length : Nat) : Int)), ps 56 (iv ((x.1 : Nat) : Int)), pb 0 3 (ints (outF T G (long (RR T) T.length) x.1 0))]) (fun x => T.length - x.1) 1 ⟨0, Nat.zero_le _⟩ (Wk.ren3 [ps 1 (.ssl (ints G) 0 G.length), ps 11 (.osl 0 0 (long (RR T) T.length)), ps 54 (.ssl (rows T) 0 T.length), ps 55 (iv ((T.length : Nat) : Int)), ps 56 (iv ((0 : Nat) : Int)), pb 0 3 (ints (outF T G (long (RR T) T.length) 0 0))] 0 hc0 [16] [(kb 0, (ints (outF T G (long (RR T) T.length) 0 0)))] (obs_cons (ints_shd _) (obs_nil)) (by kernel_rfl) rfl rfl (by kernel_rfl) (by kernel_rfl)) ?_
        rintro ⟨i, hi2⟩
        refine T_seq ?_
        refine T_region [] [ks 1, ks 11, ks 54, ks 55, ks 56, ks 57, kb 0] (fun _ => mixed) (l' := [ps 1 (.ssl (ints G) 0 G.length), ps 11 (.osl 0 0 (long (RR T) T.length)), ps 54 (.ssl (rows T) 0 T.length), ps 55 (iv ((T.length : Nat) : Int)), ps 56 (iv ((i : Nat) : Int)), ps 57 (bv (decide (((i : Nat) : Int) < ((T.length : Nat) : Int)))), pb 0 3 (ints (outF T G (long (RR T) T.length) i 0))]) (obs := []) (by kernel_rfl) (obs_nil) ?_
        refine T_seq ?_
        by_cases h7 : ((i : Nat) : Int) < ((T.length : Nat) : Int)
        · refine T_then (b := (decide (((i : Nat) : Int) < ((T.length : Nat) : Int)))) rfl (decide_eq_true h7) ?_
          refine T_skip ?_
          refine T_seq ?_
          refine T_block ?_
          refine T_seq ?_
          refine T_region [(1, .nat i), (2, .val (.ssl (ints (T.getD i [])) 0 ((T.getD i []).length)))] [ks 1, ks 11, ks 12, ks 13, ks 54, ks 55, ks 56, kb 0] (fun _ => mixed) (l' := [ps 1 (.ssl (ints G) 0 G.length), ps 11 (.osl 0 0 (long (RR T) T.length)), ps 12 (iv ((i : Nat) : Int)), ps 13 (.ssl (ints (T.getD i [])) 0 ((T.getD i []).length)), ps 54 (.ssl (rows T) 0 T.length), ps 55 (iv ((T.length : Nat) : Int)), ps 56 (iv ((i : Nat) : Int)), pb 0 3 (ints (outF T G (long (RR T) T.length) i 0))]) (obs := [0 ≤ ((i : Nat) : Int) ∧ ((i : Nat) : Int) < ((T.length : Nat) : Int), 0 + (((i : Nat) : Int) : Int).toNat * 1 = i, i + 1 ≤ ((rows T)).length ∧ (((rows T)).drop i).take 1 = [(.ssl (ints (T.getD i [])) 0 ((T.getD i []).length))]]) (by kernel_rfl) (obs_cons (p := 0 ≤ ((i : Nat) : Int) ∧ ((i : Nat) : Int) < ((T.length : Nat) : Int)) (by omega) (obs_cons (p := 0 + (((i : Nat) : Int) : Int).toNat * 1 = i) (by omega) (obs_cons (p := i + 1 ≤ ((rows T)).length ∧ (((rows T)).drop i).take 1 = [(.ssl (ints (T.getD i [])) 0 ((T.getD i []).length))]) (flat_at1 rowC (fun _ => rfl) [] T i (by omega)) (obs_nil)))) ?_
          refine T_seq ?_
          refine T_region [] [ks 1, ks 11, ks 12, ks 54, ks 55, ks 56, ks 61, ks 62, ks 63, kb 0] (fun _ => mixed) (l' := [ps 1 (.ssl (ints G) 0 G.length), ps 11 (.osl 0 0 (long (RR T) T.length)), ps 12 (iv ((i : Nat) : Int)), ps 54 (.ssl (rows T) 0 T.length), ps 55 (iv ((T.length : Nat) : Int)), ps 56 (iv ((i : Nat) : Int)), ps 61 (.ssl (ints (T.getD i [])) 0 ((T.getD i []).length)), ps 62 (iv (((T.getD i []).length : Nat) : Int)), ps 63 (iv 0), pb 0 3 (ints (outF T G (long (RR T) T.length) i 0))]) (obs := []) (by kernel_rfl) (obs_nil) ?_
          refine T_block ?_
          refine T_loop (α := {x : Nat // x ≤ (T.getD i []).length}) (fun x => [ps 1 (.ssl (ints G) 0 G.length), ps 11 (.osl 0 0 (long (RR T) T.length)), ps 12 (iv ((i : Nat) : Int)), ps 54 (.ssl (rows T) 0 T.length), ps 55 (iv ((T.length : Nat) : Int)), ps 56 (iv ((i : Nat) : Int)), ps 61 (.ssl (ints (T.getD i [])) 0 ((T.getD i []).length)), ps 62 (iv (((T.getD i []).length : Nat) : Int)), ps 63 (iv ((x.1 : Nat) : Int)), pb 0 3 (ints (outF T G (long (RR T) T.length) i x.1))]) (fun x => (T.getD i []).length - x.1) 1 ⟨0, Nat.zero_le _⟩ (Wk.ren3 [ps 1 (.ssl (ints G) 0 G.length), ps 11 (.osl 0 0 (long (RR T) T.length)), ps 12 (iv ((i : Nat) : Int)), ps 54 (.ssl (rows T) 0 T.length), ps 55 (iv ((T.length : Nat) : Int)), ps 56 (iv ((i : Nat) : Int)), ps 61 (.ssl (ints (T.getD i [])) 0 ((T.getD i []).length)), ps 62 (iv (((T.getD i []).length : Nat) : Int)), ps 63 (iv ((0 : Nat) : Int)), pb 0 3 (ints (outF T G (long (RR T) T.length) i 0))] 0 hc0 [0] [(kb 0, (ints (outF T G (long (RR T) T.length) i 0)))] (obs_cons (ints_shd _) (obs_nil)) (by kernel_rfl) rfl rfl (by kernel_rfl) (by kernel_rfl)) ?_
          rintro ⟨k, hk2⟩
          refine T_seq ?_
          refine T_region [] [ks 1, ks 11, ks 12, ks 54, ks 55, ks 56, ks 61, ks 62, ks 63, ks 64, kb 0] (fun _ => mixed) (l' := [ps 1 (.ssl (ints G) 0 G.length), ps 11 (.osl 0 0 (long (RR T) T.length)), ps 12 (iv ((i : Nat) : Int)), ps 54 (.ssl (rows T) 0 T.length), ps 55 (iv ((T.length : Nat) : Int)), ps 56 (iv ((i : Nat) : Int)), ps 61 (.ssl (ints (T.getD i [])) 0 ((T.getD i []).length)), ps 62 (iv (((T.getD i []).length : Nat) : Int)), ps 63 (iv ((k : Nat) : Int)), ps 64 (bv (decide (((k : Nat) : Int) < (((T.getD i []).length : Nat) : Int)))), pb 0 3 (ints (outF T G (long (RR T) T.length) i k))]) (obs := []) (by kernel_rfl) (obs_nil) ?_
          refine T_seq ?_
          by_cases h8 : ((k : Nat) : Int) < (((T.getD i []).length : Nat) : Int)
          · refine T_then (b := (decide (((k : Nat) : Int) < (((T.getD i []).length : Nat) : Int)))) rfl (decide_eq_true h8) ?_
            refine T_skip ?_
            refine T_seq ?_
            refine T_block ?_
            refine T_seq ?_
            refine T_region [(1, .nat k), (2, .val (iv ((T.getD i []).getD k 0)))] [ks 1, ks 11, ks 12, ks 14, ks 15, ks 54, ks 55, ks 56, ks 61, ks 62, ks 63, kb 0] (fun _ => mixed) (l' := [ps 1 (.ssl (ints G) 0 G.length), ps 11 (.osl 0 0 (long (RR T) T.length)), ps 12 (iv ((i : Nat) : Int)), ps 14 (iv ((k : Nat) : Int)), ps 15 (iv ((T.getD i []).getD k 0)), ps 54 (.ssl (rows T) 0 T.length), ps 55 (iv ((T.length : Nat) : Int)), ps 56 (iv ((i : Nat) : Int)), ps 61 (.ssl (ints (T.getD i [])) 0 ((T.getD i []).length)), ps 62 (iv (((T.getD i []).length : Nat) : Int)), ps 63 (iv ((k : Nat) : Int)), pb 0 3 (ints (outF T G (long (RR T) T.length) i k))]) (obs := [0 ≤ ((k : Nat) : Int) ∧ ((k : Nat) : Int) < (((T.getD i []).length : Nat) : Int), 0 + (((k : Nat) : Int) : Int).toNat * 1 = k, k + 1 ≤ ((ints (T.getD i []))).length ∧ (((ints (T.getD i []))).drop k).take 1 = [(iv ((T.getD i []).getD k 0))]]) (by kernel_rfl) (obs_cons (p := 0 ≤ ((k : Nat) : Int) ∧ ((k : Nat) : Int) < (((T.getD i []).length : Nat) : Int)) (by omega) (obs_cons (p := 0 + (((k : Nat) : Int) : Int).toNat * 1 = k) (by omega) (obs_cons (p := k + 1 ≤ ((ints (T.getD i []))).length ∧ (((ints (T.getD i []))).drop k).take 1 = [(iv ((T.getD i []).getD k 0))]) (ints_at (by omega)) (obs_nil)))) ?_
            refine T_region [(2, .nat k), (3, .val (iv ((outF T G (long (RR T) T.length) i k).getD k 0))), (6, .nat i), (7, .val (iv (G.getD i 0))), (11, .nat k), (12, .cells (ints (outF T G (long (RR T) T.length) i (k + 1))))] [ks 1, ks 11, ks 12, ks 54, ks 55, ks 56, ks 61, ks 62, ks 63, kb 0] (fun _ => mixed) (l' := [ps 1 (.ssl (ints G) 0 G.length), ps 11 (.osl 0 0 (long (RR T) T.length)), ps 12 (iv ((i : Nat) : Int)), ps 54 (.ssl (rows T) 0 T.length), ps 55 (iv ((T.length : Nat) : Int)), ps 56 (iv ((i : Nat) : Int)), ps 61 (.ssl (ints (T.getD i [])) 0 ((T.getD i []).length)), ps 62 (iv (((T.getD i []).length : Nat) : Int)), ps 63 (iv ((k : Nat) : Int)), pb 0 3 (ints (outF T G (long (RR T) T.length) i (k + 1)))]) (obs := [0 ≤ ((k : Nat) : Int) ∧ ((k : Nat) : Int) < ((long (RR T) T.length : Nat) : Int), 0 + (((k : Nat) : Int) : Int).toNat * 1 = k, k + 1 ≤ ((ints (outF T G (long (RR T) T.length) i k))).length ∧ (((ints (outF T G (long (RR T) T.length) i k))).drop k).take 1 = [(iv ((outF T G (long (RR T) T.length) i k).getD k 0))], 0 ≤ ((i : Nat) : Int) ∧ ((i : Nat) : Int) < ((G.length : Nat) : Int), 0 + (((i : Nat) : Int) : Int).toNat * 1 = i, i + 1 ≤ ((ints G)).length ∧ (((ints G)).drop i).take 1 = [(iv (G.getD i 0))], InK .i64 ((G.getD i 0) * ((T.getD i []).getD k 0)), InK .i64 (((outF T G (long (RR T) T.length) i k).getD k 0) + ((G.getD i 0) * ((T.getD i []).getD k 0))), 0 ≤ ((k : Nat) : Int) ∧ ((k : Nat) : Int) < ((long (RR T) T.length : Nat) : Int), 0 + (((k : Nat) : Int) : Int).toNat * 1 = k, k + 1 ≤ ((ints (outF T G (long (RR T) T.length) i k))).length ∧ splice (ints (outF T G (long (RR T) T.length) i k)) k [(iv (((outF T G (long (RR T) T.length) i k).getD k 0) + ((G.getD i 0) * ((T.getD i []).getD k 0))))] = (ints (outF T G (long (RR T) T.length) i (k + 1)))]) (by kernel_rfl) (obs_cons (p := 0 ≤ ((k : Nat) : Int) ∧ ((k : Nat) : Int) < ((long (RR T) T.length : Nat) : Int)) (by have h0 := long_at (T := T) (show i < T.length from by omega); omega) (obs_cons (p := 0 + (((k : Nat) : Int) : Int).toNat * 1 = k) (by omega) (obs_cons (p := k + 1 ≤ ((ints (outF T G (long (RR T) T.length) i k))).length ∧ (((ints (outF T G (long (RR T) T.length) i k))).drop k).take 1 = [(iv ((outF T G (long (RR T) T.length) i k).getD k 0))]) (ints_at (by rw [outF_len]; have h0 := long_at (T := T) (show i < T.length from by omega); omega)) (obs_cons (p := 0 ≤ ((i : Nat) : Int) ∧ ((i : Nat) : Int) < ((G.length : Nat) : Int)) (by have h0 := long_at (T := T) (show i < T.length from by omega); omega) (obs_cons (p := 0 + (((i : Nat) : Int) : Int).toNat * 1 = i) (by omega) (obs_cons (p := i + 1 ≤ ((ints G)).length ∧ (((ints G)).drop i).take 1 = [(iv (G.getD i 0))]) (ints_at (by omega)) (obs_cons (p := InK .i64 ((G.getD i 0) * ((T.getD i []).getD k 0))) (by have h0 := long_at (T := T) (show i < T.length from by omega); have h1 := prod_in hG (show i < T.length from by omega) k; have h2 := out_in (N := long (RR T) T.length) (i := i) hG (show i < T.length from by omega) (show k < long (RR T) T.length from by omega); simp only [InK]; omega) (obs_cons (p := InK .i64 (((outF T G (long (RR T) T.length) i k).getD k 0) + ((G.getD i 0) * ((T.getD i []).getD k 0)))) (by have h0 := long_at (T := T) (show i < T.length from by omega); have h1 := prod_in hG (show i < T.length from by omega) k; have h2 := out_in (N := long (RR T) T.length) (i := i) hG (show i < T.length from by omega) (show k < long (RR T) T.length from by omega); simp only [InK]; omega) (obs_cons (p := 0 ≤ ((k : Nat) : Int) ∧ ((k : Nat) : Int) < ((long (RR T) T.length : Nat) : Int)) (by have h0 := long_at (T := T) (show i < T.length from by omega); omega) (obs_cons (p := 0 + (((k : Nat) : Int) : Int).toNat * 1 = k) (by omega) (obs_cons (p := k + 1 ≤ ((ints (outF T G (long (RR T) T.length) i k))).length ∧ splice (ints (outF T G (long (RR T) T.length) i k)) k [(iv (((outF T G (long (RR T) T.length) i k).getD k 0) + ((G.getD i 0) * ((T.getD i []).getD k 0))))] = (ints (outF T G (long (RR T) T.length) i (k + 1)))) (outF_store (by have := long_at (T := T) (show i < T.length from by omega); omega) rfl) (obs_nil)))))))))))) ?_
            refine T_blk ?_
            refine T_region [] [ks 1, ks 11, ks 12, ks 54, ks 55, ks 56, ks 61, ks 62, ks 63, kb 0] (fun _ => mixed) (l' := [ps 1 (.ssl (ints G) 0 G.length), ps 11 (.osl 0 0 (long (RR T) T.length)), ps 12 (iv ((i : Nat) : Int)), ps 54 (.ssl (rows T) 0 T.length), ps 55 (iv ((T.length : Nat) : Int)), ps 56 (iv ((i : Nat) : Int)), ps 61 (.ssl (ints (T.getD i [])) 0 ((T.getD i []).length)), ps 62 (iv (((T.getD i []).length : Nat) : Int)), ps 63 (iv (((k : Nat) : Int) + 1)), pb 0 3 (ints (outF T G (long (RR T) T.length) i (k + 1)))]) (obs := [InK .i64 (((k : Nat) : Int) + 1)]) (by kernel_rfl) (obs_cons (p := InK .i64 (((k : Nat) : Int) + 1)) (by have := hrow i; simp only [InK]; omega) (obs_nil)) ?_
            exact T_back ⟨k + 1, by omega⟩ (Wk.ren3 [ps 1 (.ssl (ints G) 0 G.length), ps 11 (.osl 0 0 (long (RR T) T.length)), ps 12 (iv ((i : Nat) : Int)), ps 54 (.ssl (rows T) 0 T.length), ps 55 (iv ((T.length : Nat) : Int)), ps 56 (iv ((i : Nat) : Int)), ps 61 (.ssl (ints (T.getD i [])) 0 ((T.getD i []).length)), ps 62 (iv (((T.getD i []).length : Nat) : Int)), ps 63 (iv (((k + 1) : Nat) : Int)), pb 0 3 (ints (outF T G (long (RR T) T.length) i (k + 1)))] 0 hc0 [0] [(kb 0, (ints (outF T G (long (RR T) T.length) i (k + 1))))] (obs_cons (ints_shd _) (obs_nil)) (by kernel_rfl) rfl rfl (by kernel_rfl) (by kernel_rfl)) (show (T.getD i []).length - (k + 1) < (T.getD i []).length - k from by omega)
          · refine T_else (b := (decide (((k : Nat) : Int) < (((T.getD i []).length : Nat) : Int)))) rfl (decide_eq_false h8) ?_
            refine T_break rfl rfl ?_
            refine T_blk ?_
            obtain rfl : k = (T.getD i []).length := by omega
            refine T_region [] [ks 1, ks 11, ks 54, ks 55, ks 56, kb 0] (fun _ => mixed) (l' := [ps 1 (.ssl (ints G) 0 G.length), ps 11 (.osl 0 0 (long (RR T) T.length)), ps 54 (.ssl (rows T) 0 T.length), ps 55 (iv ((T.length : Nat) : Int)), ps 56 (iv (((i : Nat) : Int) + 1)), pb 0 3 (ints (outF T G (long (RR T) T.length) i ((T.getD i []).length)))]) (obs := [InK .i64 (((i : Nat) : Int) + 1)]) (by kernel_rfl) (obs_cons (p := InK .i64 (((i : Nat) : Int) + 1)) (by simp only [InK]; omega) (obs_nil)) ?_
            exact T_back ⟨i + 1, by omega⟩ (Wk.trans (Wk.eq (show [ps 1 (.ssl (ints G) 0 G.length), ps 11 (.osl 0 0 (long (RR T) T.length)), ps 54 (.ssl (rows T) 0 T.length), ps 55 (iv ((T.length : Nat) : Int)), ps 56 (iv (((i : Nat) : Int) + 1)), pb 0 3 (ints (outF T G (long (RR T) T.length) i ((T.getD i []).length)))] = [ps 1 (.ssl (ints G) 0 G.length), ps 11 (.osl 0 0 (long (RR T) T.length)), ps 54 (.ssl (rows T) 0 T.length), ps 55 (iv ((T.length : Nat) : Int)), ps 56 (iv (((i : Nat) : Int) + 1)), pb 0 3 (ints (outF T G (long (RR T) T.length) (i + 1) 0))] from by rw [outF_next])) (Wk.ren3 [ps 1 (.ssl (ints G) 0 G.length), ps 11 (.osl 0 0 (long (RR T) T.length)), ps 54 (.ssl (rows T) 0 T.length), ps 55 (iv ((T.length : Nat) : Int)), ps 56 (iv (((i + 1) : Nat) : Int)), pb 0 3 (ints (outF T G (long (RR T) T.length) (i + 1) 0))] 0 hc0 [0] [(kb 0, (ints (outF T G (long (RR T) T.length) (i + 1) 0)))] (obs_cons (ints_shd _) (obs_nil)) (by kernel_rfl) rfl rfl (by kernel_rfl) (by kernel_rfl))) (show T.length - (i + 1) < T.length - i from by omega)
        · refine T_else (b := (decide (((i : Nat) : Int) < ((T.length : Nat) : Int)))) rfl (decide_eq_false h7) ?_
          refine T_break rfl rfl ?_
          refine T_seq ?_
          obtain rfl : i = T.length := by omega
          refine T_wk (Wk.eq (show [ps 1 (.ssl (ints G) 0 G.length), ps 11 (.osl 0 0 (long (RR T) T.length)), ps 54 (.ssl (rows T) 0 T.length), ps 55 (iv ((T.length : Nat) : Int)), ps 56 (iv ((T.length : Nat) : Int)), ps 57 (bv (decide (((T.length : Nat) : Int) < ((T.length : Nat) : Int)))), pb 0 3 (ints (outF T G (long (RR T) T.length) T.length 0))] = [ps 1 (.ssl (ints G) 0 G.length), ps 11 (.osl 0 0 (long (RR T) T.length)), ps 54 (.ssl (rows T) 0 T.length), ps 55 (iv ((T.length : Nat) : Int)), ps 56 (iv ((T.length : Nat) : Int)), ps 57 (bv (decide (((T.length : Nat) : Int) < ((T.length : Nat) : Int)))), pb 0 3 (ints (sums (RR T) G))] from by rw [outF_end])) ?_
          refine T_wk (Wk.frz (l' := [ps 1 (.ssl (ints G) 0 G.length), ps 11 (.ssl (ints (sums (RR T) G)) 0 (long (RR T) T.length)), ps 54 (.ssl (rows T) 0 T.length), ps 55 (iv ((T.length : Nat) : Int)), ps 56 (iv ((T.length : Nat) : Int)), ps 57 (bv (decide (((T.length : Nat) : Int) < ((T.length : Nat) : Int)))), (kb 0, none)]) 0 (T := 3) (cs := (ints (sums (RR T) G))) (by kernel_rfl) (ints_shd _) (by kernel_rfl)) ?_
          refine T_wk (Wk.less (l' := [ps 1 (.ssl (ints G) 0 G.length), ps 11 (.ssl (ints (sums (RR T) G)) 0 (long (RR T) T.length)), ps 54 (.ssl (rows T) 0 T.length), ps 55 (iv ((T.length : Nat) : Int)), ps 56 (iv ((T.length : Nat) : Int)), ps 57 (bv (decide (((T.length : Nat) : Int) < ((T.length : Nat) : Int))))]) 9 (by kernel_rfl) (by kernel_rfl)) ?_
          refine T_region [] [ks 4, ks 5] (fun _ => mixed) (l' := [ps 4 (.ssl (ints (sums (RR T) G)) 0 (long (RR T) T.length)), ps 5 (iv 0)]) (obs := []) (by kernel_rfl) (obs_nil) ?_
          rw [sumR_yes hG]
          exact T_ret fun cx a hI => ret_ok (H' := []) (.inr rfl) (Wk.ren2 [ps 4 (.ssl (ints (sums (RR T) G)) 0 (long (RR T) T.length)), ps 5 (iv 0)] 0 hc0 [] rfl rfl (by kernel_rfl) (by kernel_rfl)) rfl (obs_nil) (fun cx a hI => ret_res (l' := [ps 4 (.ssl (ints (sums (RR T) G)) 0 (long (RR T) T.length)), ps 5 (iv 0)]) (by kernel_rfl) cx a hI) hI
    · refine T_then (b := (!(decide (((G.length : Nat) : Int) = ((T.length : Nat) : Int))))) rfl (congrArg Bool.not (decide_eq_false h2)) ?_
      refine T_seq ?_
      refine T_region [] [ks 4, ks 5] (fun _ => mixed) (l' := [ps 4 (.av (.slice none 0 0)), ps 5 (iv 8)]) (obs := []) (by kernel_rfl) (obs_nil) ?_
      rw [sumR_no (c := 8) (fun h => by have := h.g; rw [RR_len] at this; omega) (by unfold errC; rw [if_neg (by omega), if_pos (by omega)])]
      exact T_ret fun cx a hI => ret_ok (H' := []) (.inr rfl) (Wk.ren2 [ps 4 (.av (.slice none 0 0)), ps 5 (iv 8)] 0 hc0 [] rfl rfl (by kernel_rfl) (by kernel_rfl)) rfl (obs_nil) (fun cx a hI => ret_res (l' := [ps 4 (.av (.slice none 0 0)), ps 5 (iv 8)]) (by kernel_rfl) cx a hI) hI
theorem same_pc (l m : List Int) (hl : l.length ≤ 9223372036854775807) : PC Try.prog 9 [(.ssl (ints l) 0 l.length), (.ssl (ints m) 0 m.length)] [] (bv (decide (l = m))) [] := by
  refine pc_intro Try.func9 rfl (by kernel_rfl) (by decide) (by kernel_rfl) (l0 := [ps 0 (.ssl (ints l) 0 l.length), ps 1 (.ssl (ints m) 0 m.length)]) rfl (fun c0 Bor hc0 => ?_)
  refine T_seq ?_
  refine T_region [] [ks 0, ks 1] (fun _ => mixed) (l' := [ps 0 (.ssl (ints l) 0 l.length), ps 1 (.ssl (ints m) 0 m.length)]) (obs := []) (by kernel_rfl) (obs_nil) ?_
  refine T_seq ?_
  refine T_seq ?_
  refine T_region [] [ks 0, ks 1, ks 10] (fun _ => mixed) (l' := [ps 0 (.ssl (ints l) 0 l.length), ps 1 (.ssl (ints m) 0 m.length), ps 10 (bv (!(decide (((l.length : Nat) : Int) = ((m.length : Nat) : Int)))))]) (obs := []) (by kernel_rfl) (obs_nil) ?_
  by_cases h1 : ((l.length : Nat) : Int) = ((m.length : Nat) : Int)
  · refine T_else (b := (!(decide (((l.length : Nat) : Int) = ((m.length : Nat) : Int))))) rfl (congrArg Bool.not (decide_eq_true h1)) ?_
    refine T_skip ?_
    refine T_seq ?_
    refine T_seq ?_
    refine T_region [] [ks 0, ks 1, ks 12, ks 13] (fun _ => mixed) (l' := [ps 0 (.ssl (ints l) 0 l.length), ps 1 (.ssl (ints m) 0 m.length), ps 12 (iv ((l.length : Nat) : Int)), ps 13 (iv 0)]) (obs := []) (by kernel_rfl) (obs_nil) ?_
    refine T_block ?_
    refine T_loop (α := {x : Nat // x ≤ l.length ∧ ∀ j, j < x → l.getD j 0 = m.getD j 0}) (fun x => [ps 0 (.ssl (ints l) 0 l.length), ps 1 (.ssl (ints m) 0 m.length), ps 12 (iv ((l.length : Nat) : Int)), ps 13 (iv ((x.1 : Nat) : Int))]) (fun x => l.length - x.1) 0 ⟨0, ⟨Nat.zero_le _, fun j hj => absurd hj (Nat.not_lt_zero _)⟩⟩ (Wk.ren2 [ps 0 (.ssl (ints l) 0 l.length), ps 1 (.ssl (ints m) 0 m.length), ps 12 (iv ((l.length : Nat) : Int)), ps 13 (iv ((0 : Nat) : Int))] 0 hc0 [] rfl rfl (by kernel_rfl) (by kernel_rfl)) ?_
    rintro ⟨i, ⟨hi, hs⟩⟩
    refine T_seq ?_
    refine T_region [] [ks 0, ks 1, ks 12, ks 13, ks 14] (fun _ => mixed) (l' := [ps 0 (.ssl (ints l) 0 l.length), ps 1 (.ssl (ints m) 0 m.length), ps 12 (iv ((l.length : Nat) : Int)), ps 13 (iv ((i : Nat) : Int)), ps 14 (bv (decide (((i : Nat) : Int) < ((l.length : Nat) : Int))))]) (obs := []) (by kernel_rfl) (obs_nil) ?_
    refine T_seq ?_
    by_cases h2 : ((i : Nat) : Int) < ((l.length : Nat) : Int)
    · refine T_then (b := (decide (((i : Nat) : Int) < ((l.length : Nat) : Int)))) rfl (decide_eq_true h2) ?_
      refine T_skip ?_
      refine T_seq ?_
      refine T_block ?_
      refine T_seq ?_
      refine T_region [] [ks 0, ks 1, ks 5, ks 12, ks 13] (fun _ => mixed) (l' := [ps 0 (.ssl (ints l) 0 l.length), ps 1 (.ssl (ints m) 0 m.length), ps 5 (iv ((i : Nat) : Int)), ps 12 (iv ((l.length : Nat) : Int)), ps 13 (iv ((i : Nat) : Int))]) (obs := []) (by kernel_rfl) (obs_nil) ?_
      refine T_seq ?_
      refine T_region [(2, .nat i), (3, .val (iv (l.getD i 0))), (6, .nat i), (7, .val (iv (m.getD i 0)))] [ks 0, ks 1, ks 12, ks 13, ks 24] (fun _ => mixed) (l' := [ps 0 (.ssl (ints l) 0 l.length), ps 1 (.ssl (ints m) 0 m.length), ps 12 (iv ((l.length : Nat) : Int)), ps 13 (iv ((i : Nat) : Int)), ps 24 (bv (!(decide ((l.getD i 0) = (m.getD i 0)))))]) (obs := [0 ≤ ((i : Nat) : Int) ∧ ((i : Nat) : Int) < ((l.length : Nat) : Int), 0 + (((i : Nat) : Int) : Int).toNat * 1 = i, i + 1 ≤ ((ints l)).length ∧ (((ints l)).drop i).take 1 = [(iv (l.getD i 0))], 0 ≤ ((i : Nat) : Int) ∧ ((i : Nat) : Int) < ((m.length : Nat) : Int), 0 + (((i : Nat) : Int) : Int).toNat * 1 = i, i + 1 ≤ ((ints m)).length ∧ (((ints m)).drop i).take 1 = [(iv (m.getD i 0))]]) (by kernel_rfl) (obs_cons (p := 0 ≤ ((i : Nat) : Int) ∧ ((i : Nat) : Int) < ((l.length : Nat) : Int)) (by omega) (obs_cons (p := 0 + (((i : Nat) : Int) : Int).toNat * 1 = i) (by omega) (obs_cons (p := i + 1 ≤ ((ints l)).length ∧ (((ints l)).drop i).take 1 = [(iv (l.getD i 0))]) (ints_at (by omega)) (obs_cons (p := 0 ≤ ((i : Nat) : Int) ∧ ((i : Nat) : Int) < ((m.length : Nat) : Int)) (by omega) (obs_cons (p := 0 + (((i : Nat) : Int) : Int).toNat * 1 = i) (by omega) (obs_cons (p := i + 1 ≤ ((ints m)).length ∧ (((ints m)).drop i).take 1 = [(iv (m.getD i 0))]) (ints_at (by omega)) (obs_nil))))))) ?_
      by_cases h3 : (l.getD i 0) = (m.getD i 0)
      · refine T_else (b := (!(decide ((l.getD i 0) = (m.getD i 0))))) rfl (congrArg Bool.not (decide_eq_true h3)) ?_
        refine T_skip ?_
        refine T_blk ?_
        refine T_region [] [ks 0, ks 1, ks 12, ks 13] (fun _ => mixed) (l' := [ps 0 (.ssl (ints l) 0 l.length), ps 1 (.ssl (ints m) 0 m.length), ps 12 (iv ((l.length : Nat) : Int)), ps 13 (iv (((i : Nat) : Int) + 1))]) (obs := [InK .i64 (((i : Nat) : Int) + 1)]) (by kernel_rfl) (obs_cons (p := InK .i64 (((i : Nat) : Int) + 1)) (by simp only [InK]; omega) (obs_nil)) ?_
        exact T_back ⟨i + 1, ⟨by omega, fun j hj => if e : j = i then e ▸ h3 else hs j (by omega)⟩⟩ (Wk.ren2 [ps 0 (.ssl (ints l) 0 l.length), ps 1 (.ssl (ints m) 0 m.length), ps 12 (iv ((l.length : Nat) : Int)), ps 13 (iv (((i + 1) : Nat) : Int))] 0 hc0 [] rfl rfl (by kernel_rfl) (by kernel_rfl)) (show l.length - (i + 1) < l.length - i from by omega)
      · refine T_then (b := (!(decide ((l.getD i 0) = (m.getD i 0))))) rfl (congrArg Bool.not (decide_eq_false h3)) ?_
        refine T_seq ?_
        refine T_region [] [ks 4] (fun _ => mixed) (l' := [ps 4 (bv false)]) (obs := []) (by kernel_rfl) (obs_nil) ?_
        rw [show decide (l = m) = false from decide_eq_false fun e => h3 (by rw [e])]
        exact T_ret fun cx a hI => loop_ret (ret_ok (H' := []) (.inr rfl) (Wk.ren2 [ps 4 (bv false)] 0 hc0 [] rfl rfl (by kernel_rfl) (by kernel_rfl)) rfl (obs_nil) (fun cx a hI => ret_res (l' := [ps 4 (bv false)]) (by kernel_rfl) cx a hI) hI)
    · refine T_else (b := (decide (((i : Nat) : Int) < ((l.length : Nat) : Int)))) rfl (decide_eq_false h2) ?_
      refine T_break rfl rfl ?_
      refine T_seq ?_
      refine T_region [] [ks 4] (fun _ => mixed) (l' := [ps 4 (bv true)]) (obs := []) (by kernel_rfl) (obs_nil) ?_
      rw [show decide (l = m) = true from decide_eq_true (same_eq (by omega) fun j hj => hs j (by omega))]
      exact T_ret fun cx a hI => ret_ok (H' := []) (.inr rfl) (Wk.ren2 [ps 4 (bv true)] 0 hc0 [] rfl rfl (by kernel_rfl) (by kernel_rfl)) rfl (obs_nil) (fun cx a hI => ret_res (l' := [ps 4 (bv true)]) (by kernel_rfl) cx a hI) hI
  · refine T_then (b := (!(decide (((l.length : Nat) : Int) = ((m.length : Nat) : Int))))) rfl (congrArg Bool.not (decide_eq_false h1)) ?_
    refine T_seq ?_
    refine T_region [] [ks 4] (fun _ => mixed) (l' := [ps 4 (bv false)]) (obs := []) (by kernel_rfl) (obs_nil) ?_
    rw [show decide (l = m) = false from decide_eq_false fun e => by subst e; omega]
    exact T_ret fun cx a hI => ret_ok (H' := []) (.inr rfl) (Wk.ren2 [ps 4 (bv false)] 0 hc0 [] rfl rfl (by kernel_rfl) (by kernel_rfl)) rfl (obs_nil) (fun cx a hI => ret_res (l' := [ps 4 (bv false)]) (by kernel_rfl) cx a hI) hI
end Go.Proofs.Ytgkahjaoajjgcaa.Pm
namespace Go.Proofs.Ytgkahjaoajjgcaa.Pm
open Go Mx

/-! ### the table of what has been seen -/
abbrev bools (l : List Bool) : List PV := l.flatMap fun b => [bv b]
theorem zeros_bools : ∀ n, zeros [bv false] n = bools (List.replicate n false)
  | 0 => rfl
  | n + 1 => by rw [zeros, zeros_bools n, List.replicate_succ]; rfl
def seenL (O : List Int) (n i : Nat) : List Bool := (List.range n).map fun t => (List.range i).any fun j => Nat.beq (at' O j) t
theorem seenL_len (O : List Int) (n i : Nat) : (seenL O n i).length = n := by simp [seenL]
theorem seenL_get {O : List Int} {n i t : Nat} (h : t < n) : (seenL O n i).getD t false = true ↔ ∃ j, j < i ∧ at' O j = t := by
  unfold seenL
  simp [List.getD_eq_getElem?_getD, h]
theorem seenL_zero (O : List Int) (n : Nat) : zeros [bv false] n = bools (seenL O n 0) := by
  rw [zeros_bools]
  congr 1
  apply List.ext_getElem (by rw [seenL_len]; simp)
  intro k h1 h2
  simp [seenL]
theorem bools_splice {l : List Bool} {k : Nat} {v : Bool} (h : k < l.length) : k + 1 ≤ (bools l).length ∧ splice (bools l) k [bv v] = bools (l.set k v) := flat_splice1 (fun b => [bv b]) (fun _ => rfl) h
theorem seenL_store {O : List Int} {n i : Nat} (h : (O.getD i 0).toNat < n) : (O.getD i 0).toNat + 1 ≤ (bools (seenL O n i)).length ∧ splice (bools (seenL O n i)) (O.getD i 0).toNat [bv true] = bools (seenL O n (i + 1)) := by
  obtain ⟨h1, h2⟩ := bools_splice (l := seenL O n i) (k := (O.getD i 0).toNat) (v := true) (by rw [seenL_len]; exact h)
  refine ⟨h1, h2.trans ?_⟩
  congr 1
  apply List.ext_getElem (by rw [List.length_set, seenL_len, seenL_len])
  intro k h3 h4
  rw [List.length_set, seenL_len] at h3
  rw [List.getElem_set]
  simp only [seenL, List.getElem_map, List.getElem_range, List.range_succ, List.any_append, List.any_cons, List.any_nil, Bool.or_false]
  by_cases e : (O.getD i 0).toNat = k
  · rw [if_pos e]
    have : Nat.beq (at' O i) k = true := by rw [Nat.beq_eq]; exact e
    rw [this, Bool.or_true]
  · rw [if_neg e]
    have : Nat.beq (at' O i) k = false := by rw [Bool.eq_false_iff]; intro h; exact e (Nat.eq_of_beq_eq_true h)
    rw [this, Bool.or_false]
def PermTo (O : List Int) (n i : Nat) : Prop := ∀ j, j < i → 0 ≤ O.getD j 0 ∧ O.getD j 0 < n ∧ ∀ j', j' < j → O.getD j' 0 ≠ O.getD j 0
theorem permTo_next {O : List Int} {n i : Nat} (h : PermTo O n i) (h1 : ¬ O.getD i 0 < 0) (h2 : ¬ (n : Int) ≤ O.getD i 0) (h3 : ¬ (seenL O n i).getD (O.getD i 0).toNat false = true) : PermTo O n (i + 1) := fun j hj => by
  by_cases e : j = i
  · subst e
    refine ⟨by omega, by omega, fun j' hj' he => h3 ((seenL_get (by omega)).2 ⟨j', hj', by show (O.getD j' 0).toNat = _; rw [he]⟩)⟩
  · exact h j (by omega)

/-! ### the order's lists -/
def ordL (T : List (List Int)) (O : List Int) (i : Nat) : List (List Int) := (List.range i).map fun j => T.getD (at' O j) []
def ordGL (G O : List Int) (i : Nat) : List Int := (List.range i).map fun j => G.getD (at' O j) 0
theorem ordL_len (T : List (List Int)) (O : List Int) (i : Nat) : (ordL T O i).length = i := by simp [ordL]
theorem ordGL_len (G O : List Int) (i : Nat) : (ordGL G O i).length = i := by simp [ordGL]
theorem rows_len (T : List (List Int)) : (rows T).length = T.length := by rw [flat_len _ 1 (fun _ => rfl), Nat.mul_one]
theorem ordL_app (T : List (List Int)) (O : List Int) (i : Nat) : rows (ordL T O i) ++ [.ssl (ints (T.getD (O.getD i 0).toNat [])) 0 (T.getD (O.getD i 0).toNat []).length] = rows (ordL T O (i + 1)) := by
  unfold ordL
  rw [List.range_succ, List.map_append, rows, rows, flat_app]
  rfl
theorem ordGL_app (G O : List Int) (i : Nat) : ints (ordGL G O i) ++ [iv (G.getD (O.getD i 0).toNat 0)] = ints (ordGL G O (i + 1)) := by
  unfold ordGL
  rw [List.range_succ, List.map_append, ints, ints, flat_app]
  rfl
theorem RR_ord (T : List (List Int)) (O : List Int) (n : Nat) : RR (ordL T O n) = ordT (RR T) O n := by
  unfold RR ordL ordT
  rw [List.map_map]
  apply List.map_congr_left
  intro j _
  show Row.mk none (T.getD (at' O j) []) 0 = Y (RR T) (at' O j)
  unfold Y RR
  by_cases h : at' O j < T.length
  · simp [List.getD_eq_getElem?_getD, h]
  · rw [List.getD_eq_getElem?_getD, List.getElem?_eq_none (by omega), List.getD_eq_getElem?_getD, List.getElem?_eq_none (by simpa using h)]; rfl
theorem ord_good {T : List (List Int)} {G O : List Int} {n : Nat} (hn : n = T.length) (hP : PermTo O n n) (hg : Mx.Good (RR T) G) : Mx.Good (RR (ordL T O n)) (ordGL G O n) := by
  subst hn
  rw [RR_ord]
  have := good_ord (O := O) hg (by rw [RR_len]; exact hP)
  rw [RR_len] at this
  exact this
theorem ord_sums {T : List (List Int)} {G O : List Int} {n : Nat} (hn : n = T.length) (hP : PermTo O n n) : sums (RR (ordL T O n)) (ordGL G O n) = sums (RR T) G := by
  subst hn
  rw [RR_ord]
  have := sums_ord (T := RR T) (G := G) (O := O) (by rw [RR_len]; exact hP)
  rw [RR_len] at this
  exact this
theorem ord_row {T : List (List Int)} {O : List Int} {n : Nat} (h : ∀ i, (T.getD i []).length * 8 ≤ 140737488351232) (i : Nat) : ((ordL T O n).getD i []).length * 8 ≤ 140737488351232 := by
  by_cases hi : i < n
  · unfold ordL
    simp only [List.getD_eq_getElem?_getD, List.getElem?_map, List.getElem?_range hi, Option.map_some, Option.getD_some]
    have := h (at' O i)
    rw [List.getD_eq_getElem?_getD] at this
    exact this
  · rw [List.getD_eq_getElem?_getD, List.getElem?_eq_none (by rw [ordL_len]; omega)]; simp

/-! ### a track cut in two -/
def secondL (l : List Int) (c : Nat) : List Int := List.replicate c 0 ++ l.drop c
theorem secondL_len {l : List Int} {c : Nat} (h : c ≤ l.length) : (secondL l c).length = l.length := by simp [secondL]; omega
theorem second_X {l : List Int} {c : Nat} (k : Nat) : X (l.take c) k + X (secondL l c) k = X l k := by
  unfold X secondL
  simp only [List.getD_eq_getElem?_getD, List.getElem?_append, List.length_replicate, List.getElem?_take, List.getElem?_replicate, List.getElem?_drop]
  by_cases hk : k < c
  · simp [hk]
  · simp [hk, Nat.add_sub_cancel' (Nat.le_of_not_lt hk)]
def cutT (T : List (List Int)) (c : Nat) : List (List Int) := T.set 0 ((T.getD 0 []).take c) ++ [secondL (T.getD 0 []) c]
def cutG (G : List Int) : List Int := G ++ [G.getD 0 0]
theorem cutT_len (T : List (List Int)) (c : Nat) : (cutT T c).length = T.length + 1 := by simp [cutT]
theorem cutG_len (G : List Int) : (cutG G).length = G.length + 1 := by simp [cutG]
theorem cutT_zero {T : List (List Int)} {c : Nat} (h : 0 < T.length) : (cutT T c).getD 0 [] = (T.getD 0 []).take c := by
  cases T with
  | nil => simp at h
  | cons a T => rfl
theorem cutT_mid {T : List (List Int)} {c i : Nat} (h0 : 0 < i) (h : i < T.length) : (cutT T c).getD i [] = T.getD i [] := by
  unfold cutT
  rw [List.getD_eq_getElem?_getD, List.getElem?_append_left (by simpa using h), List.getElem?_set_ne (by omega), ← List.getD_eq_getElem?_getD]
theorem cutT_end (T : List (List Int)) (c : Nat) : (cutT T c).getD T.length [] = secondL (T.getD 0 []) c := by
  unfold cutT
  rw [List.getD_eq_getElem?_getD, List.getElem?_append_right (by simp)]
  simp
theorem cutG_mid {G : List Int} {i : Nat} (h : i < G.length) : (cutG G).getD i 0 = G.getD i 0 := by
  unfold cutG
  rw [List.getD_eq_getElem?_getD, List.getElem?_append_left h, ← List.getD_eq_getElem?_getD]
theorem cutG_end (G : List Int) : (cutG G).getD G.length 0 = G.getD 0 0 := by
  unfold cutG
  rw [List.getD_eq_getElem?_getD, List.getElem?_append_right (Nat.le_refl _)]
  simp
section
variable {T : List (List Int)} {G : List Int} {c : Nat}
theorem cut_part (hg : G.length = T.length) (k : Nat) : ∀ j, 0 < j → j ≤ T.length → Mx.part (RR (cutT T c)) (cutG G) j k = Mx.part (RR T) G j k - G.getD 0 0 * (X (T.getD 0 []) k - X ((T.getD 0 []).take c) k)
  | 0, h, _ => absurd h (Nat.lt_irrefl 0)
  | 1, _, h => by
    rw [part_step, part_step, cutG_mid (by omega), cutT_zero (by omega), Int.mul_sub]
    simp only [Mx.part, X_def]
    omega
  | j + 2, _, h => by
    rw [part_step, cut_part hg k (j + 1) (by omega) (by omega), part_step (j := j + 1), cutG_mid (by omega), cutT_mid (by omega) (by omega)]
    omega
theorem cut_whole (hg : G.length = T.length) (hT : 0 < T.length) (k : Nat) : Mx.part (RR (cutT T c)) (cutG G) (T.length + 1) k = Mx.part (RR T) G T.length k := by
  have h1 := second_X (l := T.getD 0 []) (c := c) k
  have h2 : X (T.getD 0 []) k - X ((T.getD 0 []).take c) k = X (secondL (T.getD 0 []) c) k := by omega
  rw [part_step, cut_part hg k _ hT (Nat.le_refl _), h2, cutT_end, ← hg, cutG_end, hg, X_def]
  omega
theorem cut_long (hT : 0 < T.length) : ∀ j, 0 < j → j ≤ T.length → max (long (RR (cutT T c)) j) (T.getD 0 []).length = long (RR T) j
  | 0, h, _ => absurd h (Nat.lt_irrefl 0)
  | 1, _, _ => by
    rw [long_step, long_step, cutT_zero hT, List.length_take]
    simp only [long]
    omega
  | j + 2, _, h => by
    have := cut_long hT (j + 1) (by omega) (by omega)
    rw [long_step (i := j + 1), long_step (T := T) (i := j + 1), cutT_mid (by omega) (by omega)]
    omega
theorem cut_sums (hg : G.length = T.length) (hT : 0 < T.length) (hc : c ≤ (T.getD 0 []).length) : sums (RR (cutT T c)) (cutG G) = sums (RR T) G := by
  unfold sums
  rw [RR_len, RR_len, cutT_len, long_step, cutT_end, secondL_len hc, cut_long hT _ hT (Nat.le_refl _)]
  exact List.map_congr_left fun k _ => cut_whole hg hT k
theorem cut_good (hn : T.length ≤ 250) (hT : 0 < T.length) (h : Mx.Good (RR T) G) : Mx.Good (RR (cutT T c)) (cutG G) := by
  have hg := h.g
  rw [RR_len] at hg
  have h0 := good_at h hT
  refine good_of (by rw [cutT_len]; omega) (by rw [cutT_len, cutG_len]; omega) fun j hj => ?_
  rw [cutT_len] at hj
  by_cases e : j = T.length
  · subst e
    rw [cutT_end, ← hg, cutG_end]
    refine ⟨h0.1, fun k hk => ?_⟩
    have hX : X (secondL (T.getD 0 []) c) k = if k < c then 0 else (T.getD 0 []).getD k 0 := by
      generalize T.getD 0 [] = l
      unfold X secondL
      simp only [List.getD_eq_getElem?_getD, List.getElem?_append, List.length_replicate, List.getElem?_replicate, List.getElem?_drop]
      by_cases hkc : k < c
      · simp [hkc]
      · rw [if_neg hkc, if_neg hkc, Nat.add_sub_cancel' (Nat.le_of_not_lt hkc)]
    rw [hX]
    by_cases hkc : k < c
    · simp [hkc, SampOk]
    · rw [if_neg hkc]
      by_cases hl : k < (T.getD 0 []).length
      · exact h0.2 k hl
      · rw [show (T.getD 0 []).getD k 0 = 0 from X_past (by omega)]; simp [SampOk]
  · rw [cutG_mid (by omega)]
    by_cases e0 : j = 0
    · subst e0
      rw [cutT_zero hT]
      refine ⟨h0.1, fun k hk => ?_⟩
      rw [List.length_take] at hk
      have h2 := h0.2 k (by omega)
      unfold X at h2 ⊢
      rw [List.getD_eq_getElem?_getD, List.getElem?_take, if_pos (by omega), ← List.getD_eq_getElem?_getD]
      exact h2
    · rw [cutT_mid (by omega) (by omega)]
      exact good_at h (by omega)
theorem cut_row (hc : c ≤ (T.getD 0 []).length) (hT : 0 < T.length) (h : ∀ i, (T.getD i []).length * 8 ≤ 140737488351232) (i : Nat) : ((cutT T c).getD i []).length * 8 ≤ 140737488351232 := by
  by_cases e : i = T.length
  · subst e; rw [cutT_end, secondL_len hc]; exact h 0
  · by_cases e0 : i = 0
    · subst e0; rw [cutT_zero hT, List.length_take]; have := h 0; omega
    · by_cases h1 : i < T.length
      · rw [cutT_mid (by omega) h1]; exact h i
      · rw [List.getD_eq_getElem?_getD, List.getElem?_eq_none (by rw [cutT_len]; omega)]; simp
end

theorem ints_take (l : List Int) (c : Nat) : ((ints l).drop 0).take c = ints (l.take c) := by
  have e : ∀ (l : List Int), ints l = l.map iv := fun l => by
    unfold ints
    induction l with
    | nil => rfl
    | cons a l ih => rw [List.flatMap_cons, ih]; rfl
  rw [e, e, List.drop_zero, List.map_take]
theorem cutT_app (T : List (List Int)) (c : Nat) : rows (T.set 0 ((T.getD 0 []).take c)) ++ [.ssl (ints (secondL (T.getD 0 []) c)) 0 (secondL (T.getD 0 []) c).length] = rows (cutT T c) := by
  unfold cutT
  rw [rows, rows, flat_app]; rfl
theorem cutG_app (G : List Int) : ints G ++ [iv (G.getD 0 0)] = ints (cutG G) := by
  unfold cutG
  rw [ints, ints, flat_app]; rfl
theorem copy_src {l : List Int} {c m : Nat} (h : c + m = l.length) : Nat.min m m = m ∧ c + m * 1 ≤ (ints l).length ∧ ((ints l).drop c).take (m * 1) = ints (l.drop c) := by
  have e : ∀ (l : List Int), ints l = l.map iv := fun l => by
    unfold ints
    induction l with
    | nil => rfl
    | cons a l ih => rw [List.flatMap_cons, ih]; rfl
  refine ⟨Nat.min_self m, by rw [ints_len]; omega, ?_⟩
  rw [e, e, ← List.map_drop, List.take_of_length_le (by simp; omega)]
theorem copy_dst {l : List Int} {c : Nat} (h : c ≤ l.length) : c + (ints (l.drop c)).length ≤ (ints (List.replicate l.length 0)).length ∧ splice (ints (List.replicate l.length 0)) c (ints (l.drop c)) = ints (secondL l c) := by
  have e : ∀ (l : List Int), ints l = l.map iv := fun l => by
    unfold ints
    induction l with
    | nil => rfl
    | cons a l ih => rw [List.flatMap_cons, ih]; rfl
  refine ⟨by rw [ints_len, ints_len, List.length_replicate, List.length_drop]; omega, ?_⟩
  unfold splice secondL
  rw [e, e, e, List.map_append, ← List.map_take, List.take_replicate, Nat.min_eq_left h, ← List.map_drop, List.drop_of_length_le (l := List.replicate _ _) (by simp; omega)]
  simp
theorem sumsRR_len (T : List (List Int)) (G : List Int) : (sums (RR T) G).length = long (RR T) T.length := by rw [sums_length, RR_len]
theorem sums_lim {T : List (List Int)} (G : List Int) (h : ∀ i, (T.getD i []).length * 8 ≤ 140737488351232) : (sums (RR T) G).length ≤ 9223372036854775807 := by
  rw [sumsRR_len]; have := long_lim h T.length; omega

/-! ### contracts -/
theorem sum_yes (T : List (List Int)) (G : List Int) (hTl : T.length ≤ 9223372036854775807) (hrow : ∀ i, (T.getD i []).length * 8 ≤ 140737488351232) {n m : Nat} (hn : T.length = n) (hm : G.length = m) (h : Mx.Good (RR T) G) :
    PC Try.prog 8 [.ssl (rows T) 0 n, .ssl (ints G) 0 m] [] (.tup [.ssl (ints (sums (RR T) G)) 0 (long (RR T) T.length), iv 0]) [] := by
  subst hn; subst hm; rw [← sumR_yes h]; exact sum_pc T G hTl hrow
theorem sum_not (T : List (List Int)) (G : List Int) (hTl : T.length ≤ 9223372036854775807) (hrow : ∀ i, (T.getD i []).length * 8 ≤ 140737488351232) (h : ¬ Mx.Good (RR T) G) :
    PC Try.prog 8 [.ssl (rows T) 0 T.length, .ssl (ints G) 0 G.length] [] (.tup [.ssl [] 0 0, iv (errC T G)]) [] := by
  rw [← sumR_no h rfl]; exact sum_pc T G hTl hrow
theorem errC_ne (T : List (List Int)) (G : List Int) : ¬ errC T G = 0 := by unfold errC; split; · decide
                                                                            · split <;> decide
theorem same_yes {l m : List Int} {a b : Nat} (ha : l.length = a) (hb : m.length = b) (hl : l.length ≤ 9223372036854775807) (h : l = m) : PC Try.prog 9 [.ssl (ints l) 0 a, .ssl (ints m) 0 b] [] (bv true) [] := by
  subst ha; subst hb
  have := same_pc l m hl
  rw [show decide (l = m) = true from decide_eq_true h] at this
  exact this
end Go.Proofs.Ytgkahjaoajjgcaa.Pm
