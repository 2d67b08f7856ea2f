/-
  THE VALUE MACHINE (Open): whatever came in, by its type: numbers, truth values, floats, strings, slices and structs of such, as deep as they are. | What came in, at its types: lists of numbers, lists of such; how much they hold. | A RING, step by step: the law. (Printed by wip/pm.)
-/
import Derived.Test.YtaeoielekkdenaaJLawTurns2
namespace Go.Proofs.Ytaeoielekkdenaa.Pm
open Go Go.Deep Go.ChangeShapes Go.WideShapes Go.ChangeAt Go.RowKit

/-- The parts of a struct, one behind the other. -/
def ShF (r : TypeId → List PV → Prop) : List Field → List PV → Prop
  | [], ps => ps = []
  | f :: fs, ps => ∃ a b, ps = a ++ b ∧ r f.type a ∧ ShF r fs b
/-- The tree's form, by the type. -/
def Sh (P : Program) : Nat → TypeId → List PV → Prop
  | 0, _, _ => False
  | n + 1, t, ps => match P.underlying t with
    | some .bool => ∃ b, ps = [.av (.bool b)]
    | some (.int k) => ∃ m, ps = [.av (.int k m)] ∧ (Lit.int k m).wf = true
    | some (.float k) => ∃ b, ps = [.av (.float k b)] ∧ (Lit.float k b).wf = true
    | some .string => ∃ s : ByteArray, ps = [.av (.string s)] ∧ s.size ≤ maxLen
    | some (.slice e) => ∃ ess : List (List PV), ps = [.ssl ess.flatten 0 ess.length] ∧ ess.length ≤ maxLen ∧ ess.length * P.bytesOf e ≤ reachBytes ∧ ∀ es ∈ ess, Sh P n e es
    | some (.struct fs) => ShF (Sh P n) fs.toList ps
    | _ => False
mutual
/-- How much a reading holds. -/
def bulkW {H : Type} : DataW H → Nat
  | .lit (.string bytes) => bytes.length + 1
  | .lit _ => 1
  | .nil => 1
  | .ptr d => bulkW d + 1
  | .slice elems spare => bulkAll elems + bulkAll spare + 1
  | .agg parts => bulkAll parts + 1
  | .iface _ d => bulkW d + 1
  | .map entries => bulkEntries entries + 1
  | .held _ => 1
def bulkAll {H : Type} : List (DataW H) → Nat
  | [] => 0
  | d :: r => bulkW d + bulkAll r
def bulkEntries {H : Type} : List (Lit × DataW H) → Nat
  | [] => 0
  | x :: r => bulkEntry x + bulkEntries r
def bulkEntry {H : Type} : Lit × DataW H → Nat
  | (.string bytes, d) => bytes.length + bulkW d + 1
  | (_, d) => bulkW d + 1
end
mutual
/-- How much a tree holds. -/
def pvw : PV → Nat
  | .av (.string s) => s.size + 1
  | .ssl cs _ _ => pvws cs + 1
  | .agg cs => pvws cs + 1
  | _ => 1
def pvws : List PV → Nat
  | [] => 0
  | p :: l => pvw p + pvws l
end
theorem pvws_app : ∀ a b : List PV, pvws (a ++ b) = pvws a + pvws b
  | [], b => by simp [pvws]
  | p :: a, b => by rw [List.cons_append, pvws, pvws, pvws_app a b]; omega
theorem pvws_flatten : ∀ l : List (List PV), pvws l.flatten = (l.map pvws).sum
  | [] => rfl
  | a :: l => by rw [List.flatten_cons, pvws_app, pvws_flatten l, List.map_cons, List.sum_cons]
theorem sum_le {H : Type} : ∀ (n : Nat) (f : Nat → Nat) (ds : List (DataW H)), ds.length = n → (∀ i (h : i < ds.length), f i ≤ bulkW ds[i]) → ((List.range n).map f).sum ≤ bulkAll ds
  | 0, f, ds, hl, h => by simp
  | n + 1, f, [], hl, h => by simp at hl
  | n + 1, f, d :: ds, hl, h => by
    rw [List.range_succ_eq_map, List.map_cons, List.sum_cons, List.map_map, bulkAll]
    have h0 := h 0 (by simp)
    have h1 := sum_le n (f ∘ Nat.succ) ds (by simpa using hl) fun i hi => by have := h (i + 1) (by simpa using hi); simpa using this
    simp only [List.getElem_cons_zero] at h0
    omega
def contig (P : Program) : List Field → Nat → Option Nat
  | [], o => some o
  | f :: fs, o => if f.offset = o then contig P fs (o + P.cellsOf f.type) else none
/-- These types can be opened, with all that is in them. -/
def openB (P : Program) (Ts : List TypeId) : Bool := Ts.all fun t => match P.underlying t with
  | some .bool | some (.int _) | some (.float _) | some .string => Nat.beq (P.cellsOf t) 1
  | some (.slice e) => Nat.beq (P.cellsOf t) 1 && Nat.ble 1 (P.cellsOf e) && Ts.contains e
  | some (.struct fs) => contig P fs.toList 0 == some (P.cellsOf t) && fs.toList.all fun f => Ts.contains f.type
  | _ => false
theorem List.getD_app {α : Type} {l m : List α} {i : Nat} {d : α} (h : i < l.length) : (l ++ m).getD i d = l.getD i d := by
  rw [List.getD_eq_getElem?_getD, List.getD_eq_getElem?_getD, List.getElem?_append_left h]
theorem List.getD_app_r {α : Type} {l m : List α} {i : Nat} {d : α} (h : l.length ≤ i) : (l ++ m).getD i d = m.getD (i - l.length) d := by
  rw [List.getD_eq_getElem?_getD, List.getD_eq_getElem?_getD, List.getElem?_append_right h]
theorem flatten_get {k : Nat} : ∀ {ess : List (List PV)}, (∀ es ∈ ess, es.length = k) → ess.flatten.length = ess.length * k ∧ ∀ i j, j < k → i < ess.length → ess.flatten.getD (i * k + j) P0 = (ess.getD i []).getD j P0
  | [], _ => ⟨by simp, fun i j _ h => absurd h (Nat.not_lt_zero _)⟩
  | es :: ess, h => by
    have h0 := h es (by simp)
    obtain ⟨h1, h2⟩ := flatten_get (ess := ess) fun x hx => h x (by simp [hx])
    refine ⟨by rw [List.flatten_cons, List.length_append, h0, h1, List.length_cons, Nat.succ_mul]; omega, fun i j hj hi => ?_⟩
    rw [List.flatten_cons]
    cases i with
    | zero => rw [Nat.zero_mul, Nat.zero_add, List.getD_app (by omega)]; rfl
    | succ i =>
      rw [List.getD_app_r (by rw [h0, Nat.succ_mul]; omega), h0, show (i + 1) * k + j - k = i * k + j from by rw [Nat.succ_mul]; omega, h2 i j hj (by simpa using hi)]
      rfl
section
variable {H : Type} {enc : TypeId × Value → H} {P : Program} {w : World} {base : Nat} {held : Bool}
abbrev Opened (w : World) (ps : List PV) (cs : List Value) : Prop := ones ps ∧ ps.length = cs.length ∧ ∀ i, i < ps.length → SRep w (fun b => b < w.heap.size) (ps.getD i P0) (cs.getD i undef)
theorem opened_one {p : PV} {v : Value} (h : p.one = true) (hr : SRep w (fun b => b < w.heap.size) p v) : Opened w [p] [v] :=
  ⟨fun q hq => by simp only [List.mem_singleton] at hq; rw [hq]; exact h, rfl, fun i hi => by
    have : i = 0 := by simp at hi; omega
    subst this; exact hr⟩
theorem open_fs {Ts : List TypeId} {n : Nat} (ih : ∀ (t : TypeId) (cs : List Value) (x : DataW H × List MemPlace), t ∈ Ts → DataW.trod enc P w base (fun _ => true) held n t cs = some x → (x.1.weights P t).all (· ≤ reachBytes) = true →
    ∃ ps, Sh P n t ps ∧ Opened w ps cs ∧ cs.length = P.cellsOf t ∧ pvws ps ≤ bulkW x.1) (cs : List Value) :
    ∀ (fs : List Field) (xs : List (DataW H × List MemPlace)) (o e : Nat), contig P fs o = some e → e ≤ cs.length → (∀ f ∈ fs, f.type ∈ Ts) → xs.length = fs.length →
      (∀ (i : Nat) (f : Field), fs[i]? = some f → DataW.trod enc P w base (fun _ => true) held n f.type ((cs.drop f.offset).take (P.cellsOf f.type)) = xs[i]?) →
      (DataW.weightsEach P (fs.map (·.type)) (xs.map (·.1))).all (· ≤ reachBytes) = true → ∃ ps, ShF (Sh P n) fs ps ∧ Opened w ps ((cs.drop o).take (e - o)) ∧ o ≤ e ∧ pvws ps ≤ bulkAll (xs.map (·.1))
  | [], xs, o, e, hc, he, _, _, _, _ => by
    simp only [contig, Option.some.injEq] at hc
    subst hc
    exact ⟨[], rfl, ⟨fun p hp => (by cases hp), by simp, fun i hi => by simp at hi⟩, Nat.le_refl _, Nat.zero_le _⟩
  | f :: fs, [], o, e, hc, he, hT, hx, hf, hw => by simp at hx
  | f :: fs, x :: xs, o, e, hc, he, hT, hx, hf, hw => by
    simp only [contig] at hc
    split at hc
    case isFalse => cases hc
    rename_i ho
    simp only [List.map_cons, DataW.weightsEach, List.all_append, Bool.and_eq_true] at hw
    obtain ⟨b, hb1, hb2, hb3, hb4⟩ := open_fs ih cs fs xs _ e hc he (fun g hg => hT g (by simp [hg])) (by simpa using hx) (fun i g hg => by have := hf (i + 1) g (by simpa using hg); simpa using this) hw.2
    obtain ⟨a, ha1, ha2, ha3, ha4⟩ := ih f.type _ x (hT f (by simp)) (by have := hf 0 f (by simp); simpa using this) hw.1
    rw [ho] at ha2 ha3
    have hla : (List.take (P.cellsOf f.type) (List.drop o cs)).length = P.cellsOf f.type := ha3
    have e1 : (cs.drop o).take (e - o) = (cs.drop o).take (P.cellsOf f.type) ++ (cs.drop (o + P.cellsOf f.type)).take (e - (o + P.cellsOf f.type)) := by
      rw [← List.drop_drop, show e - o = P.cellsOf f.type + (e - (o + P.cellsOf f.type)) from by omega, List.take_add]
    refine ⟨a ++ b, ⟨a, b, rfl, ha1, hb1⟩, ?_, by omega, by rw [pvws_app, List.map_cons, bulkAll]; omega⟩
    rw [e1]
    refine ⟨fun p hp => ?_, by rw [List.length_append, List.length_append, ha2.2.1, hb2.2.1], fun i hi => ?_⟩
    · rcases List.mem_append.1 hp with h | h
      · exact ha2.1 p h
      · exact hb2.1 p h
    · have hl := ha2.2.1
      rw [List.length_append] at hi
      by_cases h : i < a.length
      · rw [List.getD_app h, List.getD_app (by omega)]
        exact ha2.2.2 i h
      · rw [List.getD_app_r (by omega), List.getD_app_r (by omega), ← hl]
        exact hb2.2.2 _ (by omega)
theorem open_any {Ts : List TypeId} (hT : openB P Ts = true) : ∀ (n : Nat) (t : TypeId) (cs : List Value) (x : DataW H × List MemPlace), t ∈ Ts → DataW.trod enc P w base (fun _ => true) held n t cs = some x → (x.1.weights P t).all (· ≤ reachBytes) = true →
    ∃ ps, Sh P n t ps ∧ Opened w ps cs ∧ cs.length = P.cellsOf t ∧ pvws ps ≤ bulkW x.1
  | 0, _, _, _, _, h, _ => by simp [DataW.trod] at h
  | n + 1, t, cs, x, ht, h, hw => by
    have hB := List.all_eq_true.1 hT t ht
    split at hB
    · rename_i hu
      obtain ⟨b, rfl, rfl⟩ := DataW.trod_bool hu h
      exact ⟨[.av (.bool b)], by simp only [Sh, hu]; exact ⟨b, rfl⟩, opened_one rfl (.av _), (Nat.eq_of_beq_eq_true hB).symm, by simp [pvws, pvw, bulkW]⟩
    · rename_i k hu
      obtain ⟨b, rfl, rfl, hwf⟩ := DataW.trod_int hu h
      exact ⟨[.av (.int k b)], by simp only [Sh, hu]; exact ⟨b, rfl, hwf⟩, opened_one rfl (.av _), (Nat.eq_of_beq_eq_true hB).symm, by simp [pvws, pvw, bulkW]⟩
    · rename_i k hu
      have : ∃ b, cs = [.float k b] ∧ (Lit.float k b).wf = true ∧ x = (.lit (.float k b), []) := by
        unfold DataW.trod at h
        rw [hu] at h
        split at h <;> simp_all
      obtain ⟨b, rfl, hwf, rfl⟩ := this
      exact ⟨[.av (.float k b)], by simp only [Sh, hu]; exact ⟨b, rfl, hwf⟩, opened_one rfl (.av _), (Nat.eq_of_beq_eq_true hB).symm, by simp [pvws, pvw, bulkW]⟩
    · rename_i hu
      obtain ⟨s, rfl, rfl, hs⟩ := DataW.trod_string hu h
      exact ⟨[.av (.string s)], by simp only [Sh, hu]; exact ⟨s, rfl, hs⟩, opened_one rfl (.av _), (Nat.eq_of_beq_eq_true hB).symm, by simp [pvws, pvw, bulkW]⟩
    · rename_i e hu
      simp only [Bool.and_eq_true] at hB
      obtain ⟨⟨hB1, hB2⟩, hB3⟩ := hB
      have hB1 := Nat.eq_of_beq_eq_true hB1
      have hk := Nat.le_of_ble_eq_true hB2
      have he : e ∈ Ts := by simpa using hB3
      rcases DataW.trod_slice hu h with ⟨rfl, rfl⟩ | ⟨a, len, cap, elems, rest, m, hm, rfl, rfl, hb, hl, hcap, hel, hE, _, _⟩
      · refine ⟨[.ssl [] 0 0], ?_, opened_one rfl .emp, hB1.symm, by simp [pvws, pvw, bulkW]⟩
        simp only [Sh, hu]
        exact ⟨[], rfl, Nat.zero_le _, by simp, by simp⟩
      · obtain rfl : m = n := by omega
        simp only [DataW.weights, hu, List.length_map, List.all_cons, List.all_append, Bool.and_eq_true, decide_eq_true_eq] at hw
        have hwl : ∀ i (hi : i < elems.length), ((elems[i].1).weights P e).all (· ≤ reachBytes) = true := by
          intro i hi
          refine List.all_eq_true.2 fun z hz => ?_
          exact List.all_eq_true.1 hw.2.1 z (weights_all_mem (List.mem_map.2 ⟨elems[i], List.getElem_mem hi, rfl⟩) z hz)
        have each : ∀ i, i < len → ∃ q : List PV × List Value, Sh P m e q.1 ∧ Opened w q.1 q.2 ∧ q.2.length = P.cellsOf e ∧ (∀ j, j < P.cellsOf e → w.cell? (a.add (i * P.cellsOf e + j)) = some (q.2.getD j undef)) ∧ ∀ h : i < elems.length, pvws q.1 ≤ bulkW (elems[i]).1 := by
          intro i hi
          have h1 := hE i hi
          rw [List.getElem?_eq_getElem (by omega), Option.bind_eq_some_iff] at h1
          obtain ⟨cs', h2, h3⟩ := h1
          obtain ⟨ps, h4, h5, h6, h7⟩ := open_any hT m e cs' _ he h3 (hwl i (by omega))
          refine ⟨(ps, cs'), h4, h5, h6, fun j hj => ?_, fun _ => h7⟩
          rw [← Addr.add_add, (World.cells?_some h2).2.2 j hj]
          have : j < cs'.length := by omega
          simp [List.getD_eq_getElem?_getD, this]
        let Q : Nat → List PV × List Value := fun i => if hi : i < len then (each i hi).choose else ([], [])
        have hQ : ∀ i, i < len → Sh P m e (Q i).1 ∧ Opened w (Q i).1 (Q i).2 ∧ (Q i).2.length = P.cellsOf e ∧ (∀ j, j < P.cellsOf e → w.cell? (a.add (i * P.cellsOf e + j)) = some ((Q i).2.getD j undef)) ∧ ∀ h : i < elems.length, pvws (Q i).1 ≤ bulkW (elems[i]).1 := by
          intro i hi
          have e1 : Q i = (each i hi).choose := dif_pos hi
          rw [e1]
          exact (each i hi).choose_spec
        have hlen : ((List.range len).map fun i => (Q i).1).length = len := by simp
        refine ⟨[.ssl ((List.range len).map fun i => (Q i).1).flatten 0 ((List.range len).map fun i => (Q i).1).length], ?_, opened_one rfl ?_, hB1.symm, ?_⟩
        · simp only [Sh, hu]
          refine ⟨_, rfl, by rw [hlen]; omega, by rw [hlen]; exact Nat.le_trans (Nat.mul_le_mul_right _ (by omega)) hw.1, fun es hes => ?_⟩
          obtain ⟨i, hi, rfl⟩ := List.mem_map.1 hes
          exact (hQ i (List.mem_range.1 hi)).1
        · rw [hlen]
          rcases Nat.eq_zero_or_pos len with h0 | h0
          · subst h0; exact .emp
          · have hes : ∀ es ∈ (List.range len).map fun i => (Q i).1, es.length = P.cellsOf e := fun es hes => by
              obtain ⟨i, hi, rfl⟩ := List.mem_map.1 hes
              obtain ⟨_, h2, h3, _⟩ := hQ i (List.mem_range.1 hi)
              exact h2.2.1.trans h3
            obtain ⟨hf1, hf2⟩ := flatten_get hes
            rw [hlen] at hf1 hf2
            have hg : ∀ i, i < len → ((List.range len).map fun i => (Q i).1).getD i [] = (Q i).1 := fun i hi => by simp [List.getD_eq_getElem?_getD, hi]
            obtain ⟨b, o, rfl, hbs, hcell⟩ := cells_from (w := w) (a := a) (n := len * P.cellsOf e) (f := fun c => (Q (c / P.cellsOf e)).2.getD (c % P.cellsOf e) undef) (fun c hc => by
              have hd : c / P.cellsOf e < len := Nat.div_lt_of_lt_mul (by rw [Nat.mul_comm]; exact hc)
              have := (hQ _ hd).2.2.2.1 (c % P.cellsOf e) (Nat.mod_lt _ hk)
              rw [Nat.mul_comm, Nat.div_add_mod] at this
              exact this) (Nat.mul_pos h0 hk)
            refine SRep.ssl (a := o) (off := 0) (vf := fun c => (Q (c / P.cellsOf e)).2.getD (c % P.cellsOf e) undef) hbs (fun j hj => hcell j (by omega)) (fun j hj => ?_) (fun p hp => ?_) hl
            · rw [hf1] at hj
              have hd : j / P.cellsOf e < len := Nat.div_lt_of_lt_mul (by rw [Nat.mul_comm]; exact hj)
              have hm := Nat.mod_lt j hk
              have e1 := hf2 (j / P.cellsOf e) (j % P.cellsOf e) hm hd
              rw [Nat.mul_comm, Nat.div_add_mod, hg _ hd] at e1
              rw [e1]
              obtain ⟨_, h2, h3, _⟩ := hQ _ hd
              exact h2.2.2 _ (by rw [h2.2.1, h3]; exact hm)
            · obtain ⟨es, hes', hp'⟩ := List.mem_flatten.1 hp
              obtain ⟨i, hi, rfl⟩ := List.mem_map.1 hes'
              exact (hQ i (List.mem_range.1 hi)).2.1.1 p hp'
        · simp only [pvws, pvw, bulkW, pvws_flatten, List.map_map]
          have := sum_le len (pvws ∘ fun i => (Q i).1) (elems.map (·.1)) (by simpa using hel) fun i hi => by
            have hi' : i < elems.length := by simpa using hi
            have := (hQ i (by omega)).2.2.2.2 hi'
            simpa using this
          omega
    · rename_i fs hu
      simp only [Bool.and_eq_true, beq_iff_eq, List.all_eq_true] at hB
      obtain ⟨xs, m, hm, rfl, hl, hxl, hf⟩ := DataW.trod_struct hu h
      obtain rfl : m = n := by omega
      simp only [DataW.weights, hu] at hw
      obtain ⟨ps, h1, h2, _, h4⟩ := open_fs (open_any hT m) cs fs.toList xs 0 _ hB.1 (by omega) (fun f hf => by simpa using hB.2 f hf) (by simpa using hxl) (fun i f hif => hf i f (by simpa using hif)) hw
      rw [List.drop_zero, Nat.sub_zero, ← hl, List.take_length] at h2
      exact ⟨ps, by simp only [Sh, hu]; exact h1, h2, hl, by simp only [bulkW]; omega⟩
    · cases hB
end
theorem weights_at {H : Type} {P : Program} {ts : List TypeId} {ds : List (DataW H)} (h : (DataW.weightsEach P ts ds).all (· ≤ reachBytes) = true) {j : Nat} {t : TypeId} {d : DataW H} (ht : ts[j]? = some t) (hd : ds[j]? = some d) : (d.weights P t).all (· ≤ reachBytes) = true :=
  List.all_eq_true.2 fun n hn => List.all_eq_true.1 h n (DataW.weights_mem_each ht hd n hn)
/-- An argument, whatever its type. -/
theorem arg_any {H : Type} {enc : TypeId × Value → H} {P : Program} {w : World} {base : Nat} {t : TypeId} {v : Value} {d : DataW H} {pl : List MemPlace} {r : Reach} {b0 : Nat} {held : Bool} {Ts : List TypeId}
    (hT : openB P Ts = true) (ht : t ∈ Ts) (hv : Value.okWide P w r b0 t v) (h : DataW.Trod enc P w base (fun _ => true) held t v d pl)
    {ts : List TypeId} {ds : List (DataW H)} (hs : (DataW.weightsEach P ts ds).all (· ≤ reachBytes) = true) {j : Nat} (hj : ts[j]? = some t) (hd : ds[j]? = some d) :
    ∃ n ps, Sh P n t ps ∧ pvws ps ≤ bulkW d ∧ match isAggD (P.underlying t) with
      | some true => SRep w (fun b => b < w.heap.size) (.agg ps) v
      | _ => ∃ p, ps = [p] ∧ SRep w (fun b => b < w.heap.size) p v := by
  obtain ⟨n, hf⟩ := h
  obtain ⟨ps, h1, ⟨h2, h3, h4⟩, h5, h6⟩ := open_any hT n t _ _ ht hf (weights_at hs hj hd)
  refine ⟨n, ps, h1, h6, ?_⟩
  have hB := List.all_eq_true.1 hT t ht
  have one : v.cells = #[v] → ∃ p, ps = [p] ∧ SRep w (fun b => b < w.heap.size) p v := fun hc => by
    rw [hc] at h3 h4
    simp only [List.length_cons, List.length_nil] at h3
    obtain ⟨p, rfl⟩ := List.length_eq_one_iff.1 h3
    exact ⟨p, rfl, h4 0 (by simp)⟩
  split at hB
  · rename_i hu
    obtain ⟨b, rfl⟩ := okWide_bool hu hv
    simp only [hu, isAggD]
    exact one rfl
  · rename_i k hu
    obtain ⟨b, rfl⟩ := okWide_int hu hv
    simp only [hu, isAggD]
    exact one rfl
  · rename_i k hu
    have : ∃ b, v = .float k b := by
      simp only [Value.okWide, hu, Cell.okWide] at hv
      cases v <;> simp_all [Cell.ok]
    obtain ⟨b, rfl⟩ := this
    simp only [hu, isAggD]
    exact one rfl
  · rename_i hu
    obtain ⟨b, rfl⟩ := okWide_string hu hv
    simp only [hu, isAggD]
    exact one rfl
  · rename_i e hu
    obtain ⟨a, l, c, rfl⟩ := okWide_slice hu hv
    simp only [hu, isAggD]
    exact one rfl
  · rename_i fs hu
    obtain ⟨cs, rfl, hsz⟩ := okWide_struct hu hv
    simp only [hu, isAggD]
    simp only [Value.cells] at h3 h4
    refine .agg (by simpa using h3.symm) fun i hi => ?_
    have := h4 i hi
    rwa [show cs.toList.getD i undef = cs.getD i undef from by rw [List.getD_eq_getElem?_getD, Array.getElem?_toList, Array.getD_eq_getD_getElem?]] at this
  · cases hB
end Go.Proofs.Ytaeoielekkdenaa.Pm
namespace Go.Proofs.Ytaeoielekkdenaa.Pm
open Go Go.Deep Go.ChangeShapes Go.WideShapes Go.ChangeAt Go.RowKit

mutual
theorem bulk_eq {H : Type} : ∀ d : DataW H, Rows.uptoBulk d = bulkW d
  | .lit (.string b) => by simp [Rows.uptoBulk, bulkW]
  | .lit (.bool _) => by simp [Rows.uptoBulk, bulkW]
  | .lit (.int _ _) => by simp [Rows.uptoBulk, bulkW]
  | .lit (.float _ _) => by simp [Rows.uptoBulk, bulkW]
  | .lit .nil => by simp [Rows.uptoBulk, bulkW]
  | .nil => by simp [Rows.uptoBulk, bulkW]
  | .ptr d => by simp [Rows.uptoBulk, bulkW, bulk_eq d]
  | .slice e s => by simp [Rows.uptoBulk, bulkW, bulk_all e, bulk_all s]
  | .agg ps => by simp [Rows.uptoBulk, bulkW, bulk_all ps]
  | .iface _ d => by simp [Rows.uptoBulk, bulkW, bulk_eq d]
  | .map es => by simp [Rows.uptoBulk, bulkW, bulk_entries es]
  | .held _ => by simp [Rows.uptoBulk, bulkW]
theorem bulk_all {H : Type} : ∀ l : List (DataW H), Rows.uptoBulkAll l = bulkAll l
  | [] => by simp [Rows.uptoBulkAll, bulkAll]
  | d :: l => by simp [Rows.uptoBulkAll, bulkAll, bulk_eq d, bulk_all l]
theorem bulk_entries {H : Type} : ∀ l : List (Lit × DataW H), Rows.uptoBulkEntries l = bulkEntries l
  | [] => by simp [Rows.uptoBulkEntries, bulkEntries]
  | x :: l => by simp [Rows.uptoBulkEntries, bulkEntries, bulk_entry x, bulk_entries l]
theorem bulk_entry {H : Type} : ∀ x : Lit × DataW H, Rows.uptoBulkEntry x = bulkEntry x
  | (.string b, d) => by simp [Rows.uptoBulkEntry, bulkEntry, bulk_eq d]
  | (.bool _, d) => by simp [Rows.uptoBulkEntry, bulkEntry, bulk_eq d]
  | (.int _ _, d) => by simp [Rows.uptoBulkEntry, bulkEntry, bulk_eq d]
  | (.float _ _, d) => by simp [Rows.uptoBulkEntry, bulkEntry, bulk_eq d]
  | (.nil, d) => by simp [Rows.uptoBulkEntry, bulkEntry, bulk_eq d]
end
theorem small_bulk {H : Type} {l : List (DataW H)} (hk : Rows.uptoSmall H l = true) : bulkAll l ≤ 1048576 := by
  have h : Rows.uptoBulkAll l ≤ 1048576 := of_decide_eq_true hk
  rwa [bulk_all] at h
theorem bulk_mem {H : Type} {d : DataW H} : ∀ {l : List (DataW H)}, d ∈ l → bulkW d ≤ bulkAll l
  | x :: l, h => by
    rw [bulkAll]
    rcases List.mem_cons.1 h with rfl | h
    · omega
    · have := bulk_mem h; omega
theorem list_of {α : Type} {g : α → List PV} {q : α → Prop} : ∀ {ess : List (List PV)}, (∀ es ∈ ess, ∃ x, es = g x ∧ q x) → ∃ l : List α, ess = l.map g ∧ ∀ x ∈ l, q x
  | [], _ => ⟨[], rfl, by simp⟩
  | es :: ess, h => by
    obtain ⟨x, rfl, hx⟩ := h es (by simp)
    obtain ⟨l, rfl, hl⟩ := list_of (ess := ess) fun e he => h e (by simp [he])
    exact ⟨x :: l, rfl, fun y hy => by
      rcases List.mem_cons.1 hy with rfl | hy
      · exact hx
      · exact hl y hy⟩
theorem flat_of {α : Type} (g : α → List PV) (l : List α) : (l.map g).flatten = l.flatMap g := List.flatMap_def.symm
theorem getD_of {α : Type} {q : α → Prop} {l : List α} (h : ∀ x ∈ l, q x) (d : α) (hd : q d) (i : Nat) : q (l.getD i d) := by
  rcases Nat.lt_or_ge i l.length with h1 | h1
  · rw [List.getD_eq_getElem?_getD, List.getElem?_eq_getElem h1]
    exact h _ (List.getElem_mem h1)
  · rw [List.getD_eq_getElem?_getD, List.getElem?_eq_none h1]
    exact hd
/-- A number of a kind. -/
theorem sh_num {P : Program} {t : TypeId} {k : IntKind} (ht : P.underlying t = some (.int k)) {n : Nat} {ps : List PV} (h : Sh P n t ps) : ∃ m, ps = [.av (.int k m)] ∧ (Lit.int k m).wf = true := by
  cases n with
  | zero => exact h.elim
  | succ n => simpa only [Sh, ht] using h
theorem sh_bool {P : Program} {t : TypeId} (ht : P.underlying t = some .bool) {n : Nat} {ps : List PV} (h : Sh P n t ps) : ∃ b, ps = [bv b] := by
  cases n with
  | zero => exact h.elim
  | succ n => simpa only [Sh, ht] using h
theorem sh_str {P : Program} {t : TypeId} (ht : P.underlying t = some .string) {n : Nat} {ps : List PV} (h : Sh P n t ps) : ∃ s : ByteArray, ps = [.av (.string s)] ∧ s.size ≤ maxLen := by
  cases n with
  | zero => exact h.elim
  | succ n => simpa only [Sh, ht] using h
theorem sh_float {P : Program} {t : TypeId} {k : FloatKind} (ht : P.underlying t = some (.float k)) {n : Nat} {ps : List PV} (h : Sh P n t ps) : ∃ b, ps = [.av (.float k b)] ∧ (Lit.float k b).wf = true := by
  cases n with
  | zero => exact h.elim
  | succ n => simpa only [Sh, ht] using h
/-- A slice of elements that are told. -/
theorem sh_list {P : Program} {t e : TypeId} (ht : P.underlying t = some (.slice e)) {α : Type} {g : α → List PV} {q : α → Prop} {n : Nat} {ps : List PV} (h : Sh P n t ps) (hg : ∀ m es, m < n → Sh P m e es → ∃ x, es = g x ∧ q x) :
    ∃ l : List α, ps = [.ssl (l.flatMap g) 0 l.length] ∧ (∀ x ∈ l, q x) ∧ l.length ≤ maxLen ∧ l.length * P.bytesOf e ≤ reachBytes := by
  cases n with
  | zero => exact h.elim
  | succ n =>
    simp only [Sh, ht] at h
    obtain ⟨ess, rfl, h1, h2, h3⟩ := h
    obtain ⟨l, rfl, hl⟩ := list_of fun es hes => hg n es (Nat.lt_succ_self _) (h3 es hes)
    rw [List.length_map] at h1 h2
    refine ⟨l, by rw [flat_of, List.length_map], hl, h1, h2⟩
theorem sh_ints {P : Program} {t e : TypeId} (ht : P.underlying t = some (.slice e)) (he : P.underlying e = some (.int .i64)) {n : Nat} {ps : List PV} (h : Sh P n t ps) :
    ∃ l : List Int, ps = [.ssl (ints l) 0 l.length] ∧ (∀ m ∈ l, (Lit.int .i64 m).wf = true) ∧ l.length ≤ maxLen ∧ l.length * P.bytesOf e ≤ reachBytes := by
  obtain ⟨l, h1, h2, h3, h4⟩ := sh_list (g := fun m => [iv m]) (q := fun m => (Lit.int .i64 m).wf = true) ht h fun m es _ hs => by
    obtain ⟨x, h1, h2⟩ := sh_num he hs
    exact ⟨x, h1, h2⟩
  exact ⟨l, h1, h2, h3, h4⟩
theorem sh_rows {P : Program} {t e k : TypeId} (ht : P.underlying t = some (.slice e)) (he : P.underlying e = some (.slice k)) (hk : P.underlying k = some (.int .i64)) {n : Nat} {ps : List PV} (h : Sh P n t ps) :
    ∃ T : List (List Int), ps = [.ssl (rows T) 0 T.length] ∧ (∀ l ∈ T, (∀ m ∈ l, (Lit.int .i64 m).wf = true) ∧ l.length * P.bytesOf k ≤ reachBytes) ∧ T.length ≤ maxLen := by
  obtain ⟨l, h1, h2, h3, _⟩ := sh_list (g := fun l : List Int => [.ssl (ints l) 0 l.length]) (q := fun l => (∀ m ∈ l, (Lit.int .i64 m).wf = true) ∧ l.length * P.bytesOf k ≤ reachBytes) ht h fun m es _ hs => by
    obtain ⟨x, h1, h2, _, h3⟩ := sh_ints he hk hs
    exact ⟨x, h1, h2, h3⟩
  exact ⟨l, h1, h2, h3⟩
theorem pvws_ints (l : List Int) : pvws (ints l) = l.length := by
  induction l with
  | nil => rfl
  | cons a l ih =>
    rw [ints_map] at ih ⊢
    rw [List.map_cons, pvws, ih, List.length_cons, pvw]
    · omega
    all_goals intros; simp_all
theorem pvws_rows : ∀ T : List (List Int), pvws (rows T) = (T.map List.length).sum + T.length
  | [] => rfl
  | l :: T => by
    have ih := pvws_rows T
    rw [rows_map] at ih ⊢
    rw [List.map_cons, pvws, ih, pvw, pvws_ints, List.map_cons, List.sum_cons, List.length_cons]
    omega
end Go.Proofs.Ytaeoielekkdenaa.Pm
namespace Go.Proofs.Ytaeoielekkdenaa.Pm
open Go

theorem cut_drop {P : Program} {L : List Int} {n : Nat} (h : n ≤ L.length) (c : Cx) (v : Value) (hr : Rep P c (.ssl (ints L) n (L.length - n)) v) : Rep P c (.ssl (ints (L.drop n)) 0 (L.drop n).length) v := by
  rw [List.length_drop]
  refine ssl_cut (m := L.length - n) (by rw [ints_len]; omega) ?_ c v hr
  rw [ints_map, ints_map, ← List.map_drop, List.take_of_length_le (by simp)]
theorem nil_ssl {P : Program} (c : Cx) (v : Value) (h : Rep P c (.av (.slice none 0 0)) v) : Rep P c (.ssl (ints []) 0 ([] : List Int).length) v := by
  rw [rep_av h]
  exact .sh .emp
set_option maxRecDepth 100000 in
theorem ring_yes (n : Nat) (hn1 : 1 ≤ n) (hn2 : n ≤ 65536) (l : List Int) (hl : l.length ≤ 1048576) : PC Try.prog 5 [(iv ((n : Nat) : Int)), (.ssl (ints l) 0 l.length)] [] (.tup [(.ssl (tus (runR (List.replicate n 0, 0, 0) l)) 0 ((runR (List.replicate n 0, 0, 0) l).length)), (iv 0)]) [] := by
  refine pc_intro Try.func5 rfl (by kernel_rfl) (Nat.le_of_ble_eq_true rfl) (by kernel_rfl) (l0 := [ps 0 (iv ((n : Nat) : Int)), ps 1 (.ssl (ints l) 0 l.length)]) rfl (fun c0 Bor hc0 => ?_)
  refine T_seq ?_
  refine T_region [] [ks 0, ks 1] (fun _ => mixed) (l' := [ps 0 (iv ((n : Nat) : Int)), ps 1 (.ssl (ints l) 0 l.length)]) (obs := []) (by kernel_rfl) (obs_nil) ?_
  refine T_seq ?_
  refine T_region [(1, .call [] [(iv ((n : Nat) : Int))] [] (.tup [(.opt 0 0), (iv 0)]) [some (49, [(.osl 1 0 n), (iv 0), (iv 0)]), some (3, (ints (List.replicate n 0)))])] [ks 1, ks 6, ks 7, kb 24, kb 25] (fun _ => mixed) (l' := [ps 1 (.ssl (ints l) 0 l.length), ps 6 (.opt 24 0), ps 7 (iv 0), pb 24 49 [(.osl 25 0 n), (iv 0), (iv 0)], pb 25 3 (renL (sigo [] 24) (ints (List.replicate n 0)))]) (obs := [PC Try.prog 9 [(iv ((n : Nat) : Int))] [] (.tup [(.opt 0 0), (iv 0)]) [some (49, [(.osl 1 0 n), (iv 0), (iv 0)]), some (3, (ints (List.replicate n 0)))], [(iv ((n : Nat) : Int))] = renL (sigi [] 24) [(iv ((n : Nat) : Int))]]) (by kernel_rfl) (obs_cons (p := PC Try.prog 9 [(iv ((n : Nat) : Int))] [] (.tup [(.opt 0 0), (iv 0)]) [some (49, [(.osl 1 0 n), (iv 0), (iv 0)]), some (3, (ints (List.replicate n 0)))]) (new_yes n hn1 hn2) (obs_cons (p := [(iv ((n : Nat) : Int))] = renL (sigi [] 24) [(iv ((n : Nat) : Int))]) rfl (obs_nil))) ?_
  refine T_wk (Wk.eq (show [ps 1 (.ssl (ints l) 0 l.length), ps 6 (.opt 24 0), ps 7 (iv 0), pb 24 49 [(.osl 25 0 n), (iv 0), (iv 0)], pb 25 3 (renL (sigo [] 24) (ints (List.replicate n 0)))] = [ps 1 (.ssl (ints l) 0 l.length), ps 6 (.opt 24 0), ps 7 (iv 0), pb 24 49 [(.osl 25 0 n), (iv 0), (iv 0)], pb 25 3 (ints (List.replicate n 0))] from by simp only [renL_shd (ints_shd _)])) ?_
  refine T_seq ?_
  refine T_seq ?_
  refine T_region [] [ks 1, ks 6, ks 7, ks 18, kb 24, kb 25] (fun _ => mixed) (l' := [ps 1 (.ssl (ints l) 0 l.length), ps 6 (.opt 24 0), ps 7 (iv 0), ps 18 (bv false), pb 24 49 [(.osl 25 0 n), (iv 0), (iv 0)], pb 25 3 (ints (List.replicate n 0))]) (obs := []) (by kernel_rfl) (obs_nil) ?_
  refine T_else (b := false) rfl rfl ?_
  refine T_skip ?_
  refine T_seq ?_
  refine T_region [] [ks 1, ks 6, ks 8, kb 24, kb 25] (fun _ => mixed) (l' := [ps 1 (.ssl (ints l) 0 l.length), ps 6 (.opt 24 0), ps 8 (.av (.slice none 0 0)), pb 24 49 [(.osl 25 0 n), (iv 0), (iv 0)], pb 25 3 (ints (List.replicate n 0))]) (obs := []) (by kernel_rfl) (obs_nil) ?_
  refine T_seq ?_
  refine T_seq ?_
  refine T_region [] [ks 6, ks 8, ks 20, ks 21, ks 22, kb 24, kb 25] (fun _ => mixed) (l' := [ps 6 (.opt 24 0), ps 8 (.av (.slice none 0 0)), ps 20 (.ssl (ints l) 0 l.length), ps 21 (iv ((l.length : Nat) : Int)), ps 22 (iv 0), pb 24 49 [(.osl 25 0 n), (iv 0), (iv 0)], pb 25 3 (ints (List.replicate n 0))]) (obs := []) (by kernel_rfl) (obs_nil) ?_
  refine T_block ?_
  refine T_wk (Wk.nil (s := 8) 31 (by kernel_rfl)) ?_
  refine T_wk (Wk.less (l' := [ps 6 (.opt 24 0), ps 8 (.osl 120 0 0), ps 20 (.ssl (ints l) 0 l.length), ps 21 (iv ((l.length : Nat) : Int)), ps 22 (iv 0), pb 24 49 [(.osl 25 0 n), (iv 0), (iv 0)], pb 25 3 (ints (List.replicate n 0)), pb 120 31 []]) 121 (by kernel_rfl) (by kernel_rfl)) ?_
  refine T_wk (Wk.eq (show [ps 6 (.opt 24 0), ps 8 (.osl 120 0 0), ps 20 (.ssl (ints l) 0 l.length), ps 21 (iv ((l.length : Nat) : Int)), ps 22 (iv 0), pb 24 49 [(.osl 25 0 n), (iv 0), (iv 0)], pb 25 3 (ints (List.replicate n 0)), pb 120 31 []] = [ps 6 (.opt 24 0), ps 8 (.osl 120 0 (([] : List Tu).length)), ps 20 (.ssl (ints l) 0 l.length), ps 21 (iv ((l.length : Nat) : Int)), ps 22 (iv 0), pb 24 49 [(.osl 25 0 ((((List.replicate n 0, 0, 0) : RS)).1.length)), (iv (((((List.replicate n 0, 0, 0) : RS)).2.1 : Nat) : Int)), (iv (((((List.replicate n 0, 0, 0) : RS)).2.2 : Nat) : Int))], pb 25 3 (ints ((((List.replicate n 0, 0, 0) : RS)).1)), pb 120 31 (tus [])] from by rw [show (((List.replicate n 0, 0, 0) : RS)).1.length = n from by simp]; rfl)) ?_
  refine T_loop (α := {x : Nat × RS × List Int × List Tu // x.1 ≤ l.length ∧ x.2.2.2 ++ runR x.2.1 (l.drop x.1) = runR (List.replicate n 0, 0, 0) l ∧ Held x.2.1 x.2.2.1 ∧ x.2.1.1.length = n ∧ x.2.1.2.1 ≤ x.1 ∧ x.2.2.2.length = x.1}) (fun x => [ps 6 (.opt 0 0), ps 8 (.osl 2 0 x.1.2.2.2.length), ps 20 (.ssl (ints l) 0 l.length), ps 21 (iv ((l.length : Nat) : Int)), ps 22 (iv ((x.1.1 : Nat) : Int)), pb 0 49 [(.osl 1 0 x.1.2.1.1.length), (iv ((x.1.2.1.2.1 : Nat) : Int)), (iv ((x.1.2.1.2.2 : Nat) : Int))], pb 1 3 (ints x.1.2.1.1), pb 2 31 (tus x.1.2.2.2)]) (fun x => l.length - x.1.1) 3 ⟨(0, (List.replicate n 0, 0, 0), [], []), ⟨Nat.zero_le _, rfl, held0 n hn1, by simp, Nat.le_refl _, rfl⟩⟩ (Wk.ren3 [ps 6 (.opt 0 0), ps 8 (.osl 2 0 [].length), ps 20 (.ssl (ints l) 0 l.length), ps 21 (iv ((l.length : Nat) : Int)), ps 22 (iv ((0 : Nat) : Int)), pb 0 49 [(.osl 1 0 ((List.replicate n 0, 0, 0) : RS).1.length), (iv ((((List.replicate n 0, 0, 0) : RS).2.1 : Nat) : Int)), (iv ((((List.replicate n 0, 0, 0) : RS).2.2 : Nat) : Int))], pb 1 3 (ints ((List.replicate n 0, 0, 0) : RS).1), pb 2 31 (tus [])] 0 hc0 [24, 25, 120] [(kb 1, (ints ((List.replicate n 0, 0, 0) : RS).1)), (kb 2, (tus []))] (obs_cons (ints_shd _) (obs_cons (tus_shd _) (obs_nil))) (by kernel_rfl) rfl rfl (by kernel_rfl) (by kernel_rfl)) ?_
  rintro ⟨⟨i, s, L, A⟩, ⟨hi, hA, hH, hn, hp, hAl⟩⟩
  dsimp only at hi hA hH hn hp hAl
  refine T_seq ?_
  refine T_region [] [ks 6, ks 8, ks 20, ks 21, ks 22, ks 23, kb 0, kb 1, kb 2] (fun _ => mixed) (l' := [ps 6 (.opt 0 0), ps 8 (.osl 2 0 A.length), ps 20 (.ssl (ints l) 0 l.length), ps 21 (iv ((l.length : Nat) : Int)), ps 22 (iv ((i : Nat) : Int)), ps 23 (bv (decide (((i : Nat) : Int) < ((l.length : Nat) : Int)))), pb 0 49 [(.osl 1 0 s.1.length), (iv ((s.2.1 : Nat) : Int)), (iv ((s.2.2 : Nat) : Int))], pb 1 3 (ints s.1), pb 2 31 (tus A)]) (obs := []) (by kernel_rfl) (obs_nil) ?_
  refine T_seq ?_
  by_cases h1 : ((i : Nat) : Int) < ((l.length : Nat) : Int)
  · refine T_then (b := (decide (((i : Nat) : Int) < ((l.length : Nat) : Int)))) rfl (decide_eq_true h1) ?_
    refine T_skip ?_
    refine T_seq ?_
    refine T_block ?_
    refine T_seq ?_
    have hst := held_step hH (l.getD i 0)
    refine T_region [(0, .nat i), (1, .val (iv (l.getD i 0)))] [ks 6, ks 8, ks 10, ks 20, ks 21, ks 22, kb 0, kb 1, kb 2] (fun _ => mixed) (l' := [ps 6 (.opt 0 0), ps 8 (.osl 2 0 A.length), ps 10 (iv (l.getD i 0)), ps 20 (.ssl (ints l) 0 l.length), ps 21 (iv ((l.length : Nat) : Int)), ps 22 (iv ((i : Nat) : Int)), pb 0 49 [(.osl 1 0 s.1.length), (iv ((s.2.1 : Nat) : Int)), (iv ((s.2.2 : Nat) : Int))], pb 1 3 (ints s.1), pb 2 31 (tus A)]) (obs := [(0 : Int) ≤ ((i : Nat) : Int) ∧ ((i : Nat) : Int) < ((l.length : Nat) : Int), 0 + (((i : Nat) : Int) : Int).toNat * 1 = i, i + 1 ≤ ((ints l)).length ∧ (((ints l)).drop i).take 1 = [(iv (l.getD i 0))]]) (by kernel_rfl) (obs_cons (p := (0 : Int) ≤ ((i : Nat) : Int) ∧ ((i : Nat) : Int) < ((l.length : Nat) : Int)) (by omega) (obs_cons (p := 0 + (((i : Nat) : Int) : Int).toNat * 1 = i) (by omega) (obs_cons (p := i + 1 ≤ ((ints l)).length ∧ (((ints l)).drop i).take 1 = [(iv (l.getD i 0))]) (ints_at (by omega)) (obs_nil)))) ?_
    refine T_seq ?_
    refine T_region [] [ks 6, ks 8, ks 10, ks 11, ks 20, ks 21, ks 22, kb 0, kb 1, kb 2, kb 35] (fun _ => mixed) (l' := [ps 6 (.opt 0 0), ps 8 (.osl 2 0 A.length), ps 10 (iv (l.getD i 0)), ps 11 (.opt 35 0), ps 20 (.ssl (ints l) 0 l.length), ps 21 (iv ((l.length : Nat) : Int)), ps 22 (iv ((i : Nat) : Int)), pb 0 49 [(.osl 1 0 s.1.length), (iv ((s.2.1 : Nat) : Int)), (iv ((s.2.2 : Nat) : Int))], pb 1 3 (ints s.1), pb 2 31 (tus A), pb 35 31 [(iv 0), (bv false), (iv 0)]]) (obs := []) (by kernel_rfl) (obs_nil) ?_
    refine T_seq ?_
    refine T_seq ?_
    refine T_region [] [ks 6, ks 8, ks 10, ks 11, ks 20, ks 21, ks 22, ks 27, kb 0, kb 1, kb 2, kb 35] (fun _ => mixed) (l' := [ps 6 (.opt 0 0), ps 8 (.osl 2 0 A.length), ps 10 (iv (l.getD i 0)), ps 11 (.opt 35 0), ps 20 (.ssl (ints l) 0 l.length), ps 21 (iv ((l.length : Nat) : Int)), ps 22 (iv ((i : Nat) : Int)), ps 27 (bv (decide (0 ≤ (l.getD i 0)))), pb 0 49 [(.osl 1 0 s.1.length), (iv ((s.2.1 : Nat) : Int)), (iv ((s.2.2 : Nat) : Int))], pb 1 3 (ints s.1), pb 2 31 (tus A), pb 35 31 [(iv 0), (bv false), (iv 0)]]) (obs := []) (by kernel_rfl) (obs_nil) ?_
    by_cases h2 : 0 ≤ (l.getD i 0)
    · refine T_then (b := (decide (0 ≤ (l.getD i 0)))) rfl (decide_eq_true h2) ?_
      refine T_region [(2, .call [0, 1] [(.opt 0 0), (iv (l.getD i 0))] [some (49, [(.osl 1 0 s.1.length), (iv ((s.2.1 : Nat) : Int)), (iv ((s.2.2 : Nat) : Int))]), some (3, (ints s.1))] (bv (stepR s (l.getD i 0)).2.2) [some (49, [(.osl 1 0 (((stepR s (l.getD i 0)).1).1.length)), (iv ((((stepR s (l.getD i 0)).1).2.1 : Nat) : Int)), (iv ((((stepR s (l.getD i 0)).1).2.2 : Nat) : Int))]), some (3, (ints (((stepR s (l.getD i 0)).1).1)))])] [ks 6, ks 8, ks 11, ks 20, ks 21, ks 22, kb 0, kb 1, kb 2, kb 35] (fun _ => mixed) (l' := [ps 6 (.opt 0 0), ps 8 (.osl 2 0 A.length), ps 11 (.opt 35 0), ps 20 (.ssl (ints l) 0 l.length), ps 21 (iv ((l.length : Nat) : Int)), ps 22 (iv ((i : Nat) : Int)), pb 0 49 [(.osl 1 0 (((stepR s (l.getD i 0)).1).1.length)), (iv ((((stepR s (l.getD i 0)).1).2.1 : Nat) : Int)), (iv ((((stepR s (l.getD i 0)).1).2.2 : Nat) : Int))], pb 1 3 (renL (sigo [0, 1] 75) (ints (((stepR s (l.getD i 0)).1).1))), pb 2 31 (tus A), pb 35 31 [(iv 0), (bv (stepR s (l.getD i 0)).2.2), (iv 0)]]) (obs := [PC Try.prog 10 [(.opt 0 0), (iv (l.getD i 0))] [some (49, [(.osl 1 0 s.1.length), (iv ((s.2.1 : Nat) : Int)), (iv ((s.2.2 : Nat) : Int))]), some (3, (ints s.1))] (bv (stepR s (l.getD i 0)).2.2) [some (49, [(.osl 1 0 (((stepR s (l.getD i 0)).1).1.length)), (iv ((((stepR s (l.getD i 0)).1).2.1 : Nat) : Int)), (iv ((((stepR s (l.getD i 0)).1).2.2 : Nat) : Int))]), some (3, (ints (((stepR s (l.getD i 0)).1).1)))], [(.opt 0 0), (iv (l.getD i 0))] = renL (sigi [0, 1] 75) [(.opt 0 0), (iv (l.getD i 0))], [(.osl 1 0 s.1.length), (iv ((s.2.1 : Nat) : Int)), (iv ((s.2.2 : Nat) : Int))] = renL (sigi [0, 1] 75) [(.osl 1 0 s.1.length), (iv ((s.2.1 : Nat) : Int)), (iv ((s.2.2 : Nat) : Int))], (ints s.1) = renL (sigi [0, 1] 75) (ints s.1)]) (by kernel_rfl) (obs_cons (p := PC Try.prog 10 [(.opt 0 0), (iv (l.getD i 0))] [some (49, [(.osl 1 0 s.1.length), (iv ((s.2.1 : Nat) : Int)), (iv ((s.2.2 : Nat) : Int))]), some (3, (ints s.1))] (bv (stepR s (l.getD i 0)).2.2) [some (49, [(.osl 1 0 (((stepR s (l.getD i 0)).1).1.length)), (iv ((((stepR s (l.getD i 0)).1).2.1 : Nat) : Int)), (iv ((((stepR s (l.getD i 0)).1).2.2 : Nat) : Int))]), some (3, (ints (((stepR s (l.getD i 0)).1).1)))]) (push_pc s ⟨_, hH⟩ (by omega) (l.getD i 0) h2) (obs_cons (p := [(.opt 0 0), (iv (l.getD i 0))] = renL (sigi [0, 1] 75) [(.opt 0 0), (iv (l.getD i 0))]) rfl (obs_cons (p := [(.osl 1 0 s.1.length), (iv ((s.2.1 : Nat) : Int)), (iv ((s.2.2 : Nat) : Int))] = renL (sigi [0, 1] 75) [(.osl 1 0 s.1.length), (iv ((s.2.1 : Nat) : Int)), (iv ((s.2.2 : Nat) : Int))]) rfl (obs_cons (p := (ints s.1) = renL (sigi [0, 1] 75) (ints s.1)) (renL_shd (ints_shd _)).symm (obs_nil))))) ?_
      refine T_wk (Wk.eq (show [ps 6 (.opt 0 0), ps 8 (.osl 2 0 A.length), ps 11 (.opt 35 0), ps 20 (.ssl (ints l) 0 l.length), ps 21 (iv ((l.length : Nat) : Int)), ps 22 (iv ((i : Nat) : Int)), pb 0 49 [(.osl 1 0 (((stepR s (l.getD i 0)).1).1.length)), (iv ((((stepR s (l.getD i 0)).1).2.1 : Nat) : Int)), (iv ((((stepR s (l.getD i 0)).1).2.2 : Nat) : Int))], pb 1 3 (renL (sigo [0, 1] 75) (ints (((stepR s (l.getD i 0)).1).1))), pb 2 31 (tus A), pb 35 31 [(iv 0), (bv (stepR s (l.getD i 0)).2.2), (iv 0)]] = [ps 6 (.opt 0 0), ps 8 (.osl 2 0 A.length), ps 11 (.opt 35 0), ps 20 (.ssl (ints l) 0 l.length), ps 21 (iv ((l.length : Nat) : Int)), ps 22 (iv ((i : Nat) : Int)), pb 0 49 [(.osl 1 0 (((stepR s (l.getD i 0)).1).1.length)), (iv ((((stepR s (l.getD i 0)).1).2.1 : Nat) : Int)), (iv ((((stepR s (l.getD i 0)).1).2.2 : Nat) : Int))], pb 1 3 (ints (((stepR s (l.getD i 0)).1).1)), pb 2 31 (tus A), pb 35 31 [(iv 0), (bv (stepR s (l.getD i 0)).2.2), (iv 0)]] from by simp only [renL_shd (ints_shd _)])) ?_
      refine T_seq ?_
      refine T_region [(1, .callR [0, 1] [(.opt 0 0)] [some (49, [(.osl 1 0 (((stepR s (l.getD i 0)).1).1.length)), (iv ((((stepR s (l.getD i 0)).1).2.1 : Nat) : Int)), (iv ((((stepR s (l.getD i 0)).1).2.2 : Nat) : Int))]), some (3, (ints (((stepR s (l.getD i 0)).1).1)))] (iv ((((stepR s (l.getD i 0)).1.2.1 : Nat) : Int) - (((stepR s (l.getD i 0)).1.2.2 : Nat) : Int))))] [ks 6, ks 8, ks 11, ks 20, ks 21, ks 22, kb 0, kb 1, kb 2, kb 35] (fun _ => mixed) (l' := [ps 6 (.opt 0 0), ps 8 (.osl 2 0 A.length), ps 11 (.opt 35 0), ps 20 (.ssl (ints l) 0 l.length), ps 21 (iv ((l.length : Nat) : Int)), ps 22 (iv ((i : Nat) : Int)), pb 0 49 [(.osl 1 0 (((stepR s (l.getD i 0)).1).1.length)), (iv ((((stepR s (l.getD i 0)).1).2.1 : Nat) : Int)), (iv ((((stepR s (l.getD i 0)).1).2.2 : Nat) : Int))], pb 1 3 (ints (((stepR s (l.getD i 0)).1).1)), pb 2 31 (tus A), pb 35 31 [(iv 0), (bv (stepR s (l.getD i 0)).2.2), (iv ((((stepR s (l.getD i 0)).1.2.1 : Nat) : Int) - (((stepR s (l.getD i 0)).1.2.2 : Nat) : Int)))]]) (obs := [PC Try.prog 12 [(.opt 0 0)] [some (49, [(.osl 1 0 (((stepR s (l.getD i 0)).1).1.length)), (iv ((((stepR s (l.getD i 0)).1).2.1 : Nat) : Int)), (iv ((((stepR s (l.getD i 0)).1).2.2 : Nat) : Int))]), some (3, (ints (((stepR s (l.getD i 0)).1).1)))] (iv ((((stepR s (l.getD i 0)).1.2.1 : Nat) : Int) - (((stepR s (l.getD i 0)).1.2.2 : Nat) : Int))) [some (49, [(.osl 1 0 (((stepR s (l.getD i 0)).1).1.length)), (iv ((((stepR s (l.getD i 0)).1).2.1 : Nat) : Int)), (iv ((((stepR s (l.getD i 0)).1).2.2 : Nat) : Int))]), some (3, (ints (((stepR s (l.getD i 0)).1).1)))], [(.opt 0 0)] = renL (sigi [0, 1] 107) [(.opt 0 0)], [(.osl 1 0 (((stepR s (l.getD i 0)).1).1.length)), (iv ((((stepR s (l.getD i 0)).1).2.1 : Nat) : Int)), (iv ((((stepR s (l.getD i 0)).1).2.2 : Nat) : Int))] = renL (sigi [0, 1] 107) [(.osl 1 0 (((stepR s (l.getD i 0)).1).1.length)), (iv ((((stepR s (l.getD i 0)).1).2.1 : Nat) : Int)), (iv ((((stepR s (l.getD i 0)).1).2.2 : Nat) : Int))], (ints (((stepR s (l.getD i 0)).1).1)) = renL (sigi [0, 1] 107) (ints (((stepR s (l.getD i 0)).1).1)), [(.osl 1 0 (((stepR s (l.getD i 0)).1).1.length)), (iv ((((stepR s (l.getD i 0)).1).2.1 : Nat) : Int)), (iv ((((stepR s (l.getD i 0)).1).2.2 : Nat) : Int))] = renL (sigo [0, 1] 107) [(.osl 1 0 (((stepR s (l.getD i 0)).1).1.length)), (iv ((((stepR s (l.getD i 0)).1).2.1 : Nat) : Int)), (iv ((((stepR s (l.getD i 0)).1).2.2 : Nat) : Int))], (ints (((stepR s (l.getD i 0)).1).1)) = renL (sigo [0, 1] 107) (ints (((stepR s (l.getD i 0)).1).1))]) (by kernel_rfl) (obs_cons (p := PC Try.prog 12 [(.opt 0 0)] [some (49, [(.osl 1 0 (((stepR s (l.getD i 0)).1).1.length)), (iv ((((stepR s (l.getD i 0)).1).2.1 : Nat) : Int)), (iv ((((stepR s (l.getD i 0)).1).2.2 : Nat) : Int))]), some (3, (ints (((stepR s (l.getD i 0)).1).1)))] (iv ((((stepR s (l.getD i 0)).1.2.1 : Nat) : Int) - (((stepR s (l.getD i 0)).1.2.2 : Nat) : Int))) [some (49, [(.osl 1 0 (((stepR s (l.getD i 0)).1).1.length)), (iv ((((stepR s (l.getD i 0)).1).2.1 : Nat) : Int)), (iv ((((stepR s (l.getD i 0)).1).2.2 : Nat) : Int))]), some (3, (ints (((stepR s (l.getD i 0)).1).1)))]) (len_pc (stepR s (l.getD i 0)).1 ⟨_, hst.1⟩ (by omega)) (obs_cons (p := [(.opt 0 0)] = renL (sigi [0, 1] 107) [(.opt 0 0)]) rfl (obs_cons (p := [(.osl 1 0 (((stepR s (l.getD i 0)).1).1.length)), (iv ((((stepR s (l.getD i 0)).1).2.1 : Nat) : Int)), (iv ((((stepR s (l.getD i 0)).1).2.2 : Nat) : Int))] = renL (sigi [0, 1] 107) [(.osl 1 0 (((stepR s (l.getD i 0)).1).1.length)), (iv ((((stepR s (l.getD i 0)).1).2.1 : Nat) : Int)), (iv ((((stepR s (l.getD i 0)).1).2.2 : Nat) : Int))]) rfl (obs_cons (p := (ints (((stepR s (l.getD i 0)).1).1)) = renL (sigi [0, 1] 107) (ints (((stepR s (l.getD i 0)).1).1))) (renL_shd (ints_shd _)).symm (obs_cons (p := [(.osl 1 0 (((stepR s (l.getD i 0)).1).1.length)), (iv ((((stepR s (l.getD i 0)).1).2.1 : Nat) : Int)), (iv ((((stepR s (l.getD i 0)).1).2.2 : Nat) : Int))] = renL (sigo [0, 1] 107) [(.osl 1 0 (((stepR s (l.getD i 0)).1).1.length)), (iv ((((stepR s (l.getD i 0)).1).2.1 : Nat) : Int)), (iv ((((stepR s (l.getD i 0)).1).2.2 : Nat) : Int))]) rfl (obs_cons (p := (ints (((stepR s (l.getD i 0)).1).1)) = renL (sigo [0, 1] 107) (ints (((stepR s (l.getD i 0)).1).1))) (renL_shd (ints_shd _)).symm (obs_nil))))))) ?_
      refine T_region [(3, .app none (some (tus (A ++ [(0, (stepR s (l.getD i 0)).2.2, ((((stepR s (l.getD i 0)).1.2.1 : Nat) : Int) - (((stepR s (l.getD i 0)).1.2.2 : Nat) : Int)))]))))] [ks 6, ks 8, ks 20, ks 21, ks 22, kb 0, kb 1, kb 155] (fun _ => mixed) (l' := [ps 6 (.opt 0 0), ps 8 (.osl 155 0 (A.length + 1)), ps 20 (.ssl (ints l) 0 l.length), ps 21 (iv ((l.length : Nat) : Int)), ps 22 (iv ((i : Nat) : Int)), pb 0 49 [(.osl 1 0 (((stepR s (l.getD i 0)).1).1.length)), (iv ((((stepR s (l.getD i 0)).1).2.1 : Nat) : Int)), (iv ((((stepR s (l.getD i 0)).1).2.2 : Nat) : Int))], pb 1 3 (ints (((stepR s (l.getD i 0)).1).1)), pb 155 31 (tus (A ++ [(0, (stepR s (l.getD i 0)).2.2, ((((stepR s (l.getD i 0)).1.2.1 : Nat) : Int) - (((stepR s (l.getD i 0)).1.2.2 : Nat) : Int)))]))]) (obs := [((tus A)).length = A.length * 3, (A.length + 1) * 24 ≤ 140737488355328 ∧ A.length + 1 ≤ 9223372036854775807, (tus A) ++ [(iv 0), (bv (stepR s (l.getD i 0)).2.2), (iv ((((stepR s (l.getD i 0)).1.2.1 : Nat) : Int) - (((stepR s (l.getD i 0)).1.2.2 : Nat) : Int)))] = (tus (A ++ [(0, (stepR s (l.getD i 0)).2.2, ((((stepR s (l.getD i 0)).1.2.1 : Nat) : Int) - (((stepR s (l.getD i 0)).1.2.2 : Nat) : Int)))]))]) (by kernel_rfl) (obs_cons (p := ((tus A)).length = A.length * 3) (tus_len _) (obs_cons (p := (A.length + 1) * 24 ≤ 140737488355328 ∧ A.length + 1 ≤ 9223372036854775807) (by omega) (obs_cons (p := (tus A) ++ [(iv 0), (bv (stepR s (l.getD i 0)).2.2), (iv ((((stepR s (l.getD i 0)).1.2.1 : Nat) : Int) - (((stepR s (l.getD i 0)).1.2.2 : Nat) : Int)))] = (tus (A ++ [(0, (stepR s (l.getD i 0)).2.2, ((((stepR s (l.getD i 0)).1.2.1 : Nat) : Int) - (((stepR s (l.getD i 0)).1.2.2 : Nat) : Int)))]))) (flat_app tuC A [(0, (stepR s (l.getD i 0)).2.2, ((((stepR s (l.getD i 0)).1.2.1 : Nat) : Int) - (((stepR s (l.getD i 0)).1.2.2 : Nat) : Int)))]).symm (obs_nil)))) ?_
      refine T_blk ?_
      refine T_region [] [ks 6, ks 8, ks 20, ks 21, ks 22, kb 0, kb 1, kb 155] (fun _ => mixed) (l' := [ps 6 (.opt 0 0), ps 8 (.osl 155 0 (A.length + 1)), ps 20 (.ssl (ints l) 0 l.length), ps 21 (iv ((l.length : Nat) : Int)), ps 22 (iv (((i : Nat) : Int) + 1)), pb 0 49 [(.osl 1 0 (((stepR s (l.getD i 0)).1).1.length)), (iv ((((stepR s (l.getD i 0)).1).2.1 : Nat) : Int)), (iv ((((stepR s (l.getD i 0)).1).2.2 : Nat) : Int))], pb 1 3 (ints (((stepR s (l.getD i 0)).1).1)), pb 155 31 (tus (A ++ [(0, (stepR s (l.getD i 0)).2.2, ((((stepR s (l.getD i 0)).1.2.1 : Nat) : Int) - (((stepR s (l.getD i 0)).1.2.2 : Nat) : Int)))]))]) (obs := [InK .i64 (((i : Nat) : Int) + 1)]) (by kernel_rfl) (obs_cons (p := InK .i64 (((i : Nat) : Int) + 1)) (by simp only [InK]; omega) (obs_nil)) ?_
      have hz : (stepR s (l.getD i 0)).2.1 = 0 := by unfold stepR; rw [if_pos h2]; split <;> rfl
      exact T_back ⟨(i + 1, (stepR s (l.getD i 0)).1, (turnS s.1.length L (l.getD i 0)).1, (A ++ [tellR s (l.getD i 0)])), ⟨by omega, runR_next (by omega) hA, hst.1, hst.2.2.1.trans hn, by have := hst.2.2.2; show ((stepR s (l.getD i 0)).1).2.1 ≤ i + 1; omega, by show (A ++ [_]).length = i + 1; rw [snoc_len]; omega⟩⟩ (Wk.trans (Wk.eq (show [ps 6 (.opt 0 0), ps 8 (.osl 155 0 (A.length + 1)), ps 20 (.ssl (ints l) 0 l.length), ps 21 (iv ((l.length : Nat) : Int)), ps 22 (iv (((i : Nat) : Int) + 1)), pb 0 49 [(.osl 1 0 (((stepR s (l.getD i 0)).1).1.length)), (iv ((((stepR s (l.getD i 0)).1).2.1 : Nat) : Int)), (iv ((((stepR s (l.getD i 0)).1).2.2 : Nat) : Int))], pb 1 3 (ints (((stepR s (l.getD i 0)).1).1)), pb 155 31 (tus (A ++ [(0, (stepR s (l.getD i 0)).2.2, ((((stepR s (l.getD i 0)).1.2.1 : Nat) : Int) - (((stepR s (l.getD i 0)).1.2.2 : Nat) : Int)))]))] = [ps 6 (.opt 0 0), ps 8 (.osl 155 0 ((A ++ [tellR s (l.getD i 0)]).length)), ps 20 (.ssl (ints l) 0 l.length), ps 21 (iv ((l.length : Nat) : Int)), ps 22 (iv (((i : Nat) : Int) + 1)), pb 0 49 [(.osl 1 0 (((stepR s (l.getD i 0)).1).1.length)), (iv ((((stepR s (l.getD i 0)).1).2.1 : Nat) : Int)), (iv ((((stepR s (l.getD i 0)).1).2.2 : Nat) : Int))], pb 1 3 (ints (((stepR s (l.getD i 0)).1).1)), pb 155 31 (tus (A ++ [tellR s (l.getD i 0)]))] from by rw [snoc_len, show tellR s (l.getD i 0) = (0, (stepR s (l.getD i 0)).2.2, (((stepR s (l.getD i 0)).1.2.1 : Nat) : Int) - (((stepR s (l.getD i 0)).1.2.2 : Nat) : Int)) from by unfold tellR; rw [hz]])) (Wk.ren3 [ps 6 (.opt 0 0), ps 8 (.osl 2 0 (A ++ [tellR s (l.getD i 0)]).length), ps 20 (.ssl (ints l) 0 l.length), ps 21 (iv ((l.length : Nat) : Int)), ps 22 (iv (((i + 1) : Nat) : Int)), pb 0 49 [(.osl 1 0 ((stepR s (l.getD i 0)).1).1.length), (iv ((((stepR s (l.getD i 0)).1).2.1 : Nat) : Int)), (iv ((((stepR s (l.getD i 0)).1).2.2 : Nat) : Int))], pb 1 3 (ints ((stepR s (l.getD i 0)).1).1), pb 2 31 (tus (A ++ [tellR s (l.getD i 0)]))] 0 hc0 [0, 1, 155] [(kb 1, (ints ((stepR s (l.getD i 0)).1).1)), (kb 2, (tus (A ++ [tellR s (l.getD i 0)])))] (obs_cons (ints_shd _) (obs_cons (tus_shd _) (obs_nil))) (by kernel_rfl) rfl rfl (by kernel_rfl) (by kernel_rfl))) (show l.length - (i + 1) < l.length - i from by show l.length - (i + 1) < l.length - i; omega)
    · refine T_else (b := (decide (0 ≤ (l.getD i 0)))) rfl (decide_eq_false h2) ?_
      refine T_region [(1, .call [0, 1] [(.opt 0 0)] [some (49, [(.osl 1 0 s.1.length), (iv ((s.2.1 : Nat) : Int)), (iv ((s.2.2 : Nat) : Int))]), some (3, (ints s.1))] (.tup [(iv ((stepR s (l.getD i 0)).2.1)), (bv (stepR s (l.getD i 0)).2.2)]) [some (49, [(.osl 1 0 (((stepR s (l.getD i 0)).1).1.length)), (iv ((((stepR s (l.getD i 0)).1).2.1 : Nat) : Int)), (iv ((((stepR s (l.getD i 0)).1).2.2 : Nat) : Int))]), some (3, (ints (((stepR s (l.getD i 0)).1).1)))])] [ks 6, ks 8, ks 11, ks 20, ks 21, ks 22, kb 0, kb 1, kb 2, kb 35] (fun _ => mixed) (l' := [ps 6 (.opt 0 0), ps 8 (.osl 2 0 A.length), ps 11 (.opt 35 0), ps 20 (.ssl (ints l) 0 l.length), ps 21 (iv ((l.length : Nat) : Int)), ps 22 (iv ((i : Nat) : Int)), pb 0 49 [(.osl 1 0 (((stepR s (l.getD i 0)).1).1.length)), (iv ((((stepR s (l.getD i 0)).1).2.1 : Nat) : Int)), (iv ((((stepR s (l.getD i 0)).1).2.2 : Nat) : Int))], pb 1 3 (renL (sigo [0, 1] 67) (ints (((stepR s (l.getD i 0)).1).1))), pb 2 31 (tus A), pb 35 31 [(iv ((stepR s (l.getD i 0)).2.1)), (bv (stepR s (l.getD i 0)).2.2), (iv 0)]]) (obs := [PC Try.prog 11 [(.opt 0 0)] [some (49, [(.osl 1 0 s.1.length), (iv ((s.2.1 : Nat) : Int)), (iv ((s.2.2 : Nat) : Int))]), some (3, (ints s.1))] (.tup [(iv ((stepR s (l.getD i 0)).2.1)), (bv (stepR s (l.getD i 0)).2.2)]) [some (49, [(.osl 1 0 (((stepR s (l.getD i 0)).1).1.length)), (iv ((((stepR s (l.getD i 0)).1).2.1 : Nat) : Int)), (iv ((((stepR s (l.getD i 0)).1).2.2 : Nat) : Int))]), some (3, (ints (((stepR s (l.getD i 0)).1).1)))], [(.opt 0 0)] = renL (sigi [0, 1] 67) [(.opt 0 0)], [(.osl 1 0 s.1.length), (iv ((s.2.1 : Nat) : Int)), (iv ((s.2.2 : Nat) : Int))] = renL (sigi [0, 1] 67) [(.osl 1 0 s.1.length), (iv ((s.2.1 : Nat) : Int)), (iv ((s.2.2 : Nat) : Int))], (ints s.1) = renL (sigi [0, 1] 67) (ints s.1)]) (by kernel_rfl) (obs_cons (p := PC Try.prog 11 [(.opt 0 0)] [some (49, [(.osl 1 0 s.1.length), (iv ((s.2.1 : Nat) : Int)), (iv ((s.2.2 : Nat) : Int))]), some (3, (ints s.1))] (.tup [(iv ((stepR s (l.getD i 0)).2.1)), (bv (stepR s (l.getD i 0)).2.2)]) [some (49, [(.osl 1 0 (((stepR s (l.getD i 0)).1).1.length)), (iv ((((stepR s (l.getD i 0)).1).2.1 : Nat) : Int)), (iv ((((stepR s (l.getD i 0)).1).2.2 : Nat) : Int))]), some (3, (ints (((stepR s (l.getD i 0)).1).1)))]) (pop_pc s ⟨_, hH⟩ (by omega) (l.getD i 0) h2) (obs_cons (p := [(.opt 0 0)] = renL (sigi [0, 1] 67) [(.opt 0 0)]) rfl (obs_cons (p := [(.osl 1 0 s.1.length), (iv ((s.2.1 : Nat) : Int)), (iv ((s.2.2 : Nat) : Int))] = renL (sigi [0, 1] 67) [(.osl 1 0 s.1.length), (iv ((s.2.1 : Nat) : Int)), (iv ((s.2.2 : Nat) : Int))]) rfl (obs_cons (p := (ints s.1) = renL (sigi [0, 1] 67) (ints s.1)) (renL_shd (ints_shd _)).symm (obs_nil))))) ?_
      refine T_wk (Wk.eq (show [ps 6 (.opt 0 0), ps 8 (.osl 2 0 A.length), ps 11 (.opt 35 0), ps 20 (.ssl (ints l) 0 l.length), ps 21 (iv ((l.length : Nat) : Int)), ps 22 (iv ((i : Nat) : Int)), pb 0 49 [(.osl 1 0 (((stepR s (l.getD i 0)).1).1.length)), (iv ((((stepR s (l.getD i 0)).1).2.1 : Nat) : Int)), (iv ((((stepR s (l.getD i 0)).1).2.2 : Nat) : Int))], pb 1 3 (renL (sigo [0, 1] 67) (ints (((stepR s (l.getD i 0)).1).1))), pb 2 31 (tus A), pb 35 31 [(iv ((stepR s (l.getD i 0)).2.1)), (bv (stepR s (l.getD i 0)).2.2), (iv 0)]] = [ps 6 (.opt 0 0), ps 8 (.osl 2 0 A.length), ps 11 (.opt 35 0), ps 20 (.ssl (ints l) 0 l.length), ps 21 (iv ((l.length : Nat) : Int)), ps 22 (iv ((i : Nat) : Int)), pb 0 49 [(.osl 1 0 (((stepR s (l.getD i 0)).1).1.length)), (iv ((((stepR s (l.getD i 0)).1).2.1 : Nat) : Int)), (iv ((((stepR s (l.getD i 0)).1).2.2 : Nat) : Int))], pb 1 3 (ints (((stepR s (l.getD i 0)).1).1)), pb 2 31 (tus A), pb 35 31 [(iv ((stepR s (l.getD i 0)).2.1)), (bv (stepR s (l.getD i 0)).2.2), (iv 0)]] from by simp only [renL_shd (ints_shd _)])) ?_
      refine T_seq ?_
      refine T_region [(1, .callR [0, 1] [(.opt 0 0)] [some (49, [(.osl 1 0 (((stepR s (l.getD i 0)).1).1.length)), (iv ((((stepR s (l.getD i 0)).1).2.1 : Nat) : Int)), (iv ((((stepR s (l.getD i 0)).1).2.2 : Nat) : Int))]), some (3, (ints (((stepR s (l.getD i 0)).1).1)))] (iv ((((stepR s (l.getD i 0)).1.2.1 : Nat) : Int) - (((stepR s (l.getD i 0)).1.2.2 : Nat) : Int))))] [ks 6, ks 8, ks 11, ks 20, ks 21, ks 22, kb 0, kb 1, kb 2, kb 35] (fun _ => mixed) (l' := [ps 6 (.opt 0 0), ps 8 (.osl 2 0 A.length), ps 11 (.opt 35 0), ps 20 (.ssl (ints l) 0 l.length), ps 21 (iv ((l.length : Nat) : Int)), ps 22 (iv ((i : Nat) : Int)), pb 0 49 [(.osl 1 0 (((stepR s (l.getD i 0)).1).1.length)), (iv ((((stepR s (l.getD i 0)).1).2.1 : Nat) : Int)), (iv ((((stepR s (l.getD i 0)).1).2.2 : Nat) : Int))], pb 1 3 (ints (((stepR s (l.getD i 0)).1).1)), pb 2 31 (tus A), pb 35 31 [(iv ((stepR s (l.getD i 0)).2.1)), (bv (stepR s (l.getD i 0)).2.2), (iv ((((stepR s (l.getD i 0)).1.2.1 : Nat) : Int) - (((stepR s (l.getD i 0)).1.2.2 : Nat) : Int)))]]) (obs := [PC Try.prog 12 [(.opt 0 0)] [some (49, [(.osl 1 0 (((stepR s (l.getD i 0)).1).1.length)), (iv ((((stepR s (l.getD i 0)).1).2.1 : Nat) : Int)), (iv ((((stepR s (l.getD i 0)).1).2.2 : Nat) : Int))]), some (3, (ints (((stepR s (l.getD i 0)).1).1)))] (iv ((((stepR s (l.getD i 0)).1.2.1 : Nat) : Int) - (((stepR s (l.getD i 0)).1.2.2 : Nat) : Int))) [some (49, [(.osl 1 0 (((stepR s (l.getD i 0)).1).1.length)), (iv ((((stepR s (l.getD i 0)).1).2.1 : Nat) : Int)), (iv ((((stepR s (l.getD i 0)).1).2.2 : Nat) : Int))]), some (3, (ints (((stepR s (l.getD i 0)).1).1)))], [(.opt 0 0)] = renL (sigi [0, 1] 139) [(.opt 0 0)], [(.osl 1 0 (((stepR s (l.getD i 0)).1).1.length)), (iv ((((stepR s (l.getD i 0)).1).2.1 : Nat) : Int)), (iv ((((stepR s (l.getD i 0)).1).2.2 : Nat) : Int))] = renL (sigi [0, 1] 139) [(.osl 1 0 (((stepR s (l.getD i 0)).1).1.length)), (iv ((((stepR s (l.getD i 0)).1).2.1 : Nat) : Int)), (iv ((((stepR s (l.getD i 0)).1).2.2 : Nat) : Int))], (ints (((stepR s (l.getD i 0)).1).1)) = renL (sigi [0, 1] 139) (ints (((stepR s (l.getD i 0)).1).1)), [(.osl 1 0 (((stepR s (l.getD i 0)).1).1.length)), (iv ((((stepR s (l.getD i 0)).1).2.1 : Nat) : Int)), (iv ((((stepR s (l.getD i 0)).1).2.2 : Nat) : Int))] = renL (sigo [0, 1] 139) [(.osl 1 0 (((stepR s (l.getD i 0)).1).1.length)), (iv ((((stepR s (l.getD i 0)).1).2.1 : Nat) : Int)), (iv ((((stepR s (l.getD i 0)).1).2.2 : Nat) : Int))], (ints (((stepR s (l.getD i 0)).1).1)) = renL (sigo [0, 1] 139) (ints (((stepR s (l.getD i 0)).1).1))]) (by kernel_rfl) (obs_cons (p := PC Try.prog 12 [(.opt 0 0)] [some (49, [(.osl 1 0 (((stepR s (l.getD i 0)).1).1.length)), (iv ((((stepR s (l.getD i 0)).1).2.1 : Nat) : Int)), (iv ((((stepR s (l.getD i 0)).1).2.2 : Nat) : Int))]), some (3, (ints (((stepR s (l.getD i 0)).1).1)))] (iv ((((stepR s (l.getD i 0)).1.2.1 : Nat) : Int) - (((stepR s (l.getD i 0)).1.2.2 : Nat) : Int))) [some (49, [(.osl 1 0 (((stepR s (l.getD i 0)).1).1.length)), (iv ((((stepR s (l.getD i 0)).1).2.1 : Nat) : Int)), (iv ((((stepR s (l.getD i 0)).1).2.2 : Nat) : Int))]), some (3, (ints (((stepR s (l.getD i 0)).1).1)))]) (len_pc (stepR s (l.getD i 0)).1 ⟨_, hst.1⟩ (by omega)) (obs_cons (p := [(.opt 0 0)] = renL (sigi [0, 1] 139) [(.opt 0 0)]) rfl (obs_cons (p := [(.osl 1 0 (((stepR s (l.getD i 0)).1).1.length)), (iv ((((stepR s (l.getD i 0)).1).2.1 : Nat) : Int)), (iv ((((stepR s (l.getD i 0)).1).2.2 : Nat) : Int))] = renL (sigi [0, 1] 139) [(.osl 1 0 (((stepR s (l.getD i 0)).1).1.length)), (iv ((((stepR s (l.getD i 0)).1).2.1 : Nat) : Int)), (iv ((((stepR s (l.getD i 0)).1).2.2 : Nat) : Int))]) rfl (obs_cons (p := (ints (((stepR s (l.getD i 0)).1).1)) = renL (sigi [0, 1] 139) (ints (((stepR s (l.getD i 0)).1).1))) (renL_shd (ints_shd _)).symm (obs_cons (p := [(.osl 1 0 (((stepR s (l.getD i 0)).1).1.length)), (iv ((((stepR s (l.getD i 0)).1).2.1 : Nat) : Int)), (iv ((((stepR s (l.getD i 0)).1).2.2 : Nat) : Int))] = renL (sigo [0, 1] 139) [(.osl 1 0 (((stepR s (l.getD i 0)).1).1.length)), (iv ((((stepR s (l.getD i 0)).1).2.1 : Nat) : Int)), (iv ((((stepR s (l.getD i 0)).1).2.2 : Nat) : Int))]) rfl (obs_cons (p := (ints (((stepR s (l.getD i 0)).1).1)) = renL (sigo [0, 1] 139) (ints (((stepR s (l.getD i 0)).1).1))) (renL_shd (ints_shd _)).symm (obs_nil))))))) ?_
      refine T_region [(3, .app none (some (tus (A ++ [(((stepR s (l.getD i 0)).2.1), (stepR s (l.getD i 0)).2.2, ((((stepR s (l.getD i 0)).1.2.1 : Nat) : Int) - (((stepR s (l.getD i 0)).1.2.2 : Nat) : Int)))]))))] [ks 6, ks 8, ks 20, ks 21, ks 22, kb 0, kb 1, kb 187] (fun _ => mixed) (l' := [ps 6 (.opt 0 0), ps 8 (.osl 187 0 (A.length + 1)), ps 20 (.ssl (ints l) 0 l.length), ps 21 (iv ((l.length : Nat) : Int)), ps 22 (iv ((i : Nat) : Int)), pb 0 49 [(.osl 1 0 (((stepR s (l.getD i 0)).1).1.length)), (iv ((((stepR s (l.getD i 0)).1).2.1 : Nat) : Int)), (iv ((((stepR s (l.getD i 0)).1).2.2 : Nat) : Int))], pb 1 3 (ints (((stepR s (l.getD i 0)).1).1)), pb 187 31 (tus (A ++ [(((stepR s (l.getD i 0)).2.1), (stepR s (l.getD i 0)).2.2, ((((stepR s (l.getD i 0)).1.2.1 : Nat) : Int) - (((stepR s (l.getD i 0)).1.2.2 : Nat) : Int)))]))]) (obs := [((tus A)).length = A.length * 3, (A.length + 1) * 24 ≤ 140737488355328 ∧ A.length + 1 ≤ 9223372036854775807, (tus A) ++ [(iv ((stepR s (l.getD i 0)).2.1)), (bv (stepR s (l.getD i 0)).2.2), (iv ((((stepR s (l.getD i 0)).1.2.1 : Nat) : Int) - (((stepR s (l.getD i 0)).1.2.2 : Nat) : Int)))] = (tus (A ++ [(((stepR s (l.getD i 0)).2.1), (stepR s (l.getD i 0)).2.2, ((((stepR s (l.getD i 0)).1.2.1 : Nat) : Int) - (((stepR s (l.getD i 0)).1.2.2 : Nat) : Int)))]))]) (by kernel_rfl) (obs_cons (p := ((tus A)).length = A.length * 3) (tus_len _) (obs_cons (p := (A.length + 1) * 24 ≤ 140737488355328 ∧ A.length + 1 ≤ 9223372036854775807) (by omega) (obs_cons (p := (tus A) ++ [(iv ((stepR s (l.getD i 0)).2.1)), (bv (stepR s (l.getD i 0)).2.2), (iv ((((stepR s (l.getD i 0)).1.2.1 : Nat) : Int) - (((stepR s (l.getD i 0)).1.2.2 : Nat) : Int)))] = (tus (A ++ [(((stepR s (l.getD i 0)).2.1), (stepR s (l.getD i 0)).2.2, ((((stepR s (l.getD i 0)).1.2.1 : Nat) : Int) - (((stepR s (l.getD i 0)).1.2.2 : Nat) : Int)))]))) (flat_app tuC A [(((stepR s (l.getD i 0)).2.1), (stepR s (l.getD i 0)).2.2, ((((stepR s (l.getD i 0)).1.2.1 : Nat) : Int) - (((stepR s (l.getD i 0)).1.2.2 : Nat) : Int)))]).symm (obs_nil)))) ?_
      refine T_blk ?_
      refine T_region [] [ks 6, ks 8, ks 20, ks 21, ks 22, kb 0, kb 1, kb 187] (fun _ => mixed) (l' := [ps 6 (.opt 0 0), ps 8 (.osl 187 0 (A.length + 1)), ps 20 (.ssl (ints l) 0 l.length), ps 21 (iv ((l.length : Nat) : Int)), ps 22 (iv (((i : Nat) : Int) + 1)), pb 0 49 [(.osl 1 0 (((stepR s (l.getD i 0)).1).1.length)), (iv ((((stepR s (l.getD i 0)).1).2.1 : Nat) : Int)), (iv ((((stepR s (l.getD i 0)).1).2.2 : Nat) : Int))], pb 1 3 (ints (((stepR s (l.getD i 0)).1).1)), pb 187 31 (tus (A ++ [(((stepR s (l.getD i 0)).2.1), (stepR s (l.getD i 0)).2.2, ((((stepR s (l.getD i 0)).1.2.1 : Nat) : Int) - (((stepR s (l.getD i 0)).1.2.2 : Nat) : Int)))]))]) (obs := [InK .i64 (((i : Nat) : Int) + 1)]) (by kernel_rfl) (obs_cons (p := InK .i64 (((i : Nat) : Int) + 1)) (by simp only [InK]; omega) (obs_nil)) ?_
      exact T_back ⟨(i + 1, (stepR s (l.getD i 0)).1, (turnS s.1.length L (l.getD i 0)).1, (A ++ [tellR s (l.getD i 0)])), ⟨by omega, runR_next (by omega) hA, hst.1, hst.2.2.1.trans hn, by have := hst.2.2.2; show ((stepR s (l.getD i 0)).1).2.1 ≤ i + 1; omega, by show (A ++ [_]).length = i + 1; rw [snoc_len]; omega⟩⟩ (Wk.trans (Wk.eq (show [ps 6 (.opt 0 0), ps 8 (.osl 187 0 (A.length + 1)), ps 20 (.ssl (ints l) 0 l.length), ps 21 (iv ((l.length : Nat) : Int)), ps 22 (iv (((i : Nat) : Int) + 1)), pb 0 49 [(.osl 1 0 (((stepR s (l.getD i 0)).1).1.length)), (iv ((((stepR s (l.getD i 0)).1).2.1 : Nat) : Int)), (iv ((((stepR s (l.getD i 0)).1).2.2 : Nat) : Int))], pb 1 3 (ints (((stepR s (l.getD i 0)).1).1)), pb 187 31 (tus (A ++ [(((stepR s (l.getD i 0)).2.1), (stepR s (l.getD i 0)).2.2, ((((stepR s (l.getD i 0)).1.2.1 : Nat) : Int) - (((stepR s (l.getD i 0)).1.2.2 : Nat) : Int)))]))] = [ps 6 (.opt 0 0), ps 8 (.osl 187 0 ((A ++ [tellR s (l.getD i 0)]).length)), ps 20 (.ssl (ints l) 0 l.length), ps 21 (iv ((l.length : Nat) : Int)), ps 22 (iv (((i : Nat) : Int) + 1)), pb 0 49 [(.osl 1 0 (((stepR s (l.getD i 0)).1).1.length)), (iv ((((stepR s (l.getD i 0)).1).2.1 : Nat) : Int)), (iv ((((stepR s (l.getD i 0)).1).2.2 : Nat) : Int))], pb 1 3 (ints (((stepR s (l.getD i 0)).1).1)), pb 187 31 (tus (A ++ [tellR s (l.getD i 0)]))] from by rw [snoc_len]; rfl)) (Wk.ren3 [ps 6 (.opt 0 0), ps 8 (.osl 2 0 (A ++ [tellR s (l.getD i 0)]).length), ps 20 (.ssl (ints l) 0 l.length), ps 21 (iv ((l.length : Nat) : Int)), ps 22 (iv (((i + 1) : Nat) : Int)), pb 0 49 [(.osl 1 0 ((stepR s (l.getD i 0)).1).1.length), (iv ((((stepR s (l.getD i 0)).1).2.1 : Nat) : Int)), (iv ((((stepR s (l.getD i 0)).1).2.2 : Nat) : Int))], pb 1 3 (ints ((stepR s (l.getD i 0)).1).1), pb 2 31 (tus (A ++ [tellR s (l.getD i 0)]))] 0 hc0 [0, 1, 187] [(kb 1, (ints ((stepR s (l.getD i 0)).1).1)), (kb 2, (tus (A ++ [tellR s (l.getD i 0)])))] (obs_cons (ints_shd _) (obs_cons (tus_shd _) (obs_nil))) (by kernel_rfl) rfl rfl (by kernel_rfl) (by kernel_rfl))) (show l.length - (i + 1) < l.length - i from by show l.length - (i + 1) < l.length - i; omega)
  · refine T_else (b := (decide (((i : Nat) : Int) < ((l.length : Nat) : Int)))) rfl (decide_eq_false h1) ?_
    refine T_break rfl rfl ?_
    refine T_seq ?_
    refine T_region [] [ks 4, ks 5, kb 2] (fun _ => mixed) (l' := [ps 4 (.osl 2 0 A.length), ps 5 (iv 0), pb 2 31 (tus A)]) (obs := []) (by kernel_rfl) (obs_nil) ?_
    obtain rfl : i = l.length := by omega
    rw [List.drop_length, runR, List.append_nil] at hA
    rw [← hA]
    refine T_wk (Wk.frz (l' := [ps 4 (.ssl (tus A) 0 A.length), ps 5 (iv 0), (kb 2, none)]) 2 (T := 31) (cs := (tus A)) (by kernel_rfl) (tus_shd _) (by kernel_rfl)) ?_
    refine T_wk (Wk.less (l' := [ps 4 (.ssl (tus A) 0 A.length), ps 5 (iv 0)]) 35 (by kernel_rfl) (by kernel_rfl)) ?_
    exact T_ret fun cx_ a_ hI_ => ret_ok (H' := []) (.inr rfl) (Wk.ren2 [ps 4 (.ssl (tus A) 0 A.length), ps 5 (iv 0)] 0 hc0 [] rfl rfl (by kernel_rfl) (by kernel_rfl)) rfl (obs_nil) (fun cx_ a_ hI_ => ret_res (l' := [ps 4 (.ssl (tus A) 0 A.length), ps 5 (iv 0)]) (by kernel_rfl) cx_ a_ hI_) hI_
theorem ring_no (n : Int) (h : n < 1 ∨ 65536 < n) (l : List Int) : PC Try.prog 5 [(iv n), (.ssl (ints l) 0 l.length)] [] (.tup [(.ssl [] 0 0), (iv 3)]) [] := by
  refine pc_intro Try.func5 rfl (by kernel_rfl) (Nat.le_of_ble_eq_true rfl) (by kernel_rfl) (l0 := [ps 0 (iv n), ps 1 (.ssl (ints l) 0 l.length)]) rfl (fun c0 Bor hc0 => ?_)
  refine T_seq ?_
  refine T_region [] [ks 0, ks 1] (fun _ => mixed) (l' := [ps 0 (iv n), ps 1 (.ssl (ints l) 0 l.length)]) (obs := []) (by kernel_rfl) (obs_nil) ?_
  refine T_seq ?_
  refine T_region [(1, .call [] [(iv n)] [] (.tup [(.av (.pointer none)), (iv 3)]) [])] [ks 1, ks 6, ks 7] (fun _ => mixed) (l' := [ps 1 (.ssl (ints l) 0 l.length), ps 6 (.av (.pointer none)), ps 7 (iv 3)]) (obs := [PC Try.prog 9 [(iv n)] [] (.tup [(.av (.pointer none)), (iv 3)]) [], [(iv n)] = renL (sigi [] 24) [(iv n)]]) (by kernel_rfl) (obs_cons (p := PC Try.prog 9 [(iv n)] [] (.tup [(.av (.pointer none)), (iv 3)]) []) (new_no n h) (obs_cons (p := [(iv n)] = renL (sigi [] 24) [(iv n)]) rfl (obs_nil))) ?_
  refine T_seq ?_
  refine T_seq ?_
  refine T_region [] [ks 1, ks 6, ks 7, ks 18] (fun _ => mixed) (l' := [ps 1 (.ssl (ints l) 0 l.length), ps 6 (.av (.pointer none)), ps 7 (iv 3), ps 18 (bv true)]) (obs := []) (by kernel_rfl) (obs_nil) ?_
  refine T_then (b := true) rfl rfl ?_
  refine T_seq ?_
  refine T_region [] [ks 4, ks 5] (fun _ => mixed) (l' := [ps 4 (.av (.slice none 0 0)), ps 5 (iv 3)]) (obs := []) (by kernel_rfl) (obs_nil) ?_
  exact T_ret fun cx_ a_ hI_ => ret_ok (H' := []) (.inr rfl) (Wk.ren2 [ps 4 (.av (.slice none 0 0)), ps 5 (iv 3)] 0 hc0 [] rfl rfl (by kernel_rfl) (by kernel_rfl)) rfl (obs_nil) (fun cx_ a_ hI_ => ret_res (l' := [ps 4 (.av (.slice none 0 0)), ps 5 (iv 3)]) (by kernel_rfl) cx_ a_ hI_) hI_
theorem turn_pc (n : Nat) (L : List Int) (x : Int) (hL : L.length ≤ 1048576) : PC Try.prog 7 [(iv ((n : Nat) : Int)), (.ssl (ints L) 0 L.length), (iv x)] [] (.tup [(.ssl (ints ((turnS n L x).1)) 0 ((turnS n L x).1.length)), (iv ((turnS n L x).2.1)), (bv (turnS n L x).2.2)]) [] := by
  refine pc_intro Try.func7 rfl (by kernel_rfl) (Nat.le_of_ble_eq_true rfl) (by kernel_rfl) (l0 := [ps 0 (iv ((n : Nat) : Int)), ps 1 (.ssl (ints L) 0 L.length), ps 2 (iv x)]) rfl (fun c0 Bor hc0 => ?_)
  refine T_seq ?_
  refine T_region [] [ks 0, ks 1, ks 2] (fun _ => mixed) (l' := [ps 0 (iv ((n : Nat) : Int)), ps 1 (.ssl (ints L) 0 L.length), ps 2 (iv x)]) (obs := []) (by kernel_rfl) (obs_nil) ?_
  refine T_seq ?_
  refine T_seq ?_
  refine T_region [] [ks 0, ks 1, ks 2, ks 10] (fun _ => mixed) (l' := [ps 0 (iv ((n : Nat) : Int)), ps 1 (.ssl (ints L) 0 L.length), ps 2 (iv x), ps 10 (bv (decide (0 ≤ x)))]) (obs := []) (by kernel_rfl) (obs_nil) ?_
  by_cases h1 : 0 ≤ x
  · refine T_then (b := (decide (0 ≤ x))) rfl (decide_eq_true h1) ?_
    refine T_seq ?_
    refine T_seq ?_
    refine T_region [] [ks 1, ks 2, ks 14] (fun _ => mixed) (l' := [ps 1 (.ssl (ints L) 0 L.length), ps 2 (iv x), ps 14 (bv (decide (((L.length : Nat) : Int) = ((n : Nat) : Int))))]) (obs := []) (by kernel_rfl) (obs_nil) ?_
    by_cases h2 : ((L.length : Nat) : Int) = ((n : Nat) : Int)
    · refine T_then (b := (decide (((L.length : Nat) : Int) = ((n : Nat) : Int)))) rfl (decide_eq_true h2) ?_
      refine T_seq ?_
      refine T_region [] [ks 6, ks 7, ks 8] (fun _ => mixed) (l' := [ps 6 (.ssl (ints L) 0 L.length), ps 7 (iv 0), ps 8 (bv false)]) (obs := []) (by kernel_rfl) (obs_nil) ?_
      rw [show turnS n L x = (L, 0, false) from by unfold turnS; rw [if_pos h1, if_pos (by omega)]]
      exact T_ret fun cx_ a_ hI_ => ret_ok (H' := []) (.inr rfl) (Wk.ren2 [ps 6 (.ssl (ints L) 0 L.length), ps 7 (iv 0), ps 8 (bv false)] 0 hc0 [] rfl rfl (by kernel_rfl) (by kernel_rfl)) rfl (obs_nil) (fun cx_ a_ hI_ => ret_res (l' := [ps 6 (.ssl (ints L) 0 L.length), ps 7 (iv 0), ps 8 (bv false)]) (by kernel_rfl) cx_ a_ hI_) hI_
    · refine T_else (b := (decide (((L.length : Nat) : Int) = ((n : Nat) : Int)))) rfl (decide_eq_false h2) ?_
      refine T_skip ?_
      refine T_seq ?_
      refine T_region [(2, .app (some (ints L)) (some (ints L))), (5, .app none (some (ints (L ++ [x]))))] [ks 6, ks 7, ks 8, kb 112] (fun _ => mixed) (l' := [ps 6 (.osl 112 0 ((0 + L.length) + 1)), ps 7 (iv 0), ps 8 (bv true), pb 112 3 (ints (L ++ [x]))]) (obs := [0 + L.length * 1 ≤ ((ints L)).length ∧ (((ints L)).drop 0).take (L.length * 1) = (ints L), (([] : List PV)).length = 0 * 1, (0 + L.length) * 8 ≤ 140737488355328 ∧ 0 + L.length ≤ 9223372036854775807, [] ++ (ints L) = (ints L), ((ints L)).length = (0 + L.length) * 1, ((0 + L.length) + 1) * 8 ≤ 140737488355328 ∧ (0 + L.length) + 1 ≤ 9223372036854775807, (ints L) ++ [(iv x)] = (ints (L ++ [x]))]) (by kernel_rfl) (obs_cons (p := 0 + L.length * 1 ≤ ((ints L)).length ∧ (((ints L)).drop 0).take (L.length * 1) = (ints L)) (by have h9 := ints_len L; refine ⟨by omega, ?_⟩; rw [List.drop_zero, Nat.mul_one, ← h9, List.take_length]) (obs_cons (p := (([] : List PV)).length = 0 * 1) rfl (obs_cons (p := (0 + L.length) * 8 ≤ 140737488355328 ∧ 0 + L.length ≤ 9223372036854775807) (by omega) (obs_cons (p := [] ++ (ints L) = (ints L)) rfl (obs_cons (p := ((ints L)).length = (0 + L.length) * 1) (by simp [flat_len, ints_len]) (obs_cons (p := ((0 + L.length) + 1) * 8 ≤ 140737488355328 ∧ (0 + L.length) + 1 ≤ 9223372036854775807) (by omega) (obs_cons (p := (ints L) ++ [(iv x)] = (ints (L ++ [x]))) (flat_app (fun n => [iv n]) L [x]).symm (obs_nil)))))))) ?_
      rw [show turnS n L x = (L ++ [x], 0, true) from by unfold turnS; rw [if_pos h1, if_neg (by omega)]]
      refine T_wk (Wk.eq (show [ps 6 (.osl 112 0 ((0 + L.length) + 1)), ps 7 (iv 0), ps 8 (bv true), pb 112 3 (ints (L ++ [x]))] = [ps 6 (.osl 112 0 ((L ++ [x]).length)), ps 7 (iv 0), ps 8 (bv true), pb 112 3 (ints (L ++ [x]))] from by rw [snoc_len]; simp only [Nat.zero_add])) ?_
      refine T_wk (Wk.frz (l' := [ps 6 (.ssl (ints (L ++ [x])) 0 ((L ++ [x]).length)), ps 7 (iv 0), ps 8 (bv true), (kb 112, none)]) 112 (T := 3) (cs := (ints (L ++ [x]))) (by kernel_rfl) (ints_shd _) (by kernel_rfl)) ?_
      refine T_wk (Wk.less (l' := [ps 6 (.ssl (ints (L ++ [x])) 0 ((L ++ [x]).length)), ps 7 (iv 0), ps 8 (bv true)]) 144 (by kernel_rfl) (by kernel_rfl)) ?_
      exact T_ret fun cx_ a_ hI_ => ret_ok (H' := []) (.inr rfl) (Wk.ren2 [ps 6 (.ssl (ints (L ++ [x])) 0 ((L ++ [x]).length)), ps 7 (iv 0), ps 8 (bv true)] 0 hc0 [] rfl rfl (by kernel_rfl) (by kernel_rfl)) rfl (obs_nil) (fun cx_ a_ hI_ => ret_res (l' := [ps 6 (.ssl (ints (L ++ [x])) 0 ((L ++ [x]).length)), ps 7 (iv 0), ps 8 (bv true)]) (by kernel_rfl) cx_ a_ hI_) hI_
  · refine T_else (b := (decide (0 ≤ x))) rfl (decide_eq_false h1) ?_
    refine T_skip ?_
    refine T_seq ?_
    refine T_seq ?_
    refine T_region [] [ks 1, ks 24] (fun _ => mixed) (l' := [ps 1 (.ssl (ints L) 0 L.length), ps 24 (bv (decide (((L.length : Nat) : Int) = 0)))]) (obs := []) (by kernel_rfl) (obs_nil) ?_
    by_cases h3 : ((L.length : Nat) : Int) = 0
    · refine T_then (b := (decide (((L.length : Nat) : Int) = 0))) rfl (decide_eq_true h3) ?_
      refine T_seq ?_
      refine T_region [] [ks 6, ks 7, ks 8] (fun _ => mixed) (l' := [ps 6 (.ssl (ints L) 0 L.length), ps 7 (iv 0), ps 8 (bv false)]) (obs := []) (by kernel_rfl) (obs_nil) ?_
      rw [show turnS n L x = (L, 0, false) from by unfold turnS; rw [if_neg h1, if_pos (by omega)]]
      exact T_ret fun cx_ a_ hI_ => ret_ok (H' := []) (.inr rfl) (Wk.ren2 [ps 6 (.ssl (ints L) 0 L.length), ps 7 (iv 0), ps 8 (bv false)] 0 hc0 [] rfl rfl (by kernel_rfl) (by kernel_rfl)) rfl (obs_nil) (fun cx_ a_ hI_ => ret_res (l' := [ps 6 (.ssl (ints L) 0 L.length), ps 7 (iv 0), ps 8 (bv false)]) (by kernel_rfl) cx_ a_ hI_) hI_
    · refine T_else (b := (decide (((L.length : Nat) : Int) = 0))) rfl (decide_eq_false h3) ?_
      refine T_skip ?_
      refine T_seq ?_
      refine T_regionD [(1, .nat2 1 (L.length - 1)), (3, .nat 0), (4, .val (iv (L.getD 0 0)))] [[], [0], [], [2], [2, 3], [0, 1], [0, 1, 2, 3, 4, 5], [0, 1, 2, 3, 4, 5, 6]] [([52], [2]), ([54], [52]), ([56], [2]), ([58], [56]), ([60], [58]), ([12], [54]), ([14], [60]), ([16], [])] [ks 6, ks 7, ks 8] (l' := [ps 6 (.ssl (ints L) 1 (L.length - 1)), ps 7 (iv (L.getD 0 0)), ps 8 (bv true)]) (obs := [(0 : Int) ≤ (1 : Int) ∧ (1 : Int) ≤ ((L.length : Nat) : Int) ∧ ((L.length : Nat) : Int) ≤ ((L.length : Nat) : Int) ∧ ((L.length : Nat) : Int) ≤ ((L.length : Nat) : Int), 0 + ((1 : Int) : Int).toNat * 1 = 1 ∧ (((L.length : Nat) : Int) : Int).toNat - ((1 : Int) : Int).toNat = L.length - 1, (0 : Int) ≤ 0 ∧ 0 < ((L.length : Nat) : Int), 0 + (0 : Int).toNat * 1 = 0, 0 + 1 ≤ ((ints L)).length ∧ (((ints L)).drop 0).take 1 = [(iv (L.getD 0 0))]]) mixed (by kernel_rfl) (by kernel_rfl) (obs_cons (p := (0 : Int) ≤ (1 : Int) ∧ (1 : Int) ≤ ((L.length : Nat) : Int) ∧ ((L.length : Nat) : Int) ≤ ((L.length : Nat) : Int) ∧ ((L.length : Nat) : Int) ≤ ((L.length : Nat) : Int)) (by omega) (obs_cons (p := 0 + ((1 : Int) : Int).toNat * 1 = 1 ∧ (((L.length : Nat) : Int) : Int).toNat - ((1 : Int) : Int).toNat = L.length - 1) (by omega) (obs_cons (p := (0 : Int) ≤ 0 ∧ 0 < ((L.length : Nat) : Int)) (by omega) (obs_cons (p := 0 + (0 : Int).toNat * 1 = 0) (by omega) (obs_cons (p := 0 + 1 ≤ ((ints L)).length ∧ (((ints L)).drop 0).take 1 = [(iv (L.getD 0 0))]) (ints_at (by omega)) (obs_nil)))))) ?_
      rw [show turnS n L x = (L.drop 1, L.getD 0 0, true) from by unfold turnS; rw [if_neg h1, if_neg (by omega)]]
      refine T_wk (Wk.slot 6 (.ssl (ints L) 1 (L.length - 1)) (.ssl (ints (L.drop 1)) 0 ((L.drop 1).length)) (by kernel_rfl) (cut_drop (by omega))) ?_
      refine T_wk (Wk.less (l' := [ps 6 (.ssl (ints (L.drop 1)) 0 ((L.drop 1).length)), ps 7 (iv (L.getD 0 0)), ps 8 (bv true)]) 128 (by kernel_rfl) (by kernel_rfl)) ?_
      exact T_ret fun cx_ a_ hI_ => ret_ok (H' := []) (.inr rfl) (Wk.ren2 [ps 6 (.ssl (ints (L.drop 1)) 0 ((L.drop 1).length)), ps 7 (iv (L.getD 0 0)), ps 8 (bv true)] 0 hc0 [] rfl rfl (by kernel_rfl) (by kernel_rfl)) rfl (obs_nil) (fun cx_ a_ hI_ => ret_res (l' := [ps 6 (.ssl (ints (L.drop 1)) 0 ((L.drop 1).length)), ps 7 (iv (L.getD 0 0)), ps 8 (bv true)]) (by kernel_rfl) cx_ a_ hI_) hI_
set_option maxRecDepth 100000 in
theorem law_yes (n : Nat) (hn1 : 1 ≤ n) (hn2 : n ≤ 65536) (l : List Int) (hl : l.length ≤ 1048576) : PC Try.prog 3 [(iv ((n : Nat) : Int)), (.ssl (ints l) 0 l.length)] [] (bv true) [] := by
  obtain ⟨RU, hRU⟩ : ∃ R, runR (List.replicate n 0, 0, 0) l = R := ⟨_, rfl⟩
  have hRl : RU.length = l.length := by rw [← hRU]; exact runR_len _ l
  refine pc_intro Try.func3 rfl (by kernel_rfl) (Nat.le_of_ble_eq_true rfl) (by kernel_rfl) (l0 := [ps 0 (iv ((n : Nat) : Int)), ps 1 (.ssl (ints l) 0 l.length)]) rfl (fun c0 Bor hc0 => ?_)
  refine T_seq ?_
  refine T_region [] [ks 0, ks 1] (fun _ => mixed) (l' := [ps 0 (iv ((n : Nat) : Int)), ps 1 (.ssl (ints l) 0 l.length)]) (obs := []) (by kernel_rfl) (obs_nil) ?_
  refine T_seq ?_
  refine T_region [(2, .call [] [(iv ((n : Nat) : Int)), (.ssl (ints l) 0 l.length)] [] (.tup [(.ssl (tus RU) 0 RU.length), (iv 0)]) [])] [ks 0, ks 1, ks 5, ks 6] (fun _ => mixed) (l' := [ps 0 (iv ((n : Nat) : Int)), ps 1 (.ssl (ints l) 0 l.length), ps 5 (.ssl (tus RU) 0 RU.length), ps 6 (iv 0)]) (obs := [PC Try.prog 5 [(iv ((n : Nat) : Int)), (.ssl (ints l) 0 l.length)] [] (.tup [(.ssl (tus RU) 0 RU.length), (iv 0)]) [], [(iv ((n : Nat) : Int)), (.ssl (ints l) 0 l.length)] = renL (sigi [] 24) [(iv ((n : Nat) : Int)), (.ssl (ints l) 0 l.length)]]) (by kernel_rfl) (obs_cons (p := PC Try.prog 5 [(iv ((n : Nat) : Int)), (.ssl (ints l) 0 l.length)] [] (.tup [(.ssl (tus RU) 0 RU.length), (iv 0)]) []) (hRU ▸ ring_yes n hn1 hn2 l hl) (obs_cons (p := [(iv ((n : Nat) : Int)), (.ssl (ints l) 0 l.length)] = renL (sigi [] 24) [(iv ((n : Nat) : Int)), (.ssl (ints l) 0 l.length)]) rfl (obs_nil))) ?_
  refine T_seq ?_
  refine T_seq ?_
  refine T_region [(1, .call [] [(iv ((n : Nat) : Int))] [] (iv 0) [])] [ks 0, ks 1, ks 5, ks 6, ks 7] (fun _ => mixed) (l' := [ps 0 (iv ((n : Nat) : Int)), ps 1 (.ssl (ints l) 0 l.length), ps 5 (.ssl (tus RU) 0 RU.length), ps 6 (iv 0), ps 7 (iv 0)]) (obs := [PC Try.prog 6 [(iv ((n : Nat) : Int))] [] (iv 0) [], [(iv ((n : Nat) : Int))] = renL (sigi [] 80) [(iv ((n : Nat) : Int))]]) (by kernel_rfl) (obs_cons (p := PC Try.prog 6 [(iv ((n : Nat) : Int))] [] (iv 0) []) (by have h0 := wrong_pc ((n : Nat) : Int); rw [show wrongR ((n : Nat) : Int) = 0 from if_neg (by omega)] at h0; exact h0) (obs_cons (p := [(iv ((n : Nat) : Int))] = renL (sigi [] 80) [(iv ((n : Nat) : Int))]) rfl (obs_nil))) ?_
  refine T_seq ?_
  refine T_region [(3, .gd false (.no)), (4, .gd false (.no))] [ks 0, ks 1, ks 5, ks 6, ks 7, ks 26] (fun _ => mixed) (l' := [ps 0 (iv ((n : Nat) : Int)), ps 1 (.ssl (ints l) 0 l.length), ps 5 (.ssl (tus RU) 0 RU.length), ps 6 (iv 0), ps 7 (iv 0), ps 26 (bv false)]) (obs := [false = false, false = false]) (by kernel_rfl) (obs_cons (p := false = false) rfl (obs_cons (p := false = false) rfl (obs_nil))) ?_
  refine T_else (b := false) rfl rfl ?_
  refine T_skip ?_
  refine T_seq ?_
  refine T_seq ?_
  refine T_region [] [ks 0, ks 1, ks 5, ks 39] (fun _ => mixed) (l' := [ps 0 (iv ((n : Nat) : Int)), ps 1 (.ssl (ints l) 0 l.length), ps 5 (.ssl (tus RU) 0 RU.length), ps 39 (bv (!(decide (((RU.length : Nat) : Int) = ((l.length : Nat) : Int)))))]) (obs := []) (by kernel_rfl) (obs_nil) ?_
  have h1 : ((RU.length : Nat) : Int) = ((l.length : Nat) : Int) := by rw [hRl]
  refine T_else (b := (!(decide (((RU.length : Nat) : Int) = ((l.length : Nat) : Int))))) rfl (congrArg Bool.not (decide_eq_true h1)) ?_
  refine T_skip ?_
  refine T_seq ?_
  refine T_region [] [ks 0, ks 1, ks 5, ks 8] (fun _ => mixed) (l' := [ps 0 (iv ((n : Nat) : Int)), ps 1 (.ssl (ints l) 0 l.length), ps 5 (.ssl (tus RU) 0 RU.length), ps 8 (.av (.slice none 0 0))]) (obs := []) (by kernel_rfl) (obs_nil) ?_
  refine T_seq ?_
  refine T_seq ?_
  refine T_region [] [ks 0, ks 5, ks 8, ks 40, ks 41, ks 42] (fun _ => mixed) (l' := [ps 0 (iv ((n : Nat) : Int)), ps 5 (.ssl (tus RU) 0 RU.length), ps 8 (.av (.slice none 0 0)), ps 40 (.ssl (ints l) 0 l.length), ps 41 (iv ((l.length : Nat) : Int)), ps 42 (iv 0)]) (obs := []) (by kernel_rfl) (obs_nil) ?_
  refine T_block ?_
  refine T_wk (Wk.slot 8 (.av (.slice none 0 0)) (.ssl (ints []) 0 (([] : List Int).length)) (by kernel_rfl) nil_ssl) ?_
  refine T_wk (Wk.less (l' := [ps 0 (iv ((n : Nat) : Int)), ps 5 (.ssl (tus RU) 0 RU.length), ps 8 (.ssl (ints []) 0 (([] : List Int).length)), ps 40 (.ssl (ints l) 0 l.length), ps 41 (iv ((l.length : Nat) : Int)), ps 42 (iv 0)]) 216 (by kernel_rfl) (by kernel_rfl)) ?_
  refine T_loop (α := {x : Nat × RS × List Int // x.1 ≤ l.length ∧ RU.drop x.1 = runR x.2.1 (l.drop x.1) ∧ Held x.2.1 x.2.2 ∧ x.2.1.1.length = n ∧ x.2.1.2.1 ≤ x.1}) (fun x => [ps 0 (iv ((n : Nat) : Int)), ps 5 (.ssl (tus RU) 0 RU.length), ps 8 (.ssl (ints x.1.2.2) 0 x.1.2.2.length), ps 40 (.ssl (ints l) 0 l.length), ps 41 (iv ((l.length : Nat) : Int)), ps 42 (iv ((x.1.1 : Nat) : Int))]) (fun x => l.length - x.1.1) 0 ⟨(0, (List.replicate n 0, 0, 0), []), ⟨Nat.zero_le _, hRU.symm, held0 n hn1, by simp, Nat.le_refl _⟩⟩ (Wk.ren2 [ps 0 (iv ((n : Nat) : Int)), ps 5 (.ssl (tus RU) 0 RU.length), ps 8 (.ssl (ints []) 0 [].length), ps 40 (.ssl (ints l) 0 l.length), ps 41 (iv ((l.length : Nat) : Int)), ps 42 (iv ((0 : Nat) : Int))] 0 hc0 [] rfl rfl (by kernel_rfl) (by kernel_rfl)) ?_
  rintro ⟨⟨i, s, L⟩, ⟨hi, hA, hH, hn, hp⟩⟩
  dsimp only at hi hA hH hn hp
  refine T_seq ?_
  refine T_region [] [ks 0, ks 5, ks 8, ks 40, ks 41, ks 42, ks 43] (fun _ => mixed) (l' := [ps 0 (iv ((n : Nat) : Int)), ps 5 (.ssl (tus RU) 0 RU.length), ps 8 (.ssl (ints L) 0 L.length), ps 40 (.ssl (ints l) 0 l.length), ps 41 (iv ((l.length : Nat) : Int)), ps 42 (iv ((i : Nat) : Int)), ps 43 (bv (decide (((i : Nat) : Int) < ((l.length : Nat) : Int))))]) (obs := []) (by kernel_rfl) (obs_nil) ?_
  refine T_seq ?_
  by_cases h2 : ((i : Nat) : Int) < ((l.length : Nat) : Int)
  · refine T_then (b := (decide (((i : Nat) : Int) < ((l.length : Nat) : Int)))) rfl (decide_eq_true h2) ?_
    refine T_skip ?_
    refine T_seq ?_
    refine T_block ?_
    refine T_seq ?_
    have hst := held_step hH (l.getD i 0)
    have hat := runR_at (by omega) hA
    have hLb := hH.2.2
    have hT : turnS s.1.length L (l.getD i 0) = turnS n L (l.getD i 0) := by rw [hn]
    have hE1 : (RU.getD i dTu).1 = (turnS n L (l.getD i 0)).2.1 := by rw [hat.1, ← hT, ← hst.2.1]; rfl
    have hE2 : (RU.getD i dTu).2.1 = (turnS n L (l.getD i 0)).2.2 := by rw [hat.1, ← hT, ← hst.2.1]; rfl
    have hE3 : (RU.getD i dTu).2.2 = (((turnS n L (l.getD i 0)).1.length : Nat) : Int) := by rw [hat.1, ← hT]; have h9 := hst.1; obtain ⟨_, g2, g3, g4, _⟩ := h9; show (((stepR s (l.getD i 0)).1.2.1 : Nat) : Int) - (((stepR s (l.getD i 0)).1.2.2 : Nat) : Int) = _; omega
    refine T_region [(1, .nat i), (2, .val (iv (l.getD i 0)))] [ks 0, ks 5, ks 8, ks 9, ks 10, ks 40, ks 41, ks 42] (fun _ => mixed) (l' := [ps 0 (iv ((n : Nat) : Int)), ps 5 (.ssl (tus RU) 0 RU.length), ps 8 (.ssl (ints L) 0 L.length), ps 9 (iv ((i : Nat) : Int)), ps 10 (iv (l.getD i 0)), ps 40 (.ssl (ints l) 0 l.length), ps 41 (iv ((l.length : Nat) : Int)), ps 42 (iv ((i : Nat) : Int))]) (obs := [(0 : Int) ≤ ((i : Nat) : Int) ∧ ((i : Nat) : Int) < ((l.length : Nat) : Int), 0 + (((i : Nat) : Int) : Int).toNat * 1 = i, i + 1 ≤ ((ints l)).length ∧ (((ints l)).drop i).take 1 = [(iv (l.getD i 0))]]) (by kernel_rfl) (obs_cons (p := (0 : Int) ≤ ((i : Nat) : Int) ∧ ((i : Nat) : Int) < ((l.length : Nat) : Int)) (by omega) (obs_cons (p := 0 + (((i : Nat) : Int) : Int).toNat * 1 = i) (by omega) (obs_cons (p := i + 1 ≤ ((ints l)).length ∧ (((ints l)).drop i).take 1 = [(iv (l.getD i 0))]) (ints_at (by omega)) (obs_nil)))) ?_
    refine T_seq ?_
    refine T_region [] [ks 0, ks 5, ks 8, ks 9, ks 10, ks 40, ks 41, ks 42] (fun _ => mixed) (l' := [ps 0 (iv ((n : Nat) : Int)), ps 5 (.ssl (tus RU) 0 RU.length), ps 8 (.ssl (ints L) 0 L.length), ps 9 (iv ((i : Nat) : Int)), ps 10 (iv (l.getD i 0)), ps 40 (.ssl (ints l) 0 l.length), ps 41 (iv ((l.length : Nat) : Int)), ps 42 (iv ((i : Nat) : Int))]) (obs := []) (by kernel_rfl) (obs_nil) ?_
    refine T_seq ?_
    refine T_region [(3, .call [] [(iv ((n : Nat) : Int)), (.ssl (ints L) 0 L.length), (iv (l.getD i 0))] [] (.tup [(.ssl (ints ((turnS n L (l.getD i 0)).1)) 0 ((turnS n L (l.getD i 0)).1.length)), (iv ((turnS n L (l.getD i 0)).2.1)), (bv (turnS n L (l.getD i 0)).2.2)]) [])] [ks 0, ks 5, ks 8, ks 9, ks 11, ks 12, ks 40, ks 41, ks 42] (fun _ => mixed) (l' := [ps 0 (iv ((n : Nat) : Int)), ps 5 (.ssl (tus RU) 0 RU.length), ps 8 (.ssl (ints ((turnS n L (l.getD i 0)).1)) 0 ((turnS n L (l.getD i 0)).1.length)), ps 9 (iv ((i : Nat) : Int)), ps 11 (iv ((turnS n L (l.getD i 0)).2.1)), ps 12 (bv (turnS n L (l.getD i 0)).2.2), ps 40 (.ssl (ints l) 0 l.length), ps 41 (iv ((l.length : Nat) : Int)), ps 42 (iv ((i : Nat) : Int))]) (obs := [PC Try.prog 7 [(iv ((n : Nat) : Int)), (.ssl (ints L) 0 L.length), (iv (l.getD i 0))] [] (.tup [(.ssl (ints ((turnS n L (l.getD i 0)).1)) 0 ((turnS n L (l.getD i 0)).1.length)), (iv ((turnS n L (l.getD i 0)).2.1)), (bv (turnS n L (l.getD i 0)).2.2)]) [], [(iv ((n : Nat) : Int)), (.ssl (ints L) 0 L.length), (iv (l.getD i 0))] = renL (sigi [] 88) [(iv ((n : Nat) : Int)), (.ssl (ints L) 0 L.length), (iv (l.getD i 0))]]) (by kernel_rfl) (obs_cons (p := PC Try.prog 7 [(iv ((n : Nat) : Int)), (.ssl (ints L) 0 L.length), (iv (l.getD i 0))] [] (.tup [(.ssl (ints ((turnS n L (l.getD i 0)).1)) 0 ((turnS n L (l.getD i 0)).1.length)), (iv ((turnS n L (l.getD i 0)).2.1)), (bv (turnS n L (l.getD i 0)).2.2)]) []) (turn_pc n L (l.getD i 0) (by omega)) (obs_cons (p := [(iv ((n : Nat) : Int)), (.ssl (ints L) 0 L.length), (iv (l.getD i 0))] = renL (sigi [] 88) [(iv ((n : Nat) : Int)), (.ssl (ints L) 0 L.length), (iv (l.getD i 0))]) rfl (obs_nil))) ?_
    refine T_seq ?_
    refine T_region [(2, .nat (i * 3)), (3, .cells [(iv ((RU.getD i dTu).1)), (bv (RU.getD i dTu).2.1), (iv ((RU.getD i dTu).2.2))])] [ks 0, ks 5, ks 8, ks 40, ks 41, ks 42, ks 64] (fun _ => mixed) (l' := [ps 0 (iv ((n : Nat) : Int)), ps 5 (.ssl (tus RU) 0 RU.length), ps 8 (.ssl (ints ((turnS n L (l.getD i 0)).1)) 0 ((turnS n L (l.getD i 0)).1.length)), ps 40 (.ssl (ints l) 0 l.length), ps 41 (iv ((l.length : Nat) : Int)), ps 42 (iv ((i : Nat) : Int)), ps 64 (bv (!((decide (((RU.getD i dTu).1) = ((turnS n L (l.getD i 0)).2.1))) && (((RU.getD i dTu).2.1 == (turnS n L (l.getD i 0)).2.2) && (decide (((RU.getD i dTu).2.2) = (((turnS n L (l.getD i 0)).1.length : Nat) : Int)))))))]) (obs := [(0 : Int) ≤ ((i : Nat) : Int) ∧ ((i : Nat) : Int) < ((RU.length : Nat) : Int), 0 + (((i : Nat) : Int) : Int).toNat * 3 = (i * 3), (i * 3) + 3 ≤ ((tus RU)).length ∧ (((tus RU)).drop (i * 3)).take 3 = [(iv ((RU.getD i dTu).1)), (bv (RU.getD i dTu).2.1), (iv ((RU.getD i dTu).2.2))]]) (by kernel_rfl) (obs_cons (p := (0 : Int) ≤ ((i : Nat) : Int) ∧ ((i : Nat) : Int) < ((RU.length : Nat) : Int)) (by omega) (obs_cons (p := 0 + (((i : Nat) : Int) : Int).toNat * 3 = (i * 3)) (by omega) (obs_cons (p := (i * 3) + 3 ≤ ((tus RU)).length ∧ (((tus RU)).drop (i * 3)).take 3 = [(iv ((RU.getD i dTu).1)), (bv (RU.getD i dTu).2.1), (iv ((RU.getD i dTu).2.2))]) (flat_at tuC 3 (fun _ => rfl) dTu RU i 0 3 (by omega) (by decide)) (obs_nil)))) ?_
    have h3 : ((decide (((RU.getD i dTu).1) = ((turnS n L (l.getD i 0)).2.1))) && (((RU.getD i dTu).2.1 == (turnS n L (l.getD i 0)).2.2) && (decide (((RU.getD i dTu).2.2) = (((turnS n L (l.getD i 0)).1.length : Nat) : Int))))) = true := by rw [hE1, hE2, hE3]; simp
    refine T_else (b := (!((decide (((RU.getD i dTu).1) = ((turnS n L (l.getD i 0)).2.1))) && (((RU.getD i dTu).2.1 == (turnS n L (l.getD i 0)).2.2) && (decide (((RU.getD i dTu).2.2) = (((turnS n L (l.getD i 0)).1.length : Nat) : Int))))))) rfl (congrArg Bool.not h3) ?_
    refine T_skip ?_
    refine T_blk ?_
    refine T_region [] [ks 0, ks 5, ks 8, ks 40, ks 41, ks 42] (fun _ => mixed) (l' := [ps 0 (iv ((n : Nat) : Int)), ps 5 (.ssl (tus RU) 0 RU.length), ps 8 (.ssl (ints ((turnS n L (l.getD i 0)).1)) 0 ((turnS n L (l.getD i 0)).1.length)), ps 40 (.ssl (ints l) 0 l.length), ps 41 (iv ((l.length : Nat) : Int)), ps 42 (iv (((i : Nat) : Int) + 1))]) (obs := [InK .i64 (((i : Nat) : Int) + 1)]) (by kernel_rfl) (obs_cons (p := InK .i64 (((i : Nat) : Int) + 1)) (by simp only [InK]; omega) (obs_nil)) ?_
    exact T_back ⟨(i + 1, (stepR s (l.getD i 0)).1, (turnS n L (l.getD i 0)).1), ⟨by omega, hat.2, by rw [hn] at hst; exact hst.1, hst.2.2.1.trans hn, by have := hst.2.2.2; show ((stepR s (l.getD i 0)).1).2.1 ≤ i + 1; omega⟩⟩ (Wk.ren2 [ps 0 (iv ((n : Nat) : Int)), ps 5 (.ssl (tus RU) 0 RU.length), ps 8 (.ssl (ints ((turnS n L (l.getD i 0)).1)) 0 ((turnS n L (l.getD i 0)).1).length), ps 40 (.ssl (ints l) 0 l.length), ps 41 (iv ((l.length : Nat) : Int)), ps 42 (iv (((i + 1) : Nat) : Int))] 0 hc0 [] rfl rfl (by kernel_rfl) (by kernel_rfl)) (show l.length - (i + 1) < l.length - i from by show l.length - (i + 1) < l.length - i; omega)
  · refine T_else (b := (decide (((i : Nat) : Int) < ((l.length : Nat) : Int)))) rfl (decide_eq_false h2) ?_
    refine T_break rfl rfl ?_
    refine T_seq ?_
    refine T_region [] [ks 4] (fun _ => mixed) (l' := [ps 4 (bv true)]) (obs := []) (by kernel_rfl) (obs_nil) ?_
    exact T_ret fun cx_ a_ hI_ => ret_ok (H' := []) (.inr rfl) (Wk.ren2 [ps 4 (bv true)] 0 hc0 [] rfl rfl (by kernel_rfl) (by kernel_rfl)) rfl (obs_nil) (fun cx_ a_ hI_ => ret_res (l' := [ps 4 (bv true)]) (by kernel_rfl) cx_ a_ hI_) hI_
theorem law_no (n : Int) (h : n < 1 ∨ 65536 < n) (l : List Int) : PC Try.prog 3 [(iv n), (.ssl (ints l) 0 l.length)] [] (bv true) [] := by
  refine pc_intro Try.func3 rfl (by kernel_rfl) (Nat.le_of_ble_eq_true rfl) (by kernel_rfl) (l0 := [ps 0 (iv n), ps 1 (.ssl (ints l) 0 l.length)]) rfl (fun c0 Bor hc0 => ?_)
  refine T_seq ?_
  refine T_region [] [ks 0, ks 1] (fun _ => mixed) (l' := [ps 0 (iv n), ps 1 (.ssl (ints l) 0 l.length)]) (obs := []) (by kernel_rfl) (obs_nil) ?_
  refine T_seq ?_
  refine T_region [(2, .call [] [(iv n), (.ssl (ints l) 0 l.length)] [] (.tup [(.ssl [] 0 0), (iv 3)]) [])] [ks 0, ks 1, ks 5, ks 6] (fun _ => mixed) (l' := [ps 0 (iv n), ps 1 (.ssl (ints l) 0 l.length), ps 5 (.ssl [] 0 0), ps 6 (iv 3)]) (obs := [PC Try.prog 5 [(iv n), (.ssl (ints l) 0 l.length)] [] (.tup [(.ssl [] 0 0), (iv 3)]) [], [(iv n), (.ssl (ints l) 0 l.length)] = renL (sigi [] 24) [(iv n), (.ssl (ints l) 0 l.length)]]) (by kernel_rfl) (obs_cons (p := PC Try.prog 5 [(iv n), (.ssl (ints l) 0 l.length)] [] (.tup [(.ssl [] 0 0), (iv 3)]) []) (ring_no n h l) (obs_cons (p := [(iv n), (.ssl (ints l) 0 l.length)] = renL (sigi [] 24) [(iv n), (.ssl (ints l) 0 l.length)]) rfl (obs_nil))) ?_
  refine T_seq ?_
  refine T_seq ?_
  refine T_region [(1, .call [] [(iv n)] [] (iv 3) [])] [ks 0, ks 1, ks 5, ks 6, ks 7] (fun _ => mixed) (l' := [ps 0 (iv n), ps 1 (.ssl (ints l) 0 l.length), ps 5 (.ssl [] 0 0), ps 6 (iv 3), ps 7 (iv 3)]) (obs := [PC Try.prog 6 [(iv n)] [] (iv 3) [], [(iv n)] = renL (sigi [] 80) [(iv n)]]) (by kernel_rfl) (obs_cons (p := PC Try.prog 6 [(iv n)] [] (iv 3) []) (by have h0 := wrong_pc n; rw [show wrongR n = 3 from if_pos h] at h0; exact h0) (obs_cons (p := [(iv n)] = renL (sigi [] 80) [(iv n)]) rfl (obs_nil))) ?_
  refine T_seq ?_
  refine T_region [(3, .gd true .no), (4, .gd true .no)] [ks 0, ks 1, ks 5, ks 6, ks 7, ks 26] (fun _ => mixed) (l' := [ps 0 (iv n), ps 1 (.ssl (ints l) 0 l.length), ps 5 (.ssl [] 0 0), ps 6 (iv 3), ps 7 (iv 3), ps 26 (bv true)]) (obs := [true = true, true = true]) (by kernel_rfl) (obs_cons (p := true = true) rfl (obs_cons (p := true = true) rfl (obs_nil))) ?_
  refine T_then (b := true) rfl rfl ?_
  refine T_seq ?_
  refine T_region [(4, .gd true (.no)), (5, .gd true (.no)), (6, .gd true (.no))] [ks 4] (fun _ => mixed) (l' := [ps 4 (bv true)]) (obs := [true = true, true = true, true = true]) (by kernel_rfl) (obs_cons (p := true = true) rfl (obs_cons (p := true = true) rfl (obs_cons (p := true = true) rfl (obs_nil)))) ?_
  exact T_ret fun cx_ a_ hI_ => ret_ok (H' := []) (.inr rfl) (Wk.ren2 [ps 4 (bv true)] 0 hc0 [] rfl rfl (by kernel_rfl) (by kernel_rfl)) rfl (obs_nil) (fun cx_ a_ hI_ => ret_res (l' := [ps 4 (bv true)]) (by kernel_rfl) cx_ a_ hI_) hI_
theorem law_turns (n : Int) (l : List Int) (hl : l.length ≤ 1048576) : PC Try.prog 3 [iv n, .ssl (ints l) 0 l.length] [] (bv true) [] := by
  by_cases h : n < 1 ∨ 65536 < n
  · exact law_no n h l
  · obtain ⟨m, rfl⟩ : ∃ m : Nat, n = (m : Int) := ⟨n.toNat, by omega⟩
    exact law_yes m (by omega) (by omega) l hl
end Go.Proofs.Ytaeoielekkdenaa.Pm
