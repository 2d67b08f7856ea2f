/-
  What every law's row of this seat needs: the arguments read behind the call as before it, whatever their types, if the call has turned nothing that was there. | THE VALUE MACHINE (Row): a law's arguments, opened to values. | THE VALUE MACHINE (Open): whatever came in, by its type: numbers, truth values, floats, strings, slices and structs of such, as deep as they are. | What came in, at its types: lists of numbers, lists of such; how much they hold. | TEXTS: pitches and intervals that came in. | CHORDS: pitches, lists of them, numbers that came in. | FROM THE ROW's LIST OF VARIABLES to what the walks ask of the world.
-/
import Derived.Test.YtbgnegmjbnlemaaGreatDoorRows
import Derived.WalkKit
import Derived.ProofKit
import Derived.OpenShut
import Derived.Lib.SmallJoins
import Derived.Below
import Derived.ChangeSame
import Derived.SizedLaws
import Derived.Test.YtbgnegmjbnlemaaGreatDoorJLawSMoved2
import Derived.Deep.Matrix
import Derived.Test.YtbgnegmjbnlemaaGreatDoorJLawSMoved3
import Derived.Test.YtbgnegmjbnlemaaGreatDoorJLawSMoved1
import Derived.Lib.LaidU8T
import Derived.Lib.LaidTab
import Derived.PinnedBridge
import Derived.Lay
namespace Go.Proofs.YtbgnegmjbnlemaaGreatDoor
open Go.ChangeShapes Go.WideShapes Go.ChangeAt Go.RowKit

theorem Tryz.own : ownKnob Tryz.prog.godebug = none := by kernel_rfl
theorem Tryz.laidOut : laidOutB Tryz.prog = true := by kernel_rfl

section
variable {H : Type} {enc : TypeId × Value → H} {P : Program}
/-- All arguments at once. -/
theorem trodAll_stays (hl : laidOutB P = true) {W W' : World} {sp : Nat → Bool} (hb : Below W.heap.size W W') :
    ∀ {ts : List TypeId} {vs : List Value} {ds : List (DataW H)} {ps : List MemPlace}, (ts.all fun t => P.readableRec t && decide (t < P.types.size)) = true →
      DataW.TrodAll enc P W 0 (fun _ => true) true ts vs ds ps → (∀ x ∈ ps, x.block < W.heap.size) → (∀ x ∈ ps, sp x.block = true) → DataW.TrodAll enc P W' 0 sp true ts vs ds ps
  | [], _, _, _, _, h, _, _ => by obtain ⟨rfl, rfl, rfl⟩ := trodAll_nil h; exact trodAll_mk0
  | t :: ts, _, _, _, hr, h, hlt, hsp => by
    obtain ⟨v, vs, d, ds, p, q, rfl, rfl, rfl, h0, h1⟩ := trodAll_cons h
    simp only [List.all_cons, Bool.and_eq_true, decide_eq_true_eq] at hr
    exact trodAll_cons_mk (WideElems.Trod_stays hl hr.1.1 hr.1.2 h0 (fun x hx => hb.same (hlt x (by simp [hx]))) (fun x hx => hsp x (by simp [hx])))
      (trodAll_stays hl hb hr.2 h1 (fun x hx => hlt x (by simp [hx])) (fun x hx => hsp x (by simp [hx])))

/-- A law's post: true, and each argument reads as it did. -/
theorem law_post {f : Func} {s : ChangeSpec} {apart fresh handsOn again : Bool} {W W' : World} {args : Array Value} {ds : List (DataW H)} {before : List MemPlace} {tb : TypeId}
    (hW : DataW.Whole enc P f.params.toList s.vars apart W args.toList ds [] before) (hl : laidOutB P = true)
    (hv : s.vars = []) (hr : (f.params.toList.all fun t => P.readableRec t && decide (t < P.types.size)) = true) (hrt : f.resultTypes = #[tb]) (htb : P.underlying tb = some .bool)
    (hs : s.fn H (ds ++ []) = { results := [.lit (.bool true)], args := ds }) (hb : Below W.heap.size W W') :
    s.post enc P f apart fresh handsOn again W args (.bool true) W' := by
  have hlt : ∀ p ∈ before, p.block < W.heap.size := fun p hp => hW.lt p hp
  have hold : ∀ p ∈ before, (fun b => decide (b < W.heap.size)) p.block = true := fun p hp => by simpa using hlt p hp
  have hW0 := hW
  obtain ⟨p, q, hA, hV, hpq, hz, hn⟩ := hW
  have hq : q = [] := by rw [hv] at hV; exact (trodVars_none hV).2
  have hpq' : before = p := by rw [hpq, hq, List.append_nil]
  subst hpq'
  have hargs : ∀ sp : Nat → Bool, (∀ x ∈ before, sp x.block = true) → DataW.TrodAll enc P W' 0 sp true f.params.toList args.toList (s.fn H (ds ++ [])).args before := fun sp hsp => by
    rw [hs]; exact trodAll_stays hl hb hr hA hlt hsp
  have hvars : ∀ sp : Nat → Bool, DataW.TrodVars enc P W' sp s.vars (s.fn H (ds ++ [])).vars [] := fun sp => by rw [hs, hv]; rfl
  have hres : ∀ (b : Nat) (sp : Nat → Bool) (hd : Bool), DataW.TrodAll enc P W' b sp hd f.resultTypes.toList (Value.resultList f.resultTypes.size (.bool true)) (s.fn H (ds ++ [])).results [] := fun b sp hd => by
    rw [hrt, hs]; exact trodAll_mk1 (shut_bool htb true)
  have hok : ∀ (j : Nat) (t : TypeId) (r : Value), f.resultTypes[j]? = some t → (Value.resultList f.resultTypes.size (.bool true))[j]? = some r → Value.okWide P W' .any 0 t r := by
    exact ok_one (t := tb) hrt rfl (okWide_bool_mk htb true)
  refine ⟨ds, [], before, [], before, [], hW0, hres _ _ _, hargs _ hold, hvars _, World.keptBut_mono (fun p hp => ⟨hp, ?_⟩) (hb.frame (· ∈ before)), fun _ => ?_⟩
  · exact Or.inr (Or.inl hp)
  · refine ⟨hok, _, _, ([] ++ before) ++ [], ⟨[] ++ before, [], trodAll_append (hargs _ (fun _ _ => rfl)) (hres _ _ _), hvars _, rfl, ?_, ?_⟩, ?_⟩
    · intro b off hp
      have hin : MemPlace.cell b off ∈ before := by simpa using hp
      rw [hb.frozen (hlt _ hin)]
      exact hz b off hin
    · intro ha
      have := hn ha
      simpa using this
    · intro p hp _
      simpa using hp
end
end Go.Proofs.YtbgnegmjbnlemaaGreatDoor
namespace Go.Proofs.YtbgnegmjbnlemaaGreatDoor.Pm
open Go Go.Deep Go.ChangeShapes Go.WideShapes Go.ChangeAt Go.RowKit

theorem cells_from {w : World} {a : Addr} {n : Nat} {f : Nat → Value} (h : ∀ c, c < n → w.cell? (a.add c) = some (f c)) (hn : 0 < n) : ∃ b o, a = ⟨b, o, none⟩ ∧ b < w.heap.size ∧ ∀ c, c < n → w.cell? ⟨b, o + c, none⟩ = some (f c) := by
  obtain ⟨b, o, s⟩ := a
  have h0 := h 0 hn
  have hs : s = none := by
    simp only [Addr.add, if_true, World.cell?] at h0
    cases s with
    | none => rfl
    | some s =>
      exfalso
      split at h0
      · simp at h0
      · cases h0
  subst hs
  refine ⟨b, o, rfl, ?_, fun c hc => ?_⟩
  · simp only [Addr.add, if_true, World.cell?] at h0
    rcases Nat.lt_or_ge b w.heap.size with hb | hb
    · exact hb
    · rw [Array.getElem?_eq_none hb] at h0; cases h0
  · rw [← h c hc]
    unfold Addr.add
    by_cases e : c = 0
    · subst e; rfl
    · rw [if_neg e]
theorem ints_map (l : List Int) : ints l = l.map iv := by
  unfold ints
  induction l with
  | nil => rfl
  | cons a l ih => rw [List.flatMap_cons, ih]; rfl
theorem ints_ones (l : List Int) : ones (ints l) := fun p hp => by
  rw [ints_map] at hp
  obtain ⟨x, _, rfl⟩ := List.mem_map.1 hp
  rfl
theorem srep_ints {w : World} {A : Option Addr} {L C : Nat} {Z : List Int} (hl : L ≤ C) (hz : Z.length = C) (hn : A = none → C = 0) (hc : ∀ a, A = some a → ∀ c, c < C → w.cell? (a.add c) = some (.int .i64 (Z.getD c 0))) :
    SRep w (fun b => b < w.heap.size) (.ssl (ints (Z.take L)) 0 (Z.take L).length) (.slice A L C) := by
  have hL : (Z.take L).length = L := by rw [List.length_take]; omega
  rw [hL]
  rcases Nat.eq_zero_or_pos L with h | h
  · subst h; exact .emp
  · cases A with
    | none => have := hn rfl; omega
    | some a =>
      obtain ⟨b, o, rfl, hb, hcell⟩ := cells_from (hc a rfl) (by omega)
      refine SRep.ssl (a := o) (off := 0) (vf := fun j => .int .i64 (Z.getD j 0)) hb (fun j hj => ?_) (fun j hj => ?_) (ints_ones _) hl
      · rw [ints_len, hL] at hj; exact hcell j (by omega)
      · rw [ints_len, hL] at hj
        have : (ints (Z.take L)).getD j P0 = iv (Z.getD j 0) := by
          rw [ints_map]
          have h1 : j < Z.length := by omega
          simp [List.getD_eq_getElem?_getD, hj, h1]
        rw [this]
        exact .av _
theorem rows_map (T : List (List Int)) : rows T = T.map fun l => .ssl (ints l) 0 l.length := by
  induction T with
  | nil => rfl
  | cons a l ih => unfold rows at ih ⊢; rw [List.flatMap_cons, ih]; rfl
theorem srep_rows {w : World} {a : Addr} {len cap : Nat} {A : Nat → Option Addr} {L C : Nat → Nat} {Z : Nat → List Int} (hl : len ≤ cap)
    (h : ∀ r, r < cap → w.cell? (a.add r) = some (.slice (A r) (L r) (C r)) ∧ L r ≤ C r ∧ (Z r).length = C r ∧ (A r = none → C r = 0) ∧ ∀ a', A r = some a' → ∀ c, c < C r → w.cell? (a'.add c) = some (.int .i64 ((Z r).getD c 0))) :
    SRep w (fun b => b < w.heap.size) (.ssl (rows ((List.range len).map fun r => (Z r).take (L r))) 0 len) (.slice (some a) len cap) := by
  rcases Nat.eq_zero_or_pos len with h0 | h0
  · subst h0; exact .emp
  · obtain ⟨b, o, rfl, hb, hcell⟩ := cells_from (fun c hc => (h c hc).1) (by omega)
    have hlen : (rows ((List.range len).map fun r => (Z r).take (L r))).length = len := by rw [rows_map]; simp
    refine SRep.ssl (a := o) (off := 0) (vf := fun j => .slice (A j) (L j) (C j)) hb (fun j hj => ?_) (fun j hj => ?_) (fun p hp => ?_) hl
    · rw [hlen] at hj; exact hcell j (by omega)
    · rw [hlen] at hj
      have : (rows ((List.range len).map fun r => (Z r).take (L r))).getD j P0 = .ssl (ints ((Z j).take (L j))) 0 ((Z j).take (L j)).length := by
        rw [rows_map]
        simp [List.getD_eq_getElem?_getD, hj]
      rw [this]
      obtain ⟨_, h2, h3, h4, h5⟩ := h j (by omega)
      exact srep_ints h2 h3 h4 h5
    · rw [rows_map] at hp
      obtain ⟨x, _, rfl⟩ := List.mem_map.1 hp
      rfl
/-- A list of numbers that came in. -/
theorem arg_ints {H : Type} {enc : TypeId × Value → H} {P : Program} {w : World} {base : Nat} {t e : TypeId} {v : Value} {d : DataW H} {pl : List MemPlace} {r : Reach} {b0 : Nat} {held : Bool}
    (ht : P.underlying t = some (.slice e)) (he : P.underlying e = some (.int .i64)) (hc : P.cellsOf e = 1) (hv : Value.okWide P w r b0 t v) (h : DataW.Trod enc P w base (fun _ => true) held t v d pl) :
    ∃ l : List Int, SRep w (fun b => b < w.heap.size) (.ssl (ints l) 0 l.length) v ∧ (∀ n ∈ l, (Lit.int .i64 n).wf = true) ∧ (l = [] ∨ ∃ es sp, d = .slice es sp ∧ es.length = l.length) := by
  obtain ⟨a0, len0, cap0, rfl⟩ := okWide_slice ht hv
  obtain ⟨fuel, hf⟩ := h
  rcases open_ints ht he hc hf with ⟨hcs, _⟩ | ⟨a, len, cap, zs, hcs, hb, hl, hm, hz, hx, hcell, hwz⟩
  · simp only [Value.cells, List.cons.injEq, Value.slice.injEq, and_true] at hcs
    obtain ⟨rfl, rfl, rfl⟩ := hcs
    exact ⟨[], .emp, (by simp), .inl rfl⟩
  · simp only [Value.cells, List.cons.injEq, Value.slice.injEq, and_true] at hcs
    obtain ⟨rfl, rfl, rfl⟩ := hcs
    simp only [if_true] at hz
    simp only [Prod.mk.injEq] at hx
    refine ⟨zs.take len0, srep_ints hl hz (fun h => by cases h) (fun a' ha c hc => ?_), fun n hn => hwz n (List.mem_of_mem_take hn), .inr ⟨_, _, hx.1, by simp [lits]⟩⟩
    cases ha
    exact hcell c (by omega)
theorem weights_all_mem {H : Type} {P : Program} {e : TypeId} : ∀ {l : List (DataW H)} {d : DataW H}, d ∈ l → ∀ n ∈ d.weights P e, n ∈ DataW.weightsAll P e l
  | d' :: r, d, hd, n, hn => by
    simp only [DataW.weightsAll, List.mem_append]
    rcases List.mem_cons.1 hd with rfl | h
    · exact Or.inl hn
    · exact Or.inr (weights_all_mem h n hn)
/-- The reach, of a row inside a slice of slices. -/
theorem row_sized {H : Type} {P : Program} {ts : List TypeId} {ds : List (DataW H)} (h : (DataW.weightsEach P ts ds).all (· ≤ reachBytes) = true) {j : Nat} {t e q : TypeId} {elems spare e' sp' : List (DataW H)}
    (ht : ts[j]? = some t) (hd : ds[j]? = some (.slice elems spare)) (hu : P.underlying t = some (.slice e)) (hu2 : P.underlying e = some (.slice q)) (hx : DataW.slice e' sp' ∈ elems) : (e'.length + sp'.length) * P.bytesOf q ≤ reachBytes := by
  refine of_decide_eq_true (List.all_eq_true.1 h _ (DataW.weights_mem_each ht hd _ ?_))
  simp only [DataW.weights, hu, List.mem_cons, List.mem_append]
  exact Or.inr (Or.inl (weights_all_mem hx _ (by simp [DataW.weights, hu2])))
/-- The sizes of a list of numbers. -/
theorem ints_sized {H : Type} {P : Program} {ts : List TypeId} {ds : List (DataW H)} (h : (DataW.weightsEach P ts ds).all (· ≤ reachBytes) = true) {j : Nat} {t e : TypeId} {d : DataW H} {l : List Int} {k : Nat}
    (ht : ts[j]? = some t) (hd : ds[j]? = some d) (hu : P.underlying t = some (.slice e)) (hk : P.bytesOf e = k) (hx : l = [] ∨ ∃ es sp, d = .slice es sp ∧ es.length = l.length) : l.length * k ≤ 140737488351232 := by
  rcases hx with rfl | ⟨es, sp, rfl, he⟩
  · simp
  · have := sized_slice h ht hd hu
    rw [hk] at this
    rw [← he]
    exact Nat.le_trans (Nat.mul_le_mul_right k (Nat.le_add_right _ _)) this
/-- A list of lists of numbers that came in. -/
theorem arg_rows {H : Type} {enc : TypeId × Value → H} {P : Program} {w : World} {base : Nat} {t e q : TypeId} {v : Value} {d : DataW H} {pl : List MemPlace} {r : Reach} {b0 : Nat} {held : Bool}
    (ht : P.underlying t = some (.slice e)) (he : P.underlying e = some (.slice q)) (hq : P.underlying q = some (.int .i64)) (ce : P.cellsOf e = 1) (cq : P.cellsOf q = 1) (bq : P.bytesOf q = 8) (hv : Value.okWide P w r b0 t v) (h : DataW.Trod enc P w base (fun _ => true) held t v d pl)
    {ts : List TypeId} {ds : List (DataW H)} (hs : (DataW.weightsEach P ts ds).all (· ≤ reachBytes) = true) {j : Nat} (hj : ts[j]? = some t) (hd : ds[j]? = some d) :
    ∃ T : List (List Int), SRep w (fun b => b < w.heap.size) (.ssl (rows T) 0 T.length) v ∧ T.length ≤ 9223372036854775807 ∧ (∀ i, (T.getD i []).length * 8 ≤ 140737488351232) ∧ ∀ i, ∀ n ∈ T.getD i [], (Lit.int .i64 n).wf = true := by
  obtain ⟨a0, len0, cap0, rfl⟩ := okWide_slice ht hv
  obtain ⟨fuel, hf⟩ := h
  rcases open_int_rows ht he hq ce cq hf with ⟨hcs, _⟩ | ⟨a, len, cap, A, L, C, Z, hcs, _, hl, hm, hx, hrows⟩
  · simp only [Value.cells, List.cons.injEq, Value.slice.injEq, and_true] at hcs
    obtain ⟨rfl, rfl, rfl⟩ := hcs
    exact ⟨[], .emp, by simp, by simp, by simp⟩
  · simp only [Value.cells, List.cons.injEq, Value.slice.injEq, and_true] at hcs
    obtain ⟨rfl, rfl, rfl⟩ := hcs
    simp only [Prod.mk.injEq] at hx
    have hT : ((List.range len0).map fun r => (Z r).take (L r)).length = len0 := by simp
    have hg : ∀ i, i < len0 → ((List.range len0).map fun r => (Z r).take (L r)).getD i [] = (Z i).take (L i) := fun i hi => by simp [List.getD_eq_getElem?_getD, hi]
    have hg0 : ∀ i, ¬ i < len0 → ((List.range len0).map fun r => (Z r).take (L r)).getD i [] = [] := fun i hi => by rw [List.getD_eq_getElem?_getD, List.getElem?_eq_none (by simpa using hi)]; rfl
    refine ⟨(List.range len0).map fun r => (Z r).take (L r), ?_, ?_, fun i => ?_, fun i n hn => ?_⟩
    · rw [hT]
      exact srep_rows hl fun r hr => by
        obtain ⟨h1, h2, h3, h4, h5, h6, h7⟩ := hrows r hr
        exact ⟨h1, h2, h4, h6, fun a' ha => (h7 a' ha).2⟩
    · rw [hT]; unfold maxLen at hm; omega
    · by_cases hi : i < len0
      · rw [hg i hi]
        obtain ⟨h1, h2, h3, h4, h5, h6, h7⟩ := hrows i (by omega)
        cases hA : A i with
        | none => have := h6 hA; rw [List.length_take]; omega
        | some a' =>
          have hin := row_sized hs hj (by rw [hd, hx.1]) ht he (e' := lits .i64 ((Z i).take (L i))) (sp' := lits .i64 ((Z i).drop (L i))) (List.mem_map.2 ⟨i, List.mem_range.2 hi, by simp [intRow, hA]⟩)
          rw [bq] at hin
          simp only [lits, List.length_map, reachBytes] at hin
          omega
      · rw [hg0 i hi]; simp
    · by_cases hi : i < len0
      · rw [hg i hi] at hn
        exact (hrows i (by omega)).2.2.2.2.1 n (List.mem_of_mem_take hn)
      · rw [hg0 i hi] at hn; cases hn
end Go.Proofs.YtbgnegmjbnlemaaGreatDoor.Pm
namespace Go.Proofs.YtbgnegmjbnlemaaGreatDoor.Pm
open Go Go.Deep Go.ChangeShapes Go.WideShapes Go.ChangeAt Go.RowKit

/-- The parts of a struct, one behind the other. -/
def ShF (r : TypeId → List PV → Prop) : List Field → List PV → Prop
  | [], ps => ps = []
  | f :: fs, ps => ∃ a b, ps = a ++ b ∧ r f.type a ∧ ShF r fs b
/-- The tree's form, by the type. -/
def Sh (P : Program) : Nat → TypeId → List PV → Prop
  | 0, _, _ => False
  | n + 1, t, ps => match P.underlying t with
    | some .bool => ∃ b, ps = [.av (.bool b)]
    | some (.int k) => ∃ m, ps = [.av (.int k m)] ∧ (Lit.int k m).wf = true
    | some (.float k) => ∃ b, ps = [.av (.float k b)] ∧ (Lit.float k b).wf = true
    | some .string => ∃ s : ByteArray, ps = [.av (.string s)] ∧ s.size ≤ maxLen
    | some (.slice e) => ∃ ess : List (List PV), ps = [.ssl ess.flatten 0 ess.length] ∧ ess.length ≤ maxLen ∧ ess.length * P.bytesOf e ≤ reachBytes ∧ ∀ es ∈ ess, Sh P n e es
    | some (.struct fs) => ShF (Sh P n) fs.toList ps
    | _ => False
mutual
/-- How much a reading holds. -/
def bulkW {H : Type} : DataW H → Nat
  | .lit (.string bytes) => bytes.length + 1
  | .lit _ => 1
  | .nil => 1
  | .ptr d => bulkW d + 1
  | .slice elems spare => bulkAll elems + bulkAll spare + 1
  | .agg parts => bulkAll parts + 1
  | .iface _ d => bulkW d + 1
  | .map entries => bulkEntries entries + 1
  | .held _ => 1
def bulkAll {H : Type} : List (DataW H) → Nat
  | [] => 0
  | d :: r => bulkW d + bulkAll r
def bulkEntries {H : Type} : List (Lit × DataW H) → Nat
  | [] => 0
  | x :: r => bulkEntry x + bulkEntries r
def bulkEntry {H : Type} : Lit × DataW H → Nat
  | (.string bytes, d) => bytes.length + bulkW d + 1
  | (_, d) => bulkW d + 1
end
mutual
/-- How much a tree holds. -/
def pvw : PV → Nat
  | .av (.string s) => s.size + 1
  | .ssl cs _ _ => pvws cs + 1
  | .agg cs => pvws cs + 1
  | _ => 1
def pvws : List PV → Nat
  | [] => 0
  | p :: l => pvw p + pvws l
end
theorem pvws_app : ∀ a b : List PV, pvws (a ++ b) = pvws a + pvws b
  | [], b => by simp [pvws]
  | p :: a, b => by rw [List.cons_append, pvws, pvws, pvws_app a b]; omega
theorem pvws_flatten : ∀ l : List (List PV), pvws l.flatten = (l.map pvws).sum
  | [] => rfl
  | a :: l => by rw [List.flatten_cons, pvws_app, pvws_flatten l, List.map_cons, List.sum_cons]
theorem sum_le {H : Type} : ∀ (n : Nat) (f : Nat → Nat) (ds : List (DataW H)), ds.length = n → (∀ i (h : i < ds.length), f i ≤ bulkW ds[i]) → ((List.range n).map f).sum ≤ bulkAll ds
  | 0, f, ds, hl, h => by simp
  | n + 1, f, [], hl, h => by simp at hl
  | n + 1, f, d :: ds, hl, h => by
    rw [List.range_succ_eq_map, List.map_cons, List.sum_cons, List.map_map, bulkAll]
    have h0 := h 0 (by simp)
    have h1 := sum_le n (f ∘ Nat.succ) ds (by simpa using hl) fun i hi => by have := h (i + 1) (by simpa using hi); simpa using this
    simp only [List.getElem_cons_zero] at h0
    omega
def contig (P : Program) : List Field → Nat → Option Nat
  | [], o => some o
  | f :: fs, o => if f.offset = o then contig P fs (o + P.cellsOf f.type) else none
/-- These types can be opened, with all that is in them. -/
def openB (P : Program) (Ts : List TypeId) : Bool := Ts.all fun t => match P.underlying t with
  | some .bool | some (.int _) | some (.float _) | some .string => Nat.beq (P.cellsOf t) 1
  | some (.slice e) => Nat.beq (P.cellsOf t) 1 && Nat.ble 1 (P.cellsOf e) && Ts.contains e
  | some (.struct fs) => contig P fs.toList 0 == some (P.cellsOf t) && fs.toList.all fun f => Ts.contains f.type
  | _ => false
theorem List.getD_app {α : Type} {l m : List α} {i : Nat} {d : α} (h : i < l.length) : (l ++ m).getD i d = l.getD i d := by
  rw [List.getD_eq_getElem?_getD, List.getD_eq_getElem?_getD, List.getElem?_append_left h]
theorem List.getD_app_r {α : Type} {l m : List α} {i : Nat} {d : α} (h : l.length ≤ i) : (l ++ m).getD i d = m.getD (i - l.length) d := by
  rw [List.getD_eq_getElem?_getD, List.getD_eq_getElem?_getD, List.getElem?_append_right h]
theorem flatten_get {k : Nat} : ∀ {ess : List (List PV)}, (∀ es ∈ ess, es.length = k) → ess.flatten.length = ess.length * k ∧ ∀ i j, j < k → i < ess.length → ess.flatten.getD (i * k + j) P0 = (ess.getD i []).getD j P0
  | [], _ => ⟨by simp, fun i j _ h => absurd h (Nat.not_lt_zero _)⟩
  | es :: ess, h => by
    have h0 := h es (by simp)
    obtain ⟨h1, h2⟩ := flatten_get (ess := ess) fun x hx => h x (by simp [hx])
    refine ⟨by rw [List.flatten_cons, List.length_append, h0, h1, List.length_cons, Nat.succ_mul]; omega, fun i j hj hi => ?_⟩
    rw [List.flatten_cons]
    cases i with
    | zero => rw [Nat.zero_mul, Nat.zero_add, List.getD_app (by omega)]; rfl
    | succ i =>
      rw [List.getD_app_r (by rw [h0, Nat.succ_mul]; omega), h0, show (i + 1) * k + j - k = i * k + j from by rw [Nat.succ_mul]; omega, h2 i j hj (by simpa using hi)]
      rfl
section
variable {H : Type} {enc : TypeId × Value → H} {P : Program} {w : World} {base : Nat} {held : Bool}
abbrev Opened (w : World) (ps : List PV) (cs : List Value) : Prop := ones ps ∧ ps.length = cs.length ∧ ∀ i, i < ps.length → SRep w (fun b => b < w.heap.size) (ps.getD i P0) (cs.getD i undef)
theorem opened_one {p : PV} {v : Value} (h : p.one = true) (hr : SRep w (fun b => b < w.heap.size) p v) : Opened w [p] [v] :=
  ⟨fun q hq => by simp only [List.mem_singleton] at hq; rw [hq]; exact h, rfl, fun i hi => by
    have : i = 0 := by simp at hi; omega
    subst this; exact hr⟩
theorem open_fs {Ts : List TypeId} {n : Nat} (ih : ∀ (t : TypeId) (cs : List Value) (x : DataW H × List MemPlace), t ∈ Ts → DataW.trod enc P w base (fun _ => true) held n t cs = some x → (x.1.weights P t).all (· ≤ reachBytes) = true →
    ∃ ps, Sh P n t ps ∧ Opened w ps cs ∧ cs.length = P.cellsOf t ∧ pvws ps ≤ bulkW x.1) (cs : List Value) :
    ∀ (fs : List Field) (xs : List (DataW H × List MemPlace)) (o e : Nat), contig P fs o = some e → e ≤ cs.length → (∀ f ∈ fs, f.type ∈ Ts) → xs.length = fs.length →
      (∀ (i : Nat) (f : Field), fs[i]? = some f → DataW.trod enc P w base (fun _ => true) held n f.type ((cs.drop f.offset).take (P.cellsOf f.type)) = xs[i]?) →
      (DataW.weightsEach P (fs.map (·.type)) (xs.map (·.1))).all (· ≤ reachBytes) = true → ∃ ps, ShF (Sh P n) fs ps ∧ Opened w ps ((cs.drop o).take (e - o)) ∧ o ≤ e ∧ pvws ps ≤ bulkAll (xs.map (·.1))
  | [], xs, o, e, hc, he, _, _, _, _ => by
    simp only [contig, Option.some.injEq] at hc
    subst hc
    exact ⟨[], rfl, ⟨fun p hp => (by cases hp), by simp, fun i hi => by simp at hi⟩, Nat.le_refl _, Nat.zero_le _⟩
  | f :: fs, [], o, e, hc, he, hT, hx, hf, hw => by simp at hx
  | f :: fs, x :: xs, o, e, hc, he, hT, hx, hf, hw => by
    simp only [contig] at hc
    split at hc
    case isFalse => cases hc
    rename_i ho
    simp only [List.map_cons, DataW.weightsEach, List.all_append, Bool.and_eq_true] at hw
    obtain ⟨b, hb1, hb2, hb3, hb4⟩ := open_fs ih cs fs xs _ e hc he (fun g hg => hT g (by simp [hg])) (by simpa using hx) (fun i g hg => by have := hf (i + 1) g (by simpa using hg); simpa using this) hw.2
    obtain ⟨a, ha1, ha2, ha3, ha4⟩ := ih f.type _ x (hT f (by simp)) (by have := hf 0 f (by simp); simpa using this) hw.1
    rw [ho] at ha2 ha3
    have hla : (List.take (P.cellsOf f.type) (List.drop o cs)).length = P.cellsOf f.type := ha3
    have e1 : (cs.drop o).take (e - o) = (cs.drop o).take (P.cellsOf f.type) ++ (cs.drop (o + P.cellsOf f.type)).take (e - (o + P.cellsOf f.type)) := by
      rw [← List.drop_drop, show e - o = P.cellsOf f.type + (e - (o + P.cellsOf f.type)) from by omega, List.take_add]
    refine ⟨a ++ b, ⟨a, b, rfl, ha1, hb1⟩, ?_, by omega, by rw [pvws_app, List.map_cons, bulkAll]; omega⟩
    rw [e1]
    refine ⟨fun p hp => ?_, by rw [List.length_append, List.length_append, ha2.2.1, hb2.2.1], fun i hi => ?_⟩
    · rcases List.mem_append.1 hp with h | h
      · exact ha2.1 p h
      · exact hb2.1 p h
    · have hl := ha2.2.1
      rw [List.length_append] at hi
      by_cases h : i < a.length
      · rw [List.getD_app h, List.getD_app (by omega)]
        exact ha2.2.2 i h
      · rw [List.getD_app_r (by omega), List.getD_app_r (by omega), ← hl]
        exact hb2.2.2 _ (by omega)
theorem open_any {Ts : List TypeId} (hT : openB P Ts = true) : ∀ (n : Nat) (t : TypeId) (cs : List Value) (x : DataW H × List MemPlace), t ∈ Ts → DataW.trod enc P w base (fun _ => true) held n t cs = some x → (x.1.weights P t).all (· ≤ reachBytes) = true →
    ∃ ps, Sh P n t ps ∧ Opened w ps cs ∧ cs.length = P.cellsOf t ∧ pvws ps ≤ bulkW x.1
  | 0, _, _, _, _, h, _ => by simp [DataW.trod] at h
  | n + 1, t, cs, x, ht, h, hw => by
    have hB := List.all_eq_true.1 hT t ht
    split at hB
    · rename_i hu
      obtain ⟨b, rfl, rfl⟩ := DataW.trod_bool hu h
      exact ⟨[.av (.bool b)], by simp only [Sh, hu]; exact ⟨b, rfl⟩, opened_one rfl (.av _), (Nat.eq_of_beq_eq_true hB).symm, by simp [pvws, pvw, bulkW]⟩
    · rename_i k hu
      obtain ⟨b, rfl, rfl, hwf⟩ := DataW.trod_int hu h
      exact ⟨[.av (.int k b)], by simp only [Sh, hu]; exact ⟨b, rfl, hwf⟩, opened_one rfl (.av _), (Nat.eq_of_beq_eq_true hB).symm, by simp [pvws, pvw, bulkW]⟩
    · rename_i k hu
      have : ∃ b, cs = [.float k b] ∧ (Lit.float k b).wf = true ∧ x = (.lit (.float k b), []) := by
        unfold DataW.trod at h
        rw [hu] at h
        split at h <;> simp_all
      obtain ⟨b, rfl, hwf, rfl⟩ := this
      exact ⟨[.av (.float k b)], by simp only [Sh, hu]; exact ⟨b, rfl, hwf⟩, opened_one rfl (.av _), (Nat.eq_of_beq_eq_true hB).symm, by simp [pvws, pvw, bulkW]⟩
    · rename_i hu
      obtain ⟨s, rfl, rfl, hs⟩ := DataW.trod_string hu h
      exact ⟨[.av (.string s)], by simp only [Sh, hu]; exact ⟨s, rfl, hs⟩, opened_one rfl (.av _), (Nat.eq_of_beq_eq_true hB).symm, by simp [pvws, pvw, bulkW]⟩
    · rename_i e hu
      simp only [Bool.and_eq_true] at hB
      obtain ⟨⟨hB1, hB2⟩, hB3⟩ := hB
      have hB1 := Nat.eq_of_beq_eq_true hB1
      have hk := Nat.le_of_ble_eq_true hB2
      have he : e ∈ Ts := by simpa using hB3
      rcases DataW.trod_slice hu h with ⟨rfl, rfl⟩ | ⟨a, len, cap, elems, rest, m, hm, rfl, rfl, hb, hl, hcap, hel, hE, _, _⟩
      · refine ⟨[.ssl [] 0 0], ?_, opened_one rfl .emp, hB1.symm, by simp [pvws, pvw, bulkW]⟩
        simp only [Sh, hu]
        exact ⟨[], rfl, Nat.zero_le _, by simp, by simp⟩
      · obtain rfl : m = n := by omega
        simp only [DataW.weights, hu, List.length_map, List.all_cons, List.all_append, Bool.and_eq_true, decide_eq_true_eq] at hw
        have hwl : ∀ i (hi : i < elems.length), ((elems[i].1).weights P e).all (· ≤ reachBytes) = true := by
          intro i hi
          refine List.all_eq_true.2 fun z hz => ?_
          exact List.all_eq_true.1 hw.2.1 z (weights_all_mem (List.mem_map.2 ⟨elems[i], List.getElem_mem hi, rfl⟩) z hz)
        have each : ∀ i, i < len → ∃ q : List PV × List Value, Sh P m e q.1 ∧ Opened w q.1 q.2 ∧ q.2.length = P.cellsOf e ∧ (∀ j, j < P.cellsOf e → w.cell? (a.add (i * P.cellsOf e + j)) = some (q.2.getD j undef)) ∧ ∀ h : i < elems.length, pvws q.1 ≤ bulkW (elems[i]).1 := by
          intro i hi
          have h1 := hE i hi
          rw [List.getElem?_eq_getElem (by omega), Option.bind_eq_some_iff] at h1
          obtain ⟨cs', h2, h3⟩ := h1
          obtain ⟨ps, h4, h5, h6, h7⟩ := open_any hT m e cs' _ he h3 (hwl i (by omega))
          refine ⟨(ps, cs'), h4, h5, h6, fun j hj => ?_, fun _ => h7⟩
          rw [← Addr.add_add, (World.cells?_some h2).2.2 j hj]
          have : j < cs'.length := by omega
          simp [List.getD_eq_getElem?_getD, this]
        let Q : Nat → List PV × List Value := fun i => if hi : i < len then (each i hi).choose else ([], [])
        have hQ : ∀ i, i < len → Sh P m e (Q i).1 ∧ Opened w (Q i).1 (Q i).2 ∧ (Q i).2.length = P.cellsOf e ∧ (∀ j, j < P.cellsOf e → w.cell? (a.add (i * P.cellsOf e + j)) = some ((Q i).2.getD j undef)) ∧ ∀ h : i < elems.length, pvws (Q i).1 ≤ bulkW (elems[i]).1 := by
          intro i hi
          have e1 : Q i = (each i hi).choose := dif_pos hi
          rw [e1]
          exact (each i hi).choose_spec
        have hlen : ((List.range len).map fun i => (Q i).1).length = len := by simp
        refine ⟨[.ssl ((List.range len).map fun i => (Q i).1).flatten 0 ((List.range len).map fun i => (Q i).1).length], ?_, opened_one rfl ?_, hB1.symm, ?_⟩
        · simp only [Sh, hu]
          refine ⟨_, rfl, by rw [hlen]; omega, by rw [hlen]; exact Nat.le_trans (Nat.mul_le_mul_right _ (by omega)) hw.1, fun es hes => ?_⟩
          obtain ⟨i, hi, rfl⟩ := List.mem_map.1 hes
          exact (hQ i (List.mem_range.1 hi)).1
        · rw [hlen]
          rcases Nat.eq_zero_or_pos len with h0 | h0
          · subst h0; exact .emp
          · have hes : ∀ es ∈ (List.range len).map fun i => (Q i).1, es.length = P.cellsOf e := fun es hes => by
              obtain ⟨i, hi, rfl⟩ := List.mem_map.1 hes
              obtain ⟨_, h2, h3, _⟩ := hQ i (List.mem_range.1 hi)
              exact h2.2.1.trans h3
            obtain ⟨hf1, hf2⟩ := flatten_get hes
            rw [hlen] at hf1 hf2
            have hg : ∀ i, i < len → ((List.range len).map fun i => (Q i).1).getD i [] = (Q i).1 := fun i hi => by simp [List.getD_eq_getElem?_getD, hi]
            obtain ⟨b, o, rfl, hbs, hcell⟩ := cells_from (w := w) (a := a) (n := len * P.cellsOf e) (f := fun c => (Q (c / P.cellsOf e)).2.getD (c % P.cellsOf e) undef) (fun c hc => by
              have hd : c / P.cellsOf e < len := Nat.div_lt_of_lt_mul (by rw [Nat.mul_comm]; exact hc)
              have := (hQ _ hd).2.2.2.1 (c % P.cellsOf e) (Nat.mod_lt _ hk)
              rw [Nat.mul_comm, Nat.div_add_mod] at this
              exact this) (Nat.mul_pos h0 hk)
            refine SRep.ssl (a := o) (off := 0) (vf := fun c => (Q (c / P.cellsOf e)).2.getD (c % P.cellsOf e) undef) hbs (fun j hj => hcell j (by omega)) (fun j hj => ?_) (fun p hp => ?_) hl
            · rw [hf1] at hj
              have hd : j / P.cellsOf e < len := Nat.div_lt_of_lt_mul (by rw [Nat.mul_comm]; exact hj)
              have hm := Nat.mod_lt j hk
              have e1 := hf2 (j / P.cellsOf e) (j % P.cellsOf e) hm hd
              rw [Nat.mul_comm, Nat.div_add_mod, hg _ hd] at e1
              rw [e1]
              obtain ⟨_, h2, h3, _⟩ := hQ _ hd
              exact h2.2.2 _ (by rw [h2.2.1, h3]; exact hm)
            · obtain ⟨es, hes', hp'⟩ := List.mem_flatten.1 hp
              obtain ⟨i, hi, rfl⟩ := List.mem_map.1 hes'
              exact (hQ i (List.mem_range.1 hi)).2.1.1 p hp'
        · simp only [pvws, pvw, bulkW, pvws_flatten, List.map_map]
          have := sum_le len (pvws ∘ fun i => (Q i).1) (elems.map (·.1)) (by simpa using hel) fun i hi => by
            have hi' : i < elems.length := by simpa using hi
            have := (hQ i (by omega)).2.2.2.2 hi'
            simpa using this
          omega
    · rename_i fs hu
      simp only [Bool.and_eq_true, beq_iff_eq, List.all_eq_true] at hB
      obtain ⟨xs, m, hm, rfl, hl, hxl, hf⟩ := DataW.trod_struct hu h
      obtain rfl : m = n := by omega
      simp only [DataW.weights, hu] at hw
      obtain ⟨ps, h1, h2, _, h4⟩ := open_fs (open_any hT m) cs fs.toList xs 0 _ hB.1 (by omega) (fun f hf => by simpa using hB.2 f hf) (by simpa using hxl) (fun i f hif => hf i f (by simpa using hif)) hw
      rw [List.drop_zero, Nat.sub_zero, ← hl, List.take_length] at h2
      exact ⟨ps, by simp only [Sh, hu]; exact h1, h2, hl, by simp only [bulkW]; omega⟩
    · cases hB
end
theorem weights_at {H : Type} {P : Program} {ts : List TypeId} {ds : List (DataW H)} (h : (DataW.weightsEach P ts ds).all (· ≤ reachBytes) = true) {j : Nat} {t : TypeId} {d : DataW H} (ht : ts[j]? = some t) (hd : ds[j]? = some d) : (d.weights P t).all (· ≤ reachBytes) = true :=
  List.all_eq_true.2 fun n hn => List.all_eq_true.1 h n (DataW.weights_mem_each ht hd n hn)
/-- An argument, whatever its type. -/
theorem arg_any {H : Type} {enc : TypeId × Value → H} {P : Program} {w : World} {base : Nat} {t : TypeId} {v : Value} {d : DataW H} {pl : List MemPlace} {r : Reach} {b0 : Nat} {held : Bool} {Ts : List TypeId}
    (hT : openB P Ts = true) (ht : t ∈ Ts) (hv : Value.okWide P w r b0 t v) (h : DataW.Trod enc P w base (fun _ => true) held t v d pl)
    {ts : List TypeId} {ds : List (DataW H)} (hs : (DataW.weightsEach P ts ds).all (· ≤ reachBytes) = true) {j : Nat} (hj : ts[j]? = some t) (hd : ds[j]? = some d) :
    ∃ n ps, Sh P n t ps ∧ pvws ps ≤ bulkW d ∧ match isAggD (P.underlying t) with
      | some true => SRep w (fun b => b < w.heap.size) (.agg ps) v
      | _ => ∃ p, ps = [p] ∧ SRep w (fun b => b < w.heap.size) p v := by
  obtain ⟨n, hf⟩ := h
  obtain ⟨ps, h1, ⟨h2, h3, h4⟩, h5, h6⟩ := open_any hT n t _ _ ht hf (weights_at hs hj hd)
  refine ⟨n, ps, h1, h6, ?_⟩
  have hB := List.all_eq_true.1 hT t ht
  have one : v.cells = #[v] → ∃ p, ps = [p] ∧ SRep w (fun b => b < w.heap.size) p v := fun hc => by
    rw [hc] at h3 h4
    simp only [List.length_cons, List.length_nil] at h3
    obtain ⟨p, rfl⟩ := List.length_eq_one_iff.1 h3
    exact ⟨p, rfl, h4 0 (by simp)⟩
  split at hB
  · rename_i hu
    obtain ⟨b, rfl⟩ := okWide_bool hu hv
    simp only [hu, isAggD]
    exact one rfl
  · rename_i k hu
    obtain ⟨b, rfl⟩ := okWide_int hu hv
    simp only [hu, isAggD]
    exact one rfl
  · rename_i k hu
    have : ∃ b, v = .float k b := by
      simp only [Value.okWide, hu, Cell.okWide] at hv
      cases v <;> simp_all [Cell.ok]
    obtain ⟨b, rfl⟩ := this
    simp only [hu, isAggD]
    exact one rfl
  · rename_i hu
    obtain ⟨b, rfl⟩ := okWide_string hu hv
    simp only [hu, isAggD]
    exact one rfl
  · rename_i e hu
    obtain ⟨a, l, c, rfl⟩ := okWide_slice hu hv
    simp only [hu, isAggD]
    exact one rfl
  · rename_i fs hu
    obtain ⟨cs, rfl, hsz⟩ := okWide_struct hu hv
    simp only [hu, isAggD]
    simp only [Value.cells] at h3 h4
    refine .agg (by simpa using h3.symm) fun i hi => ?_
    have := h4 i hi
    rwa [show cs.toList.getD i undef = cs.getD i undef from by rw [List.getD_eq_getElem?_getD, Array.getElem?_toList, Array.getD_eq_getD_getElem?]] at this
  · cases hB
end Go.Proofs.YtbgnegmjbnlemaaGreatDoor.Pm
namespace Go.Proofs.YtbgnegmjbnlemaaGreatDoor.Pm
open Go Go.Deep Go.ChangeShapes Go.WideShapes Go.ChangeAt Go.RowKit

mutual
theorem bulk_eq {H : Type} : ∀ d : DataW H, Rows.uptoBulk d = bulkW d
  | .lit (.string b) => by simp [Rows.uptoBulk, bulkW]
  | .lit (.bool _) => by simp [Rows.uptoBulk, bulkW]
  | .lit (.int _ _) => by simp [Rows.uptoBulk, bulkW]
  | .lit (.float _ _) => by simp [Rows.uptoBulk, bulkW]
  | .lit .nil => by simp [Rows.uptoBulk, bulkW]
  | .nil => by simp [Rows.uptoBulk, bulkW]
  | .ptr d => by simp [Rows.uptoBulk, bulkW, bulk_eq d]
  | .slice e s => by simp [Rows.uptoBulk, bulkW, bulk_all e, bulk_all s]
  | .agg ps => by simp [Rows.uptoBulk, bulkW, bulk_all ps]
  | .iface _ d => by simp [Rows.uptoBulk, bulkW, bulk_eq d]
  | .map es => by simp [Rows.uptoBulk, bulkW, bulk_entries es]
  | .held _ => by simp [Rows.uptoBulk, bulkW]
theorem bulk_all {H : Type} : ∀ l : List (DataW H), Rows.uptoBulkAll l = bulkAll l
  | [] => by simp [Rows.uptoBulkAll, bulkAll]
  | d :: l => by simp [Rows.uptoBulkAll, bulkAll, bulk_eq d, bulk_all l]
theorem bulk_entries {H : Type} : ∀ l : List (Lit × DataW H), Rows.uptoBulkEntries l = bulkEntries l
  | [] => by simp [Rows.uptoBulkEntries, bulkEntries]
  | x :: l => by simp [Rows.uptoBulkEntries, bulkEntries, bulk_entry x, bulk_entries l]
theorem bulk_entry {H : Type} : ∀ x : Lit × DataW H, Rows.uptoBulkEntry x = bulkEntry x
  | (.string b, d) => by simp [Rows.uptoBulkEntry, bulkEntry, bulk_eq d]
  | (.bool _, d) => by simp [Rows.uptoBulkEntry, bulkEntry, bulk_eq d]
  | (.int _ _, d) => by simp [Rows.uptoBulkEntry, bulkEntry, bulk_eq d]
  | (.float _ _, d) => by simp [Rows.uptoBulkEntry, bulkEntry, bulk_eq d]
  | (.nil, d) => by simp [Rows.uptoBulkEntry, bulkEntry, bulk_eq d]
end
theorem small_bulk {H : Type} {l : List (DataW H)} (hk : Rows.uptoSmall H l = true) : bulkAll l ≤ 1048576 := by
  have h : Rows.uptoBulkAll l ≤ 1048576 := of_decide_eq_true hk
  rwa [bulk_all] at h
theorem bulk_mem {H : Type} {d : DataW H} : ∀ {l : List (DataW H)}, d ∈ l → bulkW d ≤ bulkAll l
  | x :: l, h => by
    rw [bulkAll]
    rcases List.mem_cons.1 h with rfl | h
    · omega
    · have := bulk_mem h; omega
theorem list_of {α : Type} {g : α → List PV} {q : α → Prop} : ∀ {ess : List (List PV)}, (∀ es ∈ ess, ∃ x, es = g x ∧ q x) → ∃ l : List α, ess = l.map g ∧ ∀ x ∈ l, q x
  | [], _ => ⟨[], rfl, by simp⟩
  | es :: ess, h => by
    obtain ⟨x, rfl, hx⟩ := h es (by simp)
    obtain ⟨l, rfl, hl⟩ := list_of (ess := ess) fun e he => h e (by simp [he])
    exact ⟨x :: l, rfl, fun y hy => by
      rcases List.mem_cons.1 hy with rfl | hy
      · exact hx
      · exact hl y hy⟩
theorem flat_of {α : Type} (g : α → List PV) (l : List α) : (l.map g).flatten = l.flatMap g := List.flatMap_def.symm
theorem getD_of {α : Type} {q : α → Prop} {l : List α} (h : ∀ x ∈ l, q x) (d : α) (hd : q d) (i : Nat) : q (l.getD i d) := by
  rcases Nat.lt_or_ge i l.length with h1 | h1
  · rw [List.getD_eq_getElem?_getD, List.getElem?_eq_getElem h1]
    exact h _ (List.getElem_mem h1)
  · rw [List.getD_eq_getElem?_getD, List.getElem?_eq_none h1]
    exact hd
/-- A number of a kind. -/
theorem sh_num {P : Program} {t : TypeId} {k : IntKind} (ht : P.underlying t = some (.int k)) {n : Nat} {ps : List PV} (h : Sh P n t ps) : ∃ m, ps = [.av (.int k m)] ∧ (Lit.int k m).wf = true := by
  cases n with
  | zero => exact h.elim
  | succ n => simpa only [Sh, ht] using h
theorem sh_bool {P : Program} {t : TypeId} (ht : P.underlying t = some .bool) {n : Nat} {ps : List PV} (h : Sh P n t ps) : ∃ b, ps = [bv b] := by
  cases n with
  | zero => exact h.elim
  | succ n => simpa only [Sh, ht] using h
theorem sh_str {P : Program} {t : TypeId} (ht : P.underlying t = some .string) {n : Nat} {ps : List PV} (h : Sh P n t ps) : ∃ s : ByteArray, ps = [.av (.string s)] ∧ s.size ≤ maxLen := by
  cases n with
  | zero => exact h.elim
  | succ n => simpa only [Sh, ht] using h
theorem sh_float {P : Program} {t : TypeId} {k : FloatKind} (ht : P.underlying t = some (.float k)) {n : Nat} {ps : List PV} (h : Sh P n t ps) : ∃ b, ps = [.av (.float k b)] ∧ (Lit.float k b).wf = true := by
  cases n with
  | zero => exact h.elim
  | succ n => simpa only [Sh, ht] using h
/-- A slice of elements that are told. -/
theorem sh_list {P : Program} {t e : TypeId} (ht : P.underlying t = some (.slice e)) {α : Type} {g : α → List PV} {q : α → Prop} {n : Nat} {ps : List PV} (h : Sh P n t ps) (hg : ∀ m es, m < n → Sh P m e es → ∃ x, es = g x ∧ q x) :
    ∃ l : List α, ps = [.ssl (l.flatMap g) 0 l.length] ∧ (∀ x ∈ l, q x) ∧ l.length ≤ maxLen ∧ l.length * P.bytesOf e ≤ reachBytes := by
  cases n with
  | zero => exact h.elim
  | succ n =>
    simp only [Sh, ht] at h
    obtain ⟨ess, rfl, h1, h2, h3⟩ := h
    obtain ⟨l, rfl, hl⟩ := list_of fun es hes => hg n es (Nat.lt_succ_self _) (h3 es hes)
    rw [List.length_map] at h1 h2
    refine ⟨l, by rw [flat_of, List.length_map], hl, h1, h2⟩
theorem sh_ints {P : Program} {t e : TypeId} (ht : P.underlying t = some (.slice e)) (he : P.underlying e = some (.int .i64)) {n : Nat} {ps : List PV} (h : Sh P n t ps) :
    ∃ l : List Int, ps = [.ssl (ints l) 0 l.length] ∧ (∀ m ∈ l, (Lit.int .i64 m).wf = true) ∧ l.length ≤ maxLen ∧ l.length * P.bytesOf e ≤ reachBytes := by
  obtain ⟨l, h1, h2, h3, h4⟩ := sh_list (g := fun m => [iv m]) (q := fun m => (Lit.int .i64 m).wf = true) ht h fun m es _ hs => by
    obtain ⟨x, h1, h2⟩ := sh_num he hs
    exact ⟨x, h1, h2⟩
  exact ⟨l, h1, h2, h3, h4⟩
theorem sh_rows {P : Program} {t e k : TypeId} (ht : P.underlying t = some (.slice e)) (he : P.underlying e = some (.slice k)) (hk : P.underlying k = some (.int .i64)) {n : Nat} {ps : List PV} (h : Sh P n t ps) :
    ∃ T : List (List Int), ps = [.ssl (rows T) 0 T.length] ∧ (∀ l ∈ T, (∀ m ∈ l, (Lit.int .i64 m).wf = true) ∧ l.length * P.bytesOf k ≤ reachBytes) ∧ T.length ≤ maxLen := by
  obtain ⟨l, h1, h2, h3, _⟩ := sh_list (g := fun l : List Int => [.ssl (ints l) 0 l.length]) (q := fun l => (∀ m ∈ l, (Lit.int .i64 m).wf = true) ∧ l.length * P.bytesOf k ≤ reachBytes) ht h fun m es _ hs => by
    obtain ⟨x, h1, h2, _, h3⟩ := sh_ints he hk hs
    exact ⟨x, h1, h2, h3⟩
  exact ⟨l, h1, h2, h3⟩
theorem pvws_ints (l : List Int) : pvws (ints l) = l.length := by
  induction l with
  | nil => rfl
  | cons a l ih =>
    rw [ints_map] at ih ⊢
    rw [List.map_cons, pvws, ih, List.length_cons, pvw]
    · omega
    all_goals intros; simp_all
theorem pvws_rows : ∀ T : List (List Int), pvws (rows T) = (T.map List.length).sum + T.length
  | [] => rfl
  | l :: T => by
    have ih := pvws_rows T
    rw [rows_map] at ih ⊢
    rw [List.map_cons, pvws, ih, pvw, pvws_ints, List.map_cons, List.sum_cons, List.length_cons]
    omega
end Go.Proofs.YtbgnegmjbnlemaaGreatDoor.Pm
namespace Go.Proofs.YtbgnegmjbnlemaaGreatDoor.Pm
open Go Go.Proofs.YtbgnegmjbnlemaaGreatDoor.Pi

theorem i5_of {n : Int} (h : (Lit.int .i64 n).wf = true) : Pi.I64 n := by
  simp [Lit.wf, IntKind.min, IntKind.max, IntKind.signed, IntKind.bits] at h; unfold Pi.I64; omega
theorem sh_one {n : Nat} {ps : List PV} (h : Sh Tryz.prog n 3 ps) : ∃ m, ps = [iv m] ∧ Pi.I64 m := by
  obtain ⟨m, h1, h2⟩ := sh_num Tryz.underlying3 h
  exact ⟨m, h1, i5_of h2⟩
theorem pit_of (n : Nat) (ps : List PV) (h : Sh Tryz.prog n 23 ps) : ∃ l a o, ps = [iv l, iv a, iv o] ∧ Pi.I64 l ∧ Pi.I64 a ∧ Pi.I64 o := by
  cases n with
  | zero => exact h.elim
  | succ n =>
    simp only [Sh, Tryz.underlying23, ShF] at h
    obtain ⟨a, b, rfl, h1, c, d, rfl, h2, e, f, rfl, h3, rfl⟩ := h
    obtain ⟨x, rfl, hx⟩ := sh_one h1
    obtain ⟨y, rfl, hy⟩ := sh_one h2
    obtain ⟨z, rfl, hz⟩ := sh_one h3
    exact ⟨x, y, z, rfl, hx, hy, hz⟩
theorem inv_of (n : Nat) (ps : List PV) (h : Sh Tryz.prog n 37 ps) : ∃ s k, ps = [iv s, iv k] ∧ Pi.I64 s ∧ Pi.I64 k := by
  cases n with
  | zero => exact h.elim
  | succ n =>
    simp only [Sh, Tryz.underlying37, ShF] at h
    obtain ⟨a, b, rfl, h1, c, d, rfl, h2, rfl⟩ := h
    obtain ⟨x, rfl, hx⟩ := sh_one h1
    obtain ⟨y, rfl, hy⟩ := sh_one h2
    exact ⟨x, y, rfl, hx, hy⟩
theorem str_sized2 {H : Type} {enc : TypeId × Value → H} {P : Program} {w : World} {base : Nat} {t : TypeId} {v : Value} {d : DataW H} {pl : List MemPlace} {held : Bool} {sp : Nat → Bool} (hu : P.underlying t = some .string) (h : DataW.Trod enc P w base sp held t v d pl)
    {ts : List TypeId} {ds : List (DataW H)} (hs : (DataW.weightsEach P ts ds).all (· ≤ reachBytes) = true) {j : Nat} (hj : ts[j]? = some t) (hd : ds[j]? = some d) {S : Nat → Prop} {s : ByteArray} (hv : SRep w S (.av (.string s)) v) : s.data.toList.length ≤ 140737488351232 := by
  have e : v = Value.string s := by cases hv; rfl
  subst e
  obtain ⟨n, hf⟩ := h
  obtain ⟨s', hc, hx, _⟩ := DataW.trod_string hu hf
  have hw := weights_at hs hj hd
  have hx1 := congrArg Prod.fst hx
  simp only at hx1
  subst hx1
  have hc : [Value.string s] = [Value.string s'] := hc
  injection hc with hc _
  injection hc with hc
  subst hc
  have hw : ([s.data.toList.length].all (· ≤ reachBytes)) = true := hw
  have : s.data.toList.length ≤ reachBytes := by
    have h9 := List.all_eq_true.1 hw s.data.toList.length (List.mem_singleton.2 rfl)
    exact of_decide_eq_true h9
  exact this
end Go.Proofs.YtbgnegmjbnlemaaGreatDoor.Pm
namespace Go.Proofs.YtbgnegmjbnlemaaGreatDoor.Pm
open Go Go.Proofs.YtbgnegmjbnlemaaGreatDoor.Pi

theorem pt_of (n : Nat) (ps : List PV) (h : Sh Tryz.prog n 23 ps) : ∃ p : Pt, ps = ptC p ∧ Pi.I64 p.1 ∧ Pi.I64 p.2.1 ∧ Pi.I64 p.2.2 := by
  obtain ⟨x, y, z, rfl, hx, hy, hz⟩ := pit_of n ps h
  exact ⟨(x, y, z), rfl, hx, hy, hz⟩
theorem pts_of (n : Nat) (p : PV) (h : Sh Tryz.prog n 24 [p]) : ∃ l : List Pt, p = .ssl (pts l) 0 l.length ∧ (∀ i, i < l.length → Pi.I64 (l.getD i dPt).1 ∧ Pi.I64 (l.getD i dPt).2.1 ∧ Pi.I64 (l.getD i dPt).2.2) ∧ l.length ≤ 5864062014634 := by
  obtain ⟨l, h1, h2, _, h4⟩ := sh_list (g := ptC) (q := fun x => Pi.I64 x.1 ∧ Pi.I64 x.2.1 ∧ Pi.I64 x.2.2) Tryz.underlying24 h fun m es _ hs => pt_of m es hs
  simp only [List.cons.injEq, and_true] at h1
  rw [show Tryz.prog.bytesOf 23 = 24 from by kernel_rfl] at h4
  have h5 : l.length * 24 ≤ 140737488351232 := h4
  refine ⟨l, h1, fun i hi => ?_, by omega⟩
  rw [List.getD_eq_getElem?_getD, List.getElem?_eq_getElem hi]
  exact h2 _ (List.getElem_mem hi)
theorem iv_of (n : Nat) (ps : List PV) (h : Sh Tryz.prog n 37 ps) : ∃ i : Int × Int, ps = [iv i.1, iv i.2] ∧ Pi.I64 i.1 ∧ Pi.I64 i.2 := by
  obtain ⟨s, k, rfl, hs, hk⟩ := inv_of n ps h
  exact ⟨(s, k), rfl, hs, hk⟩
end Go.Proofs.YtbgnegmjbnlemaaGreatDoor.Pm
namespace Go.Proofs.YtbgnegmjbnlemaaGreatDoor.Pm
open Go Go.Lib

theorem tabIs_of_reads {P : Program} {W : World} {name : String} {k : IntKind} {zs : List Int} {g : Nat} {t e : TypeId} {n : Nat}
    (hg : P.globalNamed name = some g) (hty : (P.globals[g]?).map (·.type) = some t) (ht : P.underlying t = some (.array n e)) (he : P.underlying e = some (.int k)) (hce : P.cellsOf e = 1) (hct : P.cellsOf t = n)
    (h : VarReads P W name (tabData k zs)) : TabIs P W name k zs := by
  obtain ⟨g', t', cs, fuel, p, hg', ht', hvar, hd⟩ := h
  obtain rfl := Option.some.inj (hg.symm.trans hg')
  obtain rfl := Option.some.inj (hty.symm.trans ht')
  unfold TabIs
  rw [hvar, ← cells_of_tab ht he hce hct hd]
theorem size_of_cell {w : World} {b o : Nat} {v : Value} (h : w.cell? ⟨b, o, none⟩ = some v) : b < w.heap.size := by
  by_cases hb : b < w.heap.size
  · exact hb
  · unfold World.cell? at h
    rw [Array.getElem?_eq_none (show w.heap.size ≤ b from by omega)] at h
    cases h
theorem laid_of {W : World} (hL : laidMet Tryz.prog Rows.scaleMovedRow.laid W) : Laid W (fun b => b < W.heap.size) := by
  have hT : TabIs Tryz.prog W "internal/strconv.uint64pow10" .u64 pow10Tab :=
    tabIs_of_reads (g := 5) (t := 152) (e := 120) (n := 20) (by kernel_rfl) (by kernel_rfl) Tryz.underlying152 Tryz.underlying120 (by kernel_rfl) (by kernel_rfl)
      ((show Rows.laid_internal_strconv_uint64pow10 = tabData .u64 pow10Tab from by kernel_rfl) ▸ laidMet.reads hL (.tail _ (.tail _ (.head _))))
  have hU : Utf8Tabs 0 1 W :=
    utf8Tabs_of_readsT (ρ := Tryz.lays197_ren) { Tryz.lays197 with } ⟨by kernel_rfl, by kernel_rfl, by kernel_rfl, by kernel_rfl, by kernel_rfl, by kernel_rfl, by kernel_rfl⟩
      ((show Rows.laid_unicode_utf8_first = firstData from Pinned.utf8First_eq) ▸ laidMet.reads hL (.tail _ (.tail _ (.tail _ (.tail _ (.tail _ (.tail _ (.head _)))))))) ((show Rows.laid_unicode_utf8_acceptRanges = acceptData from by kernel_rfl) ▸ laidMet.reads hL (.tail _ (.tail _ (.tail _ (.head _)))))
  have z1 := size_of_cell (hU.1 0 (by decide))
  have z2 := size_of_cell (hU.2 0 (by decide)).1
  have z3 := size_of_cell (hT.cell (g := 5) (by kernel_rfl) 0 (by decide))
  refine ⟨fun b hb => ?_, hT, hU⟩
  simp only [LB, List.mem_cons, List.not_mem_nil, or_false] at hb
  rcases hb with rfl | rfl | rfl
  · exact z1
  · exact z2
  · exact z3
end Go.Proofs.YtbgnegmjbnlemaaGreatDoor.Pm
