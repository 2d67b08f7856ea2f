/-
  What came in, at its types: lists of numbers, lists of such; how much they hold.
-/
import Derived.Test.YtgkahjaoajjgcaaPmOpen
namespace Go.Proofs.Ytgkahjaoajjgcaa.Pm
open Go Go.Deep Go.ChangeShapes Go.WideShapes Go.ChangeAt Go.RowKit

mutual
theorem bulk_eq {H : Type} : ∀ d : DataW H, Rows.uptoBulk d = bulkW d
  | .lit (.string b) => by simp [Rows.uptoBulk, bulkW]
  | .lit (.bool _) => by simp [Rows.uptoBulk, bulkW]
  | .lit (.int _ _) => by simp [Rows.uptoBulk, bulkW]
  | .lit (.float _ _) => by simp [Rows.uptoBulk, bulkW]
  | .lit .nil => by simp [Rows.uptoBulk, bulkW]
  | .nil => by simp [Rows.uptoBulk, bulkW]
  | .ptr d => by simp [Rows.uptoBulk, bulkW, bulk_eq d]
  | .slice e s => by simp [Rows.uptoBulk, bulkW, bulk_all e, bulk_all s]
  | .agg ps => by simp [Rows.uptoBulk, bulkW, bulk_all ps]
  | .iface _ d => by simp [Rows.uptoBulk, bulkW, bulk_eq d]
  | .map es => by simp [Rows.uptoBulk, bulkW, bulk_entries es]
  | .held _ => by simp [Rows.uptoBulk, bulkW]
theorem bulk_all {H : Type} : ∀ l : List (DataW H), Rows.uptoBulkAll l = bulkAll l
  | [] => by simp [Rows.uptoBulkAll, bulkAll]
  | d :: l => by simp [Rows.uptoBulkAll, bulkAll, bulk_eq d, bulk_all l]
theorem bulk_entries {H : Type} : ∀ l : List (Lit × DataW H), Rows.uptoBulkEntries l = bulkEntries l
  | [] => by simp [Rows.uptoBulkEntries, bulkEntries]
  | x :: l => by simp [Rows.uptoBulkEntries, bulkEntries, bulk_entry x, bulk_entries l]
theorem bulk_entry {H : Type} : ∀ x : Lit × DataW H, Rows.uptoBulkEntry x = bulkEntry x
  | (.string b, d) => by simp [Rows.uptoBulkEntry, bulkEntry, bulk_eq d]
  | (.bool _, d) => by simp [Rows.uptoBulkEntry, bulkEntry, bulk_eq d]
  | (.int _ _, d) => by simp [Rows.uptoBulkEntry, bulkEntry, bulk_eq d]
  | (.float _ _, d) => by simp [Rows.uptoBulkEntry, bulkEntry, bulk_eq d]
  | (.nil, d) => by simp [Rows.uptoBulkEntry, bulkEntry, bulk_eq d]
end
theorem small_bulk {H : Type} {l : List (DataW H)} (hk : Rows.uptoSmall H l = true) : bulkAll l ≤ 1048576 := by
  have h : Rows.uptoBulkAll l ≤ 1048576 := of_decide_eq_true hk
  rwa [bulk_all] at h
theorem bulk_mem {H : Type} {d : DataW H} : ∀ {l : List (DataW H)}, d ∈ l → bulkW d ≤ bulkAll l
  | x :: l, h => by
    rw [bulkAll]
    rcases List.mem_cons.1 h with rfl | h
    · omega
    · have := bulk_mem h; omega
theorem list_of {α : Type} {g : α → List PV} {q : α → Prop} : ∀ {ess : List (List PV)}, (∀ es ∈ ess, ∃ x, es = g x ∧ q x) → ∃ l : List α, ess = l.map g ∧ ∀ x ∈ l, q x
  | [], _ => ⟨[], rfl, by simp⟩
  | es :: ess, h => by
    obtain ⟨x, rfl, hx⟩ := h es (by simp)
    obtain ⟨l, rfl, hl⟩ := list_of (ess := ess) fun e he => h e (by simp [he])
    exact ⟨x :: l, rfl, fun y hy => by
      rcases List.mem_cons.1 hy with rfl | hy
      · exact hx
      · exact hl y hy⟩
theorem flat_of {α : Type} (g : α → List PV) (l : List α) : (l.map g).flatten = l.flatMap g := List.flatMap_def.symm
theorem getD_of {α : Type} {q : α → Prop} {l : List α} (h : ∀ x ∈ l, q x) (d : α) (hd : q d) (i : Nat) : q (l.getD i d) := by
  rcases Nat.lt_or_ge i l.length with h1 | h1
  · rw [List.getD_eq_getElem?_getD, List.getElem?_eq_getElem h1]
    exact h _ (List.getElem_mem h1)
  · rw [List.getD_eq_getElem?_getD, List.getElem?_eq_none h1]
    exact hd
/-- A number of a kind. -/
theorem sh_num {P : Program} {t : TypeId} {k : IntKind} (ht : P.underlying t = some (.int k)) {n : Nat} {ps : List PV} (h : Sh P n t ps) : ∃ m, ps = [.av (.int k m)] ∧ (Lit.int k m).wf = true := by
  cases n with
  | zero => exact h.elim
  | succ n => simpa only [Sh, ht] using h
theorem sh_bool {P : Program} {t : TypeId} (ht : P.underlying t = some .bool) {n : Nat} {ps : List PV} (h : Sh P n t ps) : ∃ b, ps = [bv b] := by
  cases n with
  | zero => exact h.elim
  | succ n => simpa only [Sh, ht] using h
theorem sh_str {P : Program} {t : TypeId} (ht : P.underlying t = some .string) {n : Nat} {ps : List PV} (h : Sh P n t ps) : ∃ s : ByteArray, ps = [.av (.string s)] ∧ s.size ≤ maxLen := by
  cases n with
  | zero => exact h.elim
  | succ n => simpa only [Sh, ht] using h
theorem sh_float {P : Program} {t : TypeId} {k : FloatKind} (ht : P.underlying t = some (.float k)) {n : Nat} {ps : List PV} (h : Sh P n t ps) : ∃ b, ps = [.av (.float k b)] ∧ (Lit.float k b).wf = true := by
  cases n with
  | zero => exact h.elim
  | succ n => simpa only [Sh, ht] using h
/-- A slice of elements that are told. -/
theorem sh_list {P : Program} {t e : TypeId} (ht : P.underlying t = some (.slice e)) {α : Type} {g : α → List PV} {q : α → Prop} {n : Nat} {ps : List PV} (h : Sh P n t ps) (hg : ∀ m es, m < n → Sh P m e es → ∃ x, es = g x ∧ q x) :
    ∃ l : List α, ps = [.ssl (l.flatMap g) 0 l.length] ∧ (∀ x ∈ l, q x) ∧ l.length ≤ maxLen ∧ l.length * P.bytesOf e ≤ reachBytes := by
  cases n with
  | zero => exact h.elim
  | succ n =>
    simp only [Sh, ht] at h
    obtain ⟨ess, rfl, h1, h2, h3⟩ := h
    obtain ⟨l, rfl, hl⟩ := list_of fun es hes => hg n es (Nat.lt_succ_self _) (h3 es hes)
    rw [List.length_map] at h1 h2
    refine ⟨l, by rw [flat_of, List.length_map], hl, h1, h2⟩
theorem sh_ints {P : Program} {t e : TypeId} (ht : P.underlying t = some (.slice e)) (he : P.underlying e = some (.int .i64)) {n : Nat} {ps : List PV} (h : Sh P n t ps) :
    ∃ l : List Int, ps = [.ssl (ints l) 0 l.length] ∧ (∀ m ∈ l, (Lit.int .i64 m).wf = true) ∧ l.length ≤ maxLen ∧ l.length * P.bytesOf e ≤ reachBytes := by
  obtain ⟨l, h1, h2, h3, h4⟩ := sh_list (g := fun m => [iv m]) (q := fun m => (Lit.int .i64 m).wf = true) ht h fun m es _ hs => by
    obtain ⟨x, h1, h2⟩ := sh_num he hs
    exact ⟨x, h1, h2⟩
  exact ⟨l, h1, h2, h3, h4⟩
theorem sh_rows {P : Program} {t e k : TypeId} (ht : P.underlying t = some (.slice e)) (he : P.underlying e = some (.slice k)) (hk : P.underlying k = some (.int .i64)) {n : Nat} {ps : List PV} (h : Sh P n t ps) :
    ∃ T : List (List Int), ps = [.ssl (rows T) 0 T.length] ∧ (∀ l ∈ T, (∀ m ∈ l, (Lit.int .i64 m).wf = true) ∧ l.length * P.bytesOf k ≤ reachBytes) ∧ T.length ≤ maxLen := by
  obtain ⟨l, h1, h2, h3, _⟩ := sh_list (g := fun l : List Int => [.ssl (ints l) 0 l.length]) (q := fun l => (∀ m ∈ l, (Lit.int .i64 m).wf = true) ∧ l.length * P.bytesOf k ≤ reachBytes) ht h fun m es _ hs => by
    obtain ⟨x, h1, h2, _, h3⟩ := sh_ints he hk hs
    exact ⟨x, h1, h2, h3⟩
  exact ⟨l, h1, h2, h3⟩
theorem pvws_ints (l : List Int) : pvws (ints l) = l.length := by
  induction l with
  | nil => rfl
  | cons a l ih =>
    rw [ints_map] at ih ⊢
    rw [List.map_cons, pvws, ih, List.length_cons, pvw]
    · omega
    all_goals intros; simp_all
theorem pvws_rows : ∀ T : List (List Int), pvws (rows T) = (T.map List.length).sum + T.length
  | [] => rfl
  | l :: T => by
    have ih := pvws_rows T
    rw [rows_map] at ih ⊢
    rw [List.map_cons, pvws, ih, pvw, pvws_ints, List.map_cons, List.sum_cons, List.length_cons]
    omega
end Go.Proofs.Ytgkahjaoajjgcaa.Pm
