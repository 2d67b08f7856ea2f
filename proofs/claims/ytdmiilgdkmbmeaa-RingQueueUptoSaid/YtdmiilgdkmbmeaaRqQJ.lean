/-
  'RingQueue' returns true for every input whose bulk is at most 1048576, on every schedule, without a data race, and each argument reads behind the call as it read before; at the return every other goroutine only leaves. The condition: the bulk.
-/
import Derived.Test.YtdmiilgdkmbmeaaJRqQ5
import Derived.Conc.LeavingOf
import Derived.ChangeSlices
namespace Go.Proofs.Ytdmiilgdkmbmeaa.Rg
open Go Go.Conc
open Go.ChangeShapes Go.WideShapes Go.ChangeAt Go.RowKit

theorem at_none {w : World} {a : Addr} {v : Value} (h : w.cell? (a.add 0) = some v) : a = ⟨a.block, a.off, none⟩ := by
  have h' : w.cell? a = some v := h
  unfold World.cell? at h'
  split at h'
  · split at h'
    · cases h'
    · rename_i hs
      obtain ⟨b, o, s⟩ := a
      cases s
      · rfl
      · simp at hs
  · cases h'
theorem bulk_one {H : Type} (d : DataW H) : 1 ≤ Rows.uptoBulk d := by
  cases d with
  | lit l => cases l <;> simp [Rows.uptoBulk]
  | nil => simp [Rows.uptoBulk]
  | ptr d => simp [Rows.uptoBulk]
  | slice elems spare => simp [Rows.uptoBulk]
  | agg parts => simp [Rows.uptoBulk]
  | iface t d => simp [Rows.uptoBulk]
  | map entries => simp [Rows.uptoBulk]
  | held h => simp [Rows.uptoBulk]
theorem bulk_len {H : Type} : ∀ l : List (DataW H), l.length ≤ Rows.uptoBulkAll l
  | [] => Nat.zero_le _
  | d :: l => by
    have h1 := bulk_one d
    have h2 := bulk_len l
    simp only [Rows.uptoBulkAll, List.length_cons]
    omega
theorem runs (H : Type) (enc : TypeId × Value → H) (W : World) (base : Nat) (args : Array Value) (ds gs : List (DataW H)) (before : List MemPlace)
    (hval0 : ∀ (j : Nat) t v, Try.f3.params[j]? = some t → args[j]? = some v → Value.okWide Try.prog W .any base t v)
    (hW : DataW.Whole enc Try.prog Try.f3.params.toList Rows.ringQueueSpec.vars false W args.toList ds gs before)
    (hk : Rows.uptoSmall H (ds ++ gs) = true) :
    ∃ M last o w' t', runNT Try.prog (M + 1) (solo (G (Frame.enter Try.prog 3 args .normal) []) W) #[] = (.ended o w', t') ∧ runN Try.prog M (solo (G (Frame.enter Try.prog 3 args .normal) []) W) = .next last ∧
      step Try.prog last = .ended o w' ∧ Conc.Good Try.prog (fun v W' => Rows.ringQueueSpec.post enc Try.prog Try.f3 false true false false W args v W') last o w' t' := by
  have hval : ∀ (j : Nat) t v, Try.f3.params[j]? = some t → args[j]? = some v → Value.okWide Try.prog W .any base t v := hval0
  have hW' := hW
  obtain ⟨p, q, hA0, hV, rfl, hfz, hnd⟩ := hW
  have hA : DataW.TrodAll enc Try.prog W 0 (fun _ => true) true Try.f3.params.toList args.toList ds p := hA0
  rw [Try.params3] at hA hval
  obtain ⟨v0, vs0, d0, ds0, p0, q0, hargs, rfl, rfl, h0, r0⟩ := trodAll_cons hA
  obtain ⟨v1, vs1, d1, ds1, p1, q1, rfl, rfl, rfl, h1, r1⟩ := trodAll_cons r0
  obtain ⟨rfl, rfl, rfl⟩ := trodAll_nil r1
  obtain rfl : args = #[v0, v1] := by cases args; simp_all
  obtain ⟨rfl, rfl⟩ := trodVars_none hV
  obtain ⟨n, rfl, rfl, rfl, wn⟩ := open_int Try.underlying3 (hval 0 3 v0 rfl rfl) h0
  obtain ⟨a0, len0, cap0, rfl⟩ := okWide_slice Try.underlying22 (hval 1 22 v1 rfl rfl)
  obtain ⟨fuel, hf⟩ := h1
  have hkk : Rows.uptoBulkAll ([DataW.lit (.int .i64 n), d1] ++ []) ≤ 1048576 := by simpa [Rows.uptoSmall] using hk
  have key : ∃ (lb lo : Nat) (z : Nat → Int), (0 < len0 → a0 = some ⟨lb, lo, none⟩) ∧ (∀ i, i < len0 → W.cell? ⟨lb, i + lo, none⟩ = some (.int .i64 (z i)) ∧ lb < W.heap.size) ∧ len0 ≤ 1048576 := by
    rcases open_ints Try.underlying22 Try.underlying3 (by kernel_rfl) hf with ⟨hcs, _⟩ | ⟨a, len, cap, zs, hcs, hb, hl, hm, hz, hx, hcell, hwz⟩
    · simp only [Value.cells, List.cons.injEq, Value.slice.injEq, and_true] at hcs
      obtain ⟨rfl, rfl, rfl⟩ := hcs
      exact ⟨0, 0, fun _ => 0, fun h => by omega, fun i h => by omega, by omega⟩
    · simp only [Value.cells, List.cons.injEq, Value.slice.injEq, and_true] at hcs
      obtain ⟨rfl, rfl, rfl⟩ := hcs
      simp only [if_true] at hz
      simp only [Prod.mk.injEq] at hx
      obtain ⟨rfl, _⟩ := hx
      have hbig : len0 ≤ 1048576 := by
        have hlen : (lits (H := H) .i64 (zs.take len0)).length = len0 := by
          simp only [lits, List.length_map, List.length_take]
          omega
        have h8 := bulk_len (lits (H := H) .i64 (zs.take len0))
        rw [hlen] at h8
        simp only [List.cons_append, List.nil_append, Rows.uptoBulkAll, Rows.uptoBulk] at hkk
        omega
      by_cases h0 : 0 < len0
      · have hc0 := hcell 0 (by omega)
        have ha := at_none hc0
        refine ⟨a.block, a.off, fun i => zs.getD i 0, fun _ => by rw [← ha], fun i hi => ?_, hbig⟩
        have hc := hcell i (by omega)
        rw [ha, addr_add] at hc
        rw [Nat.add_comm i]
        exact ⟨hc, World.block_lt_of_cell? W ⟨a.block, a.off + i, none⟩ hc⟩
      · exact ⟨0, 0, fun _ => 0, fun h => absurd h h0, fun i h => by omega, hbig⟩
  obtain ⟨lb, lo, z, hla, hel, hN⟩ := key
  obtain ⟨M, last, o, w', t', e1, e2, e3, e4⟩ := law_run (n := n) (cap := cap0) hla hel hN
  refine ⟨M, last, o, w', t', e1, e2, e3, e4.mono fun v hp => ?_⟩
  obtain ⟨rfl, hb⟩ : v = .bool true ∧ Below W.heap.size W w' := hp
  exact law_post (tb := 4) hW' Try.laidOut rfl (by rw [Try.params3]; kernel_rfl) rfl Try.underlying4 rfl hb

set_option maxRecDepth 100000 in
theorem lifted (os : Os) (started : os.Started) (H : Type) (enc : TypeId × Value → H) (F : Stop.Interp) :
    ReturnsInLeavingWide {} Try.checked os 3 .any ((Rows.OpenSpec.upto Rows.ringQueueSpec).pre6 enc Try.prog Try.f3 Rows.ringQueueUptoRow.domain false) (((Rows.OpenSpec.upto Rows.ringQueueSpec).at F).post enc Try.prog Try.f3 false true false false) := by
  refine returnsInLeavingWide_of_cond_sized (C := Try.checked) (s := Rows.OpenSpec.upto Rows.ringQueueSpec) (k := Rows.uptoSmall) rfl Try.own started Try.func3
    (OpenSpec.witness (enc := enc) (C := Try.checked) (s := Rows.OpenSpec.upto Rows.ringQueueSpec) (k := Rows.uptoSmall) rfl false ⟨#[], #[.int .i64 0, .slice none 0 0], []⟩ 8 (by kernel_rfl) (by kernel_rfl) (by kernel_rfl)
      (x := ([.lit (.int .i64 0), .nil], [], [])) (by kernel_rfl) rfl (by kernel_rfl)) ?_
  intro W base args ds gs before hval hW _ hk _ _
  exact runs H enc W base args ds gs before hval hW hk

set_option maxRecDepth 100000 in
/-- ████ THE STATEMENT ████ -/
theorem ringQueue_holds : Rows.RingQueueUptoSaid :=
  holds_of_cond_leaving 3 Try.f3 rfl rfl rfl rfl rfl rfl rfl ⟨rfl, rfl, rfl, rfl, rfl⟩ rfl rfl rfl rfl rfl (by kernel_rfl) Try.func3 (by kernel_rfl)
    (of_decide_eq_true (by kernel_rfl)) (by unfold Func.isWrapper; first | (rw [if_pos (by decide +kernel)]; kernel_rfl) | (rw [if_neg (by decide +kernel)]; exact ⟨rfl, rfl⟩))
    (fun os started H enc _ F => lifted os started H enc F)
#print axioms ringQueue_holds
end Go.Proofs.Ytdmiilgdkmbmeaa.Rg
