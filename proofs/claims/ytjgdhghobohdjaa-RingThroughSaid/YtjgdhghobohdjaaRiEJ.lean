/-
  'RingThrough' returns true for every input, on every schedule, without a data race, and each argument reads behind the call as it read before; at the return every other goroutine only leaves. No condition.
-/
import Derived.Test.YtjgdhghobohdjaaJRiE4
import Derived.Conc.LeavingOf
import Derived.ChangeSlices
namespace Go.Proofs.Ytjgdhghobohdjaa.Rg
open Go Go.Conc
open Go.ChangeShapes Go.WideShapes Go.ChangeAt Go.RowKit

theorem at_none {w : World} {a : Addr} {v : Value} (h : w.cell? (a.add 0) = some v) : a = ⟨a.block, a.off, none⟩ := by
  have h' : w.cell? a = some v := h
  unfold World.cell? at h'
  split at h'
  · split at h'
    · cases h'
    · rename_i hs
      obtain ⟨b, o, s⟩ := a
      cases s
      · rfl
      · simp at hs
  · cases h'
theorem runs (H : Type) (enc : TypeId × Value → H) (W : World) (base : Nat) (args : Array Value) (ds gs : List (DataW H)) (before : List MemPlace)
    (hval0 : ∀ (j : Nat) t v, Try.f3.params[j]? = some t → args[j]? = some v → Value.okWide Try.prog W .any base t v)
    (hW : DataW.Whole enc Try.prog Try.f3.params.toList Rows.ringThroughSpec.vars false W args.toList ds gs before)
    (hsz0 : (DataW.weightsEach Try.prog (Try.f3.params.toList ++ Rows.ringThroughSpec.plain.varTypes Try.prog) (ds ++ gs)).all (· ≤ reachBytes) = true) :
    ∃ M last o w' t', runNT Try.prog (M + 1) (solo (G (Frame.enter Try.prog 3 args .normal) []) W) #[] = (.ended o w', t') ∧ runN Try.prog M (solo (G (Frame.enter Try.prog 3 args .normal) []) W) = .next last ∧
      step Try.prog last = .ended o w' ∧ Conc.Good Try.prog (fun v W' => Rows.ringThroughSpec.post enc Try.prog Try.f3 false true false false W args v W') last o w' t' := by
  have hval : ∀ (j : Nat) t v, Try.f3.params[j]? = some t → args[j]? = some v → Value.okWide Try.prog W .any base t v := hval0
  have hsz : (DataW.weightsEach Try.prog (Try.f3.params.toList ++ Rows.ringThroughSpec.plain.varTypes Try.prog) (ds ++ gs)).all (· ≤ reachBytes) = true := hsz0
  clear hsz0
  have hW' := hW
  obtain ⟨p, q, hA0, hV, rfl, hfz, hnd⟩ := hW
  have hA : DataW.TrodAll enc Try.prog W 0 (fun _ => true) true Try.f3.params.toList args.toList ds p := hA0
  rw [Try.params3] at hA hval hsz
  obtain ⟨v0, vs0, d0, ds0, p0, q0, hargs, rfl, rfl, h0, r0⟩ := trodAll_cons hA
  obtain ⟨v1, vs1, d1, ds1, p1, q1, rfl, rfl, rfl, h1, r1⟩ := trodAll_cons r0
  obtain ⟨rfl, rfl, rfl⟩ := trodAll_nil r1
  obtain rfl : args = #[v0, v1] := by cases args; simp_all
  obtain ⟨rfl, rfl⟩ := trodVars_none hV
  obtain ⟨n, rfl, rfl, rfl, wn⟩ := open_int Try.underlying3 (hval 0 3 v0 rfl rfl) h0
  obtain ⟨a0, len0, cap0, rfl⟩ := okWide_slice Try.underlying22 (hval 1 22 v1 rfl rfl)
  obtain ⟨fuel, hf⟩ := h1
  have he8 : Try.prog.bytesOf 3 = 8 := by kernel_rfl
  have key : ∃ (lb lo : Nat) (z : Nat → Int), (0 < len0 → a0 = some ⟨lb, lo, none⟩) ∧ (∀ i, i < len0 → W.cell? ⟨lb, i + lo, none⟩ = some (.int .i64 (z i)) ∧ lb < W.heap.size) ∧ len0 ≤ 17592186044416 := by
    rcases open_ints Try.underlying22 Try.underlying3 (by kernel_rfl) hf with ⟨hcs, _⟩ | ⟨a, len, cap, zs, hcs, hb, hl, hm, hz, hx, hcell, hwz⟩
    · simp only [Value.cells, List.cons.injEq, Value.slice.injEq, and_true] at hcs
      obtain ⟨rfl, rfl, rfl⟩ := hcs
      exact ⟨0, 0, fun _ => 0, fun h => by omega, fun i h => by omega, by omega⟩
    · simp only [Value.cells, List.cons.injEq, Value.slice.injEq, and_true] at hcs
      obtain ⟨rfl, rfl, rfl⟩ := hcs
      simp only [if_true] at hz
      simp only [Prod.mk.injEq] at hx
      obtain ⟨rfl, _⟩ := hx
      have hbig : len0 ≤ 17592186044416 := by
        simp only [DataW.weightsEach, DataW.weights, List.cons_append, List.nil_append, List.append_nil, Try.underlying22, List.all_cons, List.all_append, Bool.and_eq_true, decide_eq_true_eq, he8] at hsz
        have h8 := hsz.1
        have hlen : ∀ l : List Int, (lits (H := H) .i64 l).length = l.length := fun l => by simp [lits]
        rw [hlen, hlen, List.length_take, List.length_drop] at h8
        simp only [reachBytes] at h8
        omega
      by_cases h0 : 0 < len0
      · have hc0 := hcell 0 (by omega)
        have ha := at_none hc0
        refine ⟨a.block, a.off, fun i => zs.getD i 0, fun _ => by rw [← ha], fun i hi => ?_, hbig⟩
        have hc := hcell i (by omega)
        rw [ha, addr_add] at hc
        rw [Nat.add_comm i]
        exact ⟨hc, World.block_lt_of_cell? W ⟨a.block, a.off + i, none⟩ hc⟩
      · exact ⟨0, 0, fun _ => 0, fun h => absurd h h0, fun i h => by omega, hbig⟩
  obtain ⟨lb, lo, z, hla, hel, hN⟩ := key
  obtain ⟨M, last, o, w', t', e1, e2, e3, e4⟩ := law_run (n := n) (cap := cap0) hla hel hN
  refine ⟨M, last, o, w', t', e1, e2, e3, e4.mono fun v hp => ?_⟩
  obtain ⟨rfl, hb⟩ : v = .bool true ∧ Below W.heap.size W w' := hp
  exact law_post (tb := 4) hW' Try.laidOut rfl (by rw [Try.params3]; kernel_rfl) rfl Try.underlying4 rfl hb

set_option maxRecDepth 100000 in
theorem lifted (os : Os) (started : os.Started) (H : Type) (enc : TypeId × Value → H) :
    ReturnsInLeavingWide {} Try.checked os 3 .any (Rows.ringThroughSpec.pre6 enc Try.prog Try.f3 Rows.ringThroughRow.domain false) (Rows.ringThroughSpec.post enc Try.prog Try.f3 false true false false) := by
  refine returnsInLeavingWide_of_change_sized (C := Try.checked) Try.own started Try.func3
    (ChangeSpec.witness6 (enc := enc) (C := Try.checked) false ⟨#[], #[.int .i64 0, .slice none 0 0], []⟩ 8 (by kernel_rfl) (by kernel_rfl) (by kernel_rfl) (by kernel_rfl)) ?_
  intro W base args ds gs before hval hW _ hsz _
  exact runs H enc W base args ds gs before hval hW hsz

set_option maxRecDepth 100000 in
/-- ████ THE STATEMENT ████ -/
theorem ringThrough_holds : Rows.RingThroughSaid :=
  OpenClaim.holds_of_wide_leaving 3 Try.f3 rfl rfl rfl rfl rfl rfl rfl ⟨rfl, rfl, rfl, rfl, rfl⟩ rfl rfl rfl rfl rfl (by kernel_rfl) Try.func3 (by kernel_rfl)
    (of_decide_eq_true (by kernel_rfl)) (by unfold Func.isWrapper; first | (rw [if_pos (by decide +kernel)]; kernel_rfl) | (rw [if_neg (by decide +kernel)]; exact ⟨rfl, rfl⟩))
    (fun os started H enc _ => lifted os started H enc)
#print axioms ringThrough_holds
end Go.Proofs.Ytjgdhghobohdjaa.Rg
