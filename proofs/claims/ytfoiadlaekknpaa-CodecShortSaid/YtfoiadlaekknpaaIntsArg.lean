/-
  AN ARGUMENT THAT IS A LIST OF NUMBERS, opened to its cells.
-/
import Derived.Test.YtfoiadlaekknpaaLawShortW
import Derived.Test.YtfoiadlaekknpaaRowKit
import Derived.ChangeSlices
import Derived.OpenShut
namespace Go.Proofs.Ytfoiadlaekknpaa.Co
open Go.ChangeShapes Go.WideShapes Go.RowKit

theorem open_list {H : Type} {enc : TypeId × Value → H} {P : Program} {w : World} {base : Nat} {t e : TypeId} {v : Value} {d : DataW H} {pl : List MemPlace} {r : Reach} {b0 : Nat} {held : Bool}
    (ht : P.underlying t = some (.slice e)) (he : P.underlying e = some (.int .i64)) (hc : P.cellsOf e = 1) (hv : Value.okWide P w r b0 t v) (h : DataW.Trod enc P w base (fun _ => true) held t v d pl) :
    ∃ (p : Option Addr) (l : List Int) (cap : Nat), v = .slice p l.length cap ∧ l.length ≤ cap ∧ cap ≤ 9223372036854775807 ∧ Cells w p l := by
  obtain ⟨a0, len0, cap0, rfl⟩ := okWide_slice ht hv
  obtain ⟨fuel, hf⟩ := h
  rcases open_ints ht he hc hf with ⟨hcs, _⟩ | ⟨a, len, cap, zs, hcs, hb, hl, hm, hz, hx, hcell, hwz⟩
  · simp only [Value.cells, List.cons.injEq, Value.slice.injEq, and_true] at hcs
    obtain ⟨rfl, rfl, rfl⟩ := hcs
    exact ⟨none, [], 0, rfl, Nat.le_refl _, by omega, fun h => absurd h (by simp)⟩
  · simp only [Value.cells, List.cons.injEq, Value.slice.injEq, and_true] at hcs
    obtain ⟨rfl, rfl, rfl⟩ := hcs
    simp only [if_true] at hz
    have hlt : (zs.take len0).length = len0 := by rw [List.length_take]; omega
    refine ⟨some a, zs.take len0, cap0, by rw [hlt], by omega, by unfold maxLen at hm; omega, fun hp => ?_⟩
    obtain ⟨b, off, rfl, hcl⟩ := ints_at hcell (by omega)
    refine ⟨b, off, rfl, fun i hi => ?_⟩
    rw [hlt] at hi
    rw [hcl i (by omega)]
    unfold X
    simp [List.getD_eq_getElem?_getD, hi]

/-- The walk, as a row takes it. -/
theorem law_short' (p : Option Addr) (l : List Int) (cap : Nat) (o k : Int) (w : World) (hcap : l.length ≤ cap) (hcm : cap ≤ 9223372036854775807) (hc : Cells w p l) (_ : I64 o) (_ : I64 k) :
    Calls Try.prog 3 #[.slice p l.length cap, .int .i64 o, .int .i64 k] w fun e w' => e = .returned (.bool true) ∧ Below w.heap.size w w' := law_short p l cap o k w hcap hcm hc
end Go.Proofs.Ytfoiadlaekknpaa.Co
