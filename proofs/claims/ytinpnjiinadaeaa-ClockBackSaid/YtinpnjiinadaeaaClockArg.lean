/-
  An argument that is a slice of marks.
-/
import Derived.Test.YtinpnjiinadaeaaClockV
import Derived.Test.YtinpnjiinadaeaaArgKit
namespace Go.Proofs.Ytinpnjiinadaeaa.Cl
open Go.RowKit

theorem i64_of {n : Int} (h : (Lit.int .i64 n).wf = true) : I64 n := by
  simp [Lit.wf, IntKind.min, IntKind.max, IntKind.signed, IntKind.bits] at h; unfold I64; omega

theorem marks_arg {H : Type} {enc : TypeId × Value → H} {w : World} {base : Nat} {spare : Nat → Bool} {held : Bool} {p : Option Addr} {len cap : Nat} {V : Nat → Nat → Value} (hl : len ≤ cap) (hm : cap ≤ maxLen)
    (hc : 0 < len → ∃ b o, p = some ⟨b, o, none⟩ ∧ base ≤ b ∧ ∀ i, i < cap → ∀ j, j < 3 → w.cell? ⟨b, o + i * 3 + j, none⟩ = some (V i j))
    (f0 : ∀ i, i < len → ∃ n y, DataW.trod enc Try.prog w base spare held n 3 [V i 0] = some y)
    (f1 : ∀ i, i < len → ∃ n y, DataW.trod enc Try.prog w base spare held n 3 [V i 1] = some y)
    (f2 : ∀ i, i < len → ∃ n y, DataW.trod enc Try.prog w base spare held n 4 [V i 2] = some y) : ∃ A P R, Arg w p len A P R := by
  obtain ⟨A, hA⟩ := choose_below (Q := fun i z => V i 0 = .int .i64 z) (fun i hi => by obtain ⟨z, hz, _⟩ := vals_int Try.underlying3 (f0 i hi); exact ⟨z, hz⟩)
  obtain ⟨P, hP⟩ := choose_below (Q := fun i z => V i 1 = .int .i64 z) (fun i hi => by obtain ⟨z, hz, _⟩ := vals_int Try.underlying3 (f1 i hi); exact ⟨z, hz⟩)
  obtain ⟨R, hR⟩ := choose_below (Q := fun i z => V i 2 = .bool z) (fun i hi => vals_bool Try.underlying4 (f2 i hi))
  refine ⟨A, P, R, by unfold maxLen at hm; omega, fun hn => ?_⟩
  obtain ⟨b, o, hp, _, hcell⟩ := hc hn
  refine ⟨b, o, hp, fun i hi => ⟨?_, ?_, ?_⟩⟩
  · rw [← hA i hi]; exact hcell i (by omega) 0 (by omega)
  · rw [← hP i hi]; exact hcell i (by omega) 1 (by omega)
  · rw [← hR i hi]; exact hcell i (by omega) 2 (by omega)
end Go.Proofs.Ytinpnjiinadaeaa.Cl
