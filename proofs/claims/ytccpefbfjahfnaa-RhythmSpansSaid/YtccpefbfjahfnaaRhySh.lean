/-
  A beat that came in is a tree.
-/
import Derived.Test.YtccpefbfjahfnaaRhySg
import Derived.Test.YtccpefbfjahfnaaPmOpen
namespace Go.Proofs.Ytccpefbfjahfnaa.Pm
open Go

theorem list_of {α : Type} {g : α → List PV} : ∀ {ess : List (List PV)}, (∀ es ∈ ess, ∃ x, es = g x) → ∃ l : List α, ess = l.map g
  | [], _ => ⟨[], rfl⟩
  | es :: ess, h => by
    obtain ⟨x, rfl⟩ := h es (by simp)
    obtain ⟨l, rfl⟩ := list_of (ess := ess) fun e he => h e (by simp [he])
    exact ⟨x :: l, rfl⟩
theorem sh_int {n : Nat} {ps : List PV} (h : Sh Try.prog n 3 ps) : ∃ m, ps = [iv m] ∧ (Lit.int .i64 m).wf = true := by
  cases n with
  | zero => exact h.elim
  | succ n =>
    simp only [Sh, Try.underlying3] at h
    exact h
theorem beat_of : ∀ (n : Nat) (ps : List PV), Sh Try.prog n 40 ps → ∃ b, ps = gB b := by
  intro n
  induction n using Nat.strongRecOn with
  | ind n ih =>
    intro ps h
    cases n with
    | zero => exact h.elim
    | succ n =>
      simp only [Sh, Try.underlying40, ShF] at h
      obtain ⟨a, b, rfl, h1, c, d, rfl, h2, e, f, rfl, h3, rfl⟩ := h
      obtain ⟨k, rfl, _⟩ := sh_int h1
      obtain ⟨s, rfl, _⟩ := sh_int h2
      cases n with
      | zero => exact h3.elim
      | succ n =>
        simp only [Sh, Try.underlying38] at h3
        obtain ⟨ess, rfl, _, _, h4⟩ := h3
        obtain ⟨l, rfl⟩ := list_of fun es hes => ih n (by omega) es (h4 es hes)
        refine ⟨.mk k s l, ?_⟩
        simp only [gB, kd, sh, kids, kc, kcs_flat, List.flatten_eq_flatMap, List.length_map, List.flatMap_map]
        rfl
end Go.Proofs.Ytccpefbfjahfnaa.Pm
