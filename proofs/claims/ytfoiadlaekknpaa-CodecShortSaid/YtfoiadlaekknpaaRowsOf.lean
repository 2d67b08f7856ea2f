/-
  ROWS OF THE CALL'S OWN, element by element: what is gathered by append. No program in sight.
-/
import Derived.Test.YtfoiadlaekknpaaKit
import Derived.Laws.AppendOwn
import Derived.OwnWalk
import Derived.OneCell
namespace Go.Proofs.Ytfoiadlaekknpaa
open Go.RowKit

/-- The cells of the first c elements. -/
def rowsOf (f : Nat → List Value) : Nat → List Value
  | 0 => []
  | c + 1 => rowsOf f c ++ f c
theorem rowsOf_length {f : Nat → List Value} {s : Nat} (hf : ∀ i, (f i).length = s) : ∀ c, (rowsOf f c).length = c * s
  | 0 => by simp [rowsOf]
  | c + 1 => by rw [rowsOf, List.length_append, rowsOf_length hf c, hf c, Nat.add_mul, Nat.one_mul]
theorem rowsOf_get {f : Nat → List Value} {s : Nat} (hf : ∀ i, (f i).length = s) : ∀ {c i j : Nat}, i < c → j < s → (rowsOf f c)[i * s + j]? = (f i)[j]?
  | c + 1, i, j, hi, hj => by
    rw [rowsOf]
    by_cases h : i < c
    · rw [List.getElem?_append_left, rowsOf_get hf h hj]
      rw [rowsOf_length hf]
      have : (i + 1) * s ≤ c * s := Nat.mul_le_mul_right s h
      rw [Nat.add_mul, Nat.one_mul] at this
      omega
    · obtain rfl : i = c := by omega
      rw [List.getElem?_append_right (by rw [rowsOf_length hf]; omega), rowsOf_length hf]
      congr 1; omega
theorem rowsOf_congr {f g : Nat → List Value} : ∀ {c : Nat}, (∀ i, i < c → f i = g i) → rowsOf f c = rowsOf g c
  | 0, _ => rfl
  | c + 1, h => by rw [rowsOf, rowsOf, rowsOf_congr fun i hi => h i (by omega), h c (by omega)]
/-- A row of the call's own as a slice with cells. -/
theorem own_form {w : World} {base : Nat} {e : TypeId} {s : Nat} {v : Value} {c : Nat} {f : Nat → List Value} (hf : ∀ i, (f i).length = s) (h : w.ownsRow base e s v c (rowsOf f c)) :
    ∃ p cap, v = .slice p c cap ∧ c ≤ cap ∧ cap ≤ maxLen ∧ (0 < c → ∃ g, p = some ⟨g, 0, none⟩ ∧ base ≤ g ∧ g < w.heap.size ∧ ∀ i, i < c → ∀ j, j < s → w.cell? ⟨g, i * s + j, none⟩ = (f i)[j]?) := by
  have h0 := h
  rcases h.2 with ⟨rfl, rfl⟩ | ⟨g, cap, cur, rfl, hb, hg, hc, hm, _⟩
  · exact ⟨none, 0, rfl, Nat.le_refl _, Nat.zero_le _, fun h => absurd h (by omega)⟩
  · refine ⟨_, cap, rfl, hc, hm, fun _ => ⟨g, rfl, hb, (Array.getElem?_eq_some_iff.1 hg).1, fun i hi j hj => ?_⟩⟩
    have hlen : i * s + j < (rowsOf f c).length := by
      rw [rowsOf_length hf]
      have : (i + 1) * s ≤ c * s := Nat.mul_le_mul_right s hi
      rw [Nat.add_mul, Nat.one_mul] at this
      omega
    have h1 := h0.cells (g := g) rfl (i * s + j) _ (List.getElem?_eq_getElem hlen)
    rw [show (⟨g, 0, none⟩ : Addr).add (i * s + j) = ⟨g, i * s + j, none⟩ by unfold Addr.add; split <;> simp_all] at h1
    rw [h1, ← List.getElem?_eq_getElem hlen, rowsOf_get hf hi hj]
theorem below_grown {w w' : World} (h : Below w.heap.size w w') : w.grownBy w' none := ⟨h.os, h.tape, h.output, h.size, fun k hk _ => h.block k hk⟩
theorem own_below {w w' : World} {base : Nat} {e : TypeId} {s : Nat} {v : Value} {c : Nat} {xs : List Value} (h : w.ownsRow base e s v c xs) (hb : Below w.heap.size w w') : w'.ownsRow base e s v c xs :=
  h.kept (below_grown hb) (by cases hv : v.ownBlock <;> simp)
/-- The cells of the block that a slice literal has just laid. -/
theorem news_cells {w : World} {cs : Array Value} {t : TypeId} {b : Nat} (hb : b = w.heap.size) : ∀ (j : Nat) (u : Value), cs.toList[j]? = some u → (w.alloc (.cells cs t)).cell? ((⟨b, 0, none⟩ : Addr).add j) = some u := by
  intro j u hu
  subst hb
  rw [show (⟨w.heap.size, 0, none⟩ : Addr).add j = ⟨w.heap.size, j, none⟩ by unfold Addr.add; split <;> simp_all]
  have h : (w.alloc (.cells cs t)).heap[w.heap.size]? = some (.cells cs t (0, 0)) := by show (w.heap.push _)[w.heap.size]? = _; simp
  simp only [World.cell?, h]
  simpa using hu
/-- A cell elsewhere stays behind an append. -/
theorem grown_cell {w w' : World} {base : Nat} {e : TypeId} {s : Nat} {v : Value} {c : Nat} {xs : List Value} (hg : w.grownBy w' v.ownBlock) {W : World} (hW : v.ownBlock = none ∨ W.ownsRow base e s v c xs) {b o : Nat} {x : Value}
    (hb : W.heap.size ≤ b) (hc : w.cell? ⟨b, o, none⟩ = some x) : w'.cell? ⟨b, o, none⟩ = some x := by
  refine hg.cell hc fun he => ?_
  rcases hW with hW | hW
  · rw [hW] at he; cases he
  · have := hW.lt b he.symm
    omega
/-- Behind an append to a row of the call's own, what was there ahead of the loop is as it was. -/
theorem below_app {a wr wx wa : World} {base : Nat} {e : TypeId} {s : Nat} {v : Value} {c : Nat} {xs : List Value} (hb : Below a.heap.size a wr) (hown : wr.ownsRow base e s v c xs) (hg : wx.grownBy wa v.ownBlock)
    (hbase : a.heap.size ≤ base) (hx : Below wr.heap.size wr wx) : Below a.heap.size a wa :=
  (below_then hx hb).grown hg (Nat.le_trans hb.size hx.size) fun k hk => Nat.le_trans hbase (hown.lt k hk).1
end Go.Proofs.Ytfoiadlaekknpaa
