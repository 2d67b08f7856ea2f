/-
  Lists in memory, lists of lists in memory, a block of the call's own; what tracks are together: plain.
-/
import Derived.Test.YtgkahjaoajjgcaaKit
import Derived.Test.YtgkahjaoajjgcaaTail
import Derived.Deep.OwnRows
namespace Go.Proofs.Ytgkahjaoajjgcaa.Mx
open Go.RowKit

def I64 (n : Int) : Prop := -9223372036854775808 ≤ n ∧ n ≤ 9223372036854775807
def X (l : List Int) (i : Nat) : Int := l.getD i 0
theorem X_past {l : List Int} {i : Nat} (h : l.length ≤ i) : X l i = 0 := by
  unfold X; rw [List.getD_eq_getElem?_getD, List.getElem?_eq_none h]; rfl
/-- Whole numbers in memory. -/
def Cells (w : World) (p : Option Addr) (l : List Int) : Prop := 0 < l.length → ∃ b o, p = some ⟨b, o, none⟩ ∧ ∀ i, i < l.length → w.cell? ⟨b, o + i, none⟩ = some (.int .i64 (X l i))
theorem Cells.below {w w' : World} {p : Option Addr} {l : List Int} (h : Cells w p l) (hb : Below w.heap.size w w') : Cells w' p l := fun hn => by
  obtain ⟨b, o, hp, hc⟩ := h hn
  exact ⟨b, o, hp, fun i hi => cell_then (hc i hi) hb⟩
structure Row where
  p : Option Addr
  l : List Int
  cap : Nat
def Row.val (r : Row) : Value := .slice r.p r.l.length r.cap
def R0 : Row := ⟨none, [], 0⟩
def Y (T : List Row) (i : Nat) : Row := T.getD i R0
theorem Y_past {T : List Row} {i : Nat} (h : T.length ≤ i) : Y T i = R0 := by
  unfold Y; rw [List.getD_eq_getElem?_getD, List.getElem?_eq_none h]; rfl
structure Row.Ok (w : World) (r : Row) : Prop where
  le : r.l.length ≤ r.cap
  cap : r.cap ≤ 9223372036854775807
  sz : r.l.length * 8 ≤ 140737488351232
  cells : Cells w r.p r.l
theorem Row.Ok.below {w w' : World} {r : Row} (h : r.Ok w) (hb : Below w.heap.size w w') : r.Ok w' := ⟨h.le, h.cap, h.sz, h.cells.below hb⟩
theorem R0_ok (w : World) : R0.Ok w := ⟨Nat.le_refl _, by decide, by decide, fun h => absurd h (by decide)⟩
/-- Lists of numbers in memory. -/
structure Rows (w : World) (p : Option Addr) (T : List Row) : Prop where
  at' : 0 < T.length → ∃ b o, p = some ⟨b, o, none⟩ ∧ ∀ i, i < T.length → w.cell? ⟨b, o + i, none⟩ = some (Y T i).val
  ok : ∀ i, (Y T i).Ok w
theorem Rows.below {w w' : World} {p : Option Addr} {T : List Row} (h : Rows w p T) (hb : Below w.heap.size w w') : Rows w' p T :=
  ⟨fun hn => by
    obtain ⟨b, o, hp, hc⟩ := h.at' hn
    exact ⟨b, o, hp, fun i hi => cell_then (hc i hi) hb⟩, fun i => (h.ok i).below hb⟩

/-! ### a block of the call's own -/
def Out (w : World) (g N : Nat) (F : Nat → Int) : Prop := ∃ cs : Array Value, w.heap[g]? = some (.cells cs 3 (0, 0)) ∧ cs.size = N ∧ ∀ k, k < N → cs[k]? = some (.int .i64 (F k))
theorem Out.lt {w : World} {g N : Nat} {F : Nat → Int} (h : Out w g N F) : g < w.heap.size := by
  obtain ⟨cs, h1, _⟩ := h
  exact (Array.getElem?_eq_some_iff.1 h1).1
theorem Out.cell {w : World} {g N : Nat} {F : Nat → Int} (h : Out w g N F) {k : Nat} (hk : k < N) : w.cell? ⟨g, k, none⟩ = some (.int .i64 (F k)) := by
  obtain ⟨cs, h1, h2, h3⟩ := h
  simp only [World.cell?, h1]
  exact h3 k hk
theorem Out.free {w : World} {g N : Nat} {F : Nat → Int} (h : Out w g N F) (k : Nat) : w.frozen? ⟨g, k, none⟩ = false := by
  obtain ⟨cs, h1, h2, h3⟩ := h
  exact frozen_of_row w g k cs _ h1
theorem Out.below {w w' : World} {g N : Nat} {F : Nat → Int} (h : Out w g N F) (hb : Below w.heap.size w w') : Out w' g N F := by
  have hl := h.lt
  obtain ⟨cs, h1, h2, h3⟩ := h
  exact ⟨cs, (hb.block g hl).trans h1, h2, h3⟩
theorem Out.set {w : World} {g N : Nat} {F : Nat → Int} (h : Out w g N F) (j : Nat) (v : Int) : Out (w.setCell ⟨g, j, none⟩ (.int .i64 v)) g N (fun k => if k = j then v else F k) := by
  obtain ⟨cs, h1, h2, h3⟩ := h
  refine ⟨cs.setIfInBounds j (.int .i64 v), heap_setCell_same w g j cs _ _ h1, by simpa using h2, fun k hk => ?_⟩
  by_cases e : k = j
  · subst e; simp [h2, hk]
  · rw [Array.getElem?_setIfInBounds_ne (by omega), h3 k hk]; simp [e]
theorem Out.congr {w : World} {g N : Nat} {F G : Nat → Int} (h : Out w g N F) (e : ∀ k, k < N → F k = G k) : Out w g N G := by
  obtain ⟨cs, h1, h2, h3⟩ := h
  exact ⟨cs, h1, h2, fun k hk => by rw [h3 k hk, e k hk]⟩
theorem Out.made (w : World) (N : Nat) : Out (w.alloc (.cells (madeCells #[.int .i64 0] N) 3)) w.heap.size N (fun _ => 0) := by
  refine ⟨madeCells #[.int .i64 0] N, by show (w.heap.push _)[w.heap.size]? = _; simp, by simp [madeCells], fun k hk => ?_⟩
  simp [madeCells, hk, Nat.mod_one]
theorem Out.list {w : World} {g N : Nat} {F : Nat → Int} (h : Out w g N F) {l : List Int} (hl : l.length = N) (e : ∀ k, k < N → F k = X l k) : Cells w (some ⟨g, 0, none⟩) l := fun _ =>
  ⟨g, 0, rfl, fun i hi => by rw [Nat.zero_add, h.cell (by omega), e i (by omega)]⟩

/-! ### plain -/
def long (T : List Row) : Nat → Nat
  | 0 => 0
  | k + 1 => max (long T k) (Y T k).l.length
def part (T : List Row) (G : List Int) : Nat → Nat → Int
  | 0, _ => 0
  | j + 1, k => part T G j k + X G j * X (Y T j).l k
def sums (T : List Row) (G : List Int) : List Int := (List.range (long T T.length)).map (part T G T.length)
theorem sums_length (T : List Row) (G : List Int) : (sums T G).length = long T T.length := by simp [sums]
theorem sums_X {T : List Row} {G : List Int} {k : Nat} (h : k < long T T.length) : X (sums T G) k = part T G T.length k := by
  unfold X sums
  simp [List.getD_eq_getElem?_getD, h]
theorem long_le {T : List Row} : ∀ {n k : Nat}, k < n → (Y T k).l.length ≤ long T n
  | n + 1, k, h => by
    rw [long]
    by_cases e : k = n
    · subst e; omega
    · have := long_le (T := T) (n := n) (k := k) (by omega); omega
theorem long_bd {T : List Row} {M : Nat} (h : ∀ i, (Y T i).l.length ≤ M) : ∀ n, long T n ≤ M
  | 0 => Nat.zero_le _
  | n + 1 => by rw [long]; have := long_bd h n; have := h n; omega
/-- What can be added up. -/
def LoudOk (z : Int) : Prop := -1048576 ≤ z ∧ z ≤ 1048576
def SampOk (z : Int) : Prop := -16777216 ≤ z ∧ z ≤ 16777216
def RowGood (l : List Int) : Prop := ∀ k, k < l.length → SampOk (X l k)
structure Good (T : List Row) (G : List Int) : Prop where
  n : T.length ≤ 256
  g : G.length = T.length
  all : ∀ i, i < T.length → LoudOk (X G i) ∧ RowGood (Y T i).l
theorem mul_bd {a b A B : Int} (ha : -A ≤ a ∧ a ≤ A) (hb : -B ≤ b ∧ b ≤ B) (hB : 0 ≤ B) : -(A * B) ≤ a * b ∧ a * b ≤ A * B := by
  have hA : 0 ≤ A := by omega
  have h1 : a.natAbs ≤ A.toNat := by omega
  have h2 : b.natAbs ≤ B.toNat := by omega
  have h3 : (a * b).natAbs ≤ A.toNat * B.toNat := by rw [Int.natAbs_mul]; exact Nat.mul_le_mul h1 h2
  have h4 : ((A.toNat * B.toNat : Nat) : Int) = A * B := by rw [Int.natCast_mul, Int.toNat_of_nonneg hA, Int.toNat_of_nonneg hB]
  omega
theorem prod_bd {T : List Row} {G : List Int} {j : Nat} (h : LoudOk (X G j) ∧ RowGood (Y T j).l) (k : Nat) : -17592186044416 ≤ X G j * X (Y T j).l k ∧ X G j * X (Y T j).l k ≤ 17592186044416 := by
  have hx : -16777216 ≤ X (Y T j).l k ∧ X (Y T j).l k ≤ 16777216 := by
    by_cases hk : k < (Y T j).l.length
    · exact h.2 k hk
    · rw [X_past (by omega)]; decide
  have := mul_bd (A := 1048576) (B := 16777216) h.1 hx (by decide)
  simpa using this
theorem part_bd {T : List Row} {G : List Int} (h : Good T G) (k : Nat) : ∀ {j : Nat}, j ≤ T.length → -(17592186044416 * j) ≤ part T G j k ∧ part T G j k ≤ 17592186044416 * j
  | 0, _ => by simp [part]
  | j + 1, hj => by
    have h1 := part_bd h k (j := j) (by omega)
    have h2 := prod_bd (h.all j (by omega)) k
    rw [part]
    omega
end Go.Proofs.Ytgkahjaoajjgcaa.Mx
