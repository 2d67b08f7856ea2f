/-
  Small lemmas for all walks of this seat. | ROWS OF THE CALL'S OWN, element by element: what is gathered by append. No program in sight. | PLAIN: bits, the highest first, and the bytes that they make. No program in sight. | THE VALUE MACHINE (A): values as trees, how they lie in memory, and what a state of values says of a frame and a world. No program in sight. | THE VALUE MACHINE (B): what operations do to blocks: new ones, stores, rows that grow. No program in sight. | THE VALUE MACHINE (C): regions: what each operation does by values, in whatever order it is done. No program in sight. | THE VALUE MACHINE (D): what single operations do, by values. No program in sight. | THE VALUE MACHINE (E): numbers, truth values, strings. No program in sight. | THE VALUE MACHINE (F): lengths, slices, places, loads. No program in sight. | Reading bits, in plain Lean. | REGIONS THAT DRAW THEIR ORDER: a class C of worlds (Derived/Deep/Quiet.lean's own notion: an operation is quiet in C), behind which a tail stands that the order forces (Derived/StillTail.lean's notion of a tail). No program in sight. | REGIONS THAT DRAW THEIR ORDER, call functions that make memory, and make ONE new variable themselves (an alloc that nothing forces), behind which a forced tail stands: 'x, ok := F(g(a), h(b))' with x in memory. No program in sight. | REGIONS THAT DRAW THEIR ORDER: an operation that takes a tuple apart and reads no memory may come up early or late: ITS PLACE MAKES NO DIFFERENCE, so an edge to it may be laid into the region ('x, ok := F(g(a), h(b))', x in memory: 'ok' may be taken out behind the store). No program in sight. | THE WALKS of the codec's writer: bit, number, rice. | THE WALKS of the codec: guess, folded, misses.
-/
import Derived.Test.YtfoiadlaekknpaaRows
import Derived.WalkKit
import Derived.WalkSpells
import Derived.WalkLawsBesides
import Derived.Deep.QuietTactic
import Derived.BigQuiet
import Derived.Lib.Hide
import Derived.Laws.AppendOwn
import Derived.OwnWalk
import Derived.OneCell
import Derived.Laws.BytesArg
import Derived.Orders
import Derived.Below
import Derived.Deep.AppendSrc
import Derived.Laws.CopyRow
import Derived.IntWalk
import Derived.Laws.Cells
import Derived.StillTail
import Derived.Deep.Quiet
import Derived.LoopTactic
import Derived.Laws.OwnMore
namespace Go.Proofs.Ytfoiadlaekknpaa
open Go.RowKit

theorem ret_int {k : IntKind} {a b : Int} (h : a = b) : Ending.returned (.int k a) = .returned (.int k b) := by rw [h]
theorem ret_bool {a b : Bool} (h : a = b) : Ending.returned (.bool a) = .returned (.bool b) := by rw [h]
theorem bcell {W w1 : World} (hb : Below W.heap.size W w1) :
    (∀ b o, b < W.heap.size → w1.cell? ⟨b, o, none⟩ = W.cell? ⟨b, o, none⟩) ∧ (∀ b o, b < W.heap.size → w1.frozen? ⟨b, o, none⟩ = W.frozen? ⟨b, o, none⟩) :=
  ⟨fun b o h => hb.cell (p := ⟨b, o, none⟩) h, fun b o h => hb.frozen (p := ⟨b, o, none⟩) h⟩
theorem below_drewN {B : Nat} {a w : World} (h : Below B a w) (n : Nat) : Below B a (w.drewN n) := ⟨h.os, h.tape, h.output, h.size, h.block⟩
theorem below_then {a w w' : World} (h : Below w.heap.size w w') (k : Below a.heap.size a w) : Below a.heap.size a w' := k.trans (h.mono k.size)
theorem below_new {a w : World} (k : Below a.heap.size a w) (o : Obj) : Below a.heap.size a (w.alloc o) := k.alloc k.size o
theorem size_then {w w' : World} {n : Nat} (h : Below w.heap.size w w') (hn : n ≤ w.heap.size) : n ≤ w'.heap.size := Nat.le_trans hn h.size
theorem cell_then {W w' : World} {a : Addr} {v : Value} (h : W.cell? a = some v) (hb : Below W.heap.size W w') : w'.cell? a = some v :=
  (hb.cell (World.block_lt_of_cell? W _ h)).trans h
/-- A callee that leaves the world alone, met in a quiet region. -/
theorem quiet_left {P : Program} {f : FuncId} {args : Array Value} {w : World} {n : Nat} {v : Value}
    (h : Calls P f args (w.drewN n) fun e w' => e = .returned v ∧ w.drewN n = w') : Calls P f args (w.drewN n) fun e w'' => e = .returned v ∧ ∃ m, w'' = w.drewN m :=
  h.mono fun _ _ ⟨he, hm⟩ => ⟨he, n, hm.symm⟩
theorem quiet_add {P : Program} {f : FuncId} {args : Array Value} {w : World} {a n : Nat} {v : Value}
    (h : Calls P f args (w.drewN (a + n)) fun e w' => e = .returned v ∧ ∃ m, w' = (w.drewN (a + n)).drewN m) :
    Calls P f args (w.drewN (a + n)) fun e w'' => e = .returned v ∧ ∃ m, w'' = w.drewN (a + m) :=
  h.mono fun _ _ ⟨he, m, hm⟩ => ⟨he, n + m, by rw [hm, World.drewN_drewN, Nat.add_assoc]⟩
theorem quiet_add_left {P : Program} {f : FuncId} {args : Array Value} {w : World} {a n : Nat} {v : Value}
    (h : Calls P f args (w.drewN (a + n)) fun e w' => e = .returned v ∧ w.drewN (a + n) = w') :
    Calls P f args (w.drewN (a + n)) fun e w'' => e = .returned v ∧ ∃ m, w'' = w.drewN (a + m) :=
  h.mono fun _ _ ⟨he, hm⟩ => ⟨he, n, hm.symm⟩

end Go.Proofs.Ytfoiadlaekknpaa
namespace Go.Proofs.Ytfoiadlaekknpaa
open Go.RowKit

/-- The cells of the first c elements. -/
def rowsOf (f : Nat → List Value) : Nat → List Value
  | 0 => []
  | c + 1 => rowsOf f c ++ f c
theorem rowsOf_length {f : Nat → List Value} {s : Nat} (hf : ∀ i, (f i).length = s) : ∀ c, (rowsOf f c).length = c * s
  | 0 => by simp [rowsOf]
  | c + 1 => by rw [rowsOf, List.length_append, rowsOf_length hf c, hf c, Nat.add_mul, Nat.one_mul]
theorem rowsOf_get {f : Nat → List Value} {s : Nat} (hf : ∀ i, (f i).length = s) : ∀ {c i j : Nat}, i < c → j < s → (rowsOf f c)[i * s + j]? = (f i)[j]?
  | c + 1, i, j, hi, hj => by
    rw [rowsOf]
    by_cases h : i < c
    · rw [List.getElem?_append_left, rowsOf_get hf h hj]
      rw [rowsOf_length hf]
      have : (i + 1) * s ≤ c * s := Nat.mul_le_mul_right s h
      rw [Nat.add_mul, Nat.one_mul] at this
      omega
    · obtain rfl : i = c := by omega
      rw [List.getElem?_append_right (by rw [rowsOf_length hf]; omega), rowsOf_length hf]
      congr 1; omega
theorem rowsOf_congr {f g : Nat → List Value} : ∀ {c : Nat}, (∀ i, i < c → f i = g i) → rowsOf f c = rowsOf g c
  | 0, _ => rfl
  | c + 1, h => by rw [rowsOf, rowsOf, rowsOf_congr fun i hi => h i (by omega), h c (by omega)]
/-- A row of the call's own as a slice with cells. -/
theorem own_form {w : World} {base : Nat} {e : TypeId} {s : Nat} {v : Value} {c : Nat} {f : Nat → List Value} (hf : ∀ i, (f i).length = s) (h : w.ownsRow base e s v c (rowsOf f c)) :
    ∃ p cap, v = .slice p c cap ∧ c ≤ cap ∧ cap ≤ maxLen ∧ (0 < c → ∃ g, p = some ⟨g, 0, none⟩ ∧ base ≤ g ∧ g < w.heap.size ∧ ∀ i, i < c → ∀ j, j < s → w.cell? ⟨g, i * s + j, none⟩ = (f i)[j]?) := by
  have h0 := h
  rcases h.2 with ⟨rfl, rfl⟩ | ⟨g, cap, cur, rfl, hb, hg, hc, hm, _⟩
  · exact ⟨none, 0, rfl, Nat.le_refl _, Nat.zero_le _, fun h => absurd h (by omega)⟩
  · refine ⟨_, cap, rfl, hc, hm, fun _ => ⟨g, rfl, hb, (Array.getElem?_eq_some_iff.1 hg).1, fun i hi j hj => ?_⟩⟩
    have hlen : i * s + j < (rowsOf f c).length := by
      rw [rowsOf_length hf]
      have : (i + 1) * s ≤ c * s := Nat.mul_le_mul_right s hi
      rw [Nat.add_mul, Nat.one_mul] at this
      omega
    have h1 := h0.cells (g := g) rfl (i * s + j) _ (List.getElem?_eq_getElem hlen)
    rw [show (⟨g, 0, none⟩ : Addr).add (i * s + j) = ⟨g, i * s + j, none⟩ by unfold Addr.add; split <;> simp_all] at h1
    rw [h1, ← List.getElem?_eq_getElem hlen, rowsOf_get hf hi hj]
theorem below_grown {w w' : World} (h : Below w.heap.size w w') : w.grownBy w' none := ⟨h.os, h.tape, h.output, h.size, fun k hk _ => h.block k hk⟩
theorem own_below {w w' : World} {base : Nat} {e : TypeId} {s : Nat} {v : Value} {c : Nat} {xs : List Value} (h : w.ownsRow base e s v c xs) (hb : Below w.heap.size w w') : w'.ownsRow base e s v c xs :=
  h.kept (below_grown hb) (by cases hv : v.ownBlock <;> simp)
/-- The cells of the block that a slice literal has just laid. -/
theorem news_cells {w : World} {cs : Array Value} {t : TypeId} {b : Nat} (hb : b = w.heap.size) : ∀ (j : Nat) (u : Value), cs.toList[j]? = some u → (w.alloc (.cells cs t)).cell? ((⟨b, 0, none⟩ : Addr).add j) = some u := by
  intro j u hu
  subst hb
  rw [show (⟨w.heap.size, 0, none⟩ : Addr).add j = ⟨w.heap.size, j, none⟩ by unfold Addr.add; split <;> simp_all]
  have h : (w.alloc (.cells cs t)).heap[w.heap.size]? = some (.cells cs t (0, 0)) := by show (w.heap.push _)[w.heap.size]? = _; simp
  simp only [World.cell?, h]
  simpa using hu
/-- A cell elsewhere stays behind an append. -/
theorem grown_cell {w w' : World} {base : Nat} {e : TypeId} {s : Nat} {v : Value} {c : Nat} {xs : List Value} (hg : w.grownBy w' v.ownBlock) {W : World} (hW : v.ownBlock = none ∨ W.ownsRow base e s v c xs) {b o : Nat} {x : Value}
    (hb : W.heap.size ≤ b) (hc : w.cell? ⟨b, o, none⟩ = some x) : w'.cell? ⟨b, o, none⟩ = some x := by
  refine hg.cell hc fun he => ?_
  rcases hW with hW | hW
  · rw [hW] at he; cases he
  · have := hW.lt b he.symm
    omega
/-- Behind an append to a row of the call's own, what was there ahead of the loop is as it was. -/
theorem below_app {a wr wx wa : World} {base : Nat} {e : TypeId} {s : Nat} {v : Value} {c : Nat} {xs : List Value} (hb : Below a.heap.size a wr) (hown : wr.ownsRow base e s v c xs) (hg : wx.grownBy wa v.ownBlock)
    (hbase : a.heap.size ≤ base) (hx : Below wr.heap.size wr wx) : Below a.heap.size a wa :=
  (below_then hx hb).grown hg (Nat.le_trans hb.size hx.size) fun k hk => Nat.le_trans hbase (hown.lt k hk).1
end Go.Proofs.Ytfoiadlaekknpaa
namespace Go.Proofs.Ytfoiadlaekknpaa.Co
open Go

/-- Of byte i the first k bits, as a number. -/
def byteP (L : List Bool) (i : Nat) : Nat → Nat
  | 0 => 0
  | k + 1 => byteP L i k + if L.getD (8 * i + k) false then 2 ^ (7 - k) else 0
def byteOf (L : List Bool) (i : Nat) : Nat := byteP L i 8
/-- How many bytes. -/
def nb (L : List Bool) : Nat := (L.length + 7) / 8

theorem byteP_congr {L M : List Bool} {i : Nat} : ∀ {k : Nat}, (∀ j, j < k → L.getD (8 * i + j) false = M.getD (8 * i + j) false) → byteP L i k = byteP M i k
  | 0, _ => rfl
  | k + 1, h => by rw [byteP, byteP, byteP_congr fun j hj => h j (by omega), h k (by omega)]
theorem byteP_end {L : List Bool} {i : Nat} : ∀ {k t : Nat}, L.length ≤ 8 * i + k → k ≤ t → byteP L i t = byteP L i k
  | k, 0, _, h => by obtain rfl : k = 0 := by omega
                     rfl
  | k, t + 1, hL, h => by
    by_cases hk : k = t + 1
    · rw [hk]
    · rw [byteP, byteP_end hL (show k ≤ t by omega), show L.getD (8 * i + t) false = false by rw [List.getD_eq_getElem?_getD, List.getElem?_eq_none (by omega)]; rfl]; simp
theorem byteP_step {i k : Nat} {L : List Bool} (hk : k < 8) : ∃ y : Nat, byteP L i k = y * 2 ^ (8 - k) ∧ y < 2 ^ k := by
  induction k with
  | zero => exact ⟨0, rfl, by omega⟩
  | succ k ih =>
    obtain ⟨y, h1, h2⟩ := ih (by omega)
    rw [byteP, h1]
    have e : 2 ^ (8 - k) = 2 * 2 ^ (8 - (k + 1)) := by rw [show 8 - k = (8 - (k + 1)) + 1 by omega, Nat.pow_succ]; omega
    have e2 : 2 ^ (7 - k) = 2 ^ (8 - (k + 1)) := by rw [show 7 - k = 8 - (k + 1) by omega]
    have e3 : 2 ^ (k + 1) = 2 * 2 ^ k := by rw [Nat.pow_succ]; omega
    split
    · exact ⟨2 * y + 1, by rw [e, e2]; grind, by omega⟩
    · exact ⟨2 * y, by rw [e]; grind, by omega⟩
theorem byteOf_lt (L : List Bool) (i : Nat) : byteOf L i < 256 := by
  obtain ⟨y, h1, h2⟩ := byteP_step (L := L) (i := i) (k := 7) (by omega)
  unfold byteOf
  rw [byteP, h1]
  split <;> omega

theorem getD_snoc_lt {L : List Bool} {b : Bool} {j : Nat} (h : j ≠ L.length) : (L ++ [b]).getD j false = L.getD j false := by
  rcases Nat.lt_or_ge j L.length with h1 | h1
  · simp [List.getD_eq_getElem?_getD, List.getElem?_append_left h1]
  · simp [List.getD_eq_getElem?_getD]; rw [List.getElem?_eq_none (by simp; omega)]; rw [List.getElem?_eq_none (by omega)]
theorem getD_snoc_at {L : List Bool} {b : Bool} : (L ++ [b]).getD L.length false = b := by simp
/-- One bit more: the other bytes are as they were; its own byte has it. -/
theorem byteOf_other {L : List Bool} {b : Bool} {i : Nat} (h : i ≠ L.length / 8) : byteOf (L ++ [b]) i = byteOf L i :=
  byteP_congr fun j hj => getD_snoc_lt (by omega)
theorem byteOf_at {L : List Bool} {b : Bool} : byteOf (L ++ [b]) (L.length / 8) = byteOf L (L.length / 8) + if b then 2 ^ (7 - L.length % 8) else 0 := by
  unfold byteOf
  have hm : L.length = 8 * (L.length / 8) + L.length % 8 := by omega
  have hj : L.length % 8 < 8 := Nat.mod_lt _ (by omega)
  rw [byteP_end (k := L.length % 8 + 1) (by simp; omega) (by omega), byteP_end (L := L) (k := L.length % 8) (by omega) (by omega), byteP,
    byteP_congr (L := L ++ [b]) (M := L) fun j hj' => getD_snoc_lt (by omega), show 8 * (L.length / 8) + L.length % 8 = L.length by omega, getD_snoc_at]
theorem byteOf_form (L : List Bool) : ∃ y : Nat, byteOf L (L.length / 8) = y * 2 ^ (8 - L.length % 8) ∧ y < 2 ^ (L.length % 8) := by
  have hj : L.length % 8 < 8 := Nat.mod_lt _ (by omega)
  unfold byteOf
  rw [byteP_end (k := L.length % 8) (by omega) (by omega)]
  exact byteP_step hj
/-- The bit put in by '|'. -/
theorem or_bit (f : Nat) (hf : 1 ≤ f) (hf8 : f ≤ 8) (b : Bool) (y : Nat) (hy : y < 2 ^ (8 - f)) :
    Go.bits .or .u8 ((y * 2 ^ f : Nat) : Int) (if b then ((2 ^ (f - 1) : Nat) : Int) else 0) = ((y * 2 ^ f + if b then 2 ^ (f - 1) else 0 : Nat) : Int) := by
  have hall : ∀ g : Fin 8, ∀ y : Fin 128, y.val < 2 ^ (7 - g.val) → ∀ b : Bool, Go.bits .or .u8 ((y.val * 2 ^ (g.val + 1) : Nat) : Int) (if b then ((2 ^ g.val : Nat) : Int) else 0) = ((y.val * 2 ^ (g.val + 1) + if b then 2 ^ g.val else 0 : Nat) : Int) := by
    decide +kernel
  have h128 : 2 ^ (8 - f) ≤ 128 := by
    have : 2 ^ (8 - f) ≤ 2 ^ 7 := Nat.pow_le_pow_right (by omega) (by omega)
    omega
  have := hall ⟨f - 1, by omega⟩ ⟨y, by omega⟩ (by show y < 2 ^ (7 - (f - 1)); rwa [show 7 - (f - 1) = 8 - f by omega]) b
  simp only [show f - 1 + 1 = f by omega] at this
  exact this

/-- The bits of a number. -/
def bitsOf (n : Int) : Nat → List Bool
  | 0 => []
  | k + 1 => decide (n / 2 ^ k % 2 = 1) :: bitsOf n k
theorem bitsOf_length (n : Int) : ∀ k, (bitsOf n k).length = k
  | 0 => rfl
  | k + 1 => by rw [bitsOf, List.length_cons, bitsOf_length n k]
theorem and_one (n : Int) : Go.bits .and .i64 n 1 = n % 2 := by
  have h1 : (BitVec.ofInt 64 1).toNat = 2 ^ 1 - 1 := by decide
  have key : (BitVec.ofInt 64 n &&& BitVec.ofInt 64 1).toNat = (n % ((2 ^ 64 : Nat) : Int)).toNat % 2 ^ 1 := by
    rw [BitVec.toNat_and, BitVec.toNat_ofInt, h1, Nat.and_two_pow_sub_one_eq_mod]
  show IntKind.i64.wrap ((BitVec.ofInt 64 n &&& BitVec.ofInt 64 1).toNat : Nat) = n % 2
  rw [key, IntKind.wrap_i64]
  omega
/-- A bit as Go's number. -/
def bi (b : Bool) : Int := if b then 1 else 0
theorem and_bit (n : Int) (i : Nat) : Go.bits .and .i64 (n / 2 ^ i) 1 = bi (decide (n / 2 ^ i % 2 = 1)) := by
  rw [and_one]; unfold bi
  by_cases h : n / 2 ^ i % 2 = 1
  · simp [h]
  · simp only [h, decide_false, Bool.false_eq_true, if_false]; omega

/-! ### what is written -/
def fold (x : Int) : Int := if x < 0 then -2 * x - 1 else 2 * x
def X (l : List Int) (i : Nat) : Int := l.getD i 0
def guess (l : List Int) (i o : Nat) : Int :=
  if o = 1 then X l (i - 1) else if o = 2 then 2 * X l (i - 1) - X l (i - 2) else if o = 3 then 3 * X l (i - 1) - 3 * X l (i - 2) + X l (i - 3) else 0
def miss (l : List Int) (o i : Nat) : Int := fold (X l i - guess l i o)
/-- From place i on. -/
def missFrom (l : List Int) (o : Nat) : Nat → Nat → List Int
  | 0, _ => []
  | m + 1, i => miss l o i :: missFrom l o m (i + 1)
def misses (l : List Int) (o : Nat) : List Int := missFrom l o (l.length - o) o
def cost (k : Nat) (x : Int) : Int := x / 2 ^ k + 1 + k
def costs (k : Nat) : List Int → Int
  | [] => 0
  | x :: r => cost k x + costs k r
def long (l : List Int) (o k : Nat) : Int := 16 * (min o l.length : Nat) + costs k (misses l o)
/-- The best of the first t of 64 orders and keys: least, order, key. -/
def bestTo (l : List Int) : Nat → Int × Nat × Nat
  | 0 => (-1, 0, 0)
  | t + 1 => if (bestTo l t).1 < 0 ∨ long l (t / 16) (t % 16) < (bestTo l t).1 then (long l (t / 16) (t % 16), t / 16, t % 16) else bestTo l t
def riceBits (k : Nat) (x : Int) : List Bool := List.replicate (x / 2 ^ k).toNat true ++ [false] ++ bitsOf x k
def riceAll (k : Nat) : List Int → List Bool
  | [] => []
  | x :: r => riceBits k x ++ riceAll k r
def rawBits : List Int → List Bool
  | [] => []
  | x :: r => bitsOf (x + 32768) 16 ++ rawBits r
def frameBits (l : List Int) (o k : Nat) : List Bool := bitsOf o 2 ++ bitsOf k 4 ++ rawBits (l.take o) ++ riceAll k (misses l o)
def bestBits (l : List Int) : List Bool := frameBits l (bestTo l 64).2.1 (bestTo l 64).2.2
/-- Frame t. -/
def fr (l : List Int) (t : Nat) : List Int := (l.drop (256 * t)).take 256
def encTo (l : List Int) : Nat → List Bool
  | 0 => []
  | t + 1 => encTo l t ++ bestBits (fr l t)
def encBits (l : List Int) : List Bool := bitsOf l.length 24 ++ encTo l ((l.length + 255) / 256)
def Small (l : List Int) : Prop := ∀ x ∈ l, -32768 ≤ x ∧ x ≤ 32767

/-! ### bounds -/
theorem fold_nonneg (x : Int) : 0 ≤ fold x := by unfold fold; split <;> omega
theorem X_bd {l : List Int} (h : Small l) (i : Nat) : -32768 ≤ X l i ∧ X l i ≤ 32767 := by
  unfold X
  rcases Nat.lt_or_ge i l.length with hi | hi
  · rw [List.getD_eq_getElem?_getD, List.getElem?_eq_getElem hi]; exact h _ (List.getElem_mem hi)
  · rw [List.getD_eq_getElem?_getD, List.getElem?_eq_none hi]; simp
theorem guess_bd {l : List Int} (h : Small l) (i o : Nat) : -229376 ≤ guess l i o ∧ guess l i o ≤ 229376 := by
  have h1 := X_bd h (i - 1); have h2 := X_bd h (i - 2); have h3 := X_bd h (i - 3)
  unfold guess
  split
  · omega
  · split
    · omega
    · split <;> omega
theorem miss_bd {l : List Int} (h : Small l) (o i : Nat) : 0 ≤ miss l o i ∧ miss l o i ≤ 524288 := by
  have h1 := guess_bd h i o; have h2 := X_bd h i
  unfold miss fold
  split <;> omega
theorem missFrom_bd {l : List Int} (h : Small l) (o : Nat) : ∀ (m i : Nat), ∀ x ∈ missFrom l o m i, 0 ≤ x ∧ x ≤ 524288
  | 0, _, x, hx => by simp [missFrom] at hx
  | m + 1, i, x, hx => by
    rw [missFrom, List.mem_cons] at hx
    rcases hx with rfl | hx
    · exact miss_bd h o i
    · exact missFrom_bd h o m (i + 1) x hx
theorem missFrom_length (l : List Int) (o : Nat) : ∀ (m i : Nat), (missFrom l o m i).length = m
  | 0, _ => rfl
  | m + 1, i => by rw [missFrom, List.length_cons, missFrom_length l o m (i + 1)]
theorem cost_bd {k : Nat} (hk : k ≤ 15) {x : Int} (h : 0 ≤ x ∧ x ≤ 524288) : 0 ≤ cost k x ∧ cost k x ≤ 524304 := by
  unfold cost
  have h1 : 0 ≤ x / 2 ^ k := Int.ediv_nonneg h.1 (Int.le_of_lt (Int.pow_pos (by omega)))
  have h2 : x / 2 ^ k ≤ x := Int.ediv_le_self _ h.1
  omega
theorem costs_bd {k : Nat} (hk : k ≤ 15) : ∀ {l : List Int}, (∀ x ∈ l, 0 ≤ x ∧ x ≤ 524288) → 0 ≤ costs k l ∧ costs k l ≤ 524304 * l.length
  | [], _ => by simp [costs]
  | x :: r, h => by
    have h1 := cost_bd hk (h x (by simp))
    have h2 := costs_bd hk (l := r) (fun y hy => h y (by simp [hy]))
    rw [costs, List.length_cons]
    omega
theorem long_bd {l : List Int} (h : Small l) (o : Nat) {k : Nat} (hk : k ≤ 15) : 0 ≤ long l o k ∧ long l o k ≤ 16 * l.length + 524304 * l.length := by
  have h1 := costs_bd hk (missFrom_bd h o (l.length - o) o)
  rw [missFrom_length] at h1
  unfold long misses
  omega
theorem bestTo_spec {l : List Int} (h : Small l) : ∀ t, 0 < t → (bestTo l t).2.1 * 16 + (bestTo l t).2.2 < t ∧ (bestTo l t).2.2 < 16 ∧ (bestTo l t).1 = long l (bestTo l t).2.1 (bestTo l t).2.2 ∧
    ∀ s, s < t → (bestTo l t).1 ≤ long l (s / 16) (s % 16)
  | 0, h0 => absurd h0 (by omega)
  | t + 1, _ => by
    have hb : 0 ≤ long l (t / 16) (t % 16) := (long_bd h (t / 16) (k := t % 16) (by omega)).1
    rw [bestTo]
    by_cases ht : t = 0
    · subst ht
      rw [if_pos (.inl (by show (-1 : Int) < 0; omega))]
      refine ⟨by simp, by simp, rfl, fun s hs => ?_⟩
      obtain rfl : s = 0 := by omega
      exact Int.le_refl _
    · obtain ⟨i1, i2, i3, i4⟩ := bestTo_spec h t (by omega)
      split
      · rename_i hc
        have hlt : long l (t / 16) (t % 16) < (bestTo l t).1 := by
          rcases hc with hc | hc
          · rw [i3] at hc; have := (long_bd h (bestTo l t).2.1 (k := (bestTo l t).2.2) (by omega)).1; omega
          · exact hc
        refine ⟨by show t / 16 * 16 + t % 16 < t + 1; omega, by show t % 16 < 16; omega, rfl, fun s hs => ?_⟩
        by_cases hst : s = t
        · subst hst; exact Int.le_refl _
        · have := i4 s (by omega); show long l (t / 16) (t % 16) ≤ _; omega
      · rename_i hc
        refine ⟨by omega, i2, i3, fun s hs => ?_⟩
        by_cases hst : s = t
        · subst hst
          have : ¬ long l (s / 16) (s % 16) < (bestTo l s).1 := fun h => hc (.inr h)
          omega
        · exact i4 s (by omega)
theorem bestTo_neg {l : List Int} (h : Small l) {t : Nat} (ht : 0 < t) : 0 ≤ (bestTo l t).1 := by
  obtain ⟨i1, i2, i3, _⟩ := bestTo_spec h t ht
  rw [i3]; exact (long_bd h _ (k := (bestTo l t).2.2) (by omega)).1

/-! ### lengths -/
theorem riceBits_length {k : Nat} {x : Int} (hx : 0 ≤ x) : ((riceBits k x).length : Int) = cost k x := by
  unfold riceBits cost
  have h1 : 0 ≤ x / 2 ^ k := Int.ediv_nonneg hx (Int.le_of_lt (Int.pow_pos (by omega)))
  simp only [List.length_append, List.length_replicate, List.length_cons, List.length_nil, bitsOf_length]
  omega
theorem riceAll_length {k : Nat} : ∀ {l : List Int}, (∀ x ∈ l, 0 ≤ x ∧ x ≤ 524288) → ((riceAll k l).length : Int) = costs k l
  | [], _ => rfl
  | x :: r, h => by
    rw [riceAll, List.length_append, costs, Int.natCast_add, riceBits_length (h x (by simp)).1, riceAll_length fun y hy => h y (by simp [hy])]
theorem rawBits_length : ∀ l : List Int, (rawBits l).length = 16 * l.length
  | [] => rfl
  | x :: r => by rw [rawBits, List.length_append, bitsOf_length, rawBits_length r, List.length_cons]; omega
theorem frameBits_length {l : List Int} (h : Small l) (o : Nat) {k : Nat} : ((frameBits l o k).length : Int) = 6 + long l o k := by
  unfold frameBits long
  simp only [List.length_append, bitsOf_length, rawBits_length, List.length_take, Int.natCast_add]
  rw [show misses l o = missFrom l o (l.length - o) o from rfl, riceAll_length (missFrom_bd h o _ _)]
  omega
theorem Small.frame {l : List Int} (h : Small l) (t : Nat) : Small (fr l t) := fun x hx => h x (List.mem_of_mem_drop (List.mem_of_mem_take hx))
theorem fr_length (l : List Int) (t : Nat) : (fr l t).length = min 256 (l.length - 256 * t) := by unfold fr; simp
theorem X_fr {l : List Int} {t i : Nat} (hi : i < (fr l t).length) : X (fr l t) i = X l (256 * t + i) := by
  rw [fr_length] at hi
  unfold X fr
  simp only [List.getD_eq_getElem?_getD, List.getElem?_take, List.getElem?_drop]
  rw [if_pos (by omega)]
theorem flat_bd {l : List Int} (h : Small l) : ∀ {m i : Nat}, costs 15 (missFrom l 0 m i) ≤ 18 * m
  | 0, _ => by simp [missFrom, costs]
  | m + 1, i => by
    have := flat_bd h (m := m) (i := i + 1)
    have hx := X_bd h i
    have hb : 0 ≤ miss l 0 i ∧ miss l 0 i ≤ 65536 := by unfold miss guess fold; simp; split <;> omega
    have hc : cost 15 (miss l 0 i) ≤ 18 := by unfold cost; omega
    rw [missFrom, costs]
    omega
theorem best_le {l : List Int} (h : Small l) {o k : Nat} (ho : o ≤ 3) (hk : k ≤ 15) : long l (bestTo l 64).2.1 (bestTo l 64).2.2 ≤ long l o k := by
  obtain ⟨_, _, i3, i4⟩ := bestTo_spec h 64 (by omega)
  have := i4 (16 * o + k) (by omega)
  rw [i3, show (16 * o + k) / 16 = o by omega, show (16 * o + k) % 16 = k by omega] at this
  exact this
theorem bestBits_length {l : List Int} (h : Small l) : ((bestBits l).length : Int) = 6 + long l (bestTo l 64).2.1 (bestTo l 64).2.2 := frameBits_length h _
theorem bestBits_le {l : List Int} (h : Small l) (hl : l.length ≤ 256) : (bestBits l).length ≤ 5000 := by
  have h1 := bestBits_length h
  have h2 := best_le h (o := 0) (k := 15) (by omega) (by omega)
  have h3 : long l 0 15 ≤ 18 * l.length := by
    unfold long misses
    have := flat_bd h (m := l.length - 0) (i := 0)
    simp only [Nat.zero_min, Nat.sub_zero] at this ⊢
    omega
  omega
theorem encTo_le {l : List Int} (h : Small l) : ∀ t, (encTo l t).length ≤ 5000 * t
  | 0 => by simp [encTo]
  | t + 1 => by
    have := encTo_le h t
    have := bestBits_le (h.frame t) (by rw [fr_length]; omega)
    rw [encTo, List.length_append]; omega
def smallB (l : List Int) : Bool := l.all fun x => decide (-32768 ≤ x ∧ x ≤ 32767)
theorem smallB_iff {l : List Int} : smallB l = true ↔ Small l := by unfold smallB Small; simp
theorem small_X {l : List Int} : Small l ↔ ∀ i, i < l.length → -32768 ≤ X l i ∧ X l i ≤ 32767 := by
  constructor
  · intro h i _; exact X_bd h i
  · intro h x hx
    obtain ⟨i, hi, rfl⟩ := List.getElem_of_mem hx
    have := h i hi
    unfold X at this
    rwa [List.getD_eq_getElem?_getD, List.getElem?_eq_getElem hi] at this
def packN (L : List Bool) : List Int := (List.range (nb L)).map fun i => (byteOf L i : Int)
def packS (L : List Bool) : ByteArray := strOfNums (packN L)
theorem packS_size (L : List Bool) : (packS L).size = nb L := by unfold packS packN; rw [strOfNums_size]; simp
/-- What Encode answers. -/
def enc (l : List Int) : ByteArray × Int := if 1048576 < l.length then (⟨#[]⟩, 5) else if smallB l then (packS (encBits l), 0) else (⟨#[]⟩, 3)
end Go.Proofs.Ytfoiadlaekknpaa.Co
namespace Go.Proofs.Ytfoiadlaekknpaa.Pm
open Go

/-- A value as a tree. av: a value without an address in it (or one that is never looked into); osl, opt: a slice of, a pointer into an own block; ssl, spt: into cells that nobody writes, which stand in the tree. -/
inductive PV where
  | av (v : Value)
  | agg (cs : List PV)
  | tup (vs : List PV)
  | osl (id off len : Nat)
  | opt (id off : Nat)
  | ssl (cs : List PV) (off len : Nat)
  | spt (cs : List PV) (off : Nat)
  | fn (f : Fn) (first cap : List PV)
abbrev P0 : PV := .av undef
/-- It takes one cell. -/
def PV.one : PV → Bool
  | .av v => v.oneCell'
  | .agg _ => false
  | .tup _ => false
  | _ => true
def ones (cs : List PV) : Prop := ∀ p ∈ cs, PV.one p = true

inductive SRep (w : World) (S : Nat → Prop) : PV → Value → Prop
  | av (v : Value) : SRep w S (.av v) v
  | agg {cs : List PV} {vs : Array Value} (hn : vs.size = cs.length) (h : ∀ i, i < cs.length → SRep w S (cs.getD i P0) (vs.getD i undef)) : SRep w S (.agg cs) (.agg vs)
  | tup {cs : List PV} {vs : Array Value} (hn : vs.size = cs.length) (h : ∀ i, i < cs.length → SRep w S (cs.getD i P0) (vs.getD i undef)) : SRep w S (.tup cs) (.tuple vs)
  | emp {cs : List PV} {off : Nat} {a : Option Addr} {cap : Nat} : SRep w S (.ssl cs off 0) (.slice a 0 cap)
  | ssl {cs : List PV} {off len b a cap : Nat} {vf : Nat → Value} (hS : S b) (hc : ∀ j, j < cs.length → w.cell? ⟨b, a + j, none⟩ = some (vf j)) (h : ∀ j, j < cs.length → SRep w S (cs.getD j P0) (vf j)) (ho : ones cs) (hl : len ≤ cap) :
      SRep w S (.ssl cs off len) (.slice (some ⟨b, a + off, none⟩) len cap)
  | spt {cs : List PV} {off b a : Nat} {vf : Nat → Value} (hS : S b) (hc : ∀ j, j < cs.length → w.cell? ⟨b, a + j, none⟩ = some (vf j)) (h : ∀ j, j < cs.length → SRep w S (cs.getD j P0) (vf j)) (ho : ones cs) :
      SRep w S (.spt cs off) (.pointer (some ⟨b, a + off, none⟩))
  | fn {f : Fn} {cs ds : List PV} {vs us : Array Value} (hn : vs.size = cs.length) (h : ∀ i, i < cs.length → SRep w S (cs.getD i P0) (vs.getD i undef))
      (hm : us.size = ds.length) (k : ∀ i, i < ds.length → SRep w S (ds.getD i P0) (us.getD i undef)) : SRep w S (.fn f cs ds) (.func f vs us)

theorem cell_same {w w' : World} {b i : Nat} (h : w'.heap[b]? = w.heap[b]?) : w'.cell? ⟨b, i, none⟩ = w.cell? ⟨b, i, none⟩ := by
  simp only [World.cell?, h]
theorem SRep.mono {w w' : World} {S S' : Nat → Prop} (hS : ∀ b, S b → S' b ∧ w'.heap[b]? = w.heap[b]?) {p : PV} {v : Value} (h : SRep w S p v) : SRep w' S' p v := by
  induction h with
  | av v => exact .av v
  | agg hn _ ih => exact .agg hn ih
  | tup hn _ ih => exact .tup hn ih
  | emp => exact .emp
  | ssl hs hc _ ho hl ih => exact .ssl (hS _ hs).1 (fun j hj => (cell_same (hS _ hs).2).trans (hc j hj)) ih ho hl
  | spt hs hc _ ho ih => exact .spt (hS _ hs).1 (fun j hj => (cell_same (hS _ hs).2).trans (hc j hj)) ih ho
  | fn hn _ hm _ ih ik => exact .fn hn ih hm ik

/-- Where things lie: the world, the blocks that nobody writes, the own blocks by number (none: none has been made yet). -/
structure Cx where
  w : World
  S : Nat → Prop
  own : Nat → Option (Option Nat × TypeId)

def OslOk (P : Program) (w : World) (ob : Option Nat) (T : TypeId) (off len : Nat) (v : Value) : Prop :=
  (∃ a, v = .slice a 0 0 ∧ len = 0) ∨ ∃ b cap cs, ob = some b ∧ v = .slice (some ⟨b, off, none⟩) len cap ∧ w.heap[b]? = some (.cells cs T (0, 0)) ∧ len ≤ cap ∧ off + cap * P.cellsOf T ≤ cs.size

inductive Rep (P : Program) (c : Cx) : PV → Value → Prop
  | sh {p : PV} {v : Value} (h : SRep c.w c.S p v) : Rep P c p v
  | agg {cs : List PV} {vs : Array Value} (hn : vs.size = cs.length) (h : ∀ i, i < cs.length → Rep P c (cs.getD i P0) (vs.getD i undef)) : Rep P c (.agg cs) (.agg vs)
  | tup {cs : List PV} {vs : Array Value} (hn : vs.size = cs.length) (h : ∀ i, i < cs.length → Rep P c (cs.getD i P0) (vs.getD i undef)) : Rep P c (.tup cs) (.tuple vs)
  | osl {id off len : Nat} {v : Value} {ob : Option Nat} {T : TypeId} (ho : c.own id = some (ob, T)) (h : OslOk P c.w ob T off len v) : Rep P c (.osl id off len) v
  | opt {id off b : Nat} {T : TypeId} (ho : c.own id = some (some b, T)) : Rep P c (.opt id off) (.pointer (some ⟨b, off, none⟩))
  | fn {f : Fn} {cs ds : List PV} {vs us : Array Value} (hn : vs.size = cs.length) (h : ∀ i, i < cs.length → Rep P c (cs.getD i P0) (vs.getD i undef))
      (hm : us.size = ds.length) (k : ∀ i, i < ds.length → Rep P c (ds.getD i P0) (us.getD i undef)) : Rep P c (.fn f cs ds) (.func f vs us)

theorem SRep.one {w : World} {S : Nat → Prop} {p : PV} {v : Value} (h : SRep w S p v) (ho : p.one = true) : v.oneCell' = true := by
  cases h <;> first | exact ho | rfl | (simp [PV.one] at ho)
theorem Rep.one {P : Program} {c : Cx} {p : PV} {v : Value} (h : Rep P c p v) (ho : p.one = true) : v.oneCell' = true := by
  cases h with
  | sh h => exact h.one ho
  | agg => simp [PV.one] at ho
  | tup => simp [PV.one] at ho
  | osl _ h =>
    rcases h with ⟨a, rfl, _⟩ | ⟨b, cap, cs, _, rfl, _⟩ <;> rfl
  | opt => rfl
  | fn => rfl
/-- Blocks keep their shape. -/
def Shape (w w' : World) : Prop := ∀ (b : Nat) (cs : Array Value) (T : TypeId), w.heap[b]? = some (.cells cs T (0, 0)) → ∃ cs', w'.heap[b]? = some (.cells cs' T (0, 0)) ∧ cs'.size = cs.size
theorem Shape.refl (w : World) : Shape w w := fun _ cs _ h => ⟨cs, h, rfl⟩
theorem Shape.trans {a b c : World} (h : Shape a b) (k : Shape b c) : Shape a c := fun i cs T hc => by
  obtain ⟨cs', h1, h2⟩ := h i cs T hc
  obtain ⟨cs'', h3, h4⟩ := k i cs' T h1
  exact ⟨cs'', h3, h4.trans h2⟩
/-- One view goes over into another one: what was said stays true. -/
structure Keep (c c' : Cx) : Prop where
  S : ∀ b, c.S b → c'.S b ∧ c'.w.heap[b]? = c.w.heap[b]?
  own : ∀ id x, c.own id = some x → c'.own id = some x
  shape : Shape c.w c'.w
theorem Keep.refl (c : Cx) : Keep c c := ⟨fun _ h => ⟨h, rfl⟩, fun _ _ h => h, Shape.refl _⟩
theorem Keep.trans {a b c : Cx} (h : Keep a b) (k : Keep b c) : Keep a c :=
  ⟨fun i hi => ⟨(k.S i (h.S i hi).1).1, (k.S i (h.S i hi).1).2.trans (h.S i hi).2⟩, fun i x hx => k.own i x (h.own i x hx), h.shape.trans k.shape⟩
theorem OslOk.mono {P : Program} {w w' : World} (hk : Shape w w') {ob : Option Nat} {T : TypeId} {off len : Nat} {v : Value} (h : OslOk P w ob T off len v) : OslOk P w' ob T off len v := by
  rcases h with h | ⟨b, cap, cs, h1, h2, h3, h4, h5⟩
  · exact .inl h
  · obtain ⟨cs', h6, h7⟩ := hk b cs T h3
    exact .inr ⟨b, cap, cs', h1, h2, h6, h4, by omega⟩
theorem Rep.mono {P : Program} {c c' : Cx} (hk : Keep c c') {p : PV} {v : Value} (h : Rep P c p v) : Rep P c' p v := by
  induction h with
  | sh h => exact .sh (h.mono hk.S)
  | agg hn _ ih => exact .agg hn ih
  | tup hn _ ih => exact .tup hn ih
  | osl ho h => exact .osl (hk.own _ _ ho) (h.mono hk.shape)
  | opt ho => exact .opt (hk.own _ _ ho)
  | fn hn _ hm _ ih ik => exact .fn hn ih hm ik

/-! ### states -/
inductive Val where
  | pv (p : PV)
  | blk (T : TypeId) (cells : List PV)
abbrev ks (s : Nat) : Nat := 2 * s
abbrev kb (i : Nat) : Nat := 2 * i + 1
abbrev St := Nat → Option Val
def lk {α : Type} (k : Nat) : List (Nat × α) → Option α
  | [] => none
  | (j, x) :: l => if Nat.beq k j then some x else lk k l
abbrev L := List (Nat × Option Val)
def get (l : L) : St := fun k => (lk k l).join
def over (l : L) (g : St) : St := fun k => match lk k l with | some x => x | none => g k
theorem get_append (l m : L) : get (l ++ m) = over l (get m) := by
  funext k
  induction l with
  | nil => rfl
  | cons a l ih =>
    obtain ⟨j, x⟩ := a
    simp only [get, over, List.cons_append, lk] at ih ⊢
    by_cases h : Nat.beq k j = true
    · simp [h]
    · simp only [h]; exact ih

def BlkOk (P : Program) (c : Cx) (ob : Option Nat) (T : TypeId) (cells : List PV) : Prop := ones cells ∧ (
  (ob = none ∧ cells = []) ∨ ∃ b cs, ob = some b ∧ c.w.heap[b]? = some (.cells cs T (0, 0)) ∧ cells.length ≤ cs.size ∧ ∀ j, j < cells.length → Rep P c (cells.getD j P0) (cs.getD j undef))

/-- What is fixed over a walk: the program, the frame's size, the world at the beginning, the blocks that were lent, the blocks that nobody writes. -/
structure Env where
  P : Program
  n : Nat
  c0 : Cx
  Bor : Nat → Prop
abbrev Env.W (E : Env) : World := E.c0.w
abbrev Env.S0 (E : Env) : Nat → Prop := E.c0.S

def Live (g : St) (id : Nat) : Prop := ∃ T cells, g (kb id) = some (.blk T cells)

structure Heap (E : Env) (nx : Nat → Prop) (c : Cx) (g : St) : Prop where
  ids : ∀ id x, c.own id = some x → nx id
  blk : ∀ id T cells, g (kb id) = some (.blk T cells) → ∃ ob, c.own id = some (ob, T) ∧ BlkOk E.P c ob T cells
  inj : ∀ id id' b T T', Live g id → Live g id' → c.own id = some (some b, T) → c.own id' = some (some b, T') → id = id'
  apart : ∀ id b T, Live g id → c.own id = some (some b, T) → ¬ c.S b ∧ (E.Bor b ∨ E.W.heap.size ≤ b)
  bnd : ∀ id b T, c.own id = some (some b, T) → b < c.w.heap.size
  sok : ∀ b, c.S b → b < c.w.heap.size
  os : c.w.os = E.W.os
  tape : c.w.tape = E.W.tape
  output : c.w.output = E.W.output
  size : E.W.heap.size ≤ c.w.heap.size
  same : ∀ b, b < E.W.heap.size → ¬ E.Bor b → c.w.heap[b]? = E.W.heap[b]?
  s0 : ∀ b, E.S0 b → c.S b
  s1 : ∀ b, c.S b → E.S0 b ∨ E.Bor b ∨ E.W.heap.size ≤ b
  keep : Keep E.c0 c

structure Inv (E : Env) (nx : Nat → Prop) (c : Cx) (g : St) (a : Act) : Prop extends Heap E nx c g where
  tmps : a.tmps.size = E.n
  dfr : a.defers = []
  slot : ∀ s p, g (ks s) = some (.pv p) → Rep E.P c p (a.tmps.getD s undef)
  isv : ∀ s x, g (ks s) = some x → ∃ p, x = .pv p

/-! ### how it goes on -/
theorem put_get (a : Act) (d s : Nat) (v : Value) (hd : d < a.tmps.size) : ((a.put (some d) v).tmps.getD s undef) = if s = d then v else a.tmps.getD s undef := by
  simp only [Act.put, Array.getD_eq_getD_getElem?, Array.getElem?_setIfInBounds]
  by_cases h : s = d
  · subst h; simp [hd]
  · simp [h, Ne.symm h]
theorem put_size (a : Act) (d : Option Nat) (v : Value) : (a.put d v).tmps.size = a.tmps.size := by
  cases d <;> simp [Act.put]
theorem put_dfr (a : Act) (d : Option Nat) (v : Value) : (a.put d v).defers = a.defers := by
  cases d <;> rfl

/-- The slot that an operation fills. -/
def wd (d : Option Nat) (p : PV) : L := match d with | some d => [(ks d, some (.pv p))] | none => []
theorem lk_wd_b (d : Option Nat) (p : PV) (i : Nat) : lk (kb i) (wd d p) = none := by
  cases d with
  | none => rfl
  | some d => simp only [wd, lk]; rw [show Nat.beq (kb i) (ks d) = false from by rw [Bool.eq_false_iff]; intro h; have := Nat.eq_of_beq_eq_true h; simp only [ks, kb] at this; omega]; rfl
theorem beq_ks (s d : Nat) : Nat.beq (ks s) (ks d) = decide (s = d) := by
  by_cases h : s = d
  · subst h; simp [Nat.beq_refl]
  · rw [decide_eq_false h, Bool.eq_false_iff]; intro h'; have := Nat.eq_of_beq_eq_true h'; simp only [ks] at this; omega
theorem beq_kb (s d : Nat) : Nat.beq (kb s) (kb d) = decide (s = d) := by
  by_cases h : s = d
  · subst h; simp [Nat.beq_refl]
  · rw [decide_eq_false h, Bool.eq_false_iff]; intro h'; have := Nat.eq_of_beq_eq_true h'; simp only [kb] at this; omega
theorem beq_kbs (s d : Nat) : Nat.beq (kb s) (ks d) = false := by
  rw [Bool.eq_false_iff]; intro h; have := Nat.eq_of_beq_eq_true h; simp only [ks, kb] at this; omega
theorem beq_ksb (s d : Nat) : Nat.beq (ks s) (kb d) = false := by
  rw [Bool.eq_false_iff]; intro h; have := Nat.eq_of_beq_eq_true h; simp only [ks, kb] at this; omega

/-- The frame's part behind an operation: a view that keeps what was said; blocks as 'hh' says. -/
theorem Inv.put {E : Env} {nx nx' : Nat → Prop} {c c' : Cx} {g : St} {a : Act} (h : Inv E nx c g a) (hk : Keep c c') (wb : L) (hw : ∀ s, lk (ks s) wb = none) (hh : Heap E nx' c' (over wb g))
    (d : Option Nat) (hd : ∀ x, d = some x → x < E.n) {p : PV} {v : Value} (hv : d ≠ none → Rep E.P c' p v) : Inv E nx' c' (over (wd d p) (over wb g)) (a.put d v) := by
  have hb : ∀ i, over (wd d p) (over wb g) (kb i) = over wb g (kb i) := fun i => by simp only [over, lk_wd_b]
  have hg : over (wd d p) (over wb g) = over (wd d p) (over wb g) := rfl
  have hl : ∀ i, Live (over (wd d p) (over wb g)) i ↔ Live (over wb g) i := fun i => by simp only [Live, hb]
  refine { ids := hh.ids, blk := fun i T cs hx => hh.blk i T cs (by rw [← hb]; exact hx), inj := fun i j b T T' h1 h2 => hh.inj i j b T T' ((hl i).1 h1) ((hl j).1 h2),
           apart := fun i b T h1 => hh.apart i b T ((hl i).1 h1), bnd := hh.bnd, sok := hh.sok, os := hh.os, tape := hh.tape, output := hh.output, size := hh.size, same := hh.same, s0 := hh.s0, s1 := hh.s1, keep := hh.keep,
           tmps := by rw [put_size]; exact h.tmps, dfr := by rw [put_dfr]; exact h.dfr, slot := fun s q hq => ?_, isv := fun s x hx => ?_ }
  · cases d with
    | none =>
      have : g (ks s) = some (.pv q) := by simpa [wd, over, lk, hw] using hq
      exact (h.slot s q this).mono hk
    | some d =>
      rw [put_get a d s v (by rw [h.tmps]; exact hd d rfl)]
      by_cases e : s = d
      · subst e
        simp only [over, wd, lk, Nat.beq_refl, if_true, Option.some.injEq, Val.pv.injEq] at hq
        subst hq
        rw [if_pos rfl]
        exact hv (by simp)
      · rw [if_neg e]
        have : g (ks s) = some (.pv q) := by simpa [wd, over, lk, hw, beq_ks, e] using hq
        exact (h.slot s q this).mono hk
  · cases d with
    | none => exact h.isv s x (by simpa [wd, over, lk, hw] using hx)
    | some d =>
      by_cases e : s = d
      · subst e
        simp only [over, wd, lk, Nat.beq_refl, if_true, Option.some.injEq] at hx
        exact ⟨p, hx.symm⟩
      · exact h.isv s x (by simpa [wd, over, lk, hw, beq_ks, e] using hx)
/-- An operation that leaves the world alone. -/
theorem Inv.pure {E : Env} {nx nx' : Nat → Prop} {c : Cx} {g : St} {a : Act} (h : Inv E nx c g a) (hn : ∀ i, nx i → nx' i) (d : Option Nat) (hd : ∀ x, d = some x → x < E.n) {p : PV} {v : Value} (hv : d ≠ none → Rep E.P c p v) :
    Inv E nx' c (over (wd d p) g) (a.put d v) := by
  have := Inv.put (nx' := nx') h (Keep.refl c) [] (fun _ => rfl) { h.toHeap with ids := fun i x hx => hn i (h.ids i x hx) } d hd (p := p) (v := v) hv
  exact this
end Go.Proofs.Ytfoiadlaekknpaa.Pm
namespace Go.Proofs.Ytfoiadlaekknpaa.Pm
open Go

def setOwn (own : Nat → Option (Option Nat × TypeId)) (id : Nat) (x : Option Nat × TypeId) : Nat → Option (Option Nat × TypeId) := fun i => if i = id then some x else own i
theorem setOwn_same {own : Nat → Option (Option Nat × TypeId)} {id : Nat} {x : Option Nat × TypeId} : setOwn own id x id = some x := by simp [setOwn]
theorem setOwn_ne {own : Nat → Option (Option Nat × TypeId)} {id i : Nat} {x : Option Nat × TypeId} (h : i ≠ id) : setOwn own id x i = own i := by simp [setOwn, h]
theorem own_fresh {E : Env} {nx : Nat → Prop} {c : Cx} {g : St} (h : Heap E nx c g) {id : Nat} (hn : ¬ nx id) : c.own id = none := by
  cases ho : c.own id with
  | none => rfl
  | some x => exact absurd (h.ids id x ho) hn
theorem over_b (id : Nat) (x : Option Val) (g : St) (i : Nat) : over [(kb id, x)] g (kb i) = if i = id then x else g (kb i) := by
  simp only [over, lk, beq_kb]
  by_cases h : i = id <;> simp [h]
theorem over_s (id : Nat) (x : Option Val) (g : St) (s : Nat) : over [(kb id, x)] g (ks s) = g (ks s) := by
  simp only [over, lk, beq_ksb]
  rfl
theorem lk_b_s (id : Nat) (x : Option Val) (s : Nat) : lk (ks s) [(kb id, x)] = none := by
  simp only [lk, beq_ksb]; rfl
theorem alloc_heap (w : World) (o : Obj) (b : Nat) (h : b < w.heap.size) : (w.alloc o).heap[b]? = w.heap[b]? := RowKit.Below.heap_alloc w o b h
theorem alloc_heap_new (w : World) (o : Obj) : (w.alloc o).heap[w.heap.size]? = some o := by
  show (w.heap.push o)[w.heap.size]? = _
  simp
theorem alloc_sz (w : World) (o : Obj) : (w.alloc o).heap.size = w.heap.size + 1 := by show (w.heap.push _).size = _; simp
theorem some_lt {w : World} {b : Nat} {o : Obj} (h : w.heap[b]? = some o) : b < w.heap.size := (Array.getElem?_eq_some_iff.1 h).1

theorem BlkOk.mono {P : Program} {c c' : Cx} (hk : Keep c c') {ob : Option Nat} {T : TypeId} {cells : List PV} (h : BlkOk P c ob T cells) (hb : ∀ b, ob = some b → c'.w.heap[b]? = c.w.heap[b]?) : BlkOk P c' ob T cells := by
  obtain ⟨h0, h⟩ := h
  refine ⟨h0, ?_⟩
  rcases h with h | ⟨b, cs, h1, h2, h3, h4⟩
  · exact .inl h
  · exact .inr ⟨b, cs, h1, (hb b h1).trans h2, h3, fun j hj => (h4 j hj).mono hk⟩

/-- A NEW BLOCK (behind draws, maybe). -/
theorem heap_new {E : Env} {nx : Nat → Prop} {c : Cx} {g : St} (h : Heap E nx c g) {id : Nat} (hn : ¬ nx id) (T : TypeId) (cs : Array Value) (cells : List PV) (w' : World)
    (hw : w'.heap = c.w.heap.push (.cells cs T (0, 0))) (hos : w'.os = c.w.os) (htp : w'.tape = c.w.tape) (hou : w'.output = c.w.output)
    (ho : ones cells) (hl : cells.length ≤ cs.size) (hr : ∀ j, j < cells.length → Rep E.P c (cells.getD j P0) (cs.getD j undef)) :
    Keep c ⟨w', c.S, setOwn c.own id (some c.w.heap.size, T)⟩ ∧
      Heap E (fun i => nx i ∨ i = id) ⟨w', c.S, setOwn c.own id (some c.w.heap.size, T)⟩ (over [(kb id, some (.blk T cells))] g) := by
  have hf := own_fresh h hn
  have hne : ∀ i x, c.own i = some x → i ≠ id := fun i x hx e => by rw [e, hf] at hx; cases hx
  have hold : ∀ b, b < c.w.heap.size → w'.heap[b]? = c.w.heap[b]? := fun b hb => by rw [hw, Array.getElem?_push, if_neg (by omega)]
  have hnew : w'.heap[c.w.heap.size]? = some (.cells cs T (0, 0)) := by rw [hw]; simp
  have hsz : w'.heap.size = c.w.heap.size + 1 := by rw [hw]; simp
  have hk : Keep c ⟨w', c.S, setOwn c.own id (some c.w.heap.size, T)⟩ :=
    ⟨fun b hb => ⟨hb, hold b (h.sok b hb)⟩, fun i x hx => by show setOwn _ _ _ _ = _; rw [setOwn_ne (hne i x hx)]; exact hx, fun b cs' T' hb => ⟨cs', by rw [hold b (some_lt hb)]; exact hb, rfl⟩⟩
  refine ⟨hk, { ids := fun i x hx => ?_, blk := fun i T' cs' hx => ?_, inj := fun i j b T1 T2 h1 h2 h3 h4 => ?_, apart := fun i b T1 h1 h2 => ?_, bnd := fun i b T1 h1 => ?_, sok := fun b hb => ?_,
                os := hos.trans h.os, tape := htp.trans h.tape, output := hou.trans h.output, size := ?_, same := fun b hb hB => ?_, s0 := h.s0, s1 := h.s1, keep := h.keep.trans hk }⟩
  · by_cases e : i = id
    · exact .inr e
    · exact .inl (h.ids i x (by rw [← setOwn_ne (x := (some c.w.heap.size, T)) (own := c.own) e]; exact hx))
  · rw [over_b] at hx
    by_cases e : i = id
    · rw [if_pos e] at hx
      cases hx
      subst e
      exact ⟨_, setOwn_same, ho, .inr ⟨_, cs, rfl, hnew, hl, fun j hj => (hr j hj).mono hk⟩⟩
    · rw [if_neg e] at hx
      obtain ⟨ob, h1, h2⟩ := h.blk i T' cs' hx
      refine ⟨ob, by show setOwn _ _ _ _ = _; rw [setOwn_ne e]; exact h1, h2.mono hk fun b hb => hold b ?_⟩
      subst hb
      exact h.bnd i b T' h1
  · have hlv : ∀ i, Live (over [(kb id, some (.blk T cells))] g) i → i ≠ id → Live g i := fun i ⟨T', cs', hx⟩ e => ⟨T', cs', by rw [over_b, if_neg e] at hx; exact hx⟩
    by_cases e : i = id <;> by_cases e' : j = id
    · omega
    · subst e
      have h3' : setOwn c.own i (some c.w.heap.size, T) i = _ := h3
      have h4' : setOwn c.own i (some c.w.heap.size, T) j = _ := h4
      rw [setOwn_same] at h3'
      rw [setOwn_ne e'] at h4'
      have := h.bnd j b T2 h4'
      simp only [Option.some.injEq, Prod.mk.injEq] at h3'
      omega
    · subst e'
      have h3' : setOwn c.own j (some c.w.heap.size, T) i = _ := h3
      have h4' : setOwn c.own j (some c.w.heap.size, T) j = _ := h4
      rw [setOwn_same] at h4'
      rw [setOwn_ne e] at h3'
      have := h.bnd i b T1 h3'
      simp only [Option.some.injEq, Prod.mk.injEq] at h4'
      omega
    · have h3' : setOwn c.own id (some c.w.heap.size, T) i = _ := h3
      have h4' : setOwn c.own id (some c.w.heap.size, T) j = _ := h4
      rw [setOwn_ne e] at h3'
      rw [setOwn_ne e'] at h4'
      exact h.inj i j b T1 T2 (hlv i h1 e) (hlv j h2 e') h3' h4'
  · have h2' : setOwn c.own id (some c.w.heap.size, T) i = _ := h2
    by_cases e : i = id
    · subst e
      rw [setOwn_same] at h2'
      simp only [Option.some.injEq, Prod.mk.injEq] at h2'
      have := h.size
      exact ⟨fun hS => by have := h.sok b hS; omega, .inr (by omega)⟩
    · rw [setOwn_ne e] at h2'
      obtain ⟨T', cs', hx⟩ := h1
      rw [over_b, if_neg e] at hx
      exact h.apart i b T1 ⟨T', cs', hx⟩ h2'
  · have h1' : setOwn c.own id (some c.w.heap.size, T) i = _ := h1
    show b < w'.heap.size
    by_cases e : i = id
    · subst e
      rw [setOwn_same] at h1'
      simp only [Option.some.injEq, Prod.mk.injEq] at h1'
      omega
    · rw [setOwn_ne e] at h1'
      have := h.bnd i b T1 h1'
      omega
  · have := h.sok b hb
    show b < w'.heap.size
    omega
  · have := h.size
    show _ ≤ w'.heap.size
    omega
  · have := h.size
    exact (hold b (by omega)).trans (h.same b hb hB)

/-- A STORE: block b of the live number id holds other values. -/
theorem heap_upd {E : Env} {nx : Nat → Prop} {c : Cx} {g : St} (h : Heap E nx c g) {id b : Nat} {T : TypeId} {cells cells' : List PV} (hg : g (kb id) = some (.blk T cells)) (ho : c.own id = some (some b, T))
    (cs cs' : Array Value) (w' : World) (hb : c.w.heap[b]? = some (.cells cs T (0, 0))) (hb' : w'.heap[b]? = some (.cells cs' T (0, 0))) (hcs : cs'.size = cs.size)
    (hoth : ∀ b', b' ≠ b → w'.heap[b']? = c.w.heap[b']?) (hsz : w'.heap.size = c.w.heap.size) (hos : w'.os = c.w.os) (htp : w'.tape = c.w.tape) (hou : w'.output = c.w.output)
    (hone : ones cells') (hl : cells'.length ≤ cs.size) (hr : ∀ j, j < cells'.length → Rep E.P c (cells'.getD j P0) (cs'.getD j undef)) :
    Keep c ⟨w', c.S, c.own⟩ ∧ Heap E nx ⟨w', c.S, c.own⟩ (over [(kb id, some (.blk T cells'))] g) := by
  have hlive : Live g id := ⟨T, cells, hg⟩
  have hap := h.apart id b T hlive ho
  have hk : Keep c ⟨w', c.S, c.own⟩ := ⟨fun b' hS => ⟨hS, hoth b' fun e => hap.1 (e ▸ hS)⟩, fun _ _ hx => hx, fun b' cs1 T1 h1 => by
    by_cases e : b' = b
    · subst e
      rw [hb] at h1
      cases h1
      exact ⟨cs', hb', hcs⟩
    · exact ⟨cs1, (hoth b' e).trans h1, rfl⟩⟩
  have hlv : ∀ i, Live (over [(kb id, some (.blk T cells'))] g) i → Live g i := fun i ⟨T', cs1, hx⟩ => by
    rw [over_b] at hx
    by_cases e : i = id
    · subst e; exact hlive
    · rw [if_neg e] at hx; exact ⟨T', cs1, hx⟩
  refine ⟨hk, { ids := h.ids, blk := fun i T' cs1 hx => ?_, inj := fun i j b' T1 T2 h1 h2 => h.inj i j b' T1 T2 (hlv i h1) (hlv j h2), apart := fun i b' T1 h1 => h.apart i b' T1 (hlv i h1),
                bnd := fun i b' T1 h1 => by have := h.bnd i b' T1 h1; show b' < w'.heap.size; omega, sok := fun b' hS => by have := h.sok b' hS; show b' < w'.heap.size; omega,
                os := hos.trans h.os, tape := htp.trans h.tape, output := hou.trans h.output, size := by have := h.size; show _ ≤ w'.heap.size; omega, same := fun b' hb1 hB => ?_, s0 := h.s0, s1 := h.s1, keep := h.keep.trans hk }⟩
  · rw [over_b] at hx
    by_cases e : i = id
    · subst e
      rw [if_pos rfl] at hx
      cases hx
      exact ⟨_, ho, hone, .inr ⟨b, cs', rfl, hb', by omega, fun j hj => (hr j hj).mono hk⟩⟩
    · rw [if_neg e] at hx
      obtain ⟨ob, h1, h2⟩ := h.blk i T' cs1 hx
      refine ⟨ob, h1, h2.mono hk fun b' hb1 => hoth b' fun e' => e ?_⟩
      subst hb1
      subst e'
      exact h.inj i id b' T' T ⟨T', cs1, hx⟩ hlive h1 ho
  · have e : b' ≠ b := fun e => by
      subst e
      rcases hap.2 with h1 | h1
      · exact hB h1
      · omega
    exact (hoth b' e).trans (h.same b' hb1 hB)

/-- A ROW MOVED: the number 'old' is dropped, the number 'id' stands for what is there now. -/
theorem heap_drop {E : Env} {nx : Nat → Prop} {c : Cx} {g : St} (h : Heap E nx c g) (id : Nat) : Heap E nx c (over [(kb id, none)] g) := by
  have hlv : ∀ i, Live (over [(kb id, none)] g) i → Live g i := fun i ⟨T', cs1, hx⟩ => by
    rw [over_b] at hx
    by_cases e : i = id
    · rw [if_pos e] at hx; cases hx
    · rw [if_neg e] at hx; exact ⟨T', cs1, hx⟩
  exact { h with
    blk := fun i T' cs1 hx => h.blk i T' cs1 (by
      rw [over_b] at hx
      by_cases e : i = id
      · rw [if_pos e] at hx; cases hx
      · rw [if_neg e] at hx; exact hx),
    inj := fun i j b' T1 T2 h1 h2 => h.inj i j b' T1 T2 (hlv i h1) (hlv j h2), apart := fun i b' T1 h1 => h.apart i b' T1 (hlv i h1) }
/-- The same block under a new number. -/
theorem heap_move {E : Env} {nx : Nat → Prop} {c : Cx} {g : St} (h : Heap E nx c g) {old id : Nat} (hn : ¬ nx id) {T : TypeId} {cells : List PV} (hg : g (kb old) = some (.blk T cells)) {ob : Option Nat} (ho : c.own old = some (ob, T)) :
    Keep c ⟨c.w, c.S, setOwn c.own id (ob, T)⟩ ∧ Heap E (fun i => nx i ∨ i = id) ⟨c.w, c.S, setOwn c.own id (ob, T)⟩ (over [(kb old, none), (kb id, some (.blk T cells))] g) := by
  have hf := own_fresh h hn
  have hne : ∀ i x, c.own i = some x → i ≠ id := fun i x hx e => by rw [e, hf] at hx; cases hx
  have hoi : old ≠ id := hne _ _ ho
  have hk : Keep c ⟨c.w, c.S, setOwn c.own id (ob, T)⟩ :=
    ⟨fun b hb => ⟨hb, rfl⟩, fun i x hx => by show setOwn _ _ _ _ = _; rw [setOwn_ne (hne i x hx)]; exact hx, Shape.refl _⟩
  have hgo : ∀ i, over [(kb old, none), (kb id, some (.blk T cells))] g (kb i) = if i = old then none else if i = id then some (.blk T cells) else g (kb i) := fun i => by
    simp only [over, lk, beq_kb]
    by_cases h1 : i = old
    · rw [decide_eq_true h1, if_pos rfl, if_pos h1]
    · rw [decide_eq_false h1, if_neg (by simp), if_neg h1]
      by_cases h2 : i = id
      · rw [decide_eq_true h2, if_pos rfl, if_pos h2]
      · rw [decide_eq_false h2, if_neg (by simp), if_neg h2]
  have hlv : ∀ i, Live (over [(kb old, none), (kb id, some (.blk T cells))] g) i → i = id ∨ (i ≠ id ∧ i ≠ old ∧ Live g i) := fun i ⟨T', cs1, hx⟩ => by
    rw [hgo] at hx
    by_cases e1 : i = old
    · rw [if_pos e1] at hx; cases hx
    · rw [if_neg e1] at hx
      by_cases e2 : i = id
      · exact .inl e2
      · rw [if_neg e2] at hx; exact .inr ⟨e2, e1, T', cs1, hx⟩
  have hlo : Live g old := ⟨T, cells, hg⟩
  refine ⟨hk, { ids := fun i x hx => ?_, blk := fun i T' cs' hx => ?_, inj := fun i j b T1 T2 h1 h2 h3 h4 => ?_, apart := fun i b T1 h1 h2 => ?_, bnd := fun i b T1 h1 => ?_, sok := h.sok,
                os := h.os, tape := h.tape, output := h.output, size := h.size, same := h.same, s0 := h.s0, s1 := h.s1, keep := h.keep.trans hk }⟩
  · by_cases e : i = id
    · exact .inr e
    · exact .inl (h.ids i x (by rw [← setOwn_ne (x := (ob, T)) (own := c.own) e]; exact hx))
  · rw [hgo] at hx
    by_cases e1 : i = old
    · rw [if_pos e1] at hx; cases hx
    · rw [if_neg e1] at hx
      by_cases e2 : i = id
      · subst e2
        rw [if_pos rfl] at hx
        cases hx
        obtain ⟨ob', h1, h2⟩ := h.blk old _ _ hg
        rw [ho] at h1
        cases h1
        exact ⟨_, setOwn_same, h2.mono hk fun _ _ => rfl⟩
      · rw [if_neg e2] at hx
        obtain ⟨ob', h1, h2⟩ := h.blk i _ _ hx
        exact ⟨ob', by show setOwn _ _ _ _ = _; rw [setOwn_ne e2]; exact h1, h2.mono hk fun _ _ => rfl⟩
  · have h3' : setOwn c.own id (ob, T) i = _ := h3
    have h4' : setOwn c.own id (ob, T) j = _ := h4
    rcases hlv i h1 with e1 | ⟨e1, e2, l1⟩ <;> rcases hlv j h2 with e3 | ⟨e3, e4, l2⟩
    · omega
    · subst e1
      rw [setOwn_same] at h3'
      rw [setOwn_ne e3] at h4'
      simp only [Option.some.injEq, Prod.mk.injEq] at h3'
      exact absurd (h.inj j old b T2 T l2 hlo h4' (by rw [ho, h3'.1])) e4
    · subst e3
      rw [setOwn_same] at h4'
      rw [setOwn_ne e1] at h3'
      simp only [Option.some.injEq, Prod.mk.injEq] at h4'
      exact absurd (h.inj i old b T1 T l1 hlo h3' (by rw [ho, h4'.1])) e2
    · rw [setOwn_ne e1] at h3'
      rw [setOwn_ne e3] at h4'
      exact h.inj i j b T1 T2 l1 l2 h3' h4'
  · have h2' : setOwn c.own id (ob, T) i = _ := h2
    rcases hlv i h1 with e1 | ⟨e1, e2, l1⟩
    · subst e1
      rw [setOwn_same] at h2'
      simp only [Option.some.injEq, Prod.mk.injEq] at h2'
      exact h.apart old b T hlo (by rw [ho, h2'.1])
    · rw [setOwn_ne e1] at h2'
      exact h.apart i b T1 l1 h2'
  · have h1' : setOwn c.own id (ob, T) i = _ := h1
    by_cases e : i = id
    · subst e
      rw [setOwn_same] at h1'
      simp only [Option.some.injEq, Prod.mk.injEq] at h1'
      exact h.bnd old b T (by rw [ho, h1'.1])
    · rw [setOwn_ne e] at h1'
      exact h.bnd i b T1 h1'
end Go.Proofs.Ytfoiadlaekknpaa.Pm
namespace Go.Proofs.Ytfoiadlaekknpaa.Pm
open Go

structure Out where
  pv : PV
  wb : L
  obs : List Prop
  reads : List Nat
inductive Plan where
  | fail
  | look (k : Nat) (f : Val → Plan)
  | ob (p : Prop) (q : Plan)
  | done (pv : PV) (wb : L)
def run (g : St) : Plan → Option Out
  | .fail => none
  | .look k f => match g k with
    | some v => match run g (f v) with
      | some o => some { o with reads := k :: o.reads }
      | none => none
    | none => none
  | .ob p q => match run g q with
    | some o => some { o with obs := p :: o.obs }
    | none => none
  | .done pv wb => some ⟨pv, wb, [], []⟩
theorem run_congr {g g' : St} : ∀ {p : Plan} {o : Out}, run g p = some o → (∀ k ∈ o.reads, g' k = g k) → run g' p = some o
  | .fail, _, h, _ => by simp [run] at h
  | .look k f, o, h, hk => by
    simp only [run] at h ⊢
    cases hg : g k with
    | none => simp [hg] at h
    | some v =>
      simp only [hg] at h
      cases hr : run g (f v) with
      | none => simp [hr] at h
      | some o' =>
        simp only [hr, Option.some.injEq] at h
        subst h
        rw [hk k (by simp), hg]
        simp only
        rw [run_congr hr fun k' hk' => hk k' (by simp [hk'])]
  | .ob p q, o, h, hk => by
    simp only [run] at h ⊢
    cases hr : run g q with
    | none => simp [hr] at h
    | some o' =>
      simp only [hr, Option.some.injEq] at h
      subst h
      rw [run_congr hr fun k' hk' => hk k' hk']
  | .done pv wb, o, h, _ => by simpa [run] using h

def wr (d : Option Nat) (o : Out) : L := wd d o.pv ++ o.wb
theorem over_append (l m : L) (g : St) : over (l ++ m) g = over l (over m g) := by
  funext k
  induction l with
  | nil => rfl
  | cons a l ih =>
    obtain ⟨j, x⟩ := a
    simp only [over, List.cons_append, lk] at ih ⊢
    by_cases h : Nat.beq k j = true
    · simp [h]
    · simp only [h]; exact ih

/-- What is asked of one operation. -/
def StepOk (E : Env) (ops : Array Oper) (i : Nat) (o : Oper) (out : Out) (id : Nat) (g : St) : Prop :=
  ∀ (nx : Nat → Prop) (c : Cx) (a : Act) (K : Act → World → Prop) (Q : Exit → Act → World → Prop), (∀ t, t < 8 → ¬ nx (id + t)) → Inv E nx c g a →
    (∀ c' a', Inv E (fun j => nx j ∨ (id ≤ j ∧ j < id + 8)) c' (over (wr o.dst out) g) a' → K a' c'.w) → wpOp E.P ops Q i K a c.w

theorem Inv.drawn {E : Env} {nx : Nat → Prop} {c : Cx} {g : St} {a : Act} (h : Inv E nx c g a) (k : Nat) : Inv E nx ⟨{ c.w with drawn := k }, c.S, c.own⟩ g a := by
  have hk : Keep c ⟨{ c.w with drawn := k }, c.S, c.own⟩ := ⟨fun _ hb => ⟨hb, rfl⟩, fun _ _ hx => hx, fun _ cs _ hb => ⟨cs, hb, rfl⟩⟩
  exact { ids := h.ids, blk := fun id T cells hg => by
            obtain ⟨ob, h1, h2⟩ := h.blk id T cells hg
            exact ⟨ob, h1, h2.mono hk fun _ _ => rfl⟩,
          inj := h.inj, apart := h.apart, bnd := h.bnd, sok := h.sok, os := h.os, tape := h.tape, output := h.output, size := h.size, same := h.same, s0 := h.s0, s1 := h.s1, keep := h.keep.trans hk,
          tmps := h.tmps, dfr := h.dfr, slot := fun s p hp => (h.slot s p hp).mono hk, isv := h.isv }
theorem Inv.more {E : Env} {nx nx' : Nat → Prop} {c : Cx} {g : St} {a : Act} (h : Inv E nx c g a) (hn : ∀ i, nx i → nx' i) : Inv E nx' c g a := { h with ids := fun i x hx => hn i (h.ids i x hx) }

section
variable (g0 : St) (W : Nat → L)
def fold (p : Nat → Bool) : Nat → St
  | 0 => g0
  | m + 1 => if p m then over (W m) (fold p m) else fold p m
def hits (l : L) (k : Nat) : Bool := (lk k l).isSome
theorem over_miss {l : L} {k : Nat} (h : hits l k = false) (g : St) : over l g k = g k := by
  unfold hits at h
  unfold over
  cases hx : lk k l with
  | none => rfl
  | some x => rw [hx] at h; cases h
theorem over_hit {l : L} {k : Nat} (h : hits l k = true) (g g' : St) : over l g k = over l g' k := by
  unfold hits at h
  unfold over
  cases hx : lk k l with
  | none => rw [hx] at h; cases h
  | some x => rfl
variable {g0 W}
theorem fold_congr {p q : Nat → Bool} {k : Nat} : ∀ {m : Nat}, (∀ j, j < m → hits (W j) k = true → p j = q j) → fold g0 W p m k = fold g0 W q m k
  | 0, _ => rfl
  | m + 1, h => by
    have ih := fold_congr (m := m) fun j hj => h j (by omega)
    simp only [fold]
    by_cases hh : hits (W m) k = true
    · rw [h m (by omega) hh]
      by_cases hq : q m = true
      · simp only [hq, if_true]; exact over_hit hh _ _
      · simp only [hq]; exact ih
    · have hh' : hits (W m) k = false := by simpa using hh
      by_cases hp : p m = true <;> by_cases hq : q m = true <;> simp only [hp, hq, if_true] <;> simp only [over_miss hh', Bool.false_eq_true, if_false] <;> exact ih
def addP (p : Nat → Bool) (i : Nat) : Nat → Bool := fun j => if j = i then true else p j
/-- One more is done: where it writes, nothing that comes behind it has been done. -/
theorem fold_add {p : Nat → Bool} {i : Nat} (hp : p i = false) : ∀ {m : Nat}, i < m → (∀ j k, i < j → j < m → p j = true → hits (W i) k = true → hits (W j) k = false) →
    fold g0 W (addP p i) m = over (W i) (fold g0 W p m)
  | m + 1, hi, h => by
    simp only [fold]
    by_cases e : m = i
    · subst e
      have : fold g0 W (addP p m) m = fold g0 W p m := by
        funext k
        exact fold_congr fun j hj _ => by simp [addP, Nat.ne_of_lt hj]
      rw [this, hp]
      simp [addP]
    · have ih := fold_add (m := m) hp (by omega) fun j k h1 h2 => h j k h1 (by omega)
      have ea : addP p i m = p m := by simp [addP, e]
      rw [ea, ih]
      by_cases hm : p m = true
      · simp only [hm, if_true]
        funext k
        by_cases hk : hits (W i) k = true
        · rw [over_miss (h m k (by omega) (by omega) hm hk)]
          exact over_hit hk _ _
        · have hk' : hits (W i) k = false := by simpa using hk
          rw [over_miss hk' _]
          by_cases hk2 : hits (W m) k = true
          · exact over_hit hk2 _ _
          · have hk3 : hits (W m) k = false := by simpa using hk2
            rw [over_miss hk3, over_miss hk3, over_miss hk']
      · simp only [hm]; rfl
end

section
variable {E : Env} {ops : Array Oper} {g0 : St} {tab : Nat → Out} {n0 : Nat}
def nxP (n0 : Nat) (p : Nat → Bool) : Nat → Prop := fun id => id < n0 ∨ ∃ j, p j = true ∧ n0 + 8 * j ≤ id ∧ id < n0 + 8 * j + 8
def Wt (ops : Array Oper) (tab : Nat → Out) (i : Nat) : L := wr ((ops[i]?).bind (·.dst)) (tab i)
theorem nx_add {n0 : Nat} {p : Nat → Bool} {i : Nat} {id : Nat} (h : nxP n0 p id ∨ (n0 + 8 * i ≤ id ∧ id < n0 + 8 * i + 8)) : nxP n0 (addP p i) id := by
  rcases h with (h | ⟨j, h1, h2⟩) | h
  · exact .inl h
  · refine .inr ⟨j, ?_, h2⟩
    unfold addP
    split
    · rfl
    · exact h1
  · exact .inr ⟨i, by simp [addP], h⟩
theorem nx_new {n0 : Nat} {p : Nat → Bool} {i : Nat} (hp : p i = false) : ∀ t, t < 8 → ¬ nxP n0 p (n0 + 8 * i + t) := by
  intro t ht h
  rcases h with h | ⟨j, h1, h2, h3⟩
  · omega
  · have : j = i := by omega
    subst this
    rw [hp] at h1
    cases h1

/-- In the order of the text. -/
theorem seq_ops (hs : ∀ i o, ops[i]? = some o → StepOk E ops i o (tab i) (n0 + 8 * i) (fold g0 (Wt ops tab) (fun j => decide (j < i)) ops.size)) {Q : Exit → Act → World → Prop}
    (hQ : ∀ c a, Inv E (fun id => id < n0 + 8 * ops.size) c (fold g0 (Wt ops tab) (fun _ => true) ops.size) a → Q .normal a c.w) :
    ∀ (r k : Nat), k + r = ops.size → ∀ c a, Inv E (nxP n0 (fun j => decide (j < k))) c (fold g0 (Wt ops tab) (fun j => decide (j < k)) ops.size) a →
      wpOps E.P ops Q ((List.range ops.size).drop k) a c.w
  | 0, k, hk, c, a, h => by
    have e1 : (List.range ops.size).drop k = [] := by rw [List.drop_eq_nil_iff]; simp; omega
    rw [e1]
    have e2 : fold g0 (Wt ops tab) (fun j => decide (j < k)) ops.size = fold g0 (Wt ops tab) (fun _ => true) ops.size := by
      funext x
      exact fold_congr fun j hj _ => by simp; omega
    rw [e2] at h
    refine hQ c a (h.more fun id hid => ?_)
    rcases hid with h1 | ⟨j, h1, h2, h3⟩
    · show id < _; omega
    · have : j < k := by simpa using h1
      show id < _; omega
  | r + 1, k, hk, c, a, h => by
    have hlt : k < ops.size := by omega
    rw [List.drop_eq_getElem_cons (by simpa using hlt), List.getElem_range, wpOps_cons]
    have ho : ops[k]? = some ops[k] := by simp [hlt]
    refine hs k _ ho (nxP n0 (fun j => decide (j < k))) c a _ Q (nx_new (by simp)) h fun c' a' h' => ?_
    refine seq_ops hs hQ r (k + 1) (by omega) c' a' ?_
    have e : (fun j => decide (j < k + 1)) = addP (fun j => decide (j < k)) k := by
      funext j
      unfold addP
      by_cases e : j = k
      · subst e; simp
      · simp [e]; omega
    rw [e, fold_add (by simp) hlt fun j x h1 h2 h3 => by simp at h3; omega]
    have : Wt ops tab k = wr ops[k].dst (tab k) := by simp [Wt, ho]
    rw [this]
    exact h'.more fun id hid => nx_add hid

def befs (ops : List Oper) : List (List Nat) := ops.foldl (fun acc o => acc ++ [o.after.toList.flatMap fun e => if Region.binds .any e then e.on :: acc.getD e.on [] else []]) []

def befB (ops : List Oper) (bf : List (List Nat)) : Bool := (List.range ops.length).all fun j => (ops[j]?).all fun o =>
  (o.after.all fun e => !Region.binds .any e || decide (e.on < j)) && (bf.getD j []).all fun i => o.after.any fun e => Region.binds .any e && (Nat.beq e.on i || (bf.getD e.on []).contains i)
def Closed (ops : Array Oper) (p : Nat → Bool) : Prop := ∀ j o, ops[j]? = some o → p j = true → ∀ e ∈ o.after, Region.binds .any e = true → p e.on = true
theorem bef_done {l : List Oper} {bf : List (List Nat)} (hb : befB l bf = true) {p : Nat → Bool} (hp : Closed l.toArray p) : ∀ (j : Nat) (o : Oper), l[j]? = some o → (∀ e ∈ o.after, Region.binds .any e = true → p e.on = true) → ∀ i ∈ bf.getD j [], p i = true := by
  intro j
  induction j using Nat.strongRecOn with
  | ind j ih =>
    intro o ho hd i hi
    simp only [befB, List.all_eq_true, List.mem_range] at hb
    have h1 := hb j (List.getElem?_eq_some_iff.1 ho).1
    rw [ho] at h1
    simp only [Option.all_some, Bool.and_eq_true, Array.all_eq_true_iff_forall_mem, List.all_eq_true] at h1
    have h2 := h1.2 i hi
    rw [Array.any_eq_true'] at h2
    obtain ⟨e, he, h3⟩ := h2
    simp only [Bool.and_eq_true, Bool.or_eq_true] at h3
    have hpe := hd e he h3.1
    rcases h3.2 with h4 | h4
    · rw [← Nat.eq_of_beq_eq_true h4]; exact hpe
    · have hlt : e.on < j := by have := h1.1 e he; rw [h3.1] at this; simpa using this
      have hil : e.on < l.length := by have := (List.getElem?_eq_some_iff.1 ho).1; omega
      exact ih e.on hlt l[e.on] (by simp [hil]) (fun e' he' hb' => hp e.on l[e.on] (by simp [hil]) hpe e' he' hb') i (by simpa using h4)

def left (f : Nat → Bool) : Nat → Nat
  | 0 => 0
  | n + 1 => left f n + (if f n then 0 else 1)
theorem left_zero {f : Nat → Bool} : ∀ {n : Nat}, left f n = 0 → ∀ i, i < n → f i = true
  | n + 1, h, i, hi => by
    unfold left at h
    by_cases e : i = n
    · subst e
      by_cases hf : f i = true
      · exact hf
      · simp [hf] at h
    · exact left_zero (n := n) (by omega) i (by omega)
theorem left_congr {f g : Nat → Bool} : ∀ {n : Nat}, (∀ i, i < n → f i = g i) → left f n = left g n
  | 0, _ => rfl
  | n + 1, h => by rw [left, left, h n (by omega), left_congr fun i hi => h i (by omega)]
theorem left_add {f : Nat → Bool} {i : Nat} (hf : f i = false) : ∀ {n : Nat}, i < n → left f n = left (addP f i) n + 1
  | n + 1, h => by
    by_cases e : i = n
    · subst e
      rw [left, left, hf, left_congr (f := addP f i) (g := f) (fun j hj => by unfold addP; rw [if_neg (by omega)])]
      simp [addP]
    · have e2 : addP f i n = f n := by unfold addP; rw [if_neg (by omega)]
      rw [left, left, left_add hf (n := n) (by omega), e2]
      omega
theorem left_false : ∀ n, left (fun _ => false) n = n
  | 0 => rfl
  | n + 1 => by rw [left, left_false n]; simp
theorem getD_some {listed : Array Bool} {i : Nat} (h : i < listed.size) (b c : Bool) : listed.getD i b = listed.getD i c := by
  rw [Array.getD_eq_getD_getElem?, Array.getD_eq_getD_getElem?, Array.getElem?_eq_getElem h]; rfl
def apartB (W : Nat → L) (rd : Nat → List Nat) (bf : List (List Nat)) (n : Nat) : Bool :=
  (List.range n).all fun j => (List.range j).all fun i => (bf.getD j []).contains i ||
    (((W i).all fun x => !hits (W j) x.1 && !(rd j).contains x.1) && (W j).all fun x => !(rd i).contains x.1)
theorem mem_of_hits {l : L} {k : Nat} (h : hits l k = true) : ∃ x ∈ l, x.1 = k := by
  induction l with
  | nil => simp [hits, lk] at h
  | cons a l ih =>
    obtain ⟨j, x⟩ := a
    simp only [hits, lk] at h ih
    by_cases e : Nat.beq k j = true
    · exact ⟨(j, x), by simp, (Nat.eq_of_beq_eq_true e).symm⟩
    · simp only [e] at h
      obtain ⟨y, hy, h2⟩ := ih h
      exact ⟨y, by simp [hy], h2⟩
theorem apart_spec {W : Nat → L} {rd : Nat → List Nat} {bf : List (List Nat)} {n : Nat} (h : apartB W rd bf n = true) {i j : Nat} (hij : i < j) (hj : j < n) (hn : i ∉ bf.getD j []) {k : Nat} :
    (hits (W i) k = true → hits (W j) k = false ∧ k ∉ rd j) ∧ (hits (W j) k = true → k ∉ rd i) := by
  simp only [apartB, List.all_eq_true, List.mem_range, Bool.or_eq_true, Bool.and_eq_true, Bool.not_eq_true'] at h
  rcases h j hj i hij with h1 | h1
  · exact absurd (by simpa using h1) hn
  · refine ⟨fun hk => ?_, fun hk => ?_⟩
    · obtain ⟨x, hx, rfl⟩ := mem_of_hits hk
      have := h1.1 x hx
      exact ⟨this.1, by simpa using this.2⟩
    · obtain ⟨x, hx, rfl⟩ := mem_of_hits hk
      simpa using h1.2 x hx

/-- IN ANY ORDER. -/
theorem any_ops {E : Env} {l : List Oper} {g0 : St} {tab : Nat → Out} {n0 : Nat} {bf : List (List Nat)} (hb : befB l bf = true) (hap : apartB (Wt l.toArray tab) (fun i => (tab i).reads) bf l.length = true)
    (hs : ∀ i o, l[i]? = some o → ∀ g, (∀ k ∈ (tab i).reads, g k = fold g0 (Wt l.toArray tab) (fun j => decide (j < i)) l.length k) → StepOk E l.toArray i o (tab i) (n0 + 8 * i) g) {Q : Exit → Act → World → Prop}
    (hQ : ∀ c a, Inv E (fun id => id < n0 + 8 * l.length) c (fold g0 (Wt l.toArray tab) (fun _ => true) l.length) a → Q .normal a c.w) :
    ∀ (fuel : Nat) (listed : Array Bool) (c : Cx) (a : Act), listed.size = l.length → left (fun i => listed.getD i false) l.length = fuel → Closed l.toArray (fun i => listed.getD i false) →
      Inv E (nxP n0 (fun j => listed.getD j false)) c (fold g0 (Wt l.toArray tab) (fun j => listed.getD j false) l.length) a → wpAny E.P .any l.toArray Q fuel listed a c.w := by
  have hall : ∀ (listed : Array Bool) (c : Cx) (a : Act), listed.size = l.length → (∀ i, i < l.length → listed.getD i false = true) →
      Inv E (nxP n0 (fun j => listed.getD j false)) c (fold g0 (Wt l.toArray tab) (fun j => listed.getD j false) l.length) a → Q .normal a c.w := by
    intro listed c a hsz hA h
    have e2 : fold g0 (Wt l.toArray tab) (fun j => listed.getD j false) l.length = fold g0 (Wt l.toArray tab) (fun _ => true) l.length := by
      funext x
      exact fold_congr fun j hj _ => hA j hj
    rw [e2] at h
    refine hQ c a (h.more fun id hid => ?_)
    rcases hid with h1 | ⟨j, h1, h2, h3⟩
    · show id < _; omega
    · have : j < l.length := by
        rcases Nat.lt_or_ge j l.length with h4 | h4
        · exact h4
        · have h1' : listed.getD j false = true := h1
          rw [Array.getD_eq_getD_getElem?, Array.getElem?_eq_none (by omega)] at h1'
          cases h1'
      show id < _; omega
  have hnil : ∀ (listed : Array Bool), listed.size = l.length → Region.ready .any l.toArray listed = [] → ∀ i, i < l.length → listed.getD i false = true := by
    intro listed hsz hr i
    induction i using Nat.strongRecOn with
    | ind i ih =>
      intro hi
      by_cases hl : listed.getD i false = true
      · exact hl
      · exfalso
        have hm : i ∈ Region.ready .any l.toArray listed := mem_ready.2 ⟨by rw [getD_some (by omega) true false]; simpa using hl, l[i], by simp [hi], fun e he hbd => by
          simp only [befB, List.all_eq_true, List.mem_range] at hb
          have h1 := hb i hi
          rw [List.getElem?_eq_getElem hi] at h1
          simp only [Option.all_some, Bool.and_eq_true, Array.all_eq_true_iff_forall_mem] at h1
          have h2 : e.on < i := by have := h1.1 e he; rw [hbd] at this; simpa using this
          exact ih e.on h2 (by omega)⟩
        rw [hr] at hm
        cases hm
  intro fuel
  induction fuel with
  | zero =>
    intro listed c a hsz hc hcl h
    have hA := left_zero hc
    refine ⟨?_, hall listed c a hsz hA h⟩
    cases hr : Region.ready .any l.toArray listed with
    | nil => rfl
    | cons i r =>
      exfalso
      have hm : i ∈ Region.ready .any l.toArray listed := by rw [hr]; simp
      obtain ⟨h1, o, ho, _⟩ := mem_ready.1 hm
      have hi : i < l.length := by simpa using (Array.getElem?_eq_some_iff.1 ho).1
      have := hA i hi
      rw [getD_some (by omega) true false, this] at h1
      cases h1
  | succ fuel ih =>
    intro listed c a hsz hc hcl h
    refine ⟨fun hr => hall listed c a hsz (hnil listed hsz hr) h, fun i hm => ?_⟩
    obtain ⟨h1, o, ho, hdeps⟩ := mem_ready.1 hm
    have ho' : l[i]? = some o := by simpa using ho
    have hi : i < l.length := (List.getElem?_eq_some_iff.1 ho').1
    have hli : listed.getD i false = false := by rw [getD_some (by omega) false true]; exact h1
    have hbef := bef_done hb hcl i o ho' hdeps
    -- what is listed and stands behind i is apart from i
    have hfar : ∀ j, i < j → j < l.length → listed.getD j false = true → i ∉ bf.getD j [] := fun j hij hj hlj hmem => by
      have := bef_done hb hcl j l[j] (by simp [hj]) (hcl j l[j] (by simp [hj]) hlj) i hmem
      rw [hli] at this
      cases this
    refine hs i o ho' _ (fun k hk => ?_) _ c a _ Q (nx_new (by exact hli)) h fun c' a' h' => ?_
    · refine fold_congr fun j hj hh => ?_
      rcases Nat.lt_trichotomy j i with h2 | h2 | h2
      · by_cases hmem : j ∈ bf.getD i []
        · rw [hbef j hmem]; simp [h2]
        · exact absurd hk ((apart_spec hap h2 hi hmem).1 hh).2
      · subst h2; rw [hli]; simp
      · have : ¬ j < i := by omega
        simp only [this, decide_false]
        cases hlj : listed.getD j false with
        | false => rfl
        | true => exact absurd hk ((apart_spec hap h2 hj (hfar j h2 hj hlj)).2 hh)
    · have e : (fun j => (listed.setIfInBounds i true).getD j false) = addP (fun j => listed.getD j false) i := by
        funext j
        unfold addP
        by_cases e : j = i
        · subst e
          rw [if_pos rfl, Array.getD_eq_getD_getElem?]
          simp [hsz, hi]
        · rw [if_neg e, getD_set_ne _ (Ne.symm e)]
      refine ih (listed.setIfInBounds i true) c' a' (by simpa using hsz) ?_ ?_ ?_
      · have := left_add (f := fun i => listed.getD i false) hli hi
        rw [e]
        omega
      · intro j oj hj hjl e' he' hb'
        by_cases ej : j = i
        · subst ej
          rw [ho] at hj
          cases hj
          exact getD_set_true (hdeps e' he' hb')
        · have hjl' : listed.getD j false = true := by
            have h2 : (listed.setIfInBounds i true).getD j false = true := hjl
            rwa [getD_set_ne _ (Ne.symm ej)] at h2
          exact getD_set_true (hcl j oj hj hjl' e' he' hb')
      · rw [e, fold_add (by exact hli) hi fun j x h2 h3 h4 h5 => ((apart_spec hap h2 h3 (hfar j h2 h3 h4)).1 h5).1]
        have : Wt l.toArray tab i = wr o.dst (tab i) := by simp [Wt, ho']
        rw [this]
        exact h'.more fun id hid => nx_add hid
end
end Go.Proofs.Ytfoiadlaekknpaa.Pm
namespace Go.Proofs.Ytfoiadlaekknpaa.Pm
open Go

inductive Ans where
  | no
  | gd (b : Bool) (a : Ans)
  | yes (b : Bool)
  | val (p : PV)
  | cells (l : List PV)
  | wrap
  | nat (e : Nat)
  | nat2 (o k : Nat)
  | app (s r : Option (List PV))
  | copy (n : Nat) (s r : List PV)
  | call (ids : List Nat) (args : List PV) (H : List (Option (TypeId × List PV))) (r : PV) (H' : List (Option (TypeId × List PV)))
  | lay (js : List Nat) (a : Ans)
  | ext (ld : Bool)
  | callR (ids : List Nat) (args : List PV) (H : List (Option (TypeId × List PV))) (r : PV)

def Res (g : St) (pl : Plan) (p : PV) (wb : L) : Prop := ∃ o, run g pl = some o ∧ o.pv = p ∧ o.wb = wb ∧ ∀ q ∈ o.obs, q
theorem Res.look {g : St} {k : Nat} {f : Val → Plan} {p : PV} {wb : L} (h : Res g (.look k f) p wb) : ∃ v, g k = some v ∧ Res g (f v) p wb := by
  obtain ⟨o, h1, h2, h3, h4⟩ := h
  simp only [run] at h1
  cases hg : g k with
  | none => simp [hg] at h1
  | some v =>
    simp only [hg] at h1
    cases hr : run g (f v) with
    | none => simp [hr] at h1
    | some o' =>
      simp only [hr, Option.some.injEq] at h1
      subst h1
      exact ⟨v, rfl, o', hr, h2, h3, h4⟩
theorem Res.ob {g : St} {q : Prop} {r : Plan} {p : PV} {wb : L} (h : Res g (.ob q r) p wb) : q ∧ Res g r p wb := by
  obtain ⟨o, h1, h2, h3, h4⟩ := h
  simp only [run] at h1
  cases hr : run g r with
  | none => simp [hr] at h1
  | some o' =>
    simp only [hr, Option.some.injEq] at h1
    subst h1
    exact ⟨h4 q (by simp), o', hr, h2, h3, fun x hx => h4 x (by simp [hx])⟩
theorem Res.done {g : St} {x : PV} {w : L} {p : PV} {wb : L} (h : Res g (.done x w) p wb) : p = x ∧ wb = w := by
  obtain ⟨o, h1, h2, h3, h4⟩ := h
  simp only [run, Option.some.injEq] at h1
  subst h1
  exact ⟨h2.symm, h3.symm⟩
theorem Res.fail {g : St} {p : PV} {wb : L} (h : Res g .fail p wb) : False := by
  obtain ⟨o, h1, _⟩ := h
  simp [run] at h1

/-- An operand. -/
def opd (x : Operand) (k : PV → Plan) : Plan :=
  match x with
  | .tmp t => .look (ks t) fun v => match v with | .pv p => k p | .blk _ _ => .fail
  | .const v => k (.av v)
  | .global g => k (.av (.pointer (some ⟨g, 0, none⟩)))
  | .func f => k (.av (.func (.func f) #[] #[]))
theorem Res.opd {E : Env} {nx : Nat → Prop} {c : Cx} {g : St} {a : Act} (hi : Inv E nx c g a) {x : Operand} {k : PV → Plan} {p : PV} {wb : L} (h : Res g (opd x k) p wb) : ∃ q, Rep E.P c q (a.eval x) ∧ Res g (k q) p wb := by
  cases x with
  | tmp t =>
    obtain ⟨v, h1, h2⟩ := Res.look h
    cases v with
    | pv q => exact ⟨q, hi.slot t q h1, h2⟩
    | blk T cs => exact (Res.fail h2).elim
  | const v => exact ⟨_, .sh (.av _), h⟩
  | global g => exact ⟨_, .sh (.av _), h⟩
  | func f => exact ⟨_, .sh (.av _), h⟩

/-- What an operation's plan must bring about. -/
def ActOk (E : Env) (o : Oper) (id : Nat) (pl : Plan) : Prop :=
  ∀ (g : St) (p : PV) (wb : L), Res g pl p wb → ∀ (nx : Nat → Prop) (c : Cx) (a : Act) (K : Act → World → Prop) (Q : Exit → Act → World → Prop), (∀ t, t < 8 → ¬ nx (id + t)) → Inv E nx c g a →
    (∀ c' a', Inv E (fun j => nx j ∨ (id ≤ j ∧ j < id + 8)) c' (over (wd o.dst p) (over wb g)) a' → K a' c'.w) → o.wp E.P a c.w K Q

section
variable {P : Program} {o : Oper} {b : Act} {w : World} {K : Act → World → Prop} {Q : Exit → Act → World → Prop}
theorem ow_val {v : Value} {w' : World} (h : (execOp b.eval o).run P w = .ok (.value v) w') (hK : K (b.put o.dst v) w') : o.wp P b w K Q := by
  unfold Oper.wp
  rw [h]
  exact hK
theorem ow_skip {w' : World} (h : (execOp b.eval o).run P w = .ok .skip w') (hK : K (b.put o.dst undef) w') : o.wp P b w K Q := by
  unfold Oper.wp
  rw [h]
  exact hK
end
/-- An operation that yields a value and leaves the world alone. -/
theorem pure_step {E : Env} {nx : Nat → Prop} {c : Cx} {g : St} {a : Act} {o : Oper} {id : Nat} {K : Act → World → Prop} {Q : Exit → Act → World → Prop} {p : PV} {v : Value} (hd : ∀ x, o.dst = some x → x < E.n) (hi : Inv E nx c g a)
    (hK : ∀ c' a', Inv E (fun j => nx j ∨ (id ≤ j ∧ j < id + 8)) c' (over (wd o.dst p) (over [] g)) a' → K a' c'.w) (hv : Rep E.P c p v) (hr : (execOp a.eval o).run E.P c.w = .ok (.value v) c.w) : o.wp E.P a c.w K Q :=
  ow_val hr (hK c _ (hi.pure (fun _ h => .inl h) o.dst hd fun _ => hv))

/-! ### inversions -/
section
variable {P : Program} {c : Cx} {v : Value}
theorem rep_av {x : Value} (h : Rep P c (.av x) v) : v = x := by
  cases h with
  | sh h => cases h; rfl
theorem rep_agg {cs : List PV} (h : Rep P c (.agg cs) v) : ∃ vs : Array Value, v = .agg vs ∧ vs.size = cs.length ∧ ∀ i, i < cs.length → Rep P c (cs.getD i P0) (vs.getD i undef) := by
  cases h with
  | sh h => cases h with | agg hn h => exact ⟨_, rfl, hn, fun i hi => .sh (h i hi)⟩
  | agg hn h => exact ⟨_, rfl, hn, h⟩
theorem rep_tup {cs : List PV} (h : Rep P c (.tup cs) v) : ∃ vs : Array Value, v = .tuple vs ∧ vs.size = cs.length ∧ ∀ i, i < cs.length → Rep P c (cs.getD i P0) (vs.getD i undef) := by
  cases h with
  | sh h => cases h with | tup hn h => exact ⟨_, rfl, hn, fun i hi => .sh (h i hi)⟩
  | tup hn h => exact ⟨_, rfl, hn, h⟩
theorem rep_fn {f : Fn} {cs ds : List PV} (h : Rep P c (.fn f cs ds) v) : ∃ vs us : Array Value, v = .func f vs us ∧ vs.size = cs.length ∧ us.size = ds.length ∧ (∀ i, i < cs.length → Rep P c (cs.getD i P0) (vs.getD i undef)) ∧ ∀ i, i < ds.length → Rep P c (ds.getD i P0) (us.getD i undef) := by
  cases h with
  | sh h => cases h with | fn hn h hm k => exact ⟨_, _, rfl, hn, hm, fun i hi => .sh (h i hi), fun i hi => .sh (k i hi)⟩
  | fn hn h hm k => exact ⟨_, _, rfl, hn, hm, h, k⟩
theorem rep_osl {id off len : Nat} (h : Rep P c (.osl id off len) v) : ∃ ob T, c.own id = some (ob, T) ∧ OslOk P c.w ob T off len v := by
  cases h with
  | sh h => cases h
  | osl ho h => exact ⟨_, _, ho, h⟩
theorem rep_opt {id off : Nat} (h : Rep P c (.opt id off) v) : ∃ b T, c.own id = some (some b, T) ∧ v = .pointer (some ⟨b, off, none⟩) := by
  cases h with
  | sh h => cases h
  | opt ho => exact ⟨_, _, ho, rfl⟩
theorem rep_ssl {cs : List PV} {off len : Nat} (h : Rep P c (.ssl cs off len) v) : (∃ a cap, v = .slice a 0 cap ∧ len = 0) ∨ ∃ (b a cap : Nat) (vf : Nat → Value), v = .slice (some ⟨b, a + off, none⟩) len cap ∧ c.S b ∧ (∀ j, j < cs.length → c.w.cell? ⟨b, a + j, none⟩ = some (vf j)) ∧
    (∀ j, j < cs.length → SRep c.w c.S (cs.getD j P0) (vf j)) ∧ ones cs ∧ len ≤ cap := by
  cases h with
  | sh h => cases h with
    | emp => exact .inl ⟨_, _, rfl, rfl⟩
    | ssl hS hc h ho hl => exact .inr ⟨_, _, _, _, rfl, hS, hc, h, ho, hl⟩
theorem rep_spt {cs : List PV} {off : Nat} (h : Rep P c (.spt cs off) v) : ∃ (b a : Nat) (vf : Nat → Value), v = .pointer (some ⟨b, a + off, none⟩) ∧ c.S b ∧ (∀ j, j < cs.length → c.w.cell? ⟨b, a + j, none⟩ = some (vf j)) ∧
    (∀ j, j < cs.length → SRep c.w c.S (cs.getD j P0) (vf j)) ∧ ones cs := by
  cases h with
  | sh h => cases h with
    | spt hS hc h ho => exact ⟨_, _, _, rfl, hS, hc, h, ho⟩
end

/-! ### moves, picks, parts of tuples -/
def aMove (x : Operand) : Plan := opd x fun q => .done q []
theorem aMove_ok {E : Env} {o : Oper} {id : Nat} {x : Operand} (ho : o.op = .move x ∨ o.op = .assign x) (hd : ∀ x, o.dst = some x → x < E.n) : ActOk E o id (aMove x) := by
  intro g p wb h nx c a K Q hn hi hK
  obtain ⟨q, hq, h⟩ := Res.opd hi h
  obtain ⟨rfl, rfl⟩ := Res.done h
  refine pure_step hd hi hK hq ?_
  rcases ho with ho | ho <;> simp [execOp, ho]
def aPick (cx x y : Operand) (an : Ans) : Plan := opd cx fun q => match q, an with
  | .av (.bool t), .yes true => .ob (t = true) (opd x fun q => .done q [])
  | .av (.bool t), .yes false => .ob (t = false) (opd y fun q => .done q [])
  | .av (.bool true), _ => opd x fun q => .done q []
  | .av (.bool false), _ => opd y fun q => .done q []
  | _, _ => .fail
theorem aPick_ok {E : Env} {o : Oper} {id : Nat} {cx x y : Operand} {an : Ans} (ho : o.op = .pick cx x y) (hd : ∀ x, o.dst = some x → x < E.n) : ActOk E o id (aPick cx x y an) := by
  intro g p wb h nx c a K Q hn hi hK
  obtain ⟨q, hq, h⟩ := Res.opd hi h
  split at h
  · obtain ⟨rfl, h1⟩ := Res.ob h
    obtain ⟨q', hq', h2⟩ := Res.opd hi h1
    obtain ⟨rfl, rfl⟩ := Res.done h2
    have := rep_av hq
    exact pure_step hd hi hK hq' (by simp [execOp, ho, this, asBool])
  · obtain ⟨rfl, h1⟩ := Res.ob h
    obtain ⟨q', hq', h2⟩ := Res.opd hi h1
    obtain ⟨rfl, rfl⟩ := Res.done h2
    have := rep_av hq
    exact pure_step hd hi hK hq' (by simp [execOp, ho, this, asBool])
  · obtain ⟨q', hq', h⟩ := Res.opd hi h
    obtain ⟨rfl, rfl⟩ := Res.done h
    have := rep_av hq
    exact pure_step hd hi hK hq' (by simp [execOp, ho, this, asBool])
  · obtain ⟨q', hq', h⟩ := Res.opd hi h
    obtain ⟨rfl, rfl⟩ := Res.done h
    have := rep_av hq
    exact pure_step hd hi hK hq' (by simp [execOp, ho, this, asBool])
  · exact (Res.fail h).elim
def aExtract (t : Operand) (ix : Nat) : Plan := opd t fun q => match q with
  | .tup cs => match Nat.ble (ix + 1) cs.length with | true => .done (cs.getD ix P0) [] | false => .fail
  | _ => .fail
theorem aExtract_ok {E : Env} {o : Oper} {id : Nat} {t : Operand} {ix : Nat} (ho : o.op = .extract t ix) (hd : ∀ x, o.dst = some x → x < E.n) : ActOk E o id (aExtract t ix) := by
  intro g p wb h nx c a K Q hn hi hK
  obtain ⟨q, hq, h⟩ := Res.opd hi h
  split at h
  · rename_i cs
    split at h
    · rename_i hb
      have hb := Nat.le_of_ble_eq_true hb
      obtain ⟨rfl, rfl⟩ := Res.done h
      obtain ⟨vs, hv, hs, hr⟩ := rep_tup hq
      refine pure_step hd hi hK (hr ix (by omega)) ?_
      have hlt : ix < vs.size := by omega
      simp [execOp, ho, hv, Instr.extract, hlt]
    · exact (Res.fail h).elim
  · exact (Res.fail h).elim
end Go.Proofs.Ytfoiadlaekknpaa.Pm
namespace Go.Proofs.Ytfoiadlaekknpaa.Pm
open Go

def InK (k : IntKind) (n : Int) : Prop := match k with
  | .i8 => -128 ≤ n ∧ n ≤ 127
  | .i16 => -32768 ≤ n ∧ n ≤ 32767
  | .i32 => -2147483648 ≤ n ∧ n ≤ 2147483647
  | .i64 => -9223372036854775808 ≤ n ∧ n ≤ 9223372036854775807
  | .u8 => 0 ≤ n ∧ n ≤ 255
  | .u16 => 0 ≤ n ∧ n ≤ 65535
  | .u32 => 0 ≤ n ∧ n ≤ 4294967295
  | .u64 => 0 ≤ n ∧ n ≤ 18446744073709551615
theorem wrap_in {k : IntKind} {n : Int} (h : InK k n) : k.wrap n = n := by
  cases k <;> simp only [InK] at h <;> simp [IntKind.wrap, IntKind.bits, IntKind.signed] <;> omega

/-- A number, as it is if it fits (an obligation), or wrapped. -/
def num (k : IntKind) (n : Int) (an : Ans) : Plan := match an with
  | .wrap => .done (.av (.int k (k.wrap n))) []
  | _ => .ob (InK k n) (.done (.av (.int k n)) [])
def bit (b : Bool) : Plan := .done (.av (.bool b)) []
def pInt (op : BinOp) (k : IntKind) (a b : Int) (an : Ans) : Plan := match op with
  | .add => num k (a + b) an
  | .sub => num k (a - b) an
  | .mul => num k (a * b) an
  | .quo => .ob (b ≠ 0) (num k (a.tdiv b) an)
  | .rem => .ob (b ≠ 0) (.done (.av (.int k (a.tmod b))) [])
  | .and => .done (.av (.int k (k.wrap (BitVec.ofInt k.bits a &&& BitVec.ofInt k.bits b).toNat))) []
  | .or => .done (.av (.int k (k.wrap (BitVec.ofInt k.bits a ||| BitVec.ofInt k.bits b).toNat))) []
  | .xor => .done (.av (.int k (k.wrap (BitVec.ofInt k.bits a ^^^ BitVec.ofInt k.bits b).toNat))) []
  | .andNot => .done (.av (.int k (k.wrap (BitVec.ofInt k.bits a &&& ~~~ BitVec.ofInt k.bits b).toNat))) []
  | .eql => bit (decide (a = b))
  | .neq => bit (!decide (a = b))
  | .lss => bit (decide (a < b))
  | .leq => bit (decide (a ≤ b))
  | .gtr => bit (decide (b < a))
  | .geq => bit (decide (b ≤ a))
  | _ => .fail
def shl (k : IntKind) (a b : Int) (an : Ans) : Plan := .ob (0 ≤ b ∧ b ≤ k.bits) (num k (a * 2 ^ b.toNat) an)
def shr (k : IntKind) (a b : Int) : Plan := .ob (0 ≤ b ∧ b ≤ k.bits) (.done (.av (.int k (a.fdiv (2 ^ b.toNat)))) [])
def aBin (op : BinOp) (_T : TypeId) (x y : Operand) (u : Option TypeDesc) (an : Ans) : Plan := opd x fun p => opd y fun q => match op, p, q with
  | .shl, .av (.int k a), .av (.int _ b) => shl k a b an
  | .shr, .av (.int k a), .av (.int _ b) => shr k a b
  | op, .av (.int k a), .av (.int k' b) => if k = k' then pInt op k a b an else .fail
  | .add, .av (.string a), .av (.string b) => .ob (((a.size + b.size : Nat) : Int) ≤ 9223372036854775807) (.done (.av (.string (a ++ b))) [])
  | .eql, .av (.string a), .av (.string b) => bit (a.toList == b.toList)
  | .neq, .av (.string a), .av (.string b) => bit (!(a.toList == b.toList))
  | .lss, .av (.string a), .av (.string b) => bit (Op.bytesLess a.toList b.toList)
  | .gtr, .av (.string a), .av (.string b) => bit (!(Op.bytesLess a.toList b.toList || a.toList == b.toList))
  | .eql, .av (.bool a), .av (.bool b) => match u with | some .bool => bit (a == b) | _ => .fail
  | .neq, .av (.bool a), .av (.bool b) => match u with | some .bool => bit (!(a == b)) | _ => .fail
  | _, _, _ => .fail

theorem num_ok {k : IntKind} {n : Int} {an : Ans} {g : St} {p : PV} {wb : L} (h : Res g (num k n an) p wb) : p = .av (.int k (k.wrap n)) ∧ wb = [] := by
  unfold num at h
  split at h
  · exact Res.done h
  · obtain ⟨h1, h2⟩ := Res.ob h
    obtain ⟨rfl, rfl⟩ := Res.done h2
    rw [wrap_in h1]
    exact ⟨rfl, rfl⟩
theorem run_int {P : Program} {w : World} {op : BinOp} {k : IntKind} {a b : Int} {an : Ans} {g : St} {p : PV} {wb : L} (h : Res g (pInt op k a b an) p wb) (h1 : op ≠ .shl) (h2 : op ≠ .shr) (T : TypeId) :
    ∃ v, p = .av v ∧ wb = [] ∧ (binOp op T (.int k a) (.int k b)).run P w = .ok v w := by
  cases op <;> simp only [pInt] at h <;> try exact (Res.fail h).elim
  case add => obtain ⟨rfl, rfl⟩ := num_ok h; exact ⟨_, rfl, rfl, by simp [binOp, Op.intArith]⟩
  case sub => obtain ⟨rfl, rfl⟩ := num_ok h; exact ⟨_, rfl, rfl, by simp [binOp, Op.intArith]⟩
  case mul => obtain ⟨rfl, rfl⟩ := num_ok h; exact ⟨_, rfl, rfl, by simp [binOp, Op.intArith]⟩
  case quo => obtain ⟨h0, h⟩ := Res.ob h; obtain ⟨rfl, rfl⟩ := num_ok h; exact ⟨_, rfl, rfl, by simp [binOp, Op.intDiv, h0]⟩
  case rem => obtain ⟨h0, h⟩ := Res.ob h; obtain ⟨rfl, rfl⟩ := Res.done h; exact ⟨_, rfl, rfl, by simp [binOp, Op.intDiv, h0]⟩
  all_goals
    obtain ⟨rfl, rfl⟩ := Res.done h
    refine ⟨_, rfl, rfl, ?_⟩
    first
      | (simp [binOp, Op.intBits]; done)
      | (simp [binOp, Op.intCmp]; done)
      | (simp [binOp, Op.intCmp]; rfl)
      | (simp [binOp, Op.intCmp, Int.beq_eq_decide_eq, bne])
theorem eqGuard_int {P : Program} {w : World} {op : BinOp} {T : TypeId} {x y : Operand} {v u : Value} (hv : (∀ cs, v ≠ .agg cs) ∧ v ≠ .nilIface) : (eqGuard op T x y v u).run P w = .ok () w := by
  obtain ⟨h1, h2⟩ := hv
  cases v
  case agg cs => exact absurd rfl (h1 cs)
  case nilIface => exact absurd rfl h2
  all_goals cases op <;> simp [eqGuard]
theorem run_equal_bool {P : Program} {w : World} {T : TypeId} (hu : P.underlying T = some .bool) (a b : Bool) : (Op.equal T (.bool a) (.bool b)).run P w = .ok (a == b) w := by
  unfold Op.equal
  rw [show Op.maxDepth = 9999 + 1 from rfl, Op.equalIn]
  simp only [Sem.run_bind, run_underlying hu, Result.andThen_ok]
  rfl
theorem run_eq_bool {P : Program} {w : World} {T : TypeId} (hu : P.underlying T = some .bool) (a b : Bool) : (binOp .eql T (.bool a) (.bool b)).run P w = .ok (.bool (a == b)) w := by
  show (do pure (.bool (← Op.equal T (.bool a) (.bool b))) : Sem Value).run P w = _
  simp only [Sem.run_bind, run_equal_bool hu, Result.andThen_ok]
  rfl
theorem run_ne_bool {P : Program} {w : World} {T : TypeId} (hu : P.underlying T = some .bool) (a b : Bool) : (binOp .neq T (.bool a) (.bool b)).run P w = .ok (.bool (!(a == b))) w := by
  show (do pure (.bool (!(← Op.equal T (.bool a) (.bool b)))) : Sem Value).run P w = _
  simp only [Sem.run_bind, run_equal_bool hu, Result.andThen_ok]
  rfl
set_option maxHeartbeats 1000000 in
theorem aBin_ok {E : Env} {o : Oper} {id : Nat} {op : BinOp} {T U : TypeId} {x y : Operand} {an : Ans} (ho : o.op = .binOp op T x y U) (hd : ∀ x, o.dst = some x → x < E.n) : ActOk E o id (aBin op T x y (E.P.underlying T) an) := by
  intro g p wb h nx c a K Q hn hi hK
  obtain ⟨q1, hq1, h1⟩ := Res.opd hi h
  obtain ⟨q2, hq2, h2⟩ := Res.opd hi h1
  have key : ∀ {v1 v2 v : Value}, q1 = .av v1 → q2 = .av v2 → ((∀ cs, v1 ≠ .agg cs) ∧ v1 ≠ .nilIface) → (binOp op T v1 v2).run E.P c.w = .ok v c.w → p = .av v → wb = [] → o.wp E.P a c.w K Q := by
    intro v1 v2 v e1 e2 hg hr ep ew
    subst e1; subst e2; subst ep; subst ew
    refine pure_step hd hi hK (.sh (.av v)) ?_
    simp [execOp, ho, rep_av hq1, rep_av hq2, eqGuard_int hg, hr]
  clear h h1
  split at h2
  · simp only [shl] at h2
    obtain ⟨h3, h4⟩ := Res.ob h2
    obtain ⟨e1, e2⟩ := num_ok h4
    refine key rfl rfl (by simp) ?_ e1 e2
    have e : min (Int.toNat _) (IntKind.bits _) = Int.toNat _ := Nat.min_eq_left (Int.toNat_le.2 h3.2)
    simp [binOp, Op.shift, Int.not_lt.2 h3.1, e]
  · simp only [shr] at h2
    obtain ⟨h3, h4⟩ := Res.ob h2
    obtain ⟨e1, e2⟩ := Res.done h4
    refine key rfl rfl (by simp) ?_ e1 e2
    have e : min (Int.toNat _) (IntKind.bits _) = Int.toNat _ := Nat.min_eq_left (Int.toNat_le.2 h3.2)
    simp [binOp, Op.shift, Int.not_lt.2 h3.1, e]
  · rename_i hs1 hs2
    split at h2
    · rename_i hk
      subst hk
      obtain ⟨v, e1, e2, hr⟩ := run_int (P := E.P) (w := c.w) h2 hs1 hs2 T
      exact key rfl rfl (by simp) hr e1 e2
    · exact (Res.fail h2).elim
  · obtain ⟨h3, h4⟩ := Res.ob h2
    obtain ⟨e1, e2⟩ := Res.done h4
    refine key rfl rfl (by simp) ?_ e1 e2
    simp [binOp, Op.stringOp, IntKind.max, IntKind.signed, IntKind.bits]
    omega
  · obtain ⟨e1, e2⟩ := Res.done h2
    exact key rfl rfl (by simp) (by simp [binOp, Op.stringOp]) e1 e2
  · obtain ⟨e1, e2⟩ := Res.done h2
    exact key rfl rfl (by simp) (by simp [binOp, Op.stringOp]) e1 e2
  · obtain ⟨e1, e2⟩ := Res.done h2
    exact key rfl rfl (by simp) (by simp [binOp, Op.stringOp]) e1 e2
  · obtain ⟨e1, e2⟩ := Res.done h2
    exact key rfl rfl (by simp) (by simp [binOp, Op.stringOp]) e1 e2
  · split at h2
    · rename_i hu
      obtain ⟨e1, e2⟩ := Res.done h2
      exact key rfl rfl (by simp) (run_eq_bool hu _ _) e1 e2
    · exact (Res.fail h2).elim
  · split at h2
    · rename_i hu
      obtain ⟨e1, e2⟩ := Res.done h2
      exact key rfl rfl (by simp) (run_ne_bool hu _ _) e1 e2
    · exact (Res.fail h2).elim
  · exact (Res.fail h2).elim

def aUn (op : UnOp) (x : Operand) (an : Ans) : Plan := opd x fun p => match op, p with
  | .not, .av (.bool b) => bit (!b)
  | .neg, .av (.int k a) => num k (0 - a) an
  | .xor, .av (.int k a) => .done (.av (.int k (k.wrap (BitVec.ofInt k.bits (if k.signed then -1 else k.max) ^^^ BitVec.ofInt k.bits a).toNat))) []
  | _, _ => .fail
theorem aUn_ok {E : Env} {o : Oper} {id : Nat} {op : UnOp} {T : TypeId} {x : Operand} {an : Ans} (ho : o.op = .unOp op T x) (hd : ∀ x, o.dst = some x → x < E.n) : ActOk E o id (aUn op x an) := by
  intro g p wb h nx c a K Q hn hi hK
  obtain ⟨q1, hq1, h1⟩ := Res.opd hi h
  clear h
  split at h1
  · obtain ⟨rfl, rfl⟩ := Res.done h1
    exact pure_step hd hi hK (.sh (.av _)) (by simp [execOp, ho, rep_av hq1, Op.unary])
  · obtain ⟨rfl, rfl⟩ := num_ok h1
    exact pure_step hd hi hK (.sh (.av _)) (by simp [execOp, ho, rep_av hq1, Op.unary, Op.intArith])
  · obtain ⟨rfl, rfl⟩ := Res.done h1
    exact pure_step hd hi hK (.sh (.av _)) (by simp [execOp, ho, rep_av hq1, Op.unary, Op.intBits])
  · exact (Res.fail h1).elim

def aConv (us ud : Option TypeDesc) (x : Operand) (an : Ans) : Plan := opd x fun p => match us, ud, p with
  | some (.int _), some (.int k), .av (.int _ n) => num k n an
  | some .string, some .string, .av (.string s) => .done (.av (.string s)) []
  | _, _, _ => .fail
theorem aConv_ok {E : Env} {o : Oper} {id : Nat} {s d : TypeId} {x : Operand} {an : Ans} (ho : o.op = .convert s d x) (hd : ∀ x, o.dst = some x → x < E.n) : ActOk E o id (aConv (E.P.underlying s) (E.P.underlying d) x an) := by
  intro g p wb h nx c a K Q hn hi hK
  obtain ⟨q1, hq1, h1⟩ := Res.opd hi h
  clear h
  split at h1
  · rename_i hu1 hu2
    obtain ⟨rfl, rfl⟩ := num_ok h1
    exact pure_step hd hi hK (.sh (.av _)) (by simp [execOp, ho, rep_av hq1, convert, run_underlying hu1, run_underlying hu2, Conv.intToInt])
  · rename_i hu1 hu2
    obtain ⟨rfl, rfl⟩ := Res.done h1
    exact pure_step hd hi hK (.sh (.av _)) (by simp [execOp, ho, rep_av hq1, convert, run_underlying hu1, run_underlying hu2])
  · exact (Res.fail h1).elim
end Go.Proofs.Ytfoiadlaekknpaa.Pm
namespace Go.Proofs.Ytfoiadlaekknpaa.Pm
open Go

theorem run_size {P : Program} {w : World} {e : TypeId} {i : TypeInfo} (h : P.info? e = some i) : (sizeOf e).run P w = .ok i.size w := by
  simp [sizeOf, typeInfo, h]
theorem cellsOf_info {P : Program} {e : TypeId} {i : TypeInfo} (h : P.info? e = some i) : P.cellsOf e = i.size := by simp [Program.cellsOf, h]

def aLen (u : Option TypeDesc) (x : Operand) : Plan := opd x fun p => match u, p with
  | some .string, .av (.string s) => .done (.av (.int .i64 s.size)) []
  | some (.slice _), .ssl _ _ n => .done (.av (.int .i64 n)) []
  | some (.slice _), .osl _ _ n => .done (.av (.int .i64 n)) []
  | some (.slice _), .av (.slice _ n _) => .done (.av (.int .i64 n)) []
  | some (.array n _), _ => .done (.av (.int .i64 n)) []
  | _, _ => .fail
theorem ssl_len {P : Program} {c : Cx} {v : Value} {cs : List PV} {off n : Nat} (h : Rep P c (.ssl cs off n) v) : ∃ a cap, v = .slice a n cap := by
  rcases rep_ssl h with ⟨a, cap, rfl, rfl⟩ | ⟨b, a, cap, vf, rfl, _⟩
  · exact ⟨_, _, rfl⟩
  · exact ⟨_, _, rfl⟩
theorem osl_len {P : Program} {c : Cx} {v : Value} {id off n : Nat} (h : Rep P c (.osl id off n) v) : ∃ a cap, v = .slice a n cap := by
  obtain ⟨ob, T, _, h⟩ := rep_osl h
  rcases h with ⟨a, rfl, rfl⟩ | ⟨b, cap, cs, _, rfl, _⟩
  · exact ⟨_, _, rfl⟩
  · exact ⟨_, _, rfl⟩
theorem aLen_ok {E : Env} {o : Oper} {id : Nat} {x : Operand} {T : TypeId} {ts : Array TypeId} (ho : o.op = .call { callee := .builtin .len, args := #[x], argTypes := ts }) (ht : ts[0]? = some T) (hd : ∀ x, o.dst = some x → x < E.n) : ActOk E o id (aLen (E.P.underlying T) x) := by
  intro g p wb h nx c a K Q hn hi hK
  obtain ⟨q1, hq1, h1⟩ := Res.opd hi h
  clear h
  split at h1
  · rename_i hu
    obtain ⟨rfl, rfl⟩ := Res.done h1
    exact pure_step hd hi hK (.sh (.av _)) (by simp [execOp, ho, resolve, invoke, builtin, rep_av hq1, Builtin.len_, ht, run_underlying hu, goInt])
  · rename_i hu
    obtain ⟨rfl, rfl⟩ := Res.done h1
    obtain ⟨a', cap, hv⟩ := ssl_len hq1
    exact pure_step hd hi hK (.sh (.av _)) (by simp [execOp, ho, resolve, invoke, builtin, hv, Builtin.len_, ht, run_underlying hu, goInt])
  · rename_i hu
    obtain ⟨rfl, rfl⟩ := Res.done h1
    obtain ⟨a', cap, hv⟩ := osl_len hq1
    exact pure_step hd hi hK (.sh (.av _)) (by simp [execOp, ho, resolve, invoke, builtin, hv, Builtin.len_, ht, run_underlying hu, goInt])
  · rename_i hu
    obtain ⟨rfl, rfl⟩ := Res.done h1
    exact pure_step hd hi hK (.sh (.av _)) (by simp [execOp, ho, resolve, invoke, builtin, rep_av hq1, Builtin.len_, ht, run_underlying hu, goInt])
  · rename_i hu
    obtain ⟨rfl, rfl⟩ := Res.done h1
    exact pure_step hd hi hK (.sh (.av _)) (by simp [execOp, ho, resolve, invoke, builtin, Builtin.len_, ht, run_underlying hu, goInt])
  · exact (Res.fail h1).elim

/-- An operand that may be missing: a number. -/
def opi (x : Option Operand) (d : Int) (k : Int → Plan) : Plan := match x with
  | none => k d
  | some x => opd x fun p => match p with | .av (.int _ n) => k n | _ => .fail
theorem Res.opi {E : Env} {nx : Nat → Prop} {c : Cx} {g : St} {a : Act} (hi : Inv E nx c g a) {x : Option Operand} {d : Int} {k : Int → Plan} {p : PV} {wb : L} (h : Res g (opi x d k) p wb) :
    ∃ n, Res g (k n) p wb ∧ (x = none ∧ n = d ∨ ∃ y kd, x = some y ∧ a.eval y = .int kd n) := by
  cases x with
  | none => exact ⟨d, h, .inl ⟨rfl, rfl⟩⟩
  | some y =>
    obtain ⟨q, hq, h1⟩ := Res.opd hi h
    split at h1
    · exact ⟨_, h1, .inr ⟨y, _, rfl, rep_av hq⟩⟩
    · exact (Res.fail h1).elim
/-- A place, said anew by the answer. -/
def offP (an : Ans) (raw : Nat) (k : Nat → Plan) : Plan := match an with
  | .nat e => .ob (raw = e) (k e)
  | _ => k raw
theorem offP_ok {an : Ans} {raw : Nat} {k : Nat → Plan} {g : St} {p : PV} {wb : L} (h : Res g (offP an raw k) p wb) : Res g (k raw) p wb := by
  unfold offP at h
  split at h
  · obtain ⟨rfl, h1⟩ := Res.ob h
    exact h1
  · exact h
def offP2 (an : Ans) (o n : Nat) (k : Nat → Nat → Plan) : Plan := match an with
  | .nat2 e f => .ob (o = e ∧ n = f) (k e f)
  | _ => k o n
theorem offP2_ok {an : Ans} {o n : Nat} {k : Nat → Nat → Plan} {g : St} {p : PV} {wb : L} (h : Res g (offP2 an o n k) p wb) : Res g (k o n) p wb := by
  unfold offP2 at h
  split at h
  · obtain ⟨⟨rfl, rfl⟩, h1⟩ := Res.ob h
    exact h1
  · exact h
def cut (an : Ans) (off sz : Nat) (l h m len : Int) (k : Nat → Nat → Plan) : Plan := .ob (0 ≤ l ∧ l ≤ h ∧ h ≤ m ∧ m ≤ len) (offP2 an (off + l.toNat * sz) (h.toNat - l.toNat) k)
def cutP (an : Ans) (lo hi mx : Option Operand) (off sz n : Nat) (mk : Nat → Nat → PV) : Plan := opi lo 0 fun l => opi hi n fun h => match mx with
  | none => cut an off sz l h h n fun o k => .done (mk o k) []
  | some m => opi (some m) 0 fun m => match hi with | some _ => cut an off sz l h m n fun o k => .done (mk o k) [] | none => .fail
def aSlice (P : Program) (T : TypeId) (x : Operand) (lo hi mx : Option Operand) (an : Ans) : Plan := opd x fun p => match P.underlying T, p with
  | some .string, .av (.string s) => match mx with
    | none => opi lo 0 fun l => opi hi s.size fun h => .ob (0 ≤ l ∧ l ≤ h ∧ h ≤ s.size) (.done (.av (.string (s.extract l.toNat h.toNat))) [])
    | some _ => .fail
  | some (.slice e), .ssl cs off n => match P.info? e with
    | some i => cutP an lo hi mx off i.size n fun o k => .ssl cs o k
    | none => .fail
  | some (.slice e), .osl id off n => match P.info? e with
    | some i => .look (kb id) fun v => match v with
      | .blk T' _ => match Nat.beq T' e with | true => cutP an lo hi mx off i.size n fun o k => .osl id o k | false => .fail
      | .pv _ => .fail
    | none => .fail
  | _, _ => .fail
theorem addr_add (b o n : Nat) : (⟨b, o, none⟩ : Addr).add n = ⟨b, o + n, none⟩ := by
  unfold Addr.add
  by_cases h : n = 0
  · subst h; simp
  · simp [h]
theorem run_bounds {P : Program} {w : World} {lo hi mx : Option Value} {len cap : Nat} {l h m : Int} (hl : lo = none ∧ l = 0 ∨ ∃ kd, lo = some (.int kd l)) (hh : (hi = none ∧ mx = none ∧ h = len) ∨ ∃ kd, hi = some (.int kd h))
    (hm : (mx = none) ∨ ∃ kd, mx = some (.int kd m)) (hc : len ≤ cap) (h0 : 0 ≤ l) (h1 : l ≤ h) (h2 : h ≤ m) (h3 : m ≤ len) (s : Bool) :
    (Instr.sliceBounds s len cap lo hi mx).run P w = .ok (l.toNat, h.toNat, if mx = none then cap else m.toNat) w := by
  have e1 : h.toNat ≤ m.toNat := by omega
  have hb : ∀ (kd : IntKind) (n : Int) (y : Nat) (cd : BoundsCode), 0 ≤ n → n ≤ y → (Instr.sliceBound (.int kd n) y cd).run P w = .ok n.toNat w := fun kd n y cd hn hy => by
    simp [Instr.sliceBound, asIntOf, hn, hy]
  rcases hm with rfl | ⟨km, rfl⟩ <;> rcases hl with ⟨rfl, rfl⟩ | ⟨kl, rfl⟩ <;> rcases hh with ⟨rfl, hx, rfl⟩ | ⟨kh, rfl⟩
  · simp [Instr.sliceBounds]
  · simp [Instr.sliceBounds, hb kh h cap _ (by omega) (by omega)]
  · simp [Instr.sliceBounds, hb kl l len _ (by omega) (by omega)]
  · simp [Instr.sliceBounds, hb kh h cap _ (by omega) (by omega), hb kl l h.toNat _ (by omega) (by omega)]
  · cases hx
  · simp [Instr.sliceBounds, hb km m cap _ (by omega) (by omega), hb kh h m.toNat _ (by omega) (by omega)]
  · cases hx
  · simp [Instr.sliceBounds, hb km m cap _ (by omega) (by omega), hb kh h m.toNat _ (by omega) (by omega), hb kl l h.toNat _ (by omega) (by omega)]
theorem slice_ok {E : Env} {o : Oper} {id : Nat} {T : TypeId} {x : Operand} {lo hi mx : Option Operand} (ho : o.op = .slice T x lo hi mx) (hd : ∀ x, o.dst = some x → x < E.n) {e : TypeId} {i : TypeInfo} (hu : E.P.underlying T = some (.slice e)) (hin : E.P.info? e = some i)
    {nx : Nat → Prop} {c : Cx} {g : St} {a : Act} {an : Ans} {K : Act → World → Prop} {Q : Exit → Act → World → Prop} (hI : Inv E nx c g a) {mk : Nat → Nat → PV} {off n : Nat} {p : PV} {wb : L}
    (h : Res g (cutP an lo hi mx off i.size n mk) p wb)
    (hv : ∃ (cap : Nat) (ad : Option Addr), a.eval x = .slice ad n cap ∧ n ≤ cap ∧ (∀ l' h' m' : Nat, l' ≤ h' → h' ≤ m' → h' ≤ n → m' ≤ cap → Rep E.P c (mk (off + l' * i.size) (h' - l')) (.slice (if m' = l' then ad else ad.map (·.add (l' * i.size))) (h' - l') (m' - l'))))
    (hK : ∀ c' a', Inv E (fun j => nx j ∨ (id ≤ j ∧ j < id + 8)) c' (over (wd o.dst p) (over wb g)) a' → K a' c'.w) : o.wp E.P a c.w K Q := by
  obtain ⟨cap, ad, hx, hc, hr⟩ := hv
  unfold cutP at h
  obtain ⟨l, h1, hl⟩ := Res.opi hI h
  obtain ⟨hh, h2, hhi⟩ := Res.opi hI h1
  clear h h1
  have hl' : lo.map a.eval = none ∧ l = 0 ∨ ∃ kd, lo.map a.eval = some (.int kd l) := by
    rcases hl with ⟨rfl, rfl⟩ | ⟨y, kd, rfl, h5⟩
    · exact .inl ⟨rfl, rfl⟩
    · exact .inr ⟨kd, by simp [h5]⟩
  cases mx with
  | none =>
    obtain ⟨⟨h3, h4, h5, h6⟩, h7⟩ := Res.ob h2
    obtain ⟨rfl, rfl⟩ := Res.done (offP2_ok h7)
    have hb := run_bounds (P := E.P) (w := c.w) (mx := none) (len := n) (cap := cap) (m := hh) (s := true) (hi := hi.map a.eval) hl' (by
      rcases hhi with ⟨rfl, rfl⟩ | ⟨y, kd, rfl, h5⟩
      · exact .inl ⟨rfl, rfl, rfl⟩
      · exact .inr ⟨kd, by simp [h5]⟩) (.inl rfl) hc h3 h4 h5 h6
    refine pure_step hd hI hK (hr l.toNat hh.toNat cap (by omega) (by omega) (by omega) (by omega)) ?_
    simp [execOp, ho, Instr.sliceAt, Instr.slice, run_underlying hu, hx, hb, run_size hin]
  | some m =>
    obtain ⟨mv, h8, hm⟩ := Res.opi hI h2
    rcases hm with ⟨h9, _⟩ | ⟨y, km, h9, h10⟩
    · cases h9
    cases h9
    cases hi with
    | none => exact (Res.fail h8).elim
    | some y2 =>
      obtain ⟨⟨h3, h4, h5, h6⟩, h7⟩ := Res.ob h8
      obtain ⟨rfl, rfl⟩ := Res.done (offP2_ok h7)
      have hb := run_bounds (P := E.P) (w := c.w) (mx := some (a.eval m)) (len := n) (cap := cap) (m := mv) (s := true) (hi := some (a.eval y2)) hl' (by
        rcases hhi with ⟨h5, _⟩ | ⟨y, kd, h5, h6⟩
        · cases h5
        · cases h5; exact .inr ⟨kd, by rw [h6]⟩) (.inr ⟨km, by rw [h10]⟩) hc h3 h4 h5 h6
      refine pure_step hd hI hK (hr l.toNat hh.toNat mv.toNat (by omega) (by omega) (by omega) (by omega)) ?_
      simp [execOp, ho, Instr.sliceAt, Instr.slice, run_underlying hu, hx, hb, run_size hin]
theorem aSlice_ok {E : Env} {o : Oper} {id : Nat} {T : TypeId} {x : Operand} {lo hi mx : Option Operand} {an : Ans} (ho : o.op = .slice T x lo hi mx) (hd : ∀ x, o.dst = some x → x < E.n) : ActOk E o id (aSlice E.P T x lo hi mx an) := by
  intro g p wb h nx c a K Q hn hI hK
  obtain ⟨q, hq, h1⟩ := Res.opd hI h
  clear h
  split at h1
  · rename_i s hu
    cases mx with
    | some _ => exact (Res.fail h1).elim
    | none =>
      obtain ⟨l, h2, hl⟩ := Res.opi hI h1
      obtain ⟨hh, h3, hhi⟩ := Res.opi hI h2
      obtain ⟨⟨h4, h5, h6⟩, h7⟩ := Res.ob h3
      obtain ⟨rfl, rfl⟩ := Res.done h7
      have hl' : lo.map a.eval = none ∧ l = 0 ∨ ∃ kd, lo.map a.eval = some (.int kd l) := by
        rcases hl with ⟨rfl, rfl⟩ | ⟨y, kd, rfl, h5⟩
        · exact .inl ⟨rfl, rfl⟩
        · exact .inr ⟨kd, by simp [h5]⟩
      have hb := run_bounds (P := E.P) (w := c.w) (mx := none) (len := s.size) (cap := s.size) (m := hh) (s := false) (hi := hi.map a.eval) hl' (by
        rcases hhi with ⟨rfl, rfl⟩ | ⟨y, kd, rfl, h5⟩
        · exact .inl ⟨rfl, rfl, rfl⟩
        · exact .inr ⟨kd, by simp [h5]⟩) (.inl rfl) (Nat.le_refl _) h4 h5 (Int.le_refl _) h6
      refine pure_step hd hI hK (.sh (.av _)) ?_
      simp [execOp, ho, Instr.sliceAt, Instr.slice, run_underlying hu, rep_av hq, hb]
  · rename_i e cs off n hu
    split at h1
    · rename_i i hin
      refine slice_ok (mk := fun o k => .ssl cs o k) ho hd hu hin hI h1 ?_ hK
      rcases rep_ssl hq with ⟨ad, cap, hv, rfl⟩ | ⟨b, a', cap, vf, hv, hS, hc, hr, hone, hl⟩
      · refine ⟨cap, ad, hv, by omega, fun l' h' m' h1 h2 h3 h4 => ?_⟩
        have e1 : h' - l' = 0 := by omega
        rw [e1]
        exact .sh .emp
      · refine ⟨cap, _, hv, hl, fun l' h' m' h1 h2 h3 h4 => ?_⟩
        by_cases e1 : m' = l'
        · have e2 : h' - l' = 0 := by omega
          rw [e2]
          exact .sh .emp
        · rw [if_neg e1]
          simp only [Option.map_some, addr_add, Nat.add_assoc]
          exact .sh (.ssl hS hc hr hone (by omega))
    · exact (Res.fail h1).elim
  · rename_i e id' off n hu
    split at h1
    · rename_i i hin
      obtain ⟨bv, hg, h2⟩ := Res.look h1
      cases bv with
      | pv _ => exact (Res.fail h2).elim
      | blk T' cells =>
        simp only at h2
        split at h2
        · rename_i hT
          have hT := Nat.eq_of_beq_eq_true hT
          subst hT
          refine slice_ok (mk := fun o k => .osl id' o k) ho hd hu hin hI h2 ?_ hK
          obtain ⟨ob, T2, hown, hv⟩ := rep_osl hq
          obtain ⟨ob', hown', _⟩ := hI.blk id' T' cells hg
          rw [hown] at hown'
          cases hown'
          rcases hv with ⟨ad, hv, rfl⟩ | ⟨b, cap, cs, hob, hv, hb, hl, hsz⟩
          · refine ⟨0, ad, hv, by omega, fun l' h' m' h1 h2 h3 h4 => ?_⟩
            have e1 : h' - l' = 0 := by omega
            have e2 : m' - l' = 0 := by omega
            rw [e1, e2]
            exact .osl hown (.inl ⟨_, rfl, rfl⟩)
          · refine ⟨cap, _, hv, hl, fun l' h' m' h1 h2 h3 h4 => ?_⟩
            by_cases e1 : m' = l'
            · have e2 : h' - l' = 0 := by omega
              have e3 : m' - l' = 0 := by omega
              rw [e2, e3]
              exact .osl hown (.inl ⟨_, rfl, rfl⟩)
            · rw [if_neg e1]
              simp only [Option.map_some, addr_add]
              refine .osl hown (.inr ⟨b, m' - l', cs, hob, rfl, hb, by omega, ?_⟩)
              rw [cellsOf_info hin] at hsz ⊢
              have e2 : m' * i.size ≤ cap * i.size := Nat.mul_le_mul_right _ h4
              have e3 : l' * i.size + (m' - l') * i.size = m' * i.size := by rw [← Nat.add_mul]; congr 1; omega
              omega
        · exact (Res.fail h2).elim
    · exact (Res.fail h1).elim
  · exact (Res.fail h1).elim

/-! ### places -/
def aIndexAddr (P : Program) (T : TypeId) (x ix : Operand) (an : Ans) : Plan := opd x fun p => opd ix fun q => match q, P.underlying T, p with
  | .av (.int _ i), some (.slice e), .ssl cs off n => match P.info? e with
    | some ti => .ob (0 ≤ i ∧ i < n) (offP an (off + i.toNat * ti.size) fun e => .done (.spt cs e) [])
    | none => .fail
  | .av (.int _ i), some (.slice e), .osl id off n => match P.info? e with
    | some ti => .ob (0 ≤ i ∧ i < n) (offP an (off + i.toNat * ti.size) fun e => .done (.opt id e) [])
    | none => .fail
  | .av (.int _ i), some (.array n e), .spt cs off => match P.info? e with
    | some ti => .ob (0 ≤ i ∧ i < n) (offP an (off + i.toNat * ti.size) fun e => .done (.spt cs e) [])
    | none => .fail
  | .av (.int _ i), some (.array n e), .opt id off => match P.info? e with
    | some ti => .ob (0 ≤ i ∧ i < n) (offP an (off + i.toNat * ti.size) fun e => .done (.opt id e) [])
    | none => .fail
  | _, _, _ => .fail
theorem aIndexAddr_ok {E : Env} {o : Oper} {id : Nat} {T : TypeId} {x ix : Operand} {an : Ans} (ho : o.op = .indexAddr T x ix) (hd : ∀ x, o.dst = some x → x < E.n) : ActOk E o id (aIndexAddr E.P T x ix an) := by
  intro g p wb h nx c a K Q hn hI hK
  obtain ⟨q, hq, h1⟩ := Res.opd hI h
  obtain ⟨q2, hq2, h2⟩ := Res.opd hI h1
  clear h h1
  split at h2
  · rename_i i e cs off n hu
    split at h2
    · rename_i ti hin
      obtain ⟨h3, h4⟩ := Res.ob h2
      obtain ⟨rfl, rfl⟩ := Res.done (offP_ok h4)
      rcases rep_ssl hq with ⟨ad, cap, hv, rfl⟩ | ⟨b, a', cap, vf, hv, hS, hc, hr, hone, hl⟩
      · exact absurd h3 (by omega)
      · refine pure_step hd hI hK (.sh (.spt hS hc hr hone)) ?_
        simp [execOp, ho, Instr.indexAt, rep_av hq2, asIntOf, run_underlying hu, hv, h3, run_size hin, addr_add, Nat.add_assoc]
    · exact (Res.fail h2).elim
  · rename_i i e id' off n hu
    split at h2
    · rename_i ti hin
      obtain ⟨h3, h4⟩ := Res.ob h2
      obtain ⟨rfl, rfl⟩ := Res.done (offP_ok h4)
      obtain ⟨ob, T2, hown, hv⟩ := rep_osl hq
      rcases hv with ⟨ad, hv, rfl⟩ | ⟨b, cap, cs, rfl, hv, hb, hl, hsz⟩
      · exact absurd h3 (by omega)
      · refine pure_step hd hI hK (.opt hown) ?_
        simp [execOp, ho, Instr.indexAt, rep_av hq2, asIntOf, run_underlying hu, hv, h3, run_size hin, addr_add]
    · exact (Res.fail h2).elim
  · rename_i i n e cs off hu
    split at h2
    · rename_i ti hin
      obtain ⟨h3, h4⟩ := Res.ob h2
      obtain ⟨rfl, rfl⟩ := Res.done (offP_ok h4)
      obtain ⟨b, a', vf, hv, hS, hc, hr, hone⟩ := rep_spt hq
      refine pure_step hd hI hK (.sh (.spt hS hc hr hone)) ?_
      simp [execOp, ho, Instr.indexAt, rep_av hq2, asIntOf, run_underlying hu, hv, Instr.sureAddr, h3, run_size hin, addr_add, Nat.add_assoc]
    · exact (Res.fail h2).elim
  · rename_i i n e id' off hu
    split at h2
    · rename_i ti hin
      obtain ⟨h3, h4⟩ := Res.ob h2
      obtain ⟨rfl, rfl⟩ := Res.done (offP_ok h4)
      obtain ⟨b, T2, hown, hv⟩ := rep_opt hq
      refine pure_step hd hI hK (.opt hown) ?_
      simp [execOp, ho, Instr.indexAt, rep_av hq2, asIntOf, run_underlying hu, hv, Instr.sureAddr, h3, run_size hin, addr_add]
    · exact (Res.fail h2).elim
  · exact (Res.fail h2).elim
def aFieldAddr (P : Program) (T : TypeId) (x : Operand) (f : Nat) : Plan := opd x fun p => match P.underlying T with
  | some (.struct fs) => match fs[f]? with
    | some fd => match P.info? fd.type with
      | some ti => match Nat.beq ti.size 0 with
        | true => .fail
        | false => match p with
          | .spt cs off => .done (.spt cs (off + fd.offset)) []
          | .opt id off => .done (.opt id (off + fd.offset)) []
          | _ => .fail
      | none => .fail
    | none => .fail
  | _ => .fail
theorem aFieldAddr_ok {E : Env} {o : Oper} {id : Nat} {T : TypeId} {x : Operand} {f : Nat} (ho : o.op = .fieldAddr T x f) (hd : ∀ x, o.dst = some x → x < E.n) : ActOk E o id (aFieldAddr E.P T x f) := by
  intro g p wb h nx c a K Q hn hI hK
  obtain ⟨q, hq, h1⟩ := Res.opd hI h
  clear h
  split at h1
  · rename_i fs hu
    split at h1
    · rename_i fd hf
      split at h1
      · rename_i ti hin
        split at h1
        · exact (Res.fail h1).elim
        · rename_i hz
          have hz' : ¬ ti.size = 0 := fun e => by rw [e] at hz; simp at hz
          split at h1
          · obtain ⟨rfl, rfl⟩ := Res.done h1
            obtain ⟨b, a', vf, hv, hS, hc, hr, hone⟩ := rep_spt hq
            refine pure_step hd hI hK (.sh (.spt hS hc hr hone)) ?_
            simp [execOp, ho, Instr.fieldAt, run_underlying hu, hf, hv, Instr.sureAddr, fieldPlace, run_size hin, hz', addr_add, Nat.add_assoc]
          · obtain ⟨rfl, rfl⟩ := Res.done h1
            obtain ⟨b, T2, hown, hv⟩ := rep_opt hq
            refine pure_step hd hI hK (.opt hown) ?_
            simp [execOp, ho, Instr.fieldAt, run_underlying hu, hf, hv, Instr.sureAddr, fieldPlace, run_size hin, hz', addr_add]
          · exact (Res.fail h1).elim
      · exact (Res.fail h1).elim
    · exact (Res.fail h1).elim
  · exact (Res.fail h1).elim
def aNilCheck (x : Operand) : Plan := opd x fun p => match p with
  | .spt cs off => .done (.spt cs off) []
  | .opt id off => .done (.opt id off) []
  | .av (.func (.func f) cs ds) => .done (.av (.func (.func f) cs ds)) []
  | .fn (.func f) cs ds => .done (.fn (.func f) cs ds) []
  | _ => .fail
theorem aNilCheck_ok {E : Env} {o : Oper} {id : Nat} {x : Operand} (ho : o.op = .nilCheck x) (hd : ∀ x, o.dst = some x → x < E.n) : ActOk E o id (aNilCheck x) := by
  intro g p wb h nx c a K Q hn hI hK
  obtain ⟨q, hq, h1⟩ := Res.opd hI h
  clear h
  split at h1
  · obtain ⟨rfl, rfl⟩ := Res.done h1
    obtain ⟨b, a', vf, hv, _⟩ := rep_spt hq
    exact pure_step hd hI hK hq (by simp [execOp, ho, hv])
  · obtain ⟨rfl, rfl⟩ := Res.done h1
    obtain ⟨b, T2, hown, hv⟩ := rep_opt hq
    exact pure_step hd hI hK hq (by simp [execOp, ho, hv])
  · obtain ⟨rfl, rfl⟩ := Res.done h1
    have hv := rep_av hq
    exact pure_step hd hI hK hq (by simp [execOp, ho, hv])
  · obtain ⟨rfl, rfl⟩ := Res.done h1
    obtain ⟨vs, us, hv, _⟩ := rep_fn hq
    exact pure_step hd hI hK hq (by simp [execOp, ho, hv])
  · exact (Res.fail h1).elim

/-! ### loads, parts -/
def isAggD (u : Option TypeDesc) : Option Bool := match u with
  | some (.struct _) => some true
  | some (.array _ _) => some true
  | some _ => some false
  | none => none
theorem run_isAgg {P : Program} {w : World} {T : TypeId} {b : Bool} (h : isAggD (P.underlying T) = some b) : (isAgg T).run P w = .ok b w := by
  cases hu : P.underlying T with
  | none => rw [hu] at h; cases h
  | some d =>
    rw [hu] at h
    cases d <;> simp only [isAggD, Option.some.injEq] at h <;> subst h <;> simp [isAgg, run_underlying hu]
/-- The n cells from off on; said anew by the answer. -/
def seg (cs : List PV) (off n : Nat) (an : Ans) (k : List PV → Plan) : Plan := match an with
  | .cells l => .ob (off + n ≤ cs.length ∧ (cs.drop off).take n = l) (k l)
  | .val p => .ob (off + n ≤ cs.length ∧ (cs.drop off).take n = [p]) (k [p])
  | _ => match Nat.ble (off + n) cs.length with | true => k ((cs.drop off).take n) | false => .fail
theorem seg_ok {cs : List PV} {off n : Nat} {an : Ans} {k : List PV → Plan} {g : St} {p : PV} {wb : L} (h : Res g (seg cs off n an k) p wb) : ∃ l, off + n ≤ cs.length ∧ (cs.drop off).take n = l ∧ Res g (k l) p wb := by
  unfold seg at h
  split at h
  · obtain ⟨⟨h1, h2⟩, h3⟩ := Res.ob h
    exact ⟨_, h1, h2, h3⟩
  · obtain ⟨⟨h1, h2⟩, h3⟩ := Res.ob h
    exact ⟨_, h1, h2, h3⟩
  · split at h
    · rename_i hb
      exact ⟨_, Nat.le_of_ble_eq_true hb, rfl, h⟩
    · exact (Res.fail h).elim
def one1 (l : List PV) (k : PV → Plan) : Plan := match l with | [p] => k p | _ => .fail
def loadCs (cs : List PV) (off n : Nat) (ag : Bool) (an : Ans) : Plan := match ag with
  | true => seg cs off n an fun l => .done (.agg l) []
  | false => seg cs off 1 an fun l => one1 l fun p => .done p []
def aLoad (P : Program) (T : TypeId) (x : Operand) (an : Ans) : Plan := opd x fun p => match isAggD (P.underlying T), P.info? T with
  | some ag, some ti => match p with
    | .spt cs off => loadCs cs off ti.size ag an
    | .opt id off => .look (kb id) fun v => match v with | .blk _ cs => loadCs cs off ti.size ag an | .pv _ => .fail
    | _ => .fail
  | _, _ => .fail
theorem getD_seg {cs l : List PV} {off n : Nat} (h : off + n ≤ cs.length) (he : (cs.drop off).take n = l) : l.length = n ∧ ∀ i, i < n → l.getD i P0 = cs.getD (off + i) P0 := by
  subst he
  refine ⟨by simp; omega, fun i hi => ?_⟩
  simp [List.getD_eq_getElem?_getD, hi]
theorem load_run {P : Program} {c : Cx} {T : TypeId} {ag : Bool} {ti : TypeInfo} (hag : isAggD (P.underlying T) = some ag) (hin : P.info? T = some ti) {cs : List PV} {off a b : Nat} {vf : Nat → Value} {an : Ans} {g : St} {p : PV} {wb : L}
    (h : Res g (loadCs cs off ti.size ag an) p wb) (hc : ∀ j, j < cs.length → c.w.cell? ⟨b, a + j, none⟩ = some (vf j)) (hr : ∀ j, j < cs.length → Rep P c (cs.getD j P0) (vf j)) :
    wb = [] ∧ ∃ v, Rep P c p v ∧ (loadVar T ⟨b, a + off, none⟩).run P c.w = .ok v c.w := by
  cases ag with
  | true =>
    obtain ⟨l, h1, h2, h3⟩ := seg_ok h
    obtain ⟨rfl, rfl⟩ := Res.done h3
    obtain ⟨h4, h5⟩ := getD_seg h1 h2
    have hl := run_loadCells (P := P) c.w ⟨b, a + off, none⟩ ti.size (fun j => vf (off + j)) fun j hj => by rw [addr_add, Nat.add_assoc]; exact hc _ (by omega)
    refine ⟨rfl, .agg ((List.range ti.size).map fun j => vf (off + j)).toArray, .agg (by simp [h4]) fun i hi => ?_, ?_⟩
    · rw [h4] at hi
      rw [h5 i hi]
      have e : (((List.range ti.size).map fun j => vf (off + j)).toArray).getD i undef = vf (off + i) := by
        simp [Array.getD_eq_getD_getElem?, hi]
      rw [e]
      exact hr (off + i) (by omega)
    · simp [loadVar, run_isAgg hag, run_size hin, hl]
  | false =>
    obtain ⟨l, h1, h2, h3⟩ := seg_ok h
    obtain ⟨h4, h5⟩ := getD_seg h1 h2
    unfold one1 at h3
    split at h3
    · rename_i p'
      obtain ⟨rfl, rfl⟩ := Res.done h3
      have e := h5 0 (by omega)
      simp only [List.getD_cons_zero, Nat.add_zero] at e
      rw [e]
      exact ⟨rfl, _, hr off (by omega), by simp [loadVar, run_isAgg hag, load, Sem.run, hc off (by omega)]⟩
    · exact (Res.fail h3).elim
theorem aLoad_ok {E : Env} {o : Oper} {id : Nat} {T : TypeId} {x : Operand} {an : Ans} (ho : o.op = .load T x) (hd : ∀ x, o.dst = some x → x < E.n) : ActOk E o id (aLoad E.P T x an) := by
  intro g p wb h nx c a K Q hn hI hK
  obtain ⟨q, hq, h1⟩ := Res.opd hI h
  clear h
  split at h1
  · rename_i ag ti hag hin
    split at h1
    · rename_i cs off
      obtain ⟨b, a', vf, hv, hS, hc, hr, hone⟩ := rep_spt hq
      obtain ⟨rfl, v, h2, h3⟩ := load_run (c := c) hag hin h1 hc fun j hj => .sh (hr j hj)
      exact pure_step hd hI hK h2 (by simp [execOp, ho, hv, Instr.loadAt, Instr.sureAddr, h3])
    · rename_i id' off
      obtain ⟨bv, hg, h4⟩ := Res.look h1
      cases bv with
      | pv _ => exact (Res.fail h4).elim
      | blk T' cs =>
        simp only at h4
        obtain ⟨b, T2, hown, hv⟩ := rep_opt hq
        obtain ⟨ob', hown', hone, hb⟩ := hI.blk id' T' cs hg
        rw [hown] at hown'
        cases hown'
        rcases hb with ⟨hb, _⟩ | ⟨b', vs, hb1, hb2, hb3, hb4⟩
        · cases hb
        · obtain rfl : b' = b := by simpa using hb1.symm
          obtain ⟨rfl, v, h2, h3⟩ := load_run (c := c) (a := 0) (vf := fun j => vs.getD j undef) hag hin h4 (fun j hj => by
            have : j < vs.size := by omega
            rw [cell_of_row c.w _ _ vs _ _ hb2]
            simp [Array.getD_eq_getD_getElem?, this]) hb4
          rw [Nat.zero_add] at h3
          exact pure_step hd hI hK h2 (by simp [execOp, ho, hv, Instr.loadAt, Instr.sureAddr, h3])
    · exact (Res.fail h1).elim
  · exact (Res.fail h1).elim
def partP (P : Program) (T : TypeId) (cs : List PV) (off : Nat) : Plan := match isAggD (P.underlying T), P.info? T with
  | some ag, some ti => loadCs cs off ti.size ag .no
  | _, _ => .fail
theorem part_run {P : Program} {c : Cx} {T : TypeId} {cs : List PV} {off : Nat} {vs : Array Value} {g : St} {p : PV} {wb : L} (h : Res g (partP P T cs off) p wb) (hn : vs.size = cs.length) (hr : ∀ j, j < cs.length → Rep P c (cs.getD j P0) (vs.getD j undef)) (w : World) :
    wb = [] ∧ ∃ v, Rep P c p v ∧ (part T vs off).run P w = .ok v w := by
  unfold partP at h
  split at h
  · rename_i ag ti hag hin
    cases ag with
    | true =>
      simp only [loadCs] at h
      obtain ⟨l, h1, h2, h3⟩ := seg_ok h
      obtain ⟨rfl, rfl⟩ := Res.done h3
      obtain ⟨h4, h5⟩ := getD_seg h1 h2
      refine ⟨rfl, .agg (vs.extract off (off + ti.size)), .agg (by simp [h4]; omega) fun i hi => ?_, ?_⟩
      · rw [h4] at hi
        rw [h5 i hi]
        have e : (vs.extract off (off + ti.size)).getD i undef = vs.getD (off + i) undef := by
          have h6 : off + i < vs.size := by omega
          have h7 : i < (vs.extract off (off + ti.size)).size := by simp; omega
          rw [Array.getD_eq_getD_getElem?, Array.getD_eq_getD_getElem?, Array.getElem?_eq_getElem h7, Array.getElem?_eq_getElem h6]
          simp
        rw [e]
        exact hr (off + i) (by omega)
      · simp [part, run_isAgg hag, run_size hin]
    | false =>
      simp only [loadCs] at h
      obtain ⟨l, h1, h2, h3⟩ := seg_ok h
      obtain ⟨h4, h5⟩ := getD_seg h1 h2
      unfold one1 at h3
      split at h3
      · obtain ⟨rfl, rfl⟩ := Res.done h3
        have e := h5 0 (by omega)
        simp only [List.getD_cons_zero, Nat.add_zero] at e
        rw [e]
        have h6 : off < vs.size := by omega
        exact ⟨rfl, _, hr off (by omega), by simp [part, run_isAgg hag, h6]⟩
      · exact (Res.fail h3).elim
  · exact (Res.fail h).elim
def aField (P : Program) (T : TypeId) (x : Operand) (f : Nat) : Plan := opd x fun p => match P.underlying T, p with
  | some (.struct fs), .agg cs => match fs[f]? with
    | some fd => partP P fd.type cs fd.offset
    | none => .fail
  | _, _ => .fail
theorem aField_ok {E : Env} {o : Oper} {id : Nat} {T : TypeId} {x : Operand} {f : Nat} (ho : o.op = .field T x f) (hd : ∀ x, o.dst = some x → x < E.n) : ActOk E o id (aField E.P T x f) := by
  intro g p wb h nx c a K Q hn hI hK
  obtain ⟨q, hq, h1⟩ := Res.opd hI h
  clear h
  split at h1
  · rename_i fs cs hu
    split at h1
    · rename_i fd hf
      obtain ⟨vs, hv, hs, hr⟩ := rep_agg hq
      obtain ⟨rfl, v, h2, h3⟩ := part_run h1 hs hr c.w
      exact pure_step hd hI hK h2 (by simp [execOp, ho, Instr.field, run_underlying hu, hf, hv, asAgg, h3])
    · exact (Res.fail h1).elim
  · exact (Res.fail h1).elim
def byteAt (s : ByteArray) (i : Nat) : Int := ((s.data.toList.getD i 0).toNat : Int)
def aIndex (P : Program) (T : TypeId) (x ix : Operand) : Plan := opd x fun p => opd ix fun q => match q, P.underlying T, p with
  | .av (.int _ i), some .string, .av (.string s) => .ob (0 ≤ i ∧ i < s.size) (.done (.av (.int .u8 (byteAt s i.toNat))) [])
  | .av (.int _ i), some (.array n e), .agg cs => match P.info? e with
    | some ti => .ob (0 ≤ i ∧ i < n) (partP P e cs (i.toNat * ti.size))
    | none => .fail
  | _, _, _ => .fail
theorem aIndex_ok {E : Env} {o : Oper} {id : Nat} {T : TypeId} {x ix : Operand} (ho : o.op = .index T x ix) (hd : ∀ x, o.dst = some x → x < E.n) : ActOk E o id (aIndex E.P T x ix) := by
  intro g p wb h nx c a K Q hn hI hK
  obtain ⟨q, hq, h1⟩ := Res.opd hI h
  obtain ⟨q2, hq2, h2⟩ := Res.opd hI h1
  clear h h1
  split at h2
  · rename_i k i s hu
    obtain ⟨h3, h4⟩ := Res.ob h2
    obtain ⟨rfl, rfl⟩ := Res.done h4
    refine pure_step hd hI hK (.sh (.av _)) ?_
    have e : s[i.toNat]? = some (s.data.toList.getD i.toNat 0) := by
      have h5 : i.toNat < s.size := by omega
      have h6 : i.toNat < s.data.size := h5
      rw [getElem?_pos s i.toNat h5]
      rw [List.getD_eq_getElem?_getD, List.getElem?_eq_getElem (by simpa using h6)]
      rfl
    simp [execOp, ho, Instr.index, rep_av hq2, asIntOf, run_underlying hu, rep_av hq, h3.1, e, byteAt]
  · rename_i k i n e cs hu
    split at h2
    · rename_i ti hin
      obtain ⟨h3, h4⟩ := Res.ob h2
      obtain ⟨vs, hv, hs, hr⟩ := rep_agg hq
      obtain ⟨rfl, v, h5, h6⟩ := part_run h4 hs hr c.w
      exact pure_step hd hI hK h5 (by simp [execOp, ho, Instr.index, rep_av hq2, asIntOf, run_underlying hu, hv, h3, run_size hin, h6])
    · exact (Res.fail h2).elim
  · exact (Res.fail h2).elim
end Go.Proofs.Ytfoiadlaekknpaa.Pm
namespace Go.Proofs.Ytfoiadlaekknpaa.Pm
open Go Co

def bitsB (b : ByteArray) : List Bool := (List.range (8 * b.size)).map fun i => decide (byteAt b (i / 8) / 2 ^ (7 - i % 8) % 2 = 1)
abbrev Rs := List Bool × Bool
def rb : Rs → Int × Rs
  | ([], _) => (0, [], true)
  | (x :: D, f) => (bi x, D, f)
def rnum : Nat → Int → Rs → Int × Rs
  | 0, a, s => (a, s)
  | k + 1, a, s => rnum k (2 * a + (rb s).1) (rb s).2
def rones : List Bool → Nat × Rs
  | [] => (0, [], true)
  | true :: D => ((rones D).1 + 1, (rones D).2)
  | false :: D => (0, D, false)
def riceV (n k : Nat) (low : Int) : Int := IntKind.wrap .i64 (BitVec.ofInt (IntKind.bits .i64) (IntKind.wrap .i64 (((n : Nat) : Int) * 2 ^ (((k : Nat) : Int)).toNat)) ||| BitVec.ofInt (IntKind.bits .i64) low).toNat
def rrice (k : Nat) (D : List Bool) : Int × Rs := (riceV (rones D).1 k (rnum k 0 (rones D).2).1, (rnum k 0 (rones D).2).2)
def unf (n : Int) : Int := if n % 2 = 1 then IntKind.wrap .i64 ((IntKind.wrap .i64 (0 - IntKind.wrap .i64 (n + 1))).tdiv 2) else n.tdiv 2
def rsample (o k : Nat) (l : List Int) (D : List Bool) : Int × Rs :=
  if l.length < o then ((rnum 16 0 (D, false)).1 - 32768, (rnum 16 0 (D, false)).2) else (unf (rrice k D).1 + guess l l.length o, (rrice k D).2)
def sm (x : Int) : Bool := decide (-32768 ≤ x ∧ x ≤ 32767)
/-- m samples more. -/
def rfr (o k : Nat) : Nat → List Int → Rs → List Int × Rs
  | 0, l, s => (l, s)
  | m + 1, l, s => if s.2 then (l, s) else rfr o k m (l ++ [(rsample o k l s.1).1]) ((rsample o k l s.1).2.1, (rsample o k l s.1).2.2 || !sm (rsample o k l s.1).1)
def rframe (m : Nat) (s : Rs) : List Int × Rs :=
  rfr (rnum 2 0 s).1.toNat (rnum 4 0 (rnum 2 0 s).2).1.toNat m [] (rnum 4 0 (rnum 2 0 s).2).2
def rdec (n : Nat) : Nat → List Int → Rs → List Int × Rs
  | 0, l, s => (l, s)
  | j + 1, l, s => if l.length < n ∧ s.2 = false then rdec n j (l ++ (rframe (min 256 (n - l.length)) s).1) (rframe (min 256 (n - l.length)) s).2 else (l, s)
def dec (b : ByteArray) : List Int × Int :=
  if (rnum 24 0 (bitsB b, false)).2.2 then ([], 2)
  else if 1048576 < (rnum 24 0 (bitsB b, false)).1 then ([], 5)
  else if (rdec (rnum 24 0 (bitsB b, false)).1.toNat ((rnum 24 0 (bitsB b, false)).1.toNat + 1) [] (rnum 24 0 (bitsB b, false)).2).2.2 then ([], 2)
  else if 7 < (rdec (rnum 24 0 (bitsB b, false)).1.toNat ((rnum 24 0 (bitsB b, false)).1.toNat + 1) [] (rnum 24 0 (bitsB b, false)).2).2.1.length then ([], 2)
  else if (rdec (rnum 24 0 (bitsB b, false)).1.toNat ((rnum 24 0 (bitsB b, false)).1.toNat + 1) [] (rnum 24 0 (bitsB b, false)).2).2.1.all (· == false) then ((rdec (rnum 24 0 (bitsB b, false)).1.toNat ((rnum 24 0 (bitsB b, false)).1.toNat + 1) [] (rnum 24 0 (bitsB b, false)).2).1, 0) else ([], 2)

/-! ### bits of numbers -/
theorem or_plus (a b k : Nat) (hb : b < 2 ^ k) (h : a * 2 ^ k + b < 9223372036854775808) :
    IntKind.wrap .i64 (BitVec.ofInt (IntKind.bits .i64) ((a * 2 ^ k : Nat) : Int) ||| BitVec.ofInt (IntKind.bits .i64) ((b : Nat) : Int)).toNat = ((a * 2 ^ k + b : Nat) : Int) := by
  have h1 : (BitVec.ofInt 64 ((a * 2 ^ k : Nat) : Int) ||| BitVec.ofInt 64 ((b : Nat) : Int)).toNat = a * 2 ^ k + b := by
    rw [BitVec.toNat_or, BitVec.toNat_ofInt, BitVec.toNat_ofInt, show ((a * 2 ^ k : Nat) : Int) % ((2 ^ 64 : Nat) : Int) = ((a * 2 ^ k : Nat) : Int) by omega, show ((b : Nat) : Int) % ((2 ^ 64 : Nat) : Int) = (b : Int) by omega, Int.toNat_natCast, Int.toNat_natCast,
      ← Nat.shiftLeft_eq, Nat.shiftLeft_add_eq_or_of_lt hb]
  show IntKind.i64.wrap ((BitVec.ofInt 64 ((a * 2 ^ k : Nat) : Int) ||| BitVec.ofInt 64 ((b : Nat) : Int)).toNat : Nat) = _
  rw [h1, IntKind.wrap_i64]; omega
theorem rb_01 (s : Rs) : (rb s).1 = 0 ∨ (rb s).1 = 1 := by
  rcases s with ⟨_ | ⟨x, D⟩, f⟩
  · exact .inl rfl
  · cases x
    · exact .inl rfl
    · exact .inr rfl
theorem or_rb (a : Int) (s : Rs) (h0 : 0 ≤ a) (h : a < 1099511627776) : IntKind.wrap .i64 (BitVec.ofInt (IntKind.bits .i64) (a * 2 ^ (1 : Int).toNat) ||| BitVec.ofInt (IntKind.bits .i64) (rb s).1).toNat = 2 * a + (rb s).1 := by
  obtain ⟨m, rfl⟩ : ∃ m : Nat, a = (m : Int) := ⟨a.toNat, by omega⟩
  have hp := rb_01 s
  obtain ⟨t, ht⟩ : ∃ t : Nat, (rb s).1 = (t : Int) := ⟨(rb s).1.toNat, by omega⟩
  have := or_plus m t 1 (by omega) (by omega)
  rw [ht, show ((m : Nat) : Int) * 2 ^ (1 : Int).toNat = ((m * 2 ^ 1 : Nat) : Int) by rw [Int.natCast_mul]; rfl, this]; omega
theorem riceV_ok {n k : Nat} {low : Int} (h0 : 0 ≤ low) (h1 : low < 2 ^ k) (h : (n : Int) * 2 ^ k + low < 9223372036854775808) : riceV n k low = n * 2 ^ k + low := by
  obtain ⟨m, rfl⟩ : ∃ m : Nat, low = (m : Int) := ⟨low.toNat, by omega⟩
  have e : ((n * 2 ^ k : Nat) : Int) = (n : Int) * 2 ^ k := by rw [Int.natCast_mul, Int.natCast_pow]; rfl
  have e2 : ((2 ^ k : Nat) : Int) = 2 ^ k := by rw [Int.natCast_pow]; rfl
  have hw : IntKind.wrap .i64 ((n : Int) * 2 ^ k) = ((n * 2 ^ k : Nat) : Int) := by rw [← e, IntKind.wrap_i64]; omega
  have := or_plus n m k (by omega) (by omega)
  unfold riceV
  rw [Int.toNat_natCast, hw, this, Int.natCast_add, e]
theorem wrap_i64_in (x : Int) : -9223372036854775808 ≤ IntKind.wrap .i64 x ∧ IntKind.wrap .i64 x ≤ 9223372036854775807 := by rw [IntKind.wrap_i64]; omega
theorem tdiv2 (n : Int) : (0 ≤ n → n.tdiv 2 = n / 2) ∧ (n ≤ 0 → n.tdiv 2 = -((-n) / 2)) := by
  refine ⟨fun h => Int.tdiv_eq_ediv_of_nonneg h, fun h => ?_⟩
  have := Int.tdiv_eq_ediv_of_nonneg (a := -n) (b := 2) (by omega)
  rw [Int.neg_tdiv] at this; omega
theorem unf_bd (n : Int) (h0 : -9223372036854775808 ≤ n) (h1 : n ≤ 9223372036854775807) : -4611686018427387904 ≤ unf n ∧ unf n ≤ 4611686018427387904 := by
  unfold unf
  have ht := wrap_i64_in (0 - IntKind.wrap .i64 (n + 1))
  split
  · generalize IntKind.wrap .i64 (0 - IntKind.wrap .i64 (n + 1)) = y at ht
    have := tdiv2 y
    rw [IntKind.wrap_i64]; omega
  · have := tdiv2 n
    omega
theorem rnum_bd : ∀ (k : Nat) (a : Int) (s : Rs), 0 ≤ a → 0 ≤ (rnum k a s).1 ∧ (rnum k a s).1 < (a + 1) * 2 ^ k
  | 0, a, s, h => by rw [rnum]; omega
  | k + 1, a, s, h => by
    have h1 := rb_01 s
    obtain ⟨h2, h3⟩ := rnum_bd k (2 * a + (rb s).1) (rb s).2 (by omega)
    rw [rnum]
    refine ⟨h2, Int.lt_of_lt_of_le h3 ?_⟩
    rw [Int.pow_succ', ← Int.mul_assoc]
    exact Int.mul_le_mul_of_nonneg_right (by omega) (Int.pow_nonneg (by omega))
theorem rones_go {D : List Bool} (h : (rb (D, false)).1 = 1) : (rb (D, false)).2.2 = false ∧ rones D = ((rones (rb (D, false)).2.1).1 + 1, (rones (rb (D, false)).2.1).2) := by
  rcases D with _ | ⟨_ | _, D⟩
  · exact absurd h (by decide)
  · exact absurd h (by decide : ¬ (0 : Int) = 1)
  · exact ⟨rfl, rfl⟩
theorem rones_stop {D : List Bool} (h : ¬ (rb (D, false)).1 = 1) : rones D = (0, (rb (D, false)).2) := by
  rcases D with _ | ⟨_ | _, D⟩
  · rfl
  · rfl
  · exact absurd rfl h
/-! ### where it stands -/
def posI (b : ByteArray) (D : List Bool) : Int := ((8 * b.size : Nat) : Int) - ((D.length : Nat) : Int)
theorem bitsB_length (b : ByteArray) : (bitsB b).length = 8 * b.size := by simp [bitsB]
theorem suf_len {b : ByteArray} {D : List Bool} (h : D <:+ bitsB b) : D.length ≤ 8 * b.size := by have := h.length_le; rwa [bitsB_length] at this
theorem rb_suf {b : ByteArray} : ∀ {s : Rs}, s.1 <:+ bitsB b → (rb s).2.1 <:+ bitsB b
  | ([], _), h => h
  | (_ :: _, _), h => List.IsSuffix.trans (List.suffix_cons _ _) h
theorem rnum_suf {b : ByteArray} : ∀ (k : Nat) (a : Int) {s : Rs}, s.1 <:+ bitsB b → (rnum k a s).2.1 <:+ bitsB b
  | 0, _, _, h => h
  | k + 1, _, _, h => rnum_suf k _ (rb_suf h)
theorem rones_suf {b : ByteArray} : ∀ {D : List Bool}, D <:+ bitsB b → (rones D).2.1 <:+ bitsB b
  | [], h => h
  | true :: D, h => rones_suf (D := D) (List.IsSuffix.trans (List.suffix_cons _ _) h)
  | false :: _, h => List.IsSuffix.trans (List.suffix_cons _ _) h
theorem rrice_suf {b : ByteArray} (k : Nat) {D : List Bool} (h : D <:+ bitsB b) : (rrice k D).2.1 <:+ bitsB b := rnum_suf k _ (rones_suf h)
theorem rones_len : ∀ D : List Bool, (rones D).1 ≤ D.length
  | [] => Nat.le_refl _
  | true :: D => by have := rones_len D; show (rones D).1 + 1 ≤ D.length + 1; omega
  | false :: _ => Nat.zero_le _
theorem rsample_suf {b : ByteArray} (o k : Nat) (l : List Int) {D : List Bool} (h : D <:+ bitsB b) : (rsample o k l D).2.1 <:+ bitsB b := by
  unfold rsample; split
  · have h1 := rnum_suf (b := b) 16 0 (s := (D, false)) h
    generalize rnum 16 0 (D, false) = z at *
    exact h1
  · exact rrice_suf k h
theorem rfr_suf {b : ByteArray} (o k : Nat) : ∀ (m : Nat) (l : List Int) {s : Rs}, s.1 <:+ bitsB b → (rfr o k m l s).2.1 <:+ bitsB b
  | 0, _, _, h => h
  | m + 1, l, s, h => by
    rw [rfr]; split
    · exact h
    · exact rfr_suf o k m _ (s := (_, _)) (rsample_suf o k l h)
theorem rframe_suf {b : ByteArray} (m : Nat) {s : Rs} (h : s.1 <:+ bitsB b) : (rframe m s).2.1 <:+ bitsB b := rfr_suf _ _ m _ (rnum_suf 4 _ (rnum_suf 2 _ h))
/-- The next bit. -/
theorem bit_at {b : ByteArray} {x : Bool} {D : List Bool} (h : x :: D <:+ bitsB b) :
    IntKind.wrap .i64 (BitVec.ofInt (IntKind.bits .i64) ((byteAt b ((posI b (x :: D)).tdiv 8).toNat).fdiv (2 ^ (7 - (posI b (x :: D)).tmod 8).toNat)) &&& BitVec.ofInt (IntKind.bits .i64) 1).toNat = bi x := by
  obtain ⟨E, hE⟩ := h
  have hl : E.length + (D.length + 1) = 8 * b.size := by rw [← bitsB_length, ← hE]; simp
  have hp : posI b (x :: D) = (E.length : Int) := by unfold posI; rw [List.length_cons]; omega
  have hx : (bitsB b)[E.length]? = some x := by rw [← hE]; simp
  unfold bitsB at hx
  rw [List.getElem?_map, List.getElem?_range (by omega)] at hx
  have hx := Option.some.inj hx
  rw [hp, show ((E.length : Nat) : Int).tdiv 8 = ((E.length / 8 : Nat) : Int) from rfl, show ((E.length : Nat) : Int).tmod 8 = ((E.length % 8 : Nat) : Int) from rfl, Int.toNat_natCast, show (7 - ((E.length % 8 : Nat) : Int)).toNat = 7 - E.length % 8 by omega]
  have := and_one ((byteAt b (E.length / 8)).fdiv (2 ^ (7 - E.length % 8)))
  refine this.trans ?_
  rw [Int.fdiv_eq_ediv_of_nonneg _ (Int.pow_nonneg (by omega)), ← hx]
  by_cases h : byteAt b (E.length / 8) / 2 ^ (7 - E.length % 8) % 2 = 1
  · rw [h]; simp [bi, h]
  · simp only [h, decide_false]; show _ = (0 : Int); omega
end Go.Proofs.Ytfoiadlaekknpaa.Pm
namespace Go.Proofs.Ytfoiadlaekknpaa
open Go

section
variable {P : Program} {ops : Array Oper} {md : Region.Mode} {C : World → Prop}

/-- Whatever order is picked for the first n operations; then L. -/
def wpAnyC (P : Program) (md : Region.Mode) (ops : Array Oper) (C : World → Prop) (n : Nat) (L : Array Bool → Act → Prop) : Nat → Array Bool → Act → Prop
  | 0, listed, a => L listed a
  | f + 1, listed, a => Region.ready md ops listed ≠ [] ∧ ∀ i ∈ Region.ready md ops listed, i < n ∧ qOp P ops C i (wpAnyC P md ops C n L f (listed.setIfInBounds i true)) a

theorem wpAny_of_headC {n g : Nat} {L : Array Bool → Act → Prop} {Q' : Exit → Act → World → Prop} (hL : ∀ listed a w, C w → L listed a → wpAny P md ops Q' g listed a w) :
    ∀ (f : Nat) (listed : Array Bool) (a : Act) (w : World), C w → wpAnyC P md ops C n L f listed a → wpAny P md ops Q' (f + g) listed a w
  | 0, _, _, _, hw, h => by rw [Nat.zero_add]; exact hL _ _ _ hw h
  | f + 1, _, _, _, hw, h => by
    rw [show f + 1 + g = (f + g) + 1 by omega]
    exact ⟨fun h0 => absurd h0 h.1, fun i hi => wpOp_of_qOp hw (fun a' w' hw' h' => wpAny_of_headC hL f _ a' w' hw' h') (h.2 i hi).2⟩

theorem wpAnyC_first {n i : Nat} {oi : Oper} {v : Value} {L : Array Bool → Act → Prop} (hi : ops[i]? = some oi) (hsel : ∀ (j : Nat) (o : Oper) cs b, ops[j]? = some o → o.op ≠ .select cs b)
    (hs : Region.sinkB md ops n = true) (hc : Region.chainB md ops n = true) (hn : n < ops.size) (hin : i < n)
    (hdone : ∀ listed a, L listed a → ∀ j ∈ Region.ready md ops listed, n ≤ j) :
    ∀ (f : Nat) (listed : Array Bool) (a : Act), HeadInv md ops n listed →
      (∀ j oj, ops[j]? = some oj → j ≠ i → listed.getD j true = false → (∀ e ∈ oj.after, Region.binds md e = true → e.on ≠ i) → oi.apart ops oj = true) →
      i ∈ Region.ready md ops listed → YieldsIn P ops C oi v a →
      wpAnyC P md ops C n L f (listed.setIfInBounds i true) (a.put oi.dst v) → wpAnyC P md ops C n L (f + 1) listed a := by
  intro f
  induction f with
  | zero =>
    intro listed a inv _ hr hy H
    have hun := (mem_ready.1 hr).1
    refine ⟨fun h => (by rw [h] at hr; cases hr), fun j hj => ?_⟩
    have hjn : j < n := by
      rcases Nat.lt_or_ge j n with h | h
      · exact h
      · exact absurd hj (tail_waits hs hc hn inv _ i rfl hin hun j h)
    refine ⟨hjn, ?_⟩
    by_cases hji : j = i
    · subst hji; exact hy.qOp hi H
    · have := hdone _ _ H j (ready_mono hj hji)
      omega
  | succ f ih =>
    intro listed a inv hfree hr hy H
    have hun := (mem_ready.1 hr).1
    refine ⟨fun h => (by rw [h] at hr; cases hr), fun j hj => ?_⟩
    have hjn : j < n := by
      rcases Nat.lt_or_ge j n with h | h
      · exact h
      · exact absurd hj (tail_waits hs hc hn inv _ i rfl hin hun j h)
    refine ⟨hjn, ?_⟩
    by_cases hji : j = i
    · subst hji; exact hy.qOp hi H
    · have h1 := (H.2 j (ready_mono hj hji)).2
      obtain ⟨hjun, oj, hoj, hall⟩ := mem_ready.1 hj
      have hnot : ∀ e ∈ oj.after, Region.binds md e = true → e.on ≠ i := fun e he hb heq => by
        have h1 := hall e he hb
        rw [heq, getD_both hun] at h1
        cases h1
      have h2 := qOp_put hoj (hfree j oj hoj hji hjun hnot) (fun cs b => hsel i oi cs b hi) (fun cs b => hsel j oj cs b hoj) hy h1
      have hfree' : ∀ k ok, ops[k]? = some ok → k ≠ i → (listed.setIfInBounds j true).getD k true = false →
          (∀ e ∈ ok.after, Region.binds md e = true → e.on ≠ i) → oi.apart ops ok = true := fun k ok hk hki hun hno => by
        refine hfree k ok hk hki ?_ hno
        by_cases hjk : j = k
        · subst hjk; exact hjun
        · rw [getD_set_ne true hjk] at hun; exact hun
      refine qOp_mono (fun a' h3 => ih (listed.setIfInBounds j true) a' (inv.set hj hjn) hfree' (ready_mono hr (Ne.symm hji)) h3.1 ?_) h2
      rw [Array.setIfInBounds_comm _ _ hji]
      exact h3.2

theorem wpAnyC_lex {n g : Nat} {Lq : Act → Prop} (hsel : Region.noSelect ops = true) (hs : Region.sinkB md ops n = true) (hc : Region.chainB md ops n = true) (hn : n < ops.size) :
    ∀ (l : List Oper) (k : Nat) (listed : Array Bool) (a : Act), (∀ j, j < l.length → l[j]? = ops[k + j]?) → k + l.length = n → HeadInv md ops n listed →
    Region.lexHead md ops g l.length k listed = true → wpQuiet P ops C Lq l a →
    wpAnyC P md ops C n (fun listed' a' => Region.seqB md ops g n listed' = true ∧ Lq a') l.length listed a
  | [], k, _, _, _, hk, _, hB, h => by
    have : k = n := by simpa using hk
    subst this
    exact ⟨by simpa [Region.lexHead] using hB, h⟩
  | o :: l, k, listed, a, hl, hk, inv, hB, h => by
    have h0 : ops[k]? = some o := by simpa using (hl 0 (by simp)).symm
    simp only [List.length_cons, Region.lexHead, Bool.and_eq_true] at hB
    obtain ⟨⟨hr, hf⟩, hB'⟩ := hB
    have hkn : k < n := by simp only [List.length_cons] at hk; omega
    have hr' : k ∈ Region.ready md ops listed := by simpa using hr
    have hst : qOp P ops C k (wpQuiet P ops C Lq l) a := by unfold qOp; simp only [h0]; exact h
    obtain ⟨v, hy, hK⟩ := yieldsIn_of_qOp h0 hst
    exact wpAnyC_first h0 (Region.noSelect_spec hsel) hs hc hn hkn (fun listed' a' hL => seqB_ready hL.1) l.length listed a inv (Region.free_spec h0 hf) hr' hy
      (wpAnyC_lex hsel hs hc hn l (k + 1) _ _ (fun j hj => by have := hl (j + 1) (by simp; omega); simpa [Nat.add_assoc, Nat.add_comm 1 j] using this) (by simp only [List.length_cons] at hk; omega) (inv.set hr' hkn) hB' hK)

/-- THE FIRST n OPERATIONS QUIET IN C, THE REST FORCED: one walk. -/
theorem wp_region_class_tail {id : Nat} {Q : Exit → Act → World → Prop} {a : Act} {w : World} {l : List Oper} (C : World → Prop) (n : Nat) (hm : P.follows .mixedOrders = true) (hB : Region.lexTailB .any l.toArray n = true)
    (hC : C { w with drawn := w.drawn + 1 })
    (h : wpQuiet P l.toArray C (fun a' => ∀ w', C w' → wpList P l.toArray Q (l.drop n) a' w') (l.take n) a) : (Code.region id l.toArray true).wp P Q a w := by
  simp only [Region.lexTailB, Bool.and_eq_true, decide_eq_true_eq] at hB
  obtain ⟨⟨⟨⟨hsel, hn⟩, hs⟩, hc⟩, hlex⟩ := hB
  have hn' : n < l.length := by simpa using hn
  have htl : (l.take n).length = n := by simp; omega
  have hdl : (l.drop n).length = l.toArray.size - n := by simp
  have inv0 : HeadInv .any l.toArray n (Array.replicate l.toArray.size false) :=
    ⟨by simp, fun j oj _ hl => (by rw [getD_replicate_false] at hl; cases hl), fun t _ ht => getD_in (by simpa using ht) (getD_replicate_false _ _)⟩
  have H := wpAnyC_lex (md := .any) (g := l.toArray.size - n) hsel hs hc hn (l.take n) 0 _ a (fun j hj => by
    have hj' : j < n := by rw [htl] at hj; exact hj
    simp [hj']) (by simpa using htl) inv0 (by rw [htl]; exact hlex) h
  refine wp_region_any hm ?_
  have := wpAny_of_headC (Q' := Q) (g := l.toArray.size - n) (fun listed a' w' hw' hL => by
    have := wpAny_of_seq (md := .any) (Q' := Q) (l.drop n) n listed a' w' (fun j => by simp [List.getElem?_drop]) (by rw [hdl]; exact hL.1) (hL.2 w' hw')
    rwa [hdl] at this) _ _ _ _ hC H
  rw [htl, show n + (l.toArray.size - n) = l.toArray.size by omega] at this
  exact this

end

/-- A world with more in it: what was there is as it was. -/
structure Ext (w : World) where
  u : World
  h : RowKit.Below w.heap.size w u
instance Ext.some_ (w : World) : Nonempty (Ext w) := ⟨⟨w, RowKit.Below.refl _ _⟩⟩
theorem Ext.cells (w : World) : ∀ (d : Ext w) (b o : Nat), b < w.heap.size → d.u.cell? ⟨b, o, none⟩ = w.cell? ⟨b, o, none⟩ := fun d b o h => d.h.cell (p := ⟨b, o, none⟩) h

section
variable {P : Program}
theorem wp_region_ext_tail {id : Nat} {Q : Exit → Act → World → Prop} {a : Act} {w : World} {l : List Oper} (n : Nat) (hm : P.follows .mixedOrders = true) (hB : Region.lexTailB .any l.toArray n = true)
    (h : wpQuiet P l.toArray (fun w' => ∃ d : Ext w, w' = d.u) (fun a' => ∀ w', (∃ d : Ext w, w' = d.u) → wpList P l.toArray Q (l.drop n) a' w') (l.take n) a) :
    (Code.region id l.toArray true).wp P Q a w :=
  wp_region_class_tail (fun w' => ∃ d : Ext w, w' = d.u) n hm hB ⟨⟨{ w with drawn := w.drawn + 1 }, rfl, rfl, rfl, Nat.le_refl _, fun _ _ => rfl⟩, rfl⟩ h
theorem wp_region_ext {id : Nat} {Q : Exit → Act → World → Prop} {a : Act} {w : World} {l : List Oper} (hm : P.follows .mixedOrders = true) (hB : Region.lexB .any l.toArray = true)
    (h : wpQuiet P l.toArray (fun w' => ∃ d : Ext w, w' = d.u) (fun a' => ∀ w', (∃ d : Ext w, w' = d.u) → Q .normal a' w') l a) :
    (Code.region id l.toArray true).wp P Q a w :=
  wp_region_quiet (C := fun w' => ∃ d : Ext w, w' = d.u) hm hB ⟨⟨{ w with drawn := w.drawn + 1 }, rfl, rfl, rfl, Nat.le_refl _, fun _ _ => rfl⟩, rfl⟩ (by simpa using h)
/-- A call in such a region, by the callee's contract. -/
theorem ext_call {f : FuncId} {args : Array Value} {w : World} {d : Ext w} {v : Value} (h : Calls P f args d.u fun e w' => e = .returned v ∧ RowKit.Below d.u.heap.size d.u w') :
    Calls P f args d.u fun e w'' => e = .returned v ∧ ∃ d' : Ext w, w'' = d'.u :=
  h.mono fun _ w' ⟨he, hb⟩ => ⟨he, ⟨w', d.h.trans (hb.mono d.h.size)⟩, rfl⟩
theorem ext_same {f : FuncId} {args : Array Value} {w : World} {d : Ext w} {v : Value} (h : Calls P f args d.u fun e w' => e = .returned v ∧ d.u = w') :
    Calls P f args d.u fun e w'' => e = .returned v ∧ ∃ d' : Ext w, w'' = d'.u :=
  h.mono fun _ _ ⟨he, hb⟩ => ⟨he, d, hb.symm⟩
theorem ext_drewN {f : FuncId} {args : Array Value} {w : World} {d : Ext w} {v : Value} (h : Calls P f args d.u fun e w' => e = .returned v ∧ ∃ n, w' = d.u.drewN n) :
    Calls P f args d.u fun e w'' => e = .returned v ∧ ∃ d' : Ext w, w'' = d'.u :=
  h.mono fun _ w' ⟨he, n, hb⟩ => ⟨he, ⟨w', by subst hb; exact ⟨d.h.os, d.h.tape, d.h.output, d.h.size, d.h.block⟩⟩, rfl⟩
end
end Go.Proofs.Ytfoiadlaekknpaa
namespace Go.Proofs.Ytfoiadlaekknpaa
open Go RowKit

section
variable {P : Program} {ops : Array Oper} {md : Region.Mode} {w : World}

/-- Strongly quiet: one value in every world with more in it, and a call leaves more in the very world that it got. -/
def sq (P : Program) (w : World) (o : Oper) (a : Act) (next : Act → Prop) : Prop :=
  ∃ v, (∀ d : Ext w, o.quietAt P a (fun w'' => ∃ d' : Ext d.u, w'' = d'.u) d.u v) ∧ next (a.put o.dst v)
def wpSq (P : Program) (ops : Array Oper) (w : World) (Q : Act → Prop) : List Oper → Act → Prop
  | [], a => Q a
  | o :: rest, a => if Region.wanted o (yielded ops a.tmps) then sq P w o a (wpSq P ops w Q rest) else wpSq P ops w Q rest (a.put o.dst undef)
theorem wpSq_nil {Q : Act → Prop} {a : Act} (h : Q a) : wpSq P ops w Q [] a := h
theorem wpSq_step {Q : Act → Prop} {a : Act} {o : Oper} {rest : List Oper}
    (h : ∀ K : Act → Prop, (∀ a, wpSq P ops w Q rest a → K a) → if Region.wanted o (yielded ops a.tmps) then sq P w o a K else K (a.put o.dst undef)) : wpSq P ops w Q (o :: rest) a :=
  h _ (fun _ h => h)

def sOp (P : Program) (ops : Array Oper) (w : World) (i : Nat) (K : Act → Prop) (a : Act) : Prop :=
  match ops[i]? with
  | none => K a
  | some o => if Region.wanted o (yielded ops a.tmps) then sq P w o a K else K (a.put o.dst undef)

theorem quietAt_mono {o : Oper} {a : Act} {C C' : World → Prop} {w0 : World} {v : Value} (h : ∀ x, C x → C' x) (hq : o.quietAt P a C w0 v) : o.quietAt P a C' w0 v := by
  unfold Oper.quietAt at *
  generalize (execOp a.eval o).run P w0 = r at *
  cases r with
  | ok n w' =>
    cases n <;> simp only [Oper.quietUpon] at hq ⊢
    case value u => exact hq
    case skip => exact hq
    case enter f args => exact ⟨hq.1, hq.2.mono fun _ _ ⟨he, hc⟩ => ⟨he, h _ hc⟩⟩
  | halt x w' => simp only [Oper.quietUpon] at hq

/-- A class that lies among the worlds with more in them and is kept by more. -/
structure Kept (w : World) (C : World → Prop) : Prop where
  sub : ∀ w', C w' → Below w.heap.size w w'
  more : ∀ w' w'', C w' → Below w'.heap.size w' w'' → C w''

theorem sq_quiet {C : World → Prop} (hC : Kept w C) {o : Oper} {a : Act} {K : Act → Prop} (h : sq P w o a K) : o.quiet P a C K := by
  obtain ⟨v, h1, h2⟩ := h
  refine ⟨v, fun w' hw' => ?_, h2⟩
  exact quietAt_mono (fun x ⟨d, hx⟩ => by subst hx; exact hC.more _ _ hw' d.h) (h1 ⟨w', hC.sub _ hw'⟩)

/-- In state 'a' operation 'o' leaves v, whatever more there is. -/
def YieldsS (P : Program) (ops : Array Oper) (w : World) (o : Oper) (v : Value) (a : Act) : Prop :=
  (Region.wanted o (yielded ops a.tmps) = true ∧ ∀ d : Ext w, o.quietAt P a (fun w'' => ∃ d' : Ext d.u, w'' = d'.u) d.u v) ∨
  (Region.wanted o (yielded ops a.tmps) = false ∧ v = undef)
theorem YieldsS.inClass {C : World → Prop} (hC : Kept w C) {o : Oper} {v : Value} {a : Act} (h : YieldsS P ops w o v a) : YieldsIn P ops C o v a :=
  h.imp (fun ⟨hw, h1⟩ => ⟨hw, fun w' hw' => quietAt_mono (fun x ⟨d, hx⟩ => by subst hx; exact hC.more _ _ hw' d.h) (h1 ⟨w', hC.sub _ hw'⟩)⟩) id
theorem YieldsS.of_same {o : Oper} {v : Value} {a a' : Act} (hy : YieldsS P ops w o v a) (he : execOp a'.eval o = execOp a.eval o)
    (hw : Region.wanted o (yielded ops a'.tmps) = Region.wanted o (yielded ops a.tmps)) : YieldsS P ops w o v a' := by
  unfold YieldsS Oper.quietAt at *
  rw [he, hw]
  exact hy
theorem YieldsS.sOp {i : Nat} {o : Oper} {v : Value} {a : Act} (hi : ops[i]? = some o) (hy : YieldsS P ops w o v a) {K : Act → Prop} (h : K (a.put o.dst v)) : sOp P ops w i K a := by
  unfold Go.Proofs.Ytfoiadlaekknpaa.sOp
  simp only [hi]
  rcases hy with ⟨hw, hv⟩ | ⟨hw, rfl⟩
  · simp only [hw, if_true]; exact ⟨v, hv, h⟩
  · simp only [hw, Bool.false_eq_true, if_false]; exact h
theorem yieldsS_of_sOp {i : Nat} {o : Oper} {a : Act} {K : Act → Prop} (hi : ops[i]? = some o) (h : sOp P ops w i K a) : ∃ v, YieldsS P ops w o v a ∧ K (a.put o.dst v) := by
  unfold sOp at h
  simp only [hi] at h
  by_cases hw : Region.wanted o (yielded ops a.tmps) = true
  · simp only [hw, if_true] at h
    obtain ⟨v, h1, h2⟩ := h
    exact ⟨v, .inl ⟨hw, h1⟩, h2⟩
  · simp only [hw] at h
    exact ⟨undef, .inr ⟨by simpa using hw, rfl⟩, h⟩
theorem sOp_mono {i : Nat} {a : Act} {K K' : Act → Prop} (h : ∀ a, K a → K' a) (hh : sOp P ops w i K a) : sOp P ops w i K' a := by
  unfold sOp at *
  split
  · exact h _ (by simpa [*] using hh)
  · rename_i o ho
    simp only [ho] at hh
    split
    · rename_i hw; simp only [hw, if_true] at hh; obtain ⟨v, h1, h2⟩ := hh; exact ⟨v, h1, h _ h2⟩
    · rename_i hw; simp only [hw] at hh; exact h _ hh
theorem sOp_put {j : Nat} {oi oj : Oper} {v : Value} (hj : ops[j]? = some oj) (hap : oi.apart ops oj = true)
    (hsi : ∀ cs b, oi.op ≠ .select cs b) (hsj : ∀ cs b, oj.op ≠ .select cs b) {K : Act → Prop} {a : Act}
    (hy : YieldsS P ops w oi v a) (h : sOp P ops w j K (a.put oi.dst v)) :
    sOp P ops w j (fun a' => YieldsS P ops w oi v a' ∧ K (a'.put oi.dst v)) a := by
  obtain ⟨h1, h2, h3⟩ := Oper.apart_spec hap
  have keep : ∀ (a : Act), YieldsS P ops w oi v a → ∀ u, YieldsS P ops w oi v (a.put oj.dst u) := fun a hy u =>
    hy.of_same (execOp_put oi hsi a oj.dst u h3) (wanted_put oi a oj.dst u h3)
  unfold sOp at *
  simp only [hj] at *
  rw [wanted_put oj a oi.dst v h1] at h
  split
  · rename_i hw
    simp only [hw, if_true] at h
    obtain ⟨u, hu, hn⟩ := h
    refine ⟨u, fun d => ?_, keep a hy u, by rw [← Act.put_comm a v u h2]; exact hn⟩
    have := hu d
    unfold Oper.quietAt at *
    rwa [execOp_put oj hsj a oi.dst v h1] at this
  · rename_i hw
    simp only [hw] at h
    exact ⟨keep a hy _, by rw [← Act.put_comm a v undef h2]; exact h⟩

/-- More than w, and v points to a new variable that holds z. -/
def NewAt (w : World) (z : Array Value) (t : TypeId) (v : Value) (w' : World) : Prop :=
  Below w.heap.size w w' ∧ ∃ b, v = .pointer (some ⟨b, 0, none⟩) ∧ w.heap.size ≤ b ∧ w'.heap[b]? = some (.cells z t (0, 0))
theorem kept_new (z : Array Value) (t : TypeId) (v : Value) : Kept w (NewAt w z t v) :=
  ⟨fun _ h => h.1, fun w' w'' ⟨h1, b, hv, hb, hh⟩ hb' => ⟨h1.trans (hb'.mono h1.size), b, hv, hb, by
    have hlt : b < w'.heap.size := by
      rcases Nat.lt_or_ge b w'.heap.size with h | h
      · exact h
      · rw [Array.getElem?_eq_none h] at hh; cases hh
    rw [hb'.block b hlt]; exact hh⟩⟩

/-- Whatever order is picked; operation ia makes the variable: v. -/
def wpAnyA (P : Program) (md : Region.Mode) (ops : Array Oper) (w : World) (z : Array Value) (t : TypeId) (n ia : Nat) (dst : Option Tmp) (L : Value → Array Bool → Act → Prop) : Nat → Array Bool → Act → Prop
  | 0, _, _ => False
  | f + 1, listed, a => Region.ready md ops listed ≠ [] ∧ ∀ i ∈ Region.ready md ops listed, i < n ∧
      ((i = ia → ∀ v, wpAnyC P md ops (NewAt w z t v) n (L v) f (listed.setIfInBounds ia true) (a.put dst v)) ∧
       (i ≠ ia → sOp P ops w i (wpAnyA P md ops w z t n ia dst L f (listed.setIfInBounds i true)) a))

theorem wpAnyA_first {z : Array Value} {t : TypeId} {n i ia : Nat} {oi oa : Oper} {v : Value} {L : Value → Array Bool → Act → Prop} (hi : ops[i]? = some oi) (hoa : ops[ia]? = some oa) (hsel : ∀ (j : Nat) (o : Oper) cs b, ops[j]? = some o → o.op ≠ .select cs b)
    (hs : Region.sinkB md ops n = true) (hc : Region.chainB md ops n = true) (hn : n < ops.size) (hin : i < n) (hia : i ≠ ia)
    (hdone : ∀ v listed a, L v listed a → ∀ j ∈ Region.ready md ops listed, n ≤ j) :
    ∀ (f : Nat) (listed : Array Bool) (a : Act), HeadInv md ops n listed →
      (∀ j oj, ops[j]? = some oj → j ≠ i → listed.getD j true = false → (∀ e ∈ oj.after, Region.binds md e = true → e.on ≠ i) → oi.apart ops oj = true) →
      i ∈ Region.ready md ops listed → YieldsS P ops w oi v a →
      wpAnyA P md ops w z t n ia oa.dst L f (listed.setIfInBounds i true) (a.put oi.dst v) → wpAnyA P md ops w z t n ia oa.dst L (f + 1) listed a := by
  intro f
  induction f with
  | zero => intro listed a _ _ _ _ H; exact H.elim
  | succ f ih =>
    intro listed a inv hfree hr hy H
    have hun := (mem_ready.1 hr).1
    refine ⟨fun h => (by rw [h] at hr; cases hr), fun j hj => ?_⟩
    have hjn : j < n := by
      rcases Nat.lt_or_ge j n with h | h
      · exact h
      · exact absurd hj (tail_waits hs hc hn inv _ i rfl hin hun j h)
    refine ⟨hjn, fun hja => ?_, fun hja => ?_⟩
    · subst hja
      have hji : j ≠ i := fun h => hia h.symm
      have h1 := (H.2 j (ready_mono hj hji)).2.1 rfl
      obtain ⟨hjun, oj, hoj, hall⟩ := mem_ready.1 hj
      have hnot : ∀ e ∈ oj.after, Region.binds md e = true → e.on ≠ i := fun e he hb heq => by
        have h1 := hall e he hb
        rw [heq, getD_both hun] at h1
        cases h1
      have hap := hfree j oj hoj hji hjun hnot
      have hooj : oj = oa := Option.some.inj (hoj.symm.trans hoa)
      subst hooj
      obtain ⟨h1a, h2a, h3a⟩ := Oper.apart_spec hap
      intro u
      have hfree' : ∀ k ok, ops[k]? = some ok → k ≠ i → (listed.setIfInBounds j true).getD k true = false →
          (∀ e ∈ ok.after, Region.binds md e = true → e.on ≠ i) → oi.apart ops ok = true := fun k ok hk hki hun hno => by
        refine hfree k ok hk hki ?_ hno
        by_cases hjk : j = k
        · subst hjk; exact hjun
        · rw [getD_set_ne true hjk] at hun; exact hun
      have hy' : YieldsS P ops w oi v (a.put oj.dst u) := hy.of_same (execOp_put oi (fun cs b => hsel i oi cs b hi) a oj.dst u h3a) (wanted_put oi a oj.dst u h3a)
      refine wpAnyC_first hi hsel hs hc hn hin (hdone u) f (listed.setIfInBounds j true) (a.put oj.dst u) (inv.set hj hjn) hfree' (ready_mono hr (Ne.symm hji)) (hy'.inClass (kept_new z t u)) ?_
      have h4 := h1 u
      rw [Array.setIfInBounds_comm _ _ hji, ← Act.put_comm a v u h2a]
      exact h4
    · by_cases hji : j = i
      · subst hji; exact hy.sOp hi H
      · have h1 := (H.2 j (ready_mono hj hji)).2.2 hja
        obtain ⟨hjun, oj, hoj, hall⟩ := mem_ready.1 hj
        have hnot : ∀ e ∈ oj.after, Region.binds md e = true → e.on ≠ i := fun e he hb heq => by
          have h1 := hall e he hb
          rw [heq, getD_both hun] at h1
          cases h1
        have h2 := sOp_put hoj (hfree j oj hoj hji hjun hnot) (fun cs b => hsel i oi cs b hi) (fun cs b => hsel j oj cs b hoj) hy h1
        have hfree' : ∀ k ok, ops[k]? = some ok → k ≠ i → (listed.setIfInBounds j true).getD k true = false →
            (∀ e ∈ ok.after, Region.binds md e = true → e.on ≠ i) → oi.apart ops ok = true := fun k ok hk hki hun hno => by
          refine hfree k ok hk hki ?_ hno
          by_cases hjk : j = k
          · subst hjk; exact hjun
          · rw [getD_set_ne true hjk] at hun; exact hun
        refine sOp_mono (fun a' h3 => ih (listed.setIfInBounds j true) a' (inv.set hj hjn) hfree' (ready_mono hr (Ne.symm hji)) h3.1 ?_) h2
        rw [Array.setIfInBounds_comm _ _ hji]
        exact h3.2

theorem kept_below (w : World) : Kept w (fun w' => Below w.heap.size w w') := ⟨fun _ h => h, fun _ _ h1 h2 => h1.trans (h2.mono h1.size)⟩
theorem sOp_qOp {C : World → Prop} (hC : Kept w C) {i : Nat} {a : Act} {K : Act → Prop} (h : sOp P ops w i K a) : qOp P ops C i K a := by
  unfold sOp at h
  unfold qOp
  split
  · rename_i ho; simp only [ho] at h; exact h
  · rename_i o ho
    simp only [ho] at h
    split
    · rename_i hw; simp only [hw, if_true] at h; exact sq_quiet hC h
    · rename_i hw; simp only [hw] at h; exact h

theorem wpAny_of_headA {z : Array Value} {t : TypeId} {n ia g : Nat} {oa : Oper} (hoa : ops[ia]? = some oa) (hgd : oa.guard = none) {L : Value → Array Bool → Act → Prop} {Q' : Exit → Act → World → Prop}
    (hal : ∀ (a : Act) (w' : World), (execOp a.eval oa).run P w' = .ok (.value (.pointer (some ⟨w'.heap.size, 0, none⟩))) (w'.alloc (.cells z t)))
    (hL : ∀ v listed a w', NewAt w z t v w' → L v listed a → wpAny P md ops Q' g listed a w') :
    ∀ (f : Nat) (listed : Array Bool) (a : Act) (w' : World), Below w.heap.size w w' → wpAnyA P md ops w z t n ia oa.dst L f listed a → wpAny P md ops Q' (f + g) listed a w'
  | 0, _, _, _, _, h => h.elim
  | f + 1, listed, a, w', hw, h => by
    rw [show f + 1 + g = (f + g) + 1 by omega]
    refine ⟨fun h0 => absurd h0 h.1, fun i hi => ?_⟩
    obtain ⟨_, h1, h2⟩ := h.2 i hi
    by_cases hia : i = ia
    · subst hia
      have h3 := h1 rfl (.pointer (some ⟨w'.heap.size, 0, none⟩))
      have hnew : NewAt w z t (.pointer (some ⟨w'.heap.size, 0, none⟩)) (w'.alloc (.cells z t)) :=
        ⟨hw.alloc hw.size _, w'.heap.size, rfl, hw.size, by show (w'.heap.push _)[w'.heap.size]? = _; simp⟩
      unfold wpOp
      simp only [hoa]
      rw [if_pos (by simp [Region.wanted, hgd])]
      left
      unfold Oper.wp
      rw [hal a w']
      exact wpAny_of_headC (fun listed' a' w'' hw'' hL' => hL _ listed' a' w'' hw'' hL') f _ _ _ hnew h3
    · exact wpOp_of_qOp hw (fun a' w'' hw'' h' => wpAny_of_headA hoa hgd hal hL f _ a' w'' hw'' h') (sOp_qOp (kept_below w) (h2 hia))

theorem wpAnyA_lex {z : Array Value} {t : TypeId} {n ia g : Nat} {oa : Oper} (hoa : ops[ia]? = some oa) (hia : n = ia + 1) {Lq : Value → Act → Prop} (hsel : Region.noSelect ops = true) (hs : Region.sinkB md ops n = true) (hc : Region.chainB md ops n = true) (hn : n < ops.size) :
    ∀ (l : List Oper) (k : Nat) (listed : Array Bool) (a : Act), (∀ j, j < l.length → l[j]? = ops[k + j]?) → k + l.length = ia → (∀ j, j < k → listed.getD j true = true) → HeadInv md ops n listed →
    Region.lexHead md ops g (l.length + 1) k listed = true → wpSq P ops w (fun a' => ∀ v, Lq v (a'.put oa.dst v)) l a →
    wpAnyA P md ops w z t n ia oa.dst (fun v listed' a' => Region.seqB md ops g n listed' = true ∧ Lq v a') (l.length + 1) listed a
  | [], k, listed, a, _, hk, hdone, inv, hB, h => by
    have hk' : k = ia := by simpa using hk
    subst hk'
    simp only [List.length_nil, Region.lexHead, Bool.and_eq_true] at hB
    obtain ⟨⟨hr, _⟩, hB'⟩ := hB
    have hr' : k ∈ Region.ready md ops listed := by simpa using hr
    have hun := (mem_ready.1 hr').1
    refine ⟨fun h => (by rw [h] at hr'; cases hr'), fun j hj => ?_⟩
    have hjn : j < n := by
      rcases Nat.lt_or_ge j n with h | h
      · exact h
      · exact absurd hj (tail_waits hs hc hn inv _ k rfl (by omega) hun j h)
    refine ⟨hjn, fun _ v => ⟨by rw [hia]; exact hB', h v⟩, fun hne => ?_⟩
    have hjun := (mem_ready.1 hj).1
    rw [hdone j (by omega)] at hjun
    cases hjun
  | o :: l, k, listed, a, hl, hk, hdone, inv, hB, h => by
    have h0 : ops[k]? = some o := by simpa using (hl 0 (by simp)).symm
    rw [List.length_cons] at hB ⊢
    simp only [Region.lexHead, Bool.and_eq_true] at hB
    obtain ⟨⟨hr, hf⟩, hB'⟩ := hB
    have hkn : k < n := by simp only [List.length_cons] at hk; omega
    have hka : k ≠ ia := by simp only [List.length_cons] at hk; omega
    have hr' : k ∈ Region.ready md ops listed := by simpa using hr
    have hst : sOp P ops w k (wpSq P ops w (fun a' => ∀ v, Lq v (a'.put oa.dst v)) l) a := by unfold sOp; simp only [h0]; exact h
    obtain ⟨v, hy, hK⟩ := yieldsS_of_sOp h0 hst
    refine wpAnyA_first h0 hoa (Region.noSelect_spec hsel) hs hc hn hkn hka (fun v listed' a' hL => seqB_ready hL.1) (l.length + 1) listed a inv (Region.free_spec h0 hf) hr' hy ?_
    refine wpAnyA_lex hoa hia hsel hs hc hn l (k + 1) _ _ (fun j hj => by have := hl (j + 1) (by simp; omega); simpa [Nat.add_assoc, Nat.add_comm 1 j] using this) (by simp only [List.length_cons] at hk; omega) (fun j hj => ?_) (inv.set hr' hkn) (by simp only [Region.lexHead, Bool.and_eq_true]; exact hB') hK
    rcases Nat.lt_or_ge j k with h | h
    · rw [getD_set_ne true (by omega)]; exact hdone j h
    · have : j = k := by omega
      subst this
      rcases Nat.lt_or_ge j listed.size with h' | h'
      · simp [h']
      · simp

theorem wpSq_mono {Q Q' : Act → Prop} (h : ∀ a, Q a → Q' a) : ∀ (l : List Oper) (a : Act), wpSq P ops w Q l a → wpSq P ops w Q' l a
  | [], a, hh => h a hh
  | o :: l, a, hh => by
    unfold wpSq at *
    split
    · rename_i hw
      rw [if_pos hw] at hh
      obtain ⟨v, h1, h2⟩ := hh
      exact ⟨v, h1, wpSq_mono h l _ h2⟩
    · rename_i hw
      rw [if_neg hw] at hh
      exact wpSq_mono h l _ hh

/-- THE FIRST ia OPERATIONS QUIET (whatever more there is), OPERATION ia A NEW VARIABLE THAT NOTHING FORCES, THE REST FORCED: one walk. -/
theorem wp_region_ext_alloc {id : Nat} {Q : Exit → Act → World → Prop} {a : Act} {l : List Oper} {oa : Oper} (ia : Nat) (z : Array Value) (t : TypeId)
    (hm : P.follows .mixedOrders = true) (hB : Region.lexTailB .any l.toArray (ia + 1) = true) (hoa : l[ia]? = some oa) (hgd : oa.guard = none)
    (hal : ∀ (a : Act) (w' : World), (execOp a.eval oa).run P w' = .ok (.value (.pointer (some ⟨w'.heap.size, 0, none⟩))) (w'.alloc (.cells z t)))
    (h : wpSq P l.toArray w (fun a' => ∀ v w', NewAt w z t v w' → wpList P l.toArray Q (l.drop (ia + 1)) (a'.put oa.dst v) w') (l.take ia) a) :
    (Code.region id l.toArray true).wp P Q a w := by
  simp only [Region.lexTailB, Bool.and_eq_true, decide_eq_true_eq] at hB
  obtain ⟨⟨⟨⟨hsel, hn⟩, hs⟩, hc⟩, hlex⟩ := hB
  have hn' : ia + 1 < l.length := by simpa using hn
  have htl : (l.take ia).length = ia := by simp; omega
  have hdl : (l.drop (ia + 1)).length = l.toArray.size - (ia + 1) := by simp
  have inv0 : HeadInv .any l.toArray (ia + 1) (Array.replicate l.toArray.size false) :=
    ⟨by simp, fun j oj _ hl => (by rw [getD_replicate_false] at hl; cases hl), fun t _ ht => getD_in (by simpa using ht) (getD_replicate_false _ _)⟩
  have hC : Below w.heap.size w { w with drawn := w.drawn + 1 } := ⟨rfl, rfl, rfl, Nat.le_refl _, fun _ _ => rfl⟩
  have H := wpAnyA_lex (P := P) (w := w) (z := z) (t := t) (md := .any) (g := l.toArray.size - (ia + 1)) (oa := oa)
    (Lq := fun v a' => ∀ w', NewAt w z t v w' → wpList P l.toArray Q (l.drop (ia + 1)) a' w') (by simpa using hoa) rfl hsel hs hc hn (l.take ia) 0 (Array.replicate l.toArray.size false) a (fun j hj => by
      have hj' : j < ia := by rw [htl] at hj; exact hj
      simp [hj']) (by simpa using htl) (fun j hj => absurd hj (by omega)) inv0 (by rw [htl]; exact hlex) (wpSq_mono (fun a' h v w' hw' => h v w' hw') _ _ h)
  refine wp_region_any hm ?_
  have := wpAny_of_headA (P := P) (w := w) (z := z) (t := t) (Q' := Q) (g := l.toArray.size - (ia + 1)) (oa := oa) (by simpa using hoa) hgd hal (fun v listed a' w' hw' hL => by
    have := wpAny_of_seq (md := .any) (Q' := Q) (l.drop (ia + 1)) (ia + 1) listed a' w' (fun j => by simp [List.getElem?_drop]) (by rw [hdl]; exact hL.1) (hL.2 w' hw')
    rwa [hdl] at this) _ _ _ _ hC H
  rw [htl, show ia + 1 + (l.toArray.size - (ia + 1)) = l.toArray.size by omega] at this
  exact this

/-- A call in such a region, by the callee's contract. -/
theorem sq_call {f : FuncId} {args : Array Value} {d : Ext w} {v : Value} (h : Calls P f args d.u fun e w' => e = .returned v ∧ RowKit.Below d.u.heap.size d.u w') :
    Calls P f args d.u fun e w'' => e = .returned v ∧ ∃ d' : Ext d.u, w'' = d'.u :=
  h.mono fun _ w' ⟨he, hb⟩ => ⟨he, ⟨w', hb⟩, rfl⟩
theorem sq_same {f : FuncId} {args : Array Value} {d : Ext w} {v : Value} (h : Calls P f args d.u fun e w' => e = .returned v ∧ d.u = w') :
    Calls P f args d.u fun e w'' => e = .returned v ∧ ∃ d' : Ext d.u, w'' = d'.u :=
  h.mono fun _ _ ⟨he, hb⟩ => ⟨he, ⟨d.u, Below.refl _ _⟩, hb.symm⟩
theorem new_cell {w' : World} {b : Nat} {z : Array Value} {t : TypeId} (h : w'.heap[b]? = some (.cells z t (0, 0))) (i : Nat) (v : Value) (hi : z[i]? = some v) :
    w'.cell? ⟨b, i, none⟩ = some v := by
  simp [World.cell?, h, hi]
theorem new_free {w' : World} {b : Nat} {z : Array Value} {t : TypeId} (h : w'.heap[b]? = some (.cells z t (0, 0))) (i : Nat) :
    w'.frozen? ⟨b, i, none⟩ = false := by
  simp [World.frozen?, h]
end
end Go.Proofs.Ytfoiadlaekknpaa
namespace Go.Proofs.Ytfoiadlaekknpaa
open Go RowKit

/-- An operation without its edges. -/
def bare (o : Oper) : Oper := { o with after := #[] }
def addEdge (ops : Array Oper) (p q : Nat) : Array Oper := ops.modify q fun o => { o with after := o.after.push { on := p, ground := .data } }

section
variable {P : Program} {md : Region.Mode} {ops ops' : Array Oper} {Q : Exit → Act → World → Prop}

theorem bare_exec {o o' : Oper} (h : bare o = bare o') (ρ : Operand → Value) : execOp ρ o = execOp ρ o' := by
  have h1 : execOp ρ o = execOp ρ (bare o) := by cases o; rfl
  have h2 : execOp ρ o' = execOp ρ (bare o') := by cases o'; rfl
  rw [h1, h2, h]
theorem bare_dst {o o' : Oper} (h : bare o = bare o') : o.dst = o'.dst := by
  have := congrArg Oper.dst h; exact this
theorem bare_guard {o o' : Oper} (h : bare o = bare o') : o.guard = o'.guard := by
  have := congrArg Oper.guard h; exact this
theorem bare_op {o o' : Oper} (h : bare o = bare o') : o.op = o'.op := by
  have := congrArg Oper.op h; exact this
theorem bare_wanted {o o' : Oper} (h : bare o = bare o') (y : Nat → Option Bool) : Region.wanted o y = Region.wanted o' y := by
  unfold Region.wanted; rw [bare_guard h]
theorem bare_wp {o o' : Oper} (h : bare o = bare o') (a : Act) (w : World) (K : Act → World → Prop) : o.wp P a w K Q = o'.wp P a w K Q := by
  unfold Oper.wp
  rw [bare_exec h]
  generalize (execOp a.eval o').run P w = r
  cases r with
  | ok n w' => cases n <;> simp only [Oper.upon, bare_dst h]
  | halt x w' => cases x <;> simp only [Oper.upon]
theorem bare_asks {o o' : Oper} (h : bare o = bare o') (a : Act) (w : World) : o.asks P a w = o'.asks P a w := by
  unfold Oper.asks; rw [bare_exec h]

/-- Two regions that part in edges alone. -/
def SameBare (ops ops' : Array Oper) : Prop := ∀ i : Nat, (ops[i]?).map bare = (ops'[i]?).map bare
theorem SameBare.yielded (h : SameBare ops ops') (t : Array Value) : yielded ops t = yielded ops' t := by
  funext j
  have hj := h j
  have : (ops[j]?).bind (·.dst) = (ops'[j]?).bind (·.dst) := by
    cases h1 : ops[j]? <;> cases h2 : ops'[j]? <;> rw [h1, h2] at hj
    · simp at hj
    · simp at hj
    · simp only [Option.map_some, Option.some.injEq] at hj
      simpa using bare_dst hj
  unfold Go.yielded
  rw [this]
theorem SameBare.wpOp (h : SameBare ops ops') (i : Nat) (K : Act → World → Prop) (a : Act) (w : World) : wpOp P ops Q i K a w = wpOp P ops' Q i K a w := by
  have hi := h i
  unfold Go.wpOp
  rw [h.yielded]
  cases h1 : ops[i]? <;> cases h2 : ops'[i]? <;> rw [h1, h2] at hi
  · simp at hi
  · simp at hi
  · simp only [Option.map_some, Option.some.injEq] at hi
    simp only [bare_wanted hi, bare_wp hi, bare_asks hi, bare_dst hi]
theorem wpList_bare (h : SameBare ops ops') : ∀ (l l' : List Oper) (a : Act) (w : World), l.map bare = l'.map bare → wpList P ops Q l a w = wpList P ops' Q l' a w
  | [], [], _, _, _ => rfl
  | [], _ :: _, _, _, hl => by simp at hl
  | _ :: _, [], _, _, hl => by simp at hl
  | o :: l, o' :: l', a, w, hl => by
    simp only [List.map_cons, List.cons.injEq] at hl
    obtain ⟨ho, hl⟩ := hl
    have hr : wpList P ops Q l = wpList P ops' Q l' := by funext a w; exact wpList_bare h l l' a w hl
    unfold wpList
    rw [h.yielded, bare_wanted ho, bare_wp ho, bare_asks ho, bare_dst ho, hr]
theorem wpSq_bare {w : World} {R : Act → Prop} (h : SameBare ops ops') : ∀ (l l' : List Oper) (a : Act), l.map bare = l'.map bare → wpSq P ops w R l a = wpSq P ops' w R l' a
  | [], [], _, _ => rfl
  | [], _ :: _, _, hl => by simp at hl
  | _ :: _, [], _, hl => by simp at hl
  | o :: l, o' :: l', a, hl => by
    simp only [List.map_cons, List.cons.injEq] at hl
    obtain ⟨ho, hl⟩ := hl
    have hr : wpSq P ops w R l = wpSq P ops' w R l' := by funext a; exact wpSq_bare h l l' a hl
    have hs : sq P w o a = sq P w o' a := by
      funext K
      unfold sq Oper.quietAt
      rw [bare_exec ho, bare_dst ho]
    unfold wpSq
    rw [h.yielded, bare_wanted ho, bare_dst ho, hr, hs]

theorem wpQuiet_bare {C : World → Prop} {R : Act → Prop} (h : SameBare ops ops') : ∀ (l l' : List Oper) (a : Act), l.map bare = l'.map bare → wpQuiet P ops C R l a = wpQuiet P ops' C R l' a
  | [], [], _, _ => rfl
  | [], _ :: _, _, hl => by simp at hl
  | _ :: _, [], _, hl => by simp at hl
  | o :: l, o' :: l', a, hl => by
    simp only [List.map_cons, List.cons.injEq] at hl
    obtain ⟨ho, hl⟩ := hl
    have hr : wpQuiet P ops C R l = wpQuiet P ops' C R l' := by funext a; exact wpQuiet_bare h l l' a hl
    have hs : o.quiet P a C = o'.quiet P a C := by
      funext K
      unfold Oper.quiet Oper.quietAt
      rw [bare_exec ho, bare_dst ho]
    unfold wpQuiet
    rw [h.yielded, bare_wanted ho, bare_dst ho, hr, hs]

theorem getElem?_addEdge {p q i : Nat} : (addEdge ops p q)[i]? = if q = i then (ops[i]?).map (fun o => { o with after := o.after.push { on := p, ground := .data } }) else ops[i]? := by
  unfold addEdge; rw [Array.getElem?_modify]
theorem sameBare_addEdge (p q : Nat) : SameBare (addEdge ops p q) ops := fun i => by
  rw [getElem?_addEdge]
  split
  · cases ops[i]? <;> rfl
  · rfl

theorem ready_addEdge {p q j : Nat} {listed : Array Bool} : j ∈ Region.ready md (addEdge ops p q) listed ↔ j ∈ Region.ready md ops listed ∧ (j = q → listed.getD p false = true) := by
  rw [mem_ready, mem_ready]
  constructor
  · rintro ⟨h0, o, ho, hall⟩
    rw [getElem?_addEdge] at ho
    by_cases hq : q = j
    · rw [if_pos hq] at ho
      cases h1 : ops[j]? with
      | none => rw [h1] at ho; simp at ho
      | some o1 =>
        rw [h1] at ho
        simp only [Option.map_some, Option.some.injEq] at ho
        subst ho
        exact ⟨⟨h0, o1, rfl, fun e he hb => hall e (by simp [he]) hb⟩, fun _ => hall { on := p, ground := .data } (by simp) rfl⟩
    · rw [if_neg hq] at ho
      exact ⟨⟨h0, o, ho, hall⟩, fun h => absurd h.symm hq⟩
  · rintro ⟨⟨h0, o, ho, hall⟩, hp⟩
    refine ⟨h0, ?_⟩
    rw [getElem?_addEdge]
    by_cases hq : q = j
    · rw [if_pos hq, ho]
      refine ⟨_, rfl, fun e he hb => ?_⟩
      simp only [Array.mem_push] at he
      rcases he with he | rfl
      · exact hall e he hb
      · exact hp hq.symm
    · rw [if_neg hq]
      exact ⟨o, ho, hall⟩

/-- Operations that look at no world: a value handed on, a tuple taken apart. -/
def pureOp : Op → Bool
  | .extract _ _ => true
  | .move _ => true
  | _ => false
/-- What a part of a region that looks at no world does, it does in every world. -/
theorem pure_yields {p : Nat} {op : Oper} (hp : ops[p]? = some op) (hop : pureOp op.op = true) (hQ : ∀ e a w, Q e a w → e = .normal)
    {K : Act → World → Prop} {a : Act} {w : World} (h : wpOp P ops Q p K a w) : ∃ v, Yields P ops op v a ∧ K (a.put op.dst v) w := by
  have hnl : ¬ LetsOut Q := fun ⟨a, w, h⟩ => by have := hQ _ _ _ h; cases this
  unfold wpOp at h
  simp only [hp] at h
  by_cases hw : Region.wanted op (yielded ops a.tmps) = true
  · simp only [hw, if_true] at h
    have h := h.resolve_right (fun h => hnl h.2)
    cases hk : op.op <;> rw [hk] at hop <;> try (simp [pureOp] at hop; done)
    case move x =>
      have he : execOp a.eval op = pure (.value (a.eval x)) := by unfold execOp; rw [hk]
      unfold Oper.wp at h
      rw [he] at h
      refine ⟨a.eval x, .inl ⟨hw, fun w2 => ?_⟩, ?_⟩
      · rw [he]; simp [go_sem]
      · simpa [go_sem, Oper.upon] using h
    case extract x ix =>
      have he : execOp a.eval op = (do pure (.value (← Instr.extract (a.eval x) ix))) := by unfold execOp; rw [hk]
      unfold Oper.wp at h
      rw [he] at h
      unfold Instr.extract at h he
      cases hx : a.eval x <;> rw [hx] at h he <;> simp only at h he
      case tuple vs =>
        cases hv : vs[ix]? with
        | none => rw [hv] at h; simp [go_sem, stuck, Oper.upon] at h
        | some v =>
          rw [hv] at h he
          refine ⟨v, .inl ⟨hw, fun w2 => ?_⟩, ?_⟩
          · rw [he]; simp [go_sem]
          · simpa [go_sem, Oper.upon] using h
      all_goals (simp [go_sem, stuck, Oper.upon] at h)
  · simp only [hw] at h
    exact ⟨undef, .inr ⟨by simpa using hw, rfl⟩, h⟩

theorem wpAny_edge {p q : Nat} {op oq : Oper} (hp : ops[p]? = some op) (hop : pureOp op.op = true) (hq : ops[q]? = some oq) (hpq : p ≠ q)
    (hsel : ∀ (j : Nat) (o : Oper) cs b, ops[j]? = some o → o.op ≠ .select cs b) (hQ : ∀ e a w, Q e a w → e = .normal)
    (hcover : ∀ e ∈ op.after, Region.binds md e = true → ∃ e' ∈ oq.after, Region.binds md e' = true ∧ e'.on = e.on)
    (hfree : ∀ j oj, ops[j]? = some oj → j ≠ p → (∀ e ∈ oj.after, Region.binds md e = true → e.on ≠ p) → (∀ e ∈ op.after, Region.binds md e = true → e.on ≠ j) → op.apart ops oj = true) :
    ∀ (fuel : Nat) (listed : Array Bool) (a : Act) (w : World), p < listed.size → wpAny P md (addEdge ops p q) Q fuel listed a w → wpAny P md ops Q fuel listed a w := by
  have hnil : ∀ listed : Array Bool, p < listed.size → Region.ready md (addEdge ops p q) listed = [] → Region.ready md ops listed = [] := fun listed hs h => by
    rw [List.eq_nil_iff_forall_not_mem] at h ⊢
    intro j hj
    by_cases hl : listed.getD p false = true
    · exact h j (ready_addEdge.2 ⟨hj, fun _ => hl⟩)
    · by_cases hjq : j = q
      · subst hjq
        obtain ⟨_, o, ho, hall⟩ := mem_ready.1 hj
        have : o = oq := Option.some.inj (ho.symm.trans hq)
        subst this
        refine h p (ready_addEdge.2 ⟨mem_ready.2 ⟨getD_in hs (by simpa using hl), op, hp, fun e he hb => ?_⟩, fun h => absurd h hpq⟩)
        obtain ⟨e', he', hb', hon⟩ := hcover e he hb
        rw [← hon]; exact hall e' he' hb'
      · exact h j (ready_addEdge.2 ⟨hj, fun h => absurd h hjq⟩)
  intro fuel
  induction fuel with
  | zero => intro listed a w hs h; exact ⟨hnil listed hs h.1, h.2⟩
  | succ fuel ih =>
    intro listed a w hs h
    have step : ∀ i, i ∈ Region.ready md (addEdge ops p q) listed → wpOp P ops Q i (wpAny P md ops Q fuel (listed.setIfInBounds i true)) a w := fun i hi => by
      have h1 := h.2 i hi
      rw [(sameBare_addEdge p q).wpOp] at h1
      exact wpOp_mono (fun a' w' h' => ih _ a' w' (by simpa using hs) h') h1
    by_cases hl : listed.getD p false = true
    · refine ⟨fun h0 => h.1 (List.eq_nil_iff_forall_not_mem.2 fun j hj => ?_), fun i hi => step i (ready_addEdge.2 ⟨hi, fun _ => hl⟩)⟩
      have := (ready_addEdge.1 hj).1
      rw [h0] at this
      cases this
    · by_cases hr : p ∈ Region.ready md ops listed
      · obtain ⟨v, hy, hK⟩ := pure_yields hp hop hQ (step p (ready_addEdge.2 ⟨hr, fun h => absurd h hpq⟩))
        refine wpAny_first hp hsel (fun c a w h => by have := hQ _ _ _ h; cases this) fuel listed a w (fun j oj hj hjp hun hno => hfree j oj hj hjp hno fun e he hb heq => ?_) hr hy hK
        obtain ⟨_, o, ho, hall⟩ := mem_ready.1 hr
        have : o = op := Option.some.inj (ho.symm.trans hp)
        subst this
        have h1 := hall e he hb
        rw [heq, getD_both hun] at h1
        cases h1
      · refine ⟨fun h0 => h.1 (List.eq_nil_iff_forall_not_mem.2 fun j hj => ?_), fun i hi => step i (ready_addEdge.2 ⟨hi, fun hiq => ?_⟩)⟩
        · have := (ready_addEdge.1 hj).1
          rw [h0] at this
          cases this
        · exfalso
          subst hiq
          obtain ⟨_, o, ho, hall⟩ := mem_ready.1 hi
          have : o = oq := Option.some.inj (ho.symm.trans hq)
          subst this
          refine hr (mem_ready.2 ⟨getD_in hs (by simpa using hl), op, hp, fun e he hb => ?_⟩)
          obtain ⟨e', he', hb', hon⟩ := hcover e he hb
          rw [← hon]; exact hall e' he' hb'

/-- Nothing but what ends normally. -/
def normalOnly (Q : Exit → Act → World → Prop) (e : Exit) (a : Act) (w : World) : Prop := e = .normal ∧ Q .normal a w
theorem Oper.wp_only {o : Oper} {a : Act} {w : World} {K : Act → World → Prop} (h : o.wp P a w K (normalOnly Q)) : o.wp P a w K Q := by
  unfold Oper.wp at *
  generalize (execOp a.eval o).run P w = r at *
  cases r with
  | ok n w' =>
    cases n <;> simp only [Oper.upon] at h ⊢ <;> try exact h
    exact Calls.mono h fun e w'' he => by
      cases e with
      | returned u => exact he
      | panicked c => exact absurd he.1 (by simp)
      | outgrown => obtain ⟨a, w, h, _⟩ := he; cases h
  | halt x w' =>
    cases x <;> simp only [Oper.upon] at h ⊢
    exact absurd h.1 (by simp)
theorem wpOp_only {i : Nat} {a : Act} {w : World} {K : Act → World → Prop} (h : wpOp P ops (normalOnly Q) i K a w) : wpOp P ops Q i K a w := by
  unfold wpOp at *
  split
  · rename_i ho; simp only [ho] at h; exact h
  · rename_i o ho
    simp only [ho] at h
    split
    · rename_i hw
      simp only [hw, if_true] at h
      rcases h with h | ⟨_, a, w, h, _⟩
      · exact .inl (Oper.wp_only h)
      · cases h
    · rename_i hw; simp only [hw] at h; exact h
theorem wpAny_only : ∀ (fuel : Nat) (listed : Array Bool) (a : Act) (w : World), wpAny P md ops (normalOnly Q) fuel listed a w → wpAny P md ops Q fuel listed a w
  | 0, _, _, _, h => ⟨h.1, h.2.2⟩
  | fuel + 1, _, _, _, h => ⟨fun h0 => (h.1 h0).2, fun i hi => wpOp_only (wpOp_mono (fun a' w' h' => wpAny_only fuel _ a' w' h') (h.2 i hi))⟩

/-- What is asked of an edge that is laid in, as a Bool. -/
def edgeB (md : Region.Mode) (ops : Array Oper) (p q : Nat) : Bool :=
  match ops[p]?, ops[q]? with
  | some op, some oq =>
    pureOp op.op && decide (p ≠ q) && Region.noSelect ops &&
    (op.after.toList.all fun e => !Region.binds md e || oq.after.toList.any fun e' => Region.binds md e' && e'.on == e.on) &&
    ((List.range ops.size).all fun j => match ops[j]? with
      | some oj => decide (j = p) || (oj.after.toList.any fun e => Region.binds md e && e.on == p) || (op.after.toList.any fun e => Region.binds md e && e.on == j) || op.apart ops oj
      | none => true)
  | _, _ => false
theorem wpAny_edgeB {p q : Nat} (hB : edgeB md ops p q = true) (hQ : ∀ e a w, Q e a w → e = .normal) {fuel : Nat} {listed : Array Bool} {a : Act} {w : World} (hs : listed.size = ops.size)
    (h : wpAny P md (addEdge ops p q) Q fuel listed a w) : wpAny P md ops Q fuel listed a w := by
  unfold edgeB at hB
  cases hp : ops[p]? with
  | none => simp [hp] at hB
  | some op =>
    cases hq : ops[q]? with
    | none => simp [hp, hq] at hB
    | some oq =>
      simp only [hp, hq, Bool.and_eq_true, decide_eq_true_eq] at hB
      obtain ⟨⟨⟨⟨h1, hpq⟩, hsel⟩, hcov⟩, hfree⟩ := hB
      have hlt : p < ops.size := (Array.getElem?_eq_some_iff.1 hp).1
      refine wpAny_edge hp h1 hq hpq (Region.noSelect_spec hsel) hQ (fun e he hb => ?_) (fun j oj hj hjp h1 h2 => ?_) fuel listed a w (by omega) h
      · have := List.all_eq_true.1 hcov e (by simpa using he)
        simp only [hb, Bool.not_true, Bool.false_or] at this
        obtain ⟨e', he', hb'⟩ := List.any_eq_true.1 this
        simp only [Bool.and_eq_true, beq_iff_eq] at hb'
        exact ⟨e', by simpa using he', hb'.1, hb'.2⟩
      · have hjlt : j < ops.size := (Array.getElem?_eq_some_iff.1 hj).1
        have := List.all_eq_true.1 hfree j (by simpa using hjlt)
        simp only [hj, Bool.or_eq_true, decide_eq_true_eq] at this
        rcases this with ((h | h) | h) | h
        · exact absurd h hjp
        · obtain ⟨e, he, hb⟩ := List.any_eq_true.1 h
          simp only [Bool.and_eq_true, beq_iff_eq] at hb
          exact absurd hb.2 (h1 e (by simpa using he) hb.1)
        · obtain ⟨e, he, hb⟩ := List.any_eq_true.1 h
          simp only [Bool.and_eq_true, beq_iff_eq] at hb
          exact absurd hb.2 (h2 e (by simpa using he) hb.1)
        · exact h

def addEdges : List (Nat × Nat) → Array Oper → Array Oper
  | [], ops => ops
  | (p, q) :: es, ops => addEdges es (addEdge ops p q)
def edgesB (md : Region.Mode) : List (Nat × Nat) → Array Oper → Bool
  | [], _ => true
  | (p, q) :: es, ops => edgeB md ops p q && edgesB md es (addEdge ops p q)
theorem size_addEdge (p q : Nat) : (addEdge ops p q).size = ops.size := by simp [addEdge]
theorem wpAny_edges (hQ : ∀ e a w, Q e a w → e = .normal) : ∀ (es : List (Nat × Nat)) (ops : Array Oper) {fuel : Nat} {listed : Array Bool} {a : Act} {w : World}, edgesB md es ops = true → listed.size = ops.size →
    wpAny P md (addEdges es ops) Q fuel listed a w → wpAny P md ops Q fuel listed a w
  | [], _, _, _, _, _, _, _, h => h
  | (p, q) :: es, ops, _, _, _, _, hB, hs, h => by
    simp only [edgesB, Bool.and_eq_true] at hB
    exact wpAny_edgeB hB.1 hQ hs (wpAny_edges hQ es (addEdge ops p q) hB.2 (by rw [size_addEdge]; exact hs) h)
theorem sameBare_trans {o1 o2 o3 : Array Oper} (h1 : SameBare o1 o2) (h2 : SameBare o2 o3) : SameBare o1 o3 := fun i => (h1 i).trans (h2 i)
theorem sameBare_addEdges : ∀ (es : List (Nat × Nat)) (ops : Array Oper), SameBare (addEdges es ops) ops
  | [], _ => fun _ => rfl
  | (p, q) :: es, ops => sameBare_trans (sameBare_addEdges es (addEdge ops p q)) (sameBare_addEdge p q)
theorem sameBare_list (h : SameBare ops ops') : ops.toList.map bare = ops'.toList.map bare := by
  apply List.ext_getElem?
  intro i
  have := h i
  simpa using this
theorem size_addEdges : ∀ (es : List (Nat × Nat)) (ops : Array Oper), (addEdges es ops).size = ops.size
  | [], _ => rfl
  | (p, q) :: es, _ => (size_addEdges es _).trans (size_addEdge p q)

/-- .. behind edges that make no difference. -/
theorem wp_region_loose_alloc {id : Nat} {w : World} {a : Act} {l : List Oper} {oa : Oper} (es : List (Nat × Nat)) (ia : Nat) (z : Array Value) (t : TypeId)
    (hm : P.follows .mixedOrders = true) (hE : edgesB .any es l.toArray = true) (hB : Region.lexTailB .any (addEdges es l.toArray) (ia + 1) = true) (hoa : l[ia]? = some oa) (hgd : oa.guard = none)
    (hal : ∀ (a : Act) (w' : World), (execOp a.eval oa).run P w' = .ok (.value (.pointer (some ⟨w'.heap.size, 0, none⟩))) (w'.alloc (.cells z t)))
    (h : wpSq P l.toArray w (fun a' => ∀ v w', NewAt w z t v w' → wpList P l.toArray (normalOnly Q) (l.drop (ia + 1)) (a'.put oa.dst v) w') (l.take ia) a) :
    (Code.region id l.toArray true).wp P Q a w := by
  have hsb := sameBare_addEdges es l.toArray
  have hL := sameBare_list hsb
  have hsz := size_addEdges es l.toArray
  have hlen : (addEdges es l.toArray).toList.length = l.length := by simpa using hsz
  obtain ⟨oa', hoa', hba⟩ : ∃ oa', (addEdges es l.toArray)[ia]? = some oa' ∧ bare oa' = bare oa := by
    have := hsb ia
    rw [show (l.toArray)[ia]? = some oa by simpa using hoa] at this
    cases h1 : (addEdges es l.toArray)[ia]? with
    | none => rw [h1] at this; simp at this
    | some o => rw [h1] at this; exact ⟨o, rfl, by simpa using this⟩
  refine wp_region_any hm (wpAny_only _ _ _ _ (wpAny_edges (fun e a w h => h.1) es l.toArray hE (by simp) ?_))
  simp only [Region.lexTailB, Bool.and_eq_true, decide_eq_true_eq] at hB
  obtain ⟨⟨⟨⟨hsel, hn⟩, hs⟩, hc⟩, hlex⟩ := hB
  have hn' : ia + 1 < l.length := by rw [hsz] at hn; simpa using hn
  have htl : ((addEdges es l.toArray).toList.take ia).length = ia := by rw [List.length_take, hlen]; omega
  have hdl : ((addEdges es l.toArray).toList.drop (ia + 1)).length = (addEdges es l.toArray).size - (ia + 1) := by simp
  have inv0 : HeadInv .any (addEdges es l.toArray) (ia + 1) (Array.replicate (addEdges es l.toArray).size false) :=
    ⟨by simp, fun j oj _ hl => (by rw [getD_replicate_false] at hl; cases hl), fun t _ ht => getD_in (by simpa using ht) (getD_replicate_false _ _)⟩
  have hC : Below w.heap.size w { w with drawn := w.drawn + 1 } := ⟨rfl, rfl, rfl, Nat.le_refl _, fun _ _ => rfl⟩
  have hTake : ((addEdges es l.toArray).toList.take ia).map bare = (l.take ia).map bare := by rw [List.map_take, List.map_take, hL]
  have hDrop : ((addEdges es l.toArray).toList.drop (ia + 1)).map bare = (l.drop (ia + 1)).map bare := by rw [List.map_drop, List.map_drop, hL]
  have h' : wpSq P (addEdges es l.toArray) w (fun a' => ∀ v w', NewAt w z t v w' → wpList P (addEdges es l.toArray) (normalOnly Q) ((addEdges es l.toArray).toList.drop (ia + 1)) (a'.put oa'.dst v) w')
      ((addEdges es l.toArray).toList.take ia) a := by
    rw [wpSq_bare hsb _ _ _ hTake]
    refine wpSq_mono (fun a' h v w' hw' => ?_) _ _ h
    rw [wpList_bare hsb _ _ _ _ hDrop, bare_dst hba]
    exact h v w' hw'
  have H := wpAnyA_lex (P := P) (w := w) (z := z) (t := t) (md := .any) (g := (addEdges es l.toArray).size - (ia + 1)) (oa := oa')
    (Lq := fun v a' => ∀ w', NewAt w z t v w' → wpList P (addEdges es l.toArray) (normalOnly Q) ((addEdges es l.toArray).toList.drop (ia + 1)) a' w') hoa' rfl hsel hs hc hn ((addEdges es l.toArray).toList.take ia) 0 (Array.replicate (addEdges es l.toArray).size false) a (fun j hj => by
      have hj' : j < ia := by rw [htl] at hj; exact hj
      simp [hj']) (by rw [htl]; omega) (fun j hj => absurd hj (by omega)) inv0 (by rw [htl]; exact hlex) (wpSq_mono (fun a' h v w' hw' => h v w' hw') _ _ h')
  have := wpAny_of_headA (P := P) (w := w) (z := z) (t := t) (Q' := normalOnly Q) (g := (addEdges es l.toArray).size - (ia + 1)) (oa := oa') hoa' (by rw [bare_guard hba]; exact hgd) (fun a w' => by rw [bare_exec hba]; exact hal a w') (fun v listed a' w' hw' hL => by
    have := wpAny_of_seq (md := .any) (Q' := normalOnly Q) ((addEdges es l.toArray).toList.drop (ia + 1)) (ia + 1) listed a' w' (fun j => by simp [List.getElem?_drop]) (by rw [hdl]; exact hL.1) (hL.2 w' hw')
    rwa [hdl] at this) _ _ _ _ hC H
  rw [htl, show ia + 1 + ((addEdges es l.toArray).size - (ia + 1)) = l.toArray.size by rw [hsz]; rw [hsz] at hn; omega, hsz] at this
  exact this

theorem wpQuiet_mono' {C : World → Prop} {R R' : Act → Prop} (h : ∀ a, R a → R' a) : ∀ (l : List Oper) (a : Act), wpQuiet P ops C R l a → wpQuiet P ops C R' l a
  | [], a, hh => h a hh
  | o :: l, a, hh => by
    unfold wpQuiet at *
    split
    · rename_i hw
      rw [if_pos hw] at hh
      exact Oper.quiet_mono (fun a' h' => wpQuiet_mono' h l a' h') hh
    · rename_i hw
      rw [if_neg hw] at hh
      exact wpQuiet_mono' h l _ hh

/-- Behind edges that make no difference: the first n operations quiet in a class, the rest forced. -/
theorem wp_region_loose_tail {id : Nat} {w : World} {a : Act} {l : List Oper} (es : List (Nat × Nat)) (C : World → Prop) (n : Nat)
    (hm : P.follows .mixedOrders = true) (hE : edgesB .any es l.toArray = true) (hB : Region.lexTailB .any (addEdges es l.toArray) n = true) (hC : C { w with drawn := w.drawn + 1 })
    (h : wpQuiet P l.toArray C (fun a' => ∀ w', C w' → wpList P l.toArray (normalOnly Q) (l.drop n) a' w') (l.take n) a) : (Code.region id l.toArray true).wp P Q a w := by
  have hsb := sameBare_addEdges es l.toArray
  have hL := sameBare_list hsb
  have hsz := size_addEdges es l.toArray
  have hlen : (addEdges es l.toArray).toList.length = l.length := by simpa using hsz
  refine wp_region_any hm (wpAny_only _ _ _ _ (wpAny_edges (fun e a w h => h.1) es l.toArray hE (by simp) ?_))
  simp only [Region.lexTailB, Bool.and_eq_true, decide_eq_true_eq] at hB
  obtain ⟨⟨⟨⟨hsel, hn⟩, hs⟩, hc⟩, hlex⟩ := hB
  have hn' : n < l.length := by rw [hsz] at hn; simpa using hn
  have htl : ((addEdges es l.toArray).toList.take n).length = n := by rw [List.length_take, hlen]; omega
  have hdl : ((addEdges es l.toArray).toList.drop n).length = (addEdges es l.toArray).size - n := by simp
  have inv0 : HeadInv .any (addEdges es l.toArray) n (Array.replicate (addEdges es l.toArray).size false) :=
    ⟨by simp, fun j oj _ hl => (by rw [getD_replicate_false] at hl; cases hl), fun t _ ht => getD_in (by simpa using ht) (getD_replicate_false _ _)⟩
  have hTake : ((addEdges es l.toArray).toList.take n).map bare = (l.take n).map bare := by rw [List.map_take, List.map_take, hL]
  have hDrop : ((addEdges es l.toArray).toList.drop n).map bare = (l.drop n).map bare := by rw [List.map_drop, List.map_drop, hL]
  have h' : wpQuiet P (addEdges es l.toArray) C (fun a' => ∀ w', C w' → wpList P (addEdges es l.toArray) (normalOnly Q) ((addEdges es l.toArray).toList.drop n) a' w') ((addEdges es l.toArray).toList.take n) a := by
    rw [wpQuiet_bare hsb _ _ _ hTake]
    refine wpQuiet_mono' (fun a' h w' hw' => ?_) _ _ h
    rw [wpList_bare hsb _ _ _ _ hDrop]
    exact h w' hw'
  have H := wpAnyC_lex (P := P) (md := .any) (g := (addEdges es l.toArray).size - n) hsel hs hc hn ((addEdges es l.toArray).toList.take n) 0 (Array.replicate (addEdges es l.toArray).size false) a (fun j hj => by
    have hj' : j < n := by rw [htl] at hj; exact hj
    simp [hj']) (by rw [htl]; omega) inv0 (by rw [htl]; exact hlex) h'
  have := wpAny_of_headC (Q' := normalOnly Q) (g := (addEdges es l.toArray).size - n) (fun listed a' w' hw' hL => by
    have := wpAny_of_seq (md := .any) (Q' := normalOnly Q) ((addEdges es l.toArray).toList.drop n) n listed a' w' (fun j => by simp [List.getElem?_drop]) (by rw [hdl]; exact hL.1) (hL.2 w' hw')
    rwa [hdl] at this) _ _ _ _ hC H
  rw [htl, show n + ((addEdges es l.toArray).size - n) = l.toArray.size by rw [hsz]; rw [hsz] at hn; omega, hsz] at this
  exact this

end
end Go.Proofs.Ytfoiadlaekknpaa
namespace Go.Proofs.Ytfoiadlaekknpaa.Co
open Go.RowKit

def byteV (L : List Bool) (i : Nat) : List Value := [.int .u8 (byteOf L i)]
theorem byteV_len (L : List Bool) (i : Nat) : (byteV L i).length = 1 := rfl
/-- A writer in memory, made at or above block base: what has been written; v: its bytes. -/
structure Wr (base : Nat) (w : World) (bw : Nat) (L : List Bool) (v : Value) : Prop where
  blk : w.heap[bw]? = some (.cells #[v, .int .i64 ((8 * nb L - L.length : Nat) : Int)] 36 (0, 0))
  own : w.ownsRow base 5 1 v (nb L) (rowsOf (byteV L) (nb L))
  lo : base ≤ bw
/-- What a writer's step leaves alone: all below base; whatever holds no bytes and is not the writer itself. -/
structure Grew (base bw : Nat) (w w' : World) : Prop where
  os : w'.os = w.os
  tape : w'.tape = w.tape
  output : w'.output = w.output
  size : w.heap.size ≤ w'.heap.size
  low : ∀ k, k < base → w'.heap[k]? = w.heap[k]?
  typ : ∀ k c t m, w.heap[k]? = some (.cells c t m) → t ≠ 5 → k ≠ bw → w'.heap[k]? = some (.cells c t m)
theorem Grew.refl (base bw : Nat) (w : World) : Grew base bw w w := ⟨rfl, rfl, rfl, Nat.le_refl _, fun _ _ => rfl, fun _ _ _ _ h _ _ => h⟩
theorem Grew.trans {base bw : Nat} {w w1 w2 : World} (h1 : Grew base bw w w1) (h2 : Grew base bw w1 w2) : Grew base bw w w2 :=
  ⟨h2.os.trans h1.os, h2.tape.trans h1.tape, h2.output.trans h1.output, Nat.le_trans h1.size h2.size, fun k hk => (h2.low k hk).trans (h1.low k hk), fun k c t m hk ht hb => h2.typ k c t m (h1.typ k c t m hk ht hb) ht hb⟩
theorem Grew.below {base bw : Nat} {w w' : World} (h : Grew base bw w w') : Below base w w' := ⟨h.os, h.tape, h.output, h.size, h.low⟩
theorem Grew.of_below {base bw : Nat} {w w' : World} (h : Below w.heap.size w w') (hb : base ≤ w.heap.size) : Grew base bw w w' :=
  ⟨h.os, h.tape, h.output, h.size, fun k hk => h.block k (by omega), fun k c t m hk _ _ => (h.block k (Array.getElem?_eq_some_iff.1 hk).1).trans hk⟩
theorem Grew.set {base bw : Nat} {w : World} {i : Nat} {u : Value} (hb : base ≤ bw) : Grew base bw w (w.setCell ⟨bw, i, none⟩ u) :=
  ⟨rfl, rfl, rfl, by simp, fun k hk => heap_setCell_other w ⟨bw, i, none⟩ k u (by show k ≠ bw; omega), fun k c t m h _ hne => (heap_setCell_other w ⟨bw, i, none⟩ k u hne).trans h⟩
theorem Grew.own {base bw g j : Nat} {w : World} {u : Value} {cur : Array Value} (hg : w.heap[g]? = some (.cells cur 5 (0, 0))) (hb : base ≤ g) : Grew base bw w (w.setCell ⟨g, j, none⟩ u) :=
  ⟨rfl, rfl, rfl, by simp, fun k hk => heap_setCell_other w ⟨g, j, none⟩ k u (by show k ≠ g; omega), fun k c t m h ht _ => (heap_setCell_other w ⟨g, j, none⟩ k u (by
    intro e; simp only at e; subst e; rw [hg] at h; simp only [Option.some.injEq, Obj.cells.injEq] at h; exact ht h.2.1.symm)).trans h⟩
theorem Grew.grown {base bw : Nat} {w w' : World} {v : Value} {c : Nat} {xs : List Value} (h : w.ownsRow base 5 1 v c xs) (hg : w.grownBy w' v.ownBlock) (hb : base ≤ w.heap.size) : Grew base bw w w' := by
  refine ⟨hg.os, hg.tape, hg.output, hg.size, fun k hk => hg.block k (by omega) fun e => by have := (h.lt k e.symm).1; omega, fun k c t m hk ht _ => ?_⟩
  rw [hg.block k (Array.getElem?_eq_some_iff.1 hk).1 fun e => ?_]
  · exact hk
  · rcases h.2 with ⟨rfl, _⟩ | ⟨g, cap, cur, rfl, _, hgg, _⟩
    · simp [Value.ownBlock] at e
    · simp only [Value.ownBlock, Option.some.injEq] at e
      subst e
      rw [hgg] at hk
      simp only [Option.some.injEq, Obj.cells.injEq] at hk
      exact ht hk.2.1.symm
theorem own_block {w : World} {base : Nat} {e : TypeId} {s : Nat} {v : Value} {c : Nat} {xs : List Value} (h : w.ownsRow base e s v c xs) {b : Nat} {z : Array Value} {t : TypeId} {m : Nat × Nat} (hb : w.heap[b]? = some (.cells z t m)) (ht : t ≠ e) : v.ownBlock ≠ some b := by
  rcases h.2 with ⟨rfl, _⟩ | ⟨g, cap, cur, rfl, _, hgg, _⟩
  · simp [Value.ownBlock]
  · intro he
    simp only [Value.ownBlock, Option.some.injEq] at he
    subst he
    rw [hgg] at hb
    simp only [Option.some.injEq, Obj.cells.injEq] at hb
    exact ht hb.2.1.symm
theorem blk_cell {w : World} {b : Nat} {z : Array Value} {t : TypeId} (h : w.heap[b]? = some (.cells z t (0, 0))) (i : Nat) (u : Value) (hi : z[i]? = some u) : w.cell? ⟨b, i, none⟩ = some u := new_cell h i u hi
theorem blk_free {w : World} {b : Nat} {z : Array Value} {t : TypeId} (h : w.heap[b]? = some (.cells z t (0, 0))) (i : Nat) : w.frozen? ⟨b, i, none⟩ = false := new_free h i
theorem blk_lt {w : World} {b : Nat} {o : Obj} (h : w.heap[b]? = some o) : b < w.heap.size := (Array.getElem?_eq_some_iff.1 h).1
theorem own_slice {w : World} {base : Nat} {e : TypeId} {s : Nat} {v : Value} {c : Nat} {xs : List Value} (h : w.ownsRow base e s v c xs) (hc : 0 < c) : ∃ g cap cur, v = .slice (some ⟨g, 0, none⟩) c cap ∧ base ≤ g ∧ w.heap[g]? = some (.cells cur e (0, 0)) := by
  rcases h.2 with ⟨_, h0⟩ | ⟨g, cap, cur, rfl, hb, hg, _⟩
  · omega
  · exact ⟨g, cap, cur, rfl, by assumption, hg⟩
theorem own_set {w : World} {base : Nat} {e : TypeId} {s : Nat} {v : Value} {c : Nat} {xs : List Value} (h : w.ownsRow base e s v c xs) {b i : Nat} {u : Value} (hb : v.ownBlock ≠ some b) : (w.setCell ⟨b, i, none⟩ u).ownsRow base e s v c xs :=
  h.kept (row := some b) ⟨rfl, rfl, rfl, by simp, fun k _ hk => heap_setCell_other w ⟨b, i, none⟩ k u (fun e => hk (by simp [e]))⟩ (.inr hb)
theorem blk_set {w : World} {b i : Nat} {z : Array Value} {t : TypeId} {u : Value} (h : w.heap[b]? = some (.cells z t (0, 0))) : (w.setCell ⟨b, i, none⟩ u).heap[b]? = some (.cells (z.setIfInBounds i u) t (0, 0)) :=
  heap_setCell_same w b i z t u h
theorem blk_other {w : World} {b g i : Nat} {u : Value} {o : Obj} (h : w.heap[b]? = some o) (hne : b ≠ g) : (w.setCell ⟨g, i, none⟩ u).heap[b]? = some o :=
  (heap_setCell_other w ⟨g, i, none⟩ b u hne).trans h
theorem blk_below {w w' : World} {b : Nat} {o : Obj} (h : w.heap[b]? = some o) (hb : Below w.heap.size w w') : w'.heap[b]? = some o := (hb.block b (blk_lt h)).trans h

theorem rows1_set {f f' : Nat → List Value} {u : Value} (hf : ∀ i, (f i).length = 1) : ∀ {c i : Nat}, i < c → f' i = [u] → (∀ j, j ≠ i → f' j = f j) → (rowsOf f c).set i u = rowsOf f' c
  | c + 1, i, hi, hu, ho => by
    have hlen := rowsOf_length hf c
    rw [rowsOf, rowsOf]
    by_cases h : i = c
    · subst h
      rw [List.set_append_right _ _ (by omega), rowsOf_congr (f := f') (g := f) fun j hj => ho j (by omega), hu, show i - (rowsOf f i).length = 0 by omega]
      have := hf i
      match hfi : f i, this with
      | [x], _ => rfl
    · rw [List.set_append_left _ _ (by omega), rows1_set hf (show i < c by omega) hu ho, ho c (by omega)]

/-- The numbers behind one bit. -/
structure Step (L : List Bool) (b : Bool) (c : Nat) (f : Nat) : Prop where
  at_ : L.length / 8 = c - 1
  pos : 1 ≤ c
  f1 : 1 ≤ f
  f8 : f ≤ 8
  free : 8 * nb (L ++ [b]) - (L ++ [b]).length = f - 1
  cnt : nb (L ++ [b]) = c
  mod : 8 - L.length % 8 = f
theorem step_in {L : List Bool} {b : Bool} (h : L.length % 8 ≠ 0) : Step L b (nb L) (8 * nb L - L.length) := by
  unfold nb
  refine ⟨by omega, by omega, by omega, by omega, ?_, ?_, by omega⟩
  · unfold nb; simp only [List.length_append, List.length_cons, List.length_nil]; omega
  · unfold nb; simp only [List.length_append, List.length_cons, List.length_nil]; omega
theorem step_new {L : List Bool} {b : Bool} (h : L.length % 8 = 0) : Step L b (nb L + 1) 8 := by
  unfold nb
  refine ⟨by omega, by omega, by omega, by omega, ?_, ?_, by omega⟩
  · unfold nb; simp only [List.length_append, List.length_cons, List.length_nil]; omega
  · unfold nb; simp only [List.length_append, List.length_cons, List.length_nil]; omega
theorem byte_new {L : List Bool} (h : L.length % 8 = 0) : byteOf L (nb L) = 0 := by
  unfold byteOf nb
  rw [byteP_end (k := 0) (by omega) (by omega)]; rfl
theorem or_value {L : List Bool} {b : Bool} {c f : Nat} (h : Step L b c f) :
    Go.bits .or .u8 (byteOf L (c - 1) : Int) (wrap64 (bi b * 2 ^ (f - 1)) % 256) = (byteOf (L ++ [b]) (c - 1) : Int) := by
  obtain ⟨y, h1, h2⟩ := byteOf_form L
  have := h.f1; have := h.f8
  rw [← h.at_, byteOf_at, h1, h.mod]
  have e : wrap64 (bi b * 2 ^ (f - 1)) % 256 = if b then ((2 ^ (f - 1) : Nat) : Int) else 0 := by
    have hf : f = 1 ∨ f = 2 ∨ f = 3 ∨ f = 4 ∨ f = 5 ∨ f = 6 ∨ f = 7 ∨ f = 8 := by omega
    cases b <;> rcases hf with rfl | rfl | rfl | rfl | rfl | rfl | rfl | rfl <;> decide +kernel
  rw [e, show 7 - L.length % 8 = f - 1 by have := h.mod; omega]
  refine or_bit f h.f1 h.f8 b y ?_
  rwa [show 8 - f = L.length % 8 by have := h.mod; omega]

/-- Behind the bit's own store. -/
theorem Wr.stored {W3 wd : World} {base bw g c cap f : Nat} {L : List Bool} {b : Bool} (h : Step L b c f)
    (hblk : W3.heap[bw]? = some (.cells #[.slice (some ⟨g, 0, none⟩) c cap, .int .i64 ((f - 1 : Nat) : Int)] 36 (0, 0)))
    (hown : W3.ownsRow base 5 1 (.slice (some ⟨g, 0, none⟩) c cap) c (rowsOf (byteV L) c)) (hlo : base ≤ bw) (hbd : Below W3.heap.size W3 wd) :
    Wr base (wd.setCell ⟨g, c - 1, none⟩ (.int .u8 (byteOf (L ++ [b]) (c - 1) : Int))) bw (L ++ [b]) (.slice (some ⟨g, 0, none⟩) c cap) := by
  have hp := h.pos
  have hne : bw ≠ g := fun e => own_block hown hblk (by decide) (by simp [Value.ownBlock, e])
  refine ⟨?_, ?_, hlo⟩
  · rw [h.free]; exact blk_other (blk_below hblk hbd) hne
  · rw [h.cnt]
    have h1 := ((own_below hown hbd).stored (c - 1) (.int .u8 (byteOf (L ++ [b]) (c - 1) : Int))).1
    rwa [rows1_set (byteV_len L) (f' := byteV (L ++ [b])) (by omega) rfl fun j hj => by unfold byteV; rw [byteOf_other (by rw [h.at_]; exact hj)]] at h1

def BitPost (base bw : Nat) (w : World) (L : List Bool) (e : Ending) (w' : World) : Prop := e = .returned (.tuple #[]) ∧ ∃ v', Wr base w' bw L v' ∧ Grew base bw w w'
theorem bitPost {base bw : Nat} {w w' : World} {v' : Value} {L : List Bool} (h1 : Wr base w' bw L v') (h2 : Grew base bw w w') : BitPost base bw w L (.returned (.tuple #[])) w' := ⟨rfl, v', h1, h2⟩

theorem own_at {w : World} {base : Nat} {e : TypeId} {s g c cap : Nat} {xs : List Value} (h : w.ownsRow base e s (.slice (some ⟨g, 0, none⟩) c cap) c xs) : w.heap[g]? = some (.cells (Classical.choose (show ∃ cur, w.heap[g]? = some (.cells cur e (0, 0)) by
    rcases h.2 with ⟨h', _⟩ | ⟨g', cap', cur, h', _, hgg, _⟩
    · simp at h'
    · simp only [Value.slice.injEq, Option.some.injEq, Addr.mk.injEq, and_true, true_and] at h'
      obtain ⟨rfl, rfl⟩ := h'
      exact ⟨cur, hgg⟩)) e (0, 0)) := Classical.choose_spec (p := fun cur => w.heap[g]? = some (.cells cur e (0, 0))) _
theorem own_byte {w : World} {base g c cap : Nat} {L : List Bool} (h : w.ownsRow base 5 1 (.slice (some ⟨g, 0, none⟩) c cap) c (rowsOf (byteV L) c)) (hc : 1 ≤ c) : w.cell? ⟨g, c - 1, none⟩ = some (.int .u8 (byteOf L (c - 1) : Int)) := by
  rw [h.cellAt (c - 1) (by omega)]
  have := rowsOf_get (byteV_len L) (c := c) (i := c - 1) (j := 0) (by omega) (by omega)
  rw [Nat.mul_one, Nat.add_zero] at this
  exact this

set_option maxHeartbeats 2000000 in
theorem bit_in (base bw : Nat) (L : List Bool) (b : Bool) (v : Value) (w : World) (h : Wr base w bw L v) (hL : L.length ≤ 1000000000) (hm : L.length % 8 ≠ 0) :
    Calls Try.prog 28 #[.pointer (some ⟨bw, 0, none⟩), .int .i64 (bi b)] w (BitPost base bw w (L ++ [b])) := by
  have hs : Step L b (nb L) (8 * nb L - L.length) := step_in hm
  have hblk := h.blk
  have hown := h.own
  have hcb : nb L ≤ 200000000 := by unfold nb; omega
  generalize hc : nb L = c at hs hblk hown hcb
  generalize hf : 8 * c - L.length = f at hs hblk
  have hp := hs.pos; have hf1 := hs.f1; have hf8 := hs.f8
  obtain ⟨g, cap, cur, rfl, hbg, hg⟩ := own_slice hown (by omega)
  have hno := own_block hown hblk (by decide)
  have c0 := blk_cell hblk 0 _ rfl
  have c1 := blk_cell hblk 1 _ rfl
  have z0 := blk_free hblk 0
  have z1 := blk_free hblk 1
  have hbw := blk_lt hblk
  have hb3 := blk_set (i := 1) (u := .int .i64 ((f - 1 : Nat) : Int)) hblk
  have ho3 := own_set (i := 1) (u := .int .i64 ((f - 1 : Nat) : Int)) hown hno
  have hg3 : Grew base bw w (w.setCell ⟨bw, 1, none⟩ (.int .i64 ((f - 1 : Nat) : Int))) := Grew.set h.lo
  have d0 := own_byte ho3 hp
  have d1 := ho3.frozenAt (c - 1)
  have e0 : ((f : Int) == 0) = false := by simp; omega
  have e1 : (f : Int) - 1 = ((f - 1 : Nat) : Int) := by omega
  have e2 : (0 : Int) ≤ (c : Int) - 1 := by omega
  have e3 : (c : Int) - 1 < c := by omega
  have e4 : ((c : Int) - 1).toNat = c - 1 := by omega
  have HV := Lib.hid (or_value hs)
  have hbb : 0 ≤ bi b ∧ bi b ≤ 1 := by cases b <;> simp [bi]
  clear hc hf hm hL hg hno
  go_enter Try.func28, Try.ntmps28
  go_wp2
  generalize hW : w.setCell ⟨bw, 1, none⟩ (.int .i64 ((f - 1 : Nat) : Int)) = W3 at *
  have c0' := blk_cell hb3 0 _ rfl
  have c1' := blk_cell hb3 1 _ rfl
  simp at c0' c1'
  have hbw3 := blk_lt hb3
  have hg3' : g < W3.heap.size := World.block_lt_of_cell? W3 _ d0
  clear c0 c1 z0 z1 hW
  have hE := Ext.cells W3
  refine wp_region_ext_tail 21 (by kernel_rfl) (by kernel_rfl) ?_
  simp only [List.take_succ_cons, List.take_zero, List.drop_succ_cons, List.drop_zero]
  repeat go_big_quiet_step ((fail))
  refine wpQuiet_nil ?_
  rintro wd ⟨⟨_, hbd⟩, rfl⟩
  have q1 := cell_then d0 hbd
  have q2 := (hbd.frozen (p := ⟨g, c - 1, none⟩) hg3').trans d1
  clear hE
  go_wp2
  go_end0
  rw [HV.out]
  exact bitPost (Wr.stored hs hb3 ho3 h.lo hbd) ((hg3.trans (Grew.of_below hbd (Nat.le_trans h.lo (Nat.le_of_lt hbw3)))).trans (Grew.own (blk_below (own_at ho3) hbd) hbg))

theorem Try.infoByte : (Try.prog.info? 5).map (fun i => (i.zero, i.size, i.bytes)) = some (some (.int .u8 0), 1, 1) := by kernel_rfl

set_option maxHeartbeats 2000000 in
theorem bit_new (base bw : Nat) (L : List Bool) (b : Bool) (v : Value) (w : World) (h : Wr base w bw L v) (hL : L.length ≤ 1000000000) (hm : L.length % 8 = 0) :
    Calls Try.prog 28 #[.pointer (some ⟨bw, 0, none⟩), .int .i64 (bi b)] w (BitPost base bw w (L ++ [b])) := by
  obtain ⟨i0, hi, hz0, hz1, hz2⟩ := info_parts Try.infoByte
  have hs : Step L b (nb L + 1) 8 := step_new hm
  have hblk := h.blk
  have hown := h.own
  have hcb : nb L ≤ 200000000 := by unfold nb; omega
  have hlo := h.lo
  have hz : 8 * nb L - L.length = 0 := by unfold nb; omega
  rw [hz] at hblk
  have hrow : rowsOf (byteV L) (nb L) ++ [.int .u8 0] = rowsOf (byteV L) (nb L + 1) := by rw [rowsOf]; unfold byteV; rw [byte_new hm]; rfl
  have HR := Lib.hid hrow
  clear hz hrow
  generalize hc : nb L = c at hs hblk hown hcb HR
  have c0 := blk_cell hblk 0 _ rfl
  have c1 := blk_cell hblk 1 _ rfl
  have z0 := blk_free hblk 0
  have z1 := blk_free hblk 1
  have hbw := blk_lt hblk
  have HV := Lib.hid (or_value hs)
  have hbb : 0 ≤ bi b ∧ bi b ≤ 1 := by cases b <;> simp [bi]
  clear hc hm hL
  go_enter Try.func28, Try.ntmps28
  go_wp2_with (at_builtin; (refine wpList_append_own _ rfl _ _ 34 rfl base 5 i0 _ 1 1 Try.underlying34 hi hz0 hz1 hz2 rfl (by decide) _ _ _ rfl (own_below hown ?_) ⟨w.heap.size, 0, none⟩ 1 1 [.int .u8 0] rfl rfl ?_ ?_ ?_ ?_ ?_ ?_; exact (by repeat (first | exact Below.refl _ _ | assumption | refine below_drewN ?_ _ | refine Below.drew ?_ | refine below_new ?_ _ | refine Below.setCell ?_ (by first | omega | (simp <;> omega)) _ | refine below_then (by assumption) ?_)); exact news_cells (by simp); simp [Value.oneCell']; (unfold maxLen; omega); omega; (simp; omega); intro v9 wa hown1 hgrow _; rw [HR.out] at hown1; obtain ⟨g, cap, cur, rfl, hbg, hg⟩ := own_slice hown1 (by omega); have hba := hgrow.block bw (by simp; omega) (Ne.symm (own_block hown hblk (by decide))); have hba2 := hba.trans (blk_below hblk (below_new (Below.refl _ _) _)); have a0 := blk_cell hba2 0 _ rfl; have a1 := blk_cell hba2 1 _ rfl; have y0 := blk_free hba2 0; have y1 := blk_free hba2 1))
  have hb3 : (((wa.setCell ⟨bw, 0, none⟩ (.slice (some ⟨g, 0, none⟩) (c + 1) cap)).setCell ⟨bw, 1, none⟩ (.int .i64 8)).setCell ⟨bw, 1, none⟩ (.int .i64 7)).heap[bw]? =
      some (.cells #[.slice (some ⟨g, 0, none⟩) (c + 1) cap, .int .i64 ((8 - 1 : Nat) : Int)] 36 (0, 0)) := blk_set (blk_set (blk_set hba2))
  have hno := own_block hown1 hba2 (by decide)
  have ho3 := own_set (i := 1) (u := .int .i64 7) (own_set (i := 1) (u := .int .i64 8) (own_set (i := 0) (u := .slice (some ⟨g, 0, none⟩) (c + 1) cap) hown1 hno) hno) hno
  have hg3 : Grew base bw w (((wa.setCell ⟨bw, 0, none⟩ (.slice (some ⟨g, 0, none⟩) (c + 1) cap)).setCell ⟨bw, 1, none⟩ (.int .i64 8)).setCell ⟨bw, 1, none⟩ (.int .i64 7)) :=
    ((((Grew.of_below (below_new (Below.refl _ _) _) (by omega)).trans (Grew.grown (own_below hown (below_new (Below.refl _ _) _)) hgrow (by simp; omega))).trans (Grew.set h.lo)).trans (Grew.set h.lo)).trans (Grew.set h.lo)
  have d0 := own_byte ho3 (by omega)
  have d1 := ho3.frozenAt (c + 1 - 1)
  rw [Nat.add_sub_cancel] at d0 d1 HV
  have e2 : (0 : Int) ≤ (c : Int) := by omega
  generalize hW : ((wa.setCell ⟨bw, 0, none⟩ (.slice (some ⟨g, 0, none⟩) (c + 1) cap)).setCell ⟨bw, 1, none⟩ (.int .i64 8)).setCell ⟨bw, 1, none⟩ (.int .i64 7) = W3 at *
  have c0' := blk_cell hb3 0 _ rfl
  have c1' : W3.cell? ⟨bw, 1, none⟩ = some (.int .i64 7) := blk_cell hb3 1 _ rfl
  simp at c0'
  have hbw3 := blk_lt hb3
  have hg3' : g < W3.heap.size := World.block_lt_of_cell? W3 _ d0
  clear c0 c1 z0 z1 a0 a1 y0 y1 hW hba hba2 hg
  have hE := Ext.cells W3
  refine wp_region_ext_tail 21 (by kernel_rfl) (by kernel_rfl) ?_
  simp only [List.take_succ_cons, List.take_zero, List.drop_succ_cons, List.drop_zero]
  repeat go_big_quiet_step ((fail))
  refine wpQuiet_nil ?_
  rintro wd ⟨⟨_, hbd⟩, rfl⟩
  have q1 := cell_then d0 hbd
  have q2 := (hbd.frozen (p := ⟨g, c, none⟩) hg3').trans d1
  clear hE
  go_wp2
  go_end0
  rw [show bi b * 128 = wrap64 (bi b * 2 ^ (8 - 1)) % 256 by cases b <;> decide +kernel, HV.out]
  have hw := Wr.stored hs hb3 ho3 h.lo hbd
  rw [Nat.add_sub_cancel] at hw
  exact bitPost hw ((hg3.trans (Grew.of_below hbd (Nat.le_trans h.lo (Nat.le_of_lt hbw3)))).trans (Grew.own (blk_below (own_at ho3) hbd) hbg))
theorem bit_any (base bw : Nat) (L : List Bool) (b : Bool) (v : Value) (w : World) (h : Wr base w bw L v) (hL : L.length ≤ 1000000000) :
    Calls Try.prog 28 #[.pointer (some ⟨bw, 0, none⟩), .int .i64 (bi b)] w (BitPost base bw w (L ++ [b])) := by
  by_cases hm : L.length % 8 = 0
  · exact bit_new base bw L b v w h hL hm
  · exact bit_in base bw L b v w h hL hm

theorem bit_one (base bw : Nat) (L : List Bool) (v : Value) (w : World) (h : Wr base w bw L v) (hL : L.length ≤ 1000000000) :
    Calls Try.prog 28 #[.pointer (some ⟨bw, 0, none⟩), .int .i64 1] w (BitPost base bw w (L ++ [true])) := bit_any base bw L true v w h hL
theorem bit_zero (base bw : Nat) (L : List Bool) (v : Value) (w : World) (h : Wr base w bw L v) (hL : L.length ≤ 1000000000) :
    Calls Try.prog 28 #[.pointer (some ⟨bw, 0, none⟩), .int .i64 0] w (BitPost base bw w (L ++ [false])) := bit_any base bw L false v w h hL

set_option maxHeartbeats 2000000 in
theorem number_any (base bw : Nat) (n : Int) (k : Nat) (L : List Bool) (v : Value) (w : World) (h : Wr base w bw L v) (hL : L.length + k ≤ 1000000000) (hn : 0 ≤ n ∧ n ≤ 9223372036854775807) (hk : k ≤ 63) :
    Calls Try.prog 13 #[.pointer (some ⟨bw, 0, none⟩), .int .i64 n, .int .i64 k] w (BitPost base bw w (L ++ bitsOf n k)) := by
  have hk' : (k : Int) ≤ 63 := by omega
  go_enter Try.func13, Try.ntmps13
  go_wp2
  go_loopw [6] (fun v6 wr => ∃ (i : Nat) (M : List Bool) (u : Value), v6 = .int .i64 ((i : Int) - 1) ∧ i ≤ k ∧ Wr base wr bw M u ∧ M.length ≤ L.length + k ∧ Hid (M ++ bitsOf n i = L ++ bitsOf n k) ∧ M.length + i = L.length + k ∧ Grew base bw w wr) (fun v6 _ => (intOf v6 + 1).toNat)
  case atStart => exact ⟨k, L, v, rfl, by omega, h, by omega, rfl, rfl, Grew.refl _ _ _⟩
  case round =>
    obtain ⟨i, M, u, rfl, hik, hM, hMl, HB, hML, hG⟩ := hrel
    by_cases hi : 1 ≤ i
    · obtain ⟨j, rfl⟩ : ∃ j, i = j + 1 := ⟨i - 1, by omega⟩
      have e1 : ((j + 1 : Nat) : Int) - 1 = (j : Int) := by omega
      have e2 : (0 : Int) ≤ j := by omega
      have e3 : (j : Int) ≤ 64 := by omega
      have hM2 : M.length ≤ 1000000000 := by omega
      have HA := Lib.hid (and_bit n j)
      have HN := Lib.hid (show (M ++ [decide (n / 2 ^ j % 2 = 1)]) ++ bitsOf n j = L ++ bitsOf n k by rw [← HB.out, List.append_assoc]; rfl)
      clear HB
      rw [e1]
      go_wp2_with (go_at_call 28; rw [HA.out]; (with_reducible refine (bit_any base bw M _ u _ hM hM2).mono ?_); rintro e w1 ⟨rfl, u1, hM1, hG1⟩)
      go_roundw
      case rel => exact ⟨j, _, u1, rfl, by omega, hM1, (by rw [List.length_append, List.length_singleton]; omega), HN, (by rw [List.length_append, List.length_singleton]; omega), hG.trans hG1⟩
      case measure => simp [intOf]
    · obtain rfl : i = 0 := by omega
      have HE := Lib.hid (show M = L ++ bitsOf n k by have := HB.out; rwa [bitsOf, List.append_nil] at this)
      clear HB
      go_wp2
      go_end0
      exact bitPost (HE.out ▸ hM) hG

set_option maxHeartbeats 2000000 in
theorem rice_any (base bw : Nat) (n : Int) (k : Nat) (L : List Bool) (v : Value) (w : World) (h : Wr base w bw L v) (hn : 0 ≤ n ∧ n ≤ 9223372036854775807) (hL : (L.length : Int) + n / 2 ^ k + 1 + k ≤ 1000000000) (hk : k ≤ 15) :
    Calls Try.prog 31 #[.pointer (some ⟨bw, 0, none⟩), .int .i64 n, .int .i64 k] w (BitPost base bw w (L ++ riceBits k n)) := by
  have hk' : (k : Int) ≤ 15 := by omega
  have hq : 0 ≤ n / 2 ^ k := Int.ediv_nonneg hn.1 (Int.le_of_lt (Int.pow_pos (by omega)))
  obtain ⟨q, hqq⟩ : ∃ q : Nat, n / 2 ^ k = (q : Int) := ⟨(n / 2 ^ k).toNat, by omega⟩
  have HQ := Lib.hid hqq
  have HF := Lib.hid (show riceBits k n = List.replicate q true ++ [false] ++ bitsOf n k by unfold riceBits; rw [hqq]; rfl)
  rw [hqq] at hL
  have hqb : (q : Int) ≤ 1000000000 := by omega
  go_enter Try.func31, Try.ntmps31
  go_wp2
  go_loopw [9] (fun v9 wr => ∃ (i : Nat) (u : Value), v9 = .int .i64 (i : Int) ∧ i ≤ q ∧ Wr base wr bw (L ++ List.replicate i true) u ∧ Grew base bw w wr) (fun v9 _ => q - (intOf v9).toNat)
  case atStart => exact ⟨0, v, rfl, by omega, by simpa using h, Grew.refl _ _ _⟩
  case round =>
    obtain ⟨i, u, rfl, hiq, hM, hG⟩ := hrel
    have hM2 : (L ++ List.replicate i true).length ≤ 1000000000 := by simp; omega
    by_cases hi : i < q
    · have hi' : (i : Int) < q := by omega
      have HN := Lib.hid (show (L ++ List.replicate i true) ++ [true] = L ++ List.replicate (i + 1) true by rw [List.append_assoc, List.replicate_succ'])
      go_wp2_with (go_at_call 28; (with_reducible refine (bit_one base bw _ u _ hM hM2).mono ?_); rintro e w1 ⟨rfl, u1, hM1, hG1⟩)
      go_roundw
      case rel => exact ⟨i + 1, u1, by go_num, by omega, HN.out ▸ hM1, hG.trans hG1⟩
      case measure => simp [intOf]; omega
    · obtain rfl : i = q := by omega
      have hM3 : (L ++ List.replicate i true ++ [false]).length + k ≤ 1000000000 := by simp; omega
      have HE := Lib.hid (show L ++ List.replicate i true ++ [false] ++ bitsOf n k = L ++ riceBits k n by rw [HF.out]; simp [List.append_assoc])
      go_wp2_with (first
        | (go_at_call 28; (with_reducible refine (bit_zero base bw _ u _ hM hM2).mono ?_); rintro e w1 ⟨rfl, u1, hM1, hG1⟩)
        | (go_at_call 13; (with_reducible refine (number_any base bw n k _ u1 _ hM1 hM3 hn (by omega)).mono ?_); rintro e w2 ⟨rfl, u2, hM4, hG2⟩))
      go_end0
      exact bitPost (HE.out ▸ hM4) ((hG.trans hG1).trans hG2)
end Go.Proofs.Ytfoiadlaekknpaa.Co
namespace Go.Proofs.Ytfoiadlaekknpaa.Co
open Go.RowKit

/-- Whole numbers in memory. -/
def Cells (w : World) (p : Option Addr) (l : List Int) : Prop := 0 < l.length → ∃ b o, p = some ⟨b, o, none⟩ ∧ ∀ i, i < l.length → w.cell? ⟨b, o + i, none⟩ = some (.int .i64 (X l i))
theorem Cells.below {w w' : World} {p : Option Addr} {l : List Int} (h : Cells w p l) (hb : Below w.heap.size w w') : Cells w' p l := fun hn => by
  obtain ⟨b, o, hp, hc⟩ := h hn
  exact ⟨b, o, hp, fun i hi => cell_then (hc i hi) hb⟩
theorem Cells.drewN {w : World} {p : Option Addr} {l : List Int} (h : Cells w p l) (n : Nat) : Cells (w.drewN n) p l := h.below (below_drewN (Below.refl _ _) n)
def I64 (n : Int) : Prop := -9223372036854775808 ≤ n ∧ n ≤ 9223372036854775807

set_option maxHeartbeats 2000000 in
theorem guess_any (p : Option Addr) (l : List Int) (cap i o : Nat) (w : World) (h : Cells w p l) (hl : l.length ≤ 9223372036854775807) (hi : i ≤ l.length) (ho : o ≤ i) (ho3 : o ≤ 3) (hs : Small l) :
    Calls Try.prog 37 #[.slice p l.length cap, .int .i64 i, .int .i64 o] w fun e w' => e = .returned (.int .i64 (guess l i o)) ∧ ∃ n, w' = w.drewN n := by
  have h4 : o = 0 ∨ o = 1 ∨ o = 2 ∨ o = 3 := by omega
  rcases h4 with rfl | rfl | rfl | rfl
  · have HG := Lib.hid (show (0 : Int) = guess l i 0 by simp [guess])
    go_enter Try.func37, Try.ntmps37
    go_wp2
    go_ret
    exact ⟨ret_int HG.out, 0, rfl⟩
  all_goals
    obtain ⟨b, off, rfl, hc⟩ := h (by omega)
    have hil : (i : Int) ≤ l.length := by omega
    have x1 := X_bd hs (i - 1)
    have c1 := hc (i - 1) (by omega)
    have e1 : (0 : Int) ≤ (i : Int) - 1 := by omega
    have e2 : (i : Int) - 1 < l.length := by omega
    have e3 : ((i : Int) - 1).toNat = i - 1 := by omega
  · have HG := Lib.hid (show X l (i - 1) = guess l i 1 by simp [guess])
    clear hc
    go_enter Try.func37, Try.ntmps37
    go_wp2
    go_ret
    exact ⟨ret_int HG.out, 0, rfl⟩
  · have HG := Lib.hid (show 2 * X l (i - 1) - X l (i - 2) = guess l i 2 by simp [guess])
    have x2 := X_bd hs (i - 2)
    have c2 := hc (i - 2) (by omega)
    have f1 : (0 : Int) ≤ (i : Int) - 2 := by omega
    have f2 : (i : Int) - 2 < l.length := by omega
    have f3 : ((i : Int) - 2).toNat = i - 2 := by omega
    clear hc
    go_enter Try.func37, Try.ntmps37
    go_wp2
    go_quiet (fail)
    go_wp2
    go_ret
    exact ⟨ret_int HG.out, _, rfl⟩
  · have HG := Lib.hid (show 3 * X l (i - 1) - 3 * X l (i - 2) + X l (i - 3) = guess l i 3 by simp [guess])
    have x2 := X_bd hs (i - 2)
    have c2 := hc (i - 2) (by omega)
    have f1 : (0 : Int) ≤ (i : Int) - 2 := by omega
    have f2 : (i : Int) - 2 < l.length := by omega
    have f3 : ((i : Int) - 2).toNat = i - 2 := by omega
    have x3 := X_bd hs (i - 3)
    have c3 := hc (i - 3) (by omega)
    have g1 : (0 : Int) ≤ (i : Int) - 3 := by omega
    have g2 : (i : Int) - 3 < l.length := by omega
    have g3 : ((i : Int) - 3).toNat = i - 3 := by omega
    clear hc
    go_enter Try.func37, Try.ntmps37
    go_wp2
    go_quiet (fail)
    go_wp2
    go_ret
    exact ⟨ret_int HG.out, _, rfl⟩

set_option maxHeartbeats 1000000 in
theorem folded_any (n : Int) (w : World) (hn : -1000000000 ≤ n ∧ n ≤ 1000000000) :
    Calls Try.prog 40 #[.int .i64 n] w fun e w' => e = .returned (.int .i64 (fold n)) ∧ w = w' := by
  by_cases h : n < 0
  all_goals
    have HF := Lib.hid (show fold n = if n < 0 then -2 * n - 1 else 2 * n from rfl)
    go_enter Try.func40, Try.ntmps40
    go_wp2
    go_ret
    refine ⟨ret_int ?_, rfl⟩
    rw [HF.out]
    first | rw [if_pos h] | rw [if_neg (by omega)]

def missV (l : List Int) (o j : Nat) : List Value := [.int .i64 (miss l o (o + j))]
theorem missV_len (l : List Int) (o j : Nat) : (missV l o j).length = 1 := rfl
theorem Try.infoInt : (Try.prog.info? 3).map (fun i => (i.zero, i.size, i.bytes)) = some (some (.int .i64 0), 1, 8) := by kernel_rfl
def MissPost (w : World) (l : List Int) (o : Nat) (e : Ending) (w' : World) : Prop :=
  ∃ v, e = .returned v ∧ w'.ownsRow w.heap.size 3 1 v (l.length - o) (rowsOf (missV l o) (l.length - o)) ∧ Below w.heap.size w w'

set_option maxHeartbeats 4000000 in
theorem misses_any (p : Option Addr) (l : List Int) (cap o : Nat) (w : World) (h : Cells w p l) (hl : l.length ≤ 2000000) (ho3 : o ≤ 3) (hs : Small l) :
    Calls Try.prog 30 #[.slice p l.length cap, .int .i64 o] w (MissPost w l o) := by
  obtain ⟨i0, hi, hz0, hz1, hz2⟩ := info_parts Try.infoInt
  go_enter Try.func30, Try.ntmps30
  go_wp2
  go_loopw [5, 6] (fun v5 v6 wr => ∃ (j : Nat), v6 = .int .i64 ((o + j : Nat) : Int) ∧ (j = 0 ∨ o + j ≤ l.length) ∧ wr.ownsRow w.heap.size 3 1 v5 j (rowsOf (missV l o) j) ∧ Below w.heap.size w wr) (fun _ v6 _ => l.length - (intOf v6).toNat)
  case atStart => exact ⟨0, rfl, .inl rfl, World.ownsRow_nil _ _ _ _, Below.refl _ _⟩
  case round =>
    obtain ⟨j, rfl, hj, hown, hbr⟩ := hrel
    have hcr := h.below hbr
    by_cases hlt : o + j < l.length
    · obtain ⟨b, off, rfl, hc⟩ := hcr (by omega)
      have c1 := hc (o + j) hlt
      have x1 := X_bd hs (o + j)
      have y1 := guess_bd hs (o + j) o
      have e1 : (o : Int) + (j : Int) < l.length := by omega
      have e2 : ((o + j : Nat) : Int) < l.length := by omega
      have hgc : ∀ n, Cells (wr.drewN n) (some ⟨b, off, none⟩) l := fun n => hcr.drewN n
      have HM := Lib.hid (show fold (X l (o + j) - guess l (o + j) o) = miss l o (o + j) from rfl)
      have y2 : -1000000000 ≤ X l (o + j) - guess l (o + j) o ∧ X l (o + j) - guess l (o + j) o ≤ 1000000000 := by omega
      clear hc
      go_wp2
      refine wp_region_loose_tail [(0, 11)] (fun w' => ∃ n, w' = wr.drewN n) 11 (by kernel_rfl) (by kernel_rfl) (by kernel_rfl) ⟨1, rfl⟩ ?_
      simp only [List.take_succ_cons, List.take_zero, List.drop_succ_cons, List.drop_zero]
      repeat go_big_quiet_step ((first
        | (go_at_call 37; exact Calls.quiet_of (guess_any _ l cap (o + j) o _ (hgc _) (by omega) (by omega) (by omega) ho3 hs))
        | (go_at_call 40; exact quiet_left (folded_any _ _ y2))))
      refine wpQuiet_nil ?_
      rintro wd ⟨nq, rfl⟩
      have hmv : missV l o j = [.int .i64 (fold (X l (o + j) - guess l (o + j) o))] := rfl
      go_wp2_with (at_builtin; (refine wpList_append_own _ rfl _ _ 22 rfl w.heap.size 3 i0 _ 1 8 Try.underlying22 hi hz0 hz1 hz2 rfl (by decide) _ _ _ rfl (own_below hown ?_) ⟨wr.heap.size, 0, none⟩ 1 1 [.int .i64 (fold (X l (o + j) - guess l (o + j) o))] rfl rfl ?_ ?_ ?_ ?_ ?_ ?_; exact (by repeat (first | exact Below.refl _ _ | assumption | refine below_drewN ?_ _ | refine Below.drew ?_ | refine below_new ?_ _ | refine Below.setCell ?_ (by first | omega | (simp <;> omega)) _ | refine below_then (by assumption) ?_)); exact news_cells (by simp); simp [Value.oneCell']; (unfold maxLen; omega); omega; (have h2 := hbr.size; (try simp); omega); intro v9 wa hown1 hgrow _))
      refine ⟨rfl, ?_⟩
      go_wp2
      go_roundw
      case rel => exact ⟨j + 1, (by congr 1 <;> omega), .inr (by omega), (by rw [rowsOf, hmv]; exact hown1), below_app hbr hown hgrow (Nat.le_refl _) (by repeat (first | exact Below.refl _ _ | assumption | refine below_drewN ?_ _ | refine Below.drew ?_ | refine below_new ?_ _ | refine Below.setCell ?_ (by first | omega | (simp <;> omega)) _ | refine below_then (by assumption) ?_))⟩
      case measure => simp [intOf]; omega
    · have e1 : ¬ (o : Int) + (j : Int) < l.length := by omega
      have hjj : j = l.length - o := by omega
      have HJ := Lib.hid hjj
      clear hjj
      go_wp2
      go_ret
      exact ⟨_, rfl, HJ.out ▸ hown, hbr⟩
end Go.Proofs.Ytfoiadlaekknpaa.Co
