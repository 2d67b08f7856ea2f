/-
  PLAIN: bits, the highest first, and the bytes that they make. No program in sight.
-/
import Derived.Test.YtfoiadlaekknpaaRowsOf
import Derived.Laws.BytesArg
namespace Go.Proofs.Ytfoiadlaekknpaa.Co
open Go

/-- Of byte i the first k bits, as a number. -/
def byteP (L : List Bool) (i : Nat) : Nat → Nat
  | 0 => 0
  | k + 1 => byteP L i k + if L.getD (8 * i + k) false then 2 ^ (7 - k) else 0
def byteOf (L : List Bool) (i : Nat) : Nat := byteP L i 8
/-- How many bytes. -/
def nb (L : List Bool) : Nat := (L.length + 7) / 8

theorem byteP_congr {L M : List Bool} {i : Nat} : ∀ {k : Nat}, (∀ j, j < k → L.getD (8 * i + j) false = M.getD (8 * i + j) false) → byteP L i k = byteP M i k
  | 0, _ => rfl
  | k + 1, h => by rw [byteP, byteP, byteP_congr fun j hj => h j (by omega), h k (by omega)]
theorem byteP_end {L : List Bool} {i : Nat} : ∀ {k t : Nat}, L.length ≤ 8 * i + k → k ≤ t → byteP L i t = byteP L i k
  | k, 0, _, h => by obtain rfl : k = 0 := by omega
                     rfl
  | k, t + 1, hL, h => by
    by_cases hk : k = t + 1
    · rw [hk]
    · rw [byteP, byteP_end hL (show k ≤ t by omega), show L.getD (8 * i + t) false = false by rw [List.getD_eq_getElem?_getD, List.getElem?_eq_none (by omega)]; rfl]; simp
theorem byteP_step {i k : Nat} {L : List Bool} (hk : k < 8) : ∃ y : Nat, byteP L i k = y * 2 ^ (8 - k) ∧ y < 2 ^ k := by
  induction k with
  | zero => exact ⟨0, rfl, by omega⟩
  | succ k ih =>
    obtain ⟨y, h1, h2⟩ := ih (by omega)
    rw [byteP, h1]
    have e : 2 ^ (8 - k) = 2 * 2 ^ (8 - (k + 1)) := by rw [show 8 - k = (8 - (k + 1)) + 1 by omega, Nat.pow_succ]; omega
    have e2 : 2 ^ (7 - k) = 2 ^ (8 - (k + 1)) := by rw [show 7 - k = 8 - (k + 1) by omega]
    have e3 : 2 ^ (k + 1) = 2 * 2 ^ k := by rw [Nat.pow_succ]; omega
    split
    · exact ⟨2 * y + 1, by rw [e, e2]; grind, by omega⟩
    · exact ⟨2 * y, by rw [e]; grind, by omega⟩
theorem byteOf_lt (L : List Bool) (i : Nat) : byteOf L i < 256 := by
  obtain ⟨y, h1, h2⟩ := byteP_step (L := L) (i := i) (k := 7) (by omega)
  unfold byteOf
  rw [byteP, h1]
  split <;> omega

theorem getD_snoc_lt {L : List Bool} {b : Bool} {j : Nat} (h : j ≠ L.length) : (L ++ [b]).getD j false = L.getD j false := by
  rcases Nat.lt_or_ge j L.length with h1 | h1
  · simp [List.getD_eq_getElem?_getD, List.getElem?_append_left h1]
  · simp [List.getD_eq_getElem?_getD]; rw [List.getElem?_eq_none (by simp; omega)]; rw [List.getElem?_eq_none (by omega)]
theorem getD_snoc_at {L : List Bool} {b : Bool} : (L ++ [b]).getD L.length false = b := by simp
/-- One bit more: the other bytes are as they were; its own byte has it. -/
theorem byteOf_other {L : List Bool} {b : Bool} {i : Nat} (h : i ≠ L.length / 8) : byteOf (L ++ [b]) i = byteOf L i :=
  byteP_congr fun j hj => getD_snoc_lt (by omega)
theorem byteOf_at {L : List Bool} {b : Bool} : byteOf (L ++ [b]) (L.length / 8) = byteOf L (L.length / 8) + if b then 2 ^ (7 - L.length % 8) else 0 := by
  unfold byteOf
  have hm : L.length = 8 * (L.length / 8) + L.length % 8 := by omega
  have hj : L.length % 8 < 8 := Nat.mod_lt _ (by omega)
  rw [byteP_end (k := L.length % 8 + 1) (by simp; omega) (by omega), byteP_end (L := L) (k := L.length % 8) (by omega) (by omega), byteP,
    byteP_congr (L := L ++ [b]) (M := L) fun j hj' => getD_snoc_lt (by omega), show 8 * (L.length / 8) + L.length % 8 = L.length by omega, getD_snoc_at]
theorem byteOf_form (L : List Bool) : ∃ y : Nat, byteOf L (L.length / 8) = y * 2 ^ (8 - L.length % 8) ∧ y < 2 ^ (L.length % 8) := by
  have hj : L.length % 8 < 8 := Nat.mod_lt _ (by omega)
  unfold byteOf
  rw [byteP_end (k := L.length % 8) (by omega) (by omega)]
  exact byteP_step hj
/-- The bit put in by '|'. -/
theorem or_bit (f : Nat) (hf : 1 ≤ f) (hf8 : f ≤ 8) (b : Bool) (y : Nat) (hy : y < 2 ^ (8 - f)) :
    Go.bits .or .u8 ((y * 2 ^ f : Nat) : Int) (if b then ((2 ^ (f - 1) : Nat) : Int) else 0) = ((y * 2 ^ f + if b then 2 ^ (f - 1) else 0 : Nat) : Int) := by
  have hall : ∀ g : Fin 8, ∀ y : Fin 128, y.val < 2 ^ (7 - g.val) → ∀ b : Bool, Go.bits .or .u8 ((y.val * 2 ^ (g.val + 1) : Nat) : Int) (if b then ((2 ^ g.val : Nat) : Int) else 0) = ((y.val * 2 ^ (g.val + 1) + if b then 2 ^ g.val else 0 : Nat) : Int) := by
    decide +kernel
  have h128 : 2 ^ (8 - f) ≤ 128 := by
    have : 2 ^ (8 - f) ≤ 2 ^ 7 := Nat.pow_le_pow_right (by omega) (by omega)
    omega
  have := hall ⟨f - 1, by omega⟩ ⟨y, by omega⟩ (by show y < 2 ^ (7 - (f - 1)); rwa [show 7 - (f - 1) = 8 - f by omega]) b
  simp only [show f - 1 + 1 = f by omega] at this
  exact this

/-- The bits of a number. -/
def bitsOf (n : Int) : Nat → List Bool
  | 0 => []
  | k + 1 => decide (n / 2 ^ k % 2 = 1) :: bitsOf n k
theorem bitsOf_length (n : Int) : ∀ k, (bitsOf n k).length = k
  | 0 => rfl
  | k + 1 => by rw [bitsOf, List.length_cons, bitsOf_length n k]
theorem and_one (n : Int) : Go.bits .and .i64 n 1 = n % 2 := by
  have h1 : (BitVec.ofInt 64 1).toNat = 2 ^ 1 - 1 := by decide
  have key : (BitVec.ofInt 64 n &&& BitVec.ofInt 64 1).toNat = (n % ((2 ^ 64 : Nat) : Int)).toNat % 2 ^ 1 := by
    rw [BitVec.toNat_and, BitVec.toNat_ofInt, h1, Nat.and_two_pow_sub_one_eq_mod]
  show IntKind.i64.wrap ((BitVec.ofInt 64 n &&& BitVec.ofInt 64 1).toNat : Nat) = n % 2
  rw [key, IntKind.wrap_i64]
  omega
/-- A bit as Go's number. -/
def bi (b : Bool) : Int := if b then 1 else 0
theorem and_bit (n : Int) (i : Nat) : Go.bits .and .i64 (n / 2 ^ i) 1 = bi (decide (n / 2 ^ i % 2 = 1)) := by
  rw [and_one]; unfold bi
  by_cases h : n / 2 ^ i % 2 = 1
  · simp [h]
  · simp only [h, decide_false, Bool.false_eq_true, if_false]; omega

/-! ### what is written -/
def fold (x : Int) : Int := if x < 0 then -2 * x - 1 else 2 * x
def X (l : List Int) (i : Nat) : Int := l.getD i 0
def guess (l : List Int) (i o : Nat) : Int :=
  if o = 1 then X l (i - 1) else if o = 2 then 2 * X l (i - 1) - X l (i - 2) else if o = 3 then 3 * X l (i - 1) - 3 * X l (i - 2) + X l (i - 3) else 0
def miss (l : List Int) (o i : Nat) : Int := fold (X l i - guess l i o)
/-- From place i on. -/
def missFrom (l : List Int) (o : Nat) : Nat → Nat → List Int
  | 0, _ => []
  | m + 1, i => miss l o i :: missFrom l o m (i + 1)
def misses (l : List Int) (o : Nat) : List Int := missFrom l o (l.length - o) o
def cost (k : Nat) (x : Int) : Int := x / 2 ^ k + 1 + k
def costs (k : Nat) : List Int → Int
  | [] => 0
  | x :: r => cost k x + costs k r
def long (l : List Int) (o k : Nat) : Int := 16 * (min o l.length : Nat) + costs k (misses l o)
/-- The best of the first t of 64 orders and keys: least, order, key. -/
def bestTo (l : List Int) : Nat → Int × Nat × Nat
  | 0 => (-1, 0, 0)
  | t + 1 => if (bestTo l t).1 < 0 ∨ long l (t / 16) (t % 16) < (bestTo l t).1 then (long l (t / 16) (t % 16), t / 16, t % 16) else bestTo l t
def riceBits (k : Nat) (x : Int) : List Bool := List.replicate (x / 2 ^ k).toNat true ++ [false] ++ bitsOf x k
def riceAll (k : Nat) : List Int → List Bool
  | [] => []
  | x :: r => riceBits k x ++ riceAll k r
def rawBits : List Int → List Bool
  | [] => []
  | x :: r => bitsOf (x + 32768) 16 ++ rawBits r
def frameBits (l : List Int) (o k : Nat) : List Bool := bitsOf o 2 ++ bitsOf k 4 ++ rawBits (l.take o) ++ riceAll k (misses l o)
def bestBits (l : List Int) : List Bool := frameBits l (bestTo l 64).2.1 (bestTo l 64).2.2
/-- Frame t. -/
def fr (l : List Int) (t : Nat) : List Int := (l.drop (256 * t)).take 256
def encTo (l : List Int) : Nat → List Bool
  | 0 => []
  | t + 1 => encTo l t ++ bestBits (fr l t)
def encBits (l : List Int) : List Bool := bitsOf l.length 24 ++ encTo l ((l.length + 255) / 256)
def Small (l : List Int) : Prop := ∀ x ∈ l, -32768 ≤ x ∧ x ≤ 32767

/-! ### bounds -/
theorem fold_nonneg (x : Int) : 0 ≤ fold x := by unfold fold; split <;> omega
theorem X_bd {l : List Int} (h : Small l) (i : Nat) : -32768 ≤ X l i ∧ X l i ≤ 32767 := by
  unfold X
  rcases Nat.lt_or_ge i l.length with hi | hi
  · rw [List.getD_eq_getElem?_getD, List.getElem?_eq_getElem hi]; exact h _ (List.getElem_mem hi)
  · rw [List.getD_eq_getElem?_getD, List.getElem?_eq_none hi]; simp
theorem guess_bd {l : List Int} (h : Small l) (i o : Nat) : -229376 ≤ guess l i o ∧ guess l i o ≤ 229376 := by
  have h1 := X_bd h (i - 1); have h2 := X_bd h (i - 2); have h3 := X_bd h (i - 3)
  unfold guess
  split
  · omega
  · split
    · omega
    · split <;> omega
theorem miss_bd {l : List Int} (h : Small l) (o i : Nat) : 0 ≤ miss l o i ∧ miss l o i ≤ 524288 := by
  have h1 := guess_bd h i o; have h2 := X_bd h i
  unfold miss fold
  split <;> omega
theorem missFrom_bd {l : List Int} (h : Small l) (o : Nat) : ∀ (m i : Nat), ∀ x ∈ missFrom l o m i, 0 ≤ x ∧ x ≤ 524288
  | 0, _, x, hx => by simp [missFrom] at hx
  | m + 1, i, x, hx => by
    rw [missFrom, List.mem_cons] at hx
    rcases hx with rfl | hx
    · exact miss_bd h o i
    · exact missFrom_bd h o m (i + 1) x hx
theorem missFrom_length (l : List Int) (o : Nat) : ∀ (m i : Nat), (missFrom l o m i).length = m
  | 0, _ => rfl
  | m + 1, i => by rw [missFrom, List.length_cons, missFrom_length l o m (i + 1)]
theorem cost_bd {k : Nat} (hk : k ≤ 15) {x : Int} (h : 0 ≤ x ∧ x ≤ 524288) : 0 ≤ cost k x ∧ cost k x ≤ 524304 := by
  unfold cost
  have h1 : 0 ≤ x / 2 ^ k := Int.ediv_nonneg h.1 (Int.le_of_lt (Int.pow_pos (by omega)))
  have h2 : x / 2 ^ k ≤ x := Int.ediv_le_self _ h.1
  omega
theorem costs_bd {k : Nat} (hk : k ≤ 15) : ∀ {l : List Int}, (∀ x ∈ l, 0 ≤ x ∧ x ≤ 524288) → 0 ≤ costs k l ∧ costs k l ≤ 524304 * l.length
  | [], _ => by simp [costs]
  | x :: r, h => by
    have h1 := cost_bd hk (h x (by simp))
    have h2 := costs_bd hk (l := r) (fun y hy => h y (by simp [hy]))
    rw [costs, List.length_cons]
    omega
theorem long_bd {l : List Int} (h : Small l) (o : Nat) {k : Nat} (hk : k ≤ 15) : 0 ≤ long l o k ∧ long l o k ≤ 16 * l.length + 524304 * l.length := by
  have h1 := costs_bd hk (missFrom_bd h o (l.length - o) o)
  rw [missFrom_length] at h1
  unfold long misses
  omega
theorem bestTo_spec {l : List Int} (h : Small l) : ∀ t, 0 < t → (bestTo l t).2.1 * 16 + (bestTo l t).2.2 < t ∧ (bestTo l t).2.2 < 16 ∧ (bestTo l t).1 = long l (bestTo l t).2.1 (bestTo l t).2.2 ∧
    ∀ s, s < t → (bestTo l t).1 ≤ long l (s / 16) (s % 16)
  | 0, h0 => absurd h0 (by omega)
  | t + 1, _ => by
    have hb : 0 ≤ long l (t / 16) (t % 16) := (long_bd h (t / 16) (k := t % 16) (by omega)).1
    rw [bestTo]
    by_cases ht : t = 0
    · subst ht
      rw [if_pos (.inl (by show (-1 : Int) < 0; omega))]
      refine ⟨by simp, by simp, rfl, fun s hs => ?_⟩
      obtain rfl : s = 0 := by omega
      exact Int.le_refl _
    · obtain ⟨i1, i2, i3, i4⟩ := bestTo_spec h t (by omega)
      split
      · rename_i hc
        have hlt : long l (t / 16) (t % 16) < (bestTo l t).1 := by
          rcases hc with hc | hc
          · rw [i3] at hc; have := (long_bd h (bestTo l t).2.1 (k := (bestTo l t).2.2) (by omega)).1; omega
          · exact hc
        refine ⟨by show t / 16 * 16 + t % 16 < t + 1; omega, by show t % 16 < 16; omega, rfl, fun s hs => ?_⟩
        by_cases hst : s = t
        · subst hst; exact Int.le_refl _
        · have := i4 s (by omega); show long l (t / 16) (t % 16) ≤ _; omega
      · rename_i hc
        refine ⟨by omega, i2, i3, fun s hs => ?_⟩
        by_cases hst : s = t
        · subst hst
          have : ¬ long l (s / 16) (s % 16) < (bestTo l s).1 := fun h => hc (.inr h)
          omega
        · exact i4 s (by omega)
theorem bestTo_neg {l : List Int} (h : Small l) {t : Nat} (ht : 0 < t) : 0 ≤ (bestTo l t).1 := by
  obtain ⟨i1, i2, i3, _⟩ := bestTo_spec h t ht
  rw [i3]; exact (long_bd h _ (k := (bestTo l t).2.2) (by omega)).1

/-! ### lengths -/
theorem riceBits_length {k : Nat} {x : Int} (hx : 0 ≤ x) : ((riceBits k x).length : Int) = cost k x := by
  unfold riceBits cost
  have h1 : 0 ≤ x / 2 ^ k := Int.ediv_nonneg hx (Int.le_of_lt (Int.pow_pos (by omega)))
  simp only [List.length_append, List.length_replicate, List.length_cons, List.length_nil, bitsOf_length]
  omega
theorem riceAll_length {k : Nat} : ∀ {l : List Int}, (∀ x ∈ l, 0 ≤ x ∧ x ≤ 524288) → ((riceAll k l).length : Int) = costs k l
  | [], _ => rfl
  | x :: r, h => by
    rw [riceAll, List.length_append, costs, Int.natCast_add, riceBits_length (h x (by simp)).1, riceAll_length fun y hy => h y (by simp [hy])]
theorem rawBits_length : ∀ l : List Int, (rawBits l).length = 16 * l.length
  | [] => rfl
  | x :: r => by rw [rawBits, List.length_append, bitsOf_length, rawBits_length r, List.length_cons]; omega
theorem frameBits_length {l : List Int} (h : Small l) (o : Nat) {k : Nat} : ((frameBits l o k).length : Int) = 6 + long l o k := by
  unfold frameBits long
  simp only [List.length_append, bitsOf_length, rawBits_length, List.length_take, Int.natCast_add]
  rw [show misses l o = missFrom l o (l.length - o) o from rfl, riceAll_length (missFrom_bd h o _ _)]
  omega
theorem Small.frame {l : List Int} (h : Small l) (t : Nat) : Small (fr l t) := fun x hx => h x (List.mem_of_mem_drop (List.mem_of_mem_take hx))
theorem fr_length (l : List Int) (t : Nat) : (fr l t).length = min 256 (l.length - 256 * t) := by unfold fr; simp
theorem X_fr {l : List Int} {t i : Nat} (hi : i < (fr l t).length) : X (fr l t) i = X l (256 * t + i) := by
  rw [fr_length] at hi
  unfold X fr
  simp only [List.getD_eq_getElem?_getD, List.getElem?_take, List.getElem?_drop]
  rw [if_pos (by omega)]
theorem flat_bd {l : List Int} (h : Small l) : ∀ {m i : Nat}, costs 15 (missFrom l 0 m i) ≤ 18 * m
  | 0, _ => by simp [missFrom, costs]
  | m + 1, i => by
    have := flat_bd h (m := m) (i := i + 1)
    have hx := X_bd h i
    have hb : 0 ≤ miss l 0 i ∧ miss l 0 i ≤ 65536 := by unfold miss guess fold; simp; split <;> omega
    have hc : cost 15 (miss l 0 i) ≤ 18 := by unfold cost; omega
    rw [missFrom, costs]
    omega
theorem best_le {l : List Int} (h : Small l) {o k : Nat} (ho : o ≤ 3) (hk : k ≤ 15) : long l (bestTo l 64).2.1 (bestTo l 64).2.2 ≤ long l o k := by
  obtain ⟨_, _, i3, i4⟩ := bestTo_spec h 64 (by omega)
  have := i4 (16 * o + k) (by omega)
  rw [i3, show (16 * o + k) / 16 = o by omega, show (16 * o + k) % 16 = k by omega] at this
  exact this
theorem bestBits_length {l : List Int} (h : Small l) : ((bestBits l).length : Int) = 6 + long l (bestTo l 64).2.1 (bestTo l 64).2.2 := frameBits_length h _
theorem bestBits_le {l : List Int} (h : Small l) (hl : l.length ≤ 256) : (bestBits l).length ≤ 5000 := by
  have h1 := bestBits_length h
  have h2 := best_le h (o := 0) (k := 15) (by omega) (by omega)
  have h3 : long l 0 15 ≤ 18 * l.length := by
    unfold long misses
    have := flat_bd h (m := l.length - 0) (i := 0)
    simp only [Nat.zero_min, Nat.sub_zero] at this ⊢
    omega
  omega
theorem encTo_le {l : List Int} (h : Small l) : ∀ t, (encTo l t).length ≤ 5000 * t
  | 0 => by simp [encTo]
  | t + 1 => by
    have := encTo_le h t
    have := bestBits_le (h.frame t) (by rw [fr_length]; omega)
    rw [encTo, List.length_append]; omega
def smallB (l : List Int) : Bool := l.all fun x => decide (-32768 ≤ x ∧ x ≤ 32767)
theorem smallB_iff {l : List Int} : smallB l = true ↔ Small l := by unfold smallB Small; simp
theorem small_X {l : List Int} : Small l ↔ ∀ i, i < l.length → -32768 ≤ X l i ∧ X l i ≤ 32767 := by
  constructor
  · intro h i _; exact X_bd h i
  · intro h x hx
    obtain ⟨i, hi, rfl⟩ := List.getElem_of_mem hx
    have := h i hi
    unfold X at this
    rwa [List.getD_eq_getElem?_getD, List.getElem?_eq_getElem hi] at this
def packN (L : List Bool) : List Int := (List.range (nb L)).map fun i => (byteOf L i : Int)
def packS (L : List Bool) : ByteArray := strOfNums (packN L)
theorem packS_size (L : List Bool) : (packS L).size = nb L := by unfold packS packN; rw [strOfNums_size]; simp
/-- What Encode answers. -/
def enc (l : List Int) : ByteArray × Int := if 1048576 < l.length then (⟨#[]⟩, 5) else if smallB l then (packS (encBits l), 0) else (⟨#[]⟩, 3)
end Go.Proofs.Ytfoiadlaekknpaa.Co
