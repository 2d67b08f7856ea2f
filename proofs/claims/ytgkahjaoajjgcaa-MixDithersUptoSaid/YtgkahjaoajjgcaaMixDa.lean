/-
  A DITHER: plain.
-/
import Derived.Test.YtgkahjaoajjgcaaPmU
import Derived.Test.YtgkahjaoajjgcaaKit
namespace Go.Proofs.Ytgkahjaoajjgcaa.Pm
open Go

theorem mixed : Try.prog.follows .mixedOrders = true := by kernel_rfl
/-- The next of the noise's seeds. -/
def seedS (s : Int) : Int := IntKind.wrap .u32 (IntKind.wrap .u32 (s * 1664525) + 1013904223)
def noiS (s : Int) : Int := seedS s / 65536
theorem seed_bd (s : Int) : 0 ≤ seedS s ∧ seedS s < 4294967296 := by
  unfold seedS
  simp only [IntKind.wrap, IntKind.bits, IntKind.signed]
  have h1 := Int.emod_nonneg (IntKind.wrap .u32 (s * 1664525) + 1013904223) (show (2 ^ 32 : Int) ≠ 0 by decide)
  have h2 := Int.emod_lt_of_pos (IntKind.wrap .u32 (s * 1664525) + 1013904223) (show (0 : Int) < 2 ^ 32 by decide)
  simp only [IntKind.wrap, IntKind.bits, IntKind.signed] at h1 h2
  simp at h1 h2 ⊢
  omega
theorem noi_bd (s : Int) : 0 ≤ noiS s ∧ noiS s ≤ 65535 := by
  have := seed_bd s
  unfold noiS
  omega
/-- seed, what is left, the loudest, how many were too great. -/
abbrev DS := Int × Int × Int × Int
/-- The sample, before it is cut. -/
def rawS (s : DS) (x : Int) : Int := (x + s.2.1 + noiS s.1) / 65536
def cutS (n : Int) : Int := if 32767 < n then 32767 else if n < -32768 then -32768 else n
def tooB (n : Int) : Bool := decide (32767 < n ∨ n < -32768)
def absI (n : Int) : Int := if n < 0 then -n else n
def loudS (l n : Int) : Int := if l < absI n then absI n else l
def oneS (s : DS) (x : Int) : DS := (seedS s.1, if tooB (rawS s x) then 0 else x + s.2.1 - rawS s x * 65536, loudS s.2.2.1 (cutS (rawS s x)), if tooB (rawS s x) then s.2.2.2 + 1 else s.2.2.2)
def smpS (s : DS) (x : Int) : Int := cutS (rawS s x)
def runD : DS → List Int → DS × List Int
  | s, [] => (s, [])
  | s, x :: l => ((runD (oneS s x) l).1, smpS s x :: (runD (oneS s x) l).2)
def inB (l : List Int) : Bool := l.all fun x => decide (-4503599627370496 ≤ x ∧ x ≤ 4503599627370496)
/-- A state as it may be. -/
def okD (s : DS) : Prop := (-65535 ≤ s.2.1 ∧ s.2.1 ≤ 65535) ∧ (0 ≤ s.2.2.1 ∧ s.2.2.1 ≤ 32768) ∧ 0 ≤ s.2.2.2
theorem cut_bd (n : Int) : -32768 ≤ cutS n ∧ cutS n ≤ 32767 := by unfold cutS; omega
theorem one_ok {s : DS} {x : Int} (h : okD s) : okD (oneS s x) ∧ (oneS s x).2.2.2 ≤ s.2.2.2 + 1 := by
  have h1 := noi_bd s.1
  have h2 := cut_bd (rawS s x)
  unfold okD at h ⊢
  have hr : rawS s x * 65536 ≤ x + s.2.1 + noiS s.1 ∧ x + s.2.1 + noiS s.1 < rawS s x * 65536 + 65536 := by unfold rawS; omega
  simp only [oneS, loudS, absI]
  generalize rawS s x = n at *
  generalize cutS n = c at *
  cases tooB n
  · simp only [Bool.false_eq_true, if_false]
    omega
  · simp only [if_true]
    omega
theorem runD_len : ∀ (s : DS) (l : List Int), (runD s l).2.length = l.length
  | _, [] => rfl
  | s, x :: l => by rw [runD, List.length_cons, List.length_cons, runD_len]
theorem runD_ok : ∀ (s : DS) (l : List Int), okD s → okD (runD s l).1 ∧ (runD s l).1.2.2.2 ≤ s.2.2.2 + ((l.length : Nat) : Int)
  | s, [], h => ⟨h, by simp [runD]⟩
  | s, x :: l, h => by
    have h1 := one_ok (x := x) h
    have h2 := runD_ok (oneS s x) l h1.1
    rw [runD]
    refine ⟨h2.1, ?_⟩
    simp only [List.length_cons]
    omega
theorem dropI {l : List Int} {i : Nat} (h : i < l.length) : l.drop i = l.getD i 0 :: l.drop (i + 1) := by
  rw [List.drop_eq_getElem_cons h, List.getD_eq_getElem?_getD, List.getElem?_eq_getElem h]
  rfl
/-- So far, and the rest. -/
def restD (D : List Int) (r : DS × List Int) : DS × List Int := (r.1, D ++ r.2)
theorem restD_next {D : List Int} {s : DS} {l : List Int} {i : Nat} (h : i < l.length) : restD (D ++ [smpS s (l.getD i 0)]) (runD (oneS s (l.getD i 0)) (l.drop (i + 1))) = restD D (runD s (l.drop i)) := by
  rw [dropI h, runD, restD, restD, List.append_assoc, List.singleton_append]
theorem inB_at {l : List Int} (h : inB l = true) {i : Nat} (hi : i < l.length) : -4503599627370496 ≤ l.getD i 0 ∧ l.getD i 0 ≤ 4503599627370496 := by
  have := List.all_eq_true.1 h (l.getD i 0) (by rw [List.getD_eq_getElem?_getD, List.getElem?_eq_getElem hi]; exact List.getElem_mem hi)
  simpa using this
theorem inB_of {l : List Int} (h : ∀ i, i < l.length → -4503599627370496 ≤ l.getD i 0 ∧ l.getD i 0 ≤ 4503599627370496) : inB l = true := by
  refine List.all_eq_true.2 fun x hx => ?_
  obtain ⟨i, hi, rfl⟩ := List.getElem_of_mem hx
  have := h i hi
  rw [List.getD_eq_getElem?_getD, List.getElem?_eq_getElem hi] at this
  simpa using this
theorem inB_no {l : List Int} {i : Nat} (hi : i < l.length) (h : ¬ (-4503599627370496 ≤ l.getD i 0 ∧ l.getD i 0 ≤ 4503599627370496)) : inB l = false := by
  cases hb : inB l with
  | false => rfl
  | true => exact absurd (inB_at hb hi) h
/-- What Run leaves behind; what it tells. -/
def nextD (s : DS) (l : List Int) : DS := if inB l then (runD s l).1 else s
def outD (s : DS) (l : List Int) : List Int := if inB l then (runD s l).2 else []
def errD (l : List Int) : Int := if inB l then 0 else 3
def outP (s : DS) (l : List Int) : PV := .ssl (ints (outD s l)) 0 (outD s l).length
theorem nextD_ok {s : DS} {l : List Int} (h : okD s) : okD (nextD s l) ∧ (nextD s l).2.2.2 ≤ s.2.2.2 + ((l.length : Nat) : Int) := by
  unfold nextD
  split
  · exact runD_ok s l h
  · exact ⟨h, by omega⟩
/-- The row that is filled. -/
def fillD (D : List Int) (n : Nat) : List Int := D ++ List.replicate (n - D.length) 0
theorem fill_zero (n : Nat) : zeros [iv 0] n = ints (fillD [] n) := by
  rw [zeros_ints]; rfl
theorem fill_store {D : List Int} {n : Nat} {v : Int} (h : D.length < n) : D.length + 1 ≤ (ints (fillD D n)).length ∧ splice (ints (fillD D n)) D.length [iv v] = ints (fillD (D ++ [v]) n) := by
  obtain ⟨h1, h2⟩ := ints_splice (l := fillD D n) (k := D.length) (v := v) (by unfold fillD; simp; omega)
  refine ⟨h1, h2.trans ?_⟩
  congr 1
  unfold fillD
  rw [List.set_append_right _ _ (Nat.le_refl _), Nat.sub_self, show n - D.length = (n - (D ++ [v]).length) + 1 from by simp; omega, List.replicate_succ, List.set_cons_zero]
  simp
theorem fill_len {D : List Int} {n : Nat} (h : D.length ≤ n) : (fillD D n).length = n := by unfold fillD; simp; omega
theorem fill_end {D : List Int} {n : Nat} (h : D.length = n) : fillD D n = D := by unfold fillD; rw [h, Nat.sub_self]; simp
theorem noi_eq (s : Int) : (seedS s).fdiv (2 ^ (16 : Int).toNat) = noiS s := by
  have h := seed_bd s
  rw [show ((2 : Int) ^ (16 : Int).toNat) = 65536 from rfl, Int.fdiv_eq_ediv_of_nonneg _ (by decide)]
  rfl
theorem noi_eq2 (s : Int) : (seedS s).tdiv 65536 = noiS s := by
  have h := seed_bd s
  rw [Int.tdiv_eq_ediv_of_nonneg h.1]
  rfl
theorem raw_eq (s : DS) (x : Int) : (x + s.2.1 + noiS s.1).fdiv (2 ^ (16 : Int).toNat) = rawS s x := by
  rw [show ((2 : Int) ^ (16 : Int).toNat) = 65536 from rfl, Int.fdiv_eq_ediv_of_nonneg _ (by decide)]
  rfl
theorem tdm (a : Int) : 65536 * a.tdiv 65536 + a.tmod 65536 = a ∧ (0 ≤ a → 0 ≤ a.tmod 65536) ∧ (a < 0 → a.tmod 65536 ≤ 0) ∧ -65536 < a.tmod 65536 ∧ a.tmod 65536 < 65536 := by
  have h0 : 65536 * a.tdiv 65536 + a.tmod 65536 = a := Int.mul_tdiv_add_tmod a 65536
  have h1 := Int.tmod_eq_emod (a := a) (b := 65536)
  have h2 := Int.emod_nonneg a (show (65536 : Int) ≠ 0 by decide)
  have h3 := Int.emod_lt_of_pos a (show (0 : Int) < 65536 by decide)
  refine ⟨h0, fun h => Int.tmod_nonneg 65536 h, fun h => ?_, ?_, ?_⟩
  · split at h1 <;> omega
  · split at h1 <;> omega
  · split at h1 <;> omega
theorem raw_neg {s : DS} {x : Int} (h : (x + s.2.1 + noiS s.1).tmod 65536 < 0) : (x + s.2.1 + noiS s.1).tdiv 65536 - 1 = rawS s x := by
  unfold rawS
  generalize x + s.2.1 + noiS s.1 = a at *
  have := tdm a
  omega
theorem raw_pos {s : DS} {x : Int} (h : ¬ (x + s.2.1 + noiS s.1).tmod 65536 < 0) : (x + s.2.1 + noiS s.1).tdiv 65536 = rawS s x := by
  unfold rawS
  generalize x + s.2.1 + noiS s.1 = a at *
  have := tdm a
  omega
theorem raw_bd {s : DS} {x : Int} (h : okD s) (hx : -4503599627370496 ≤ x ∧ x ≤ 4503599627370496) : -68719476738 ≤ rawS s x ∧ rawS s x ≤ 68719476738 := by
  have := noi_bd s.1
  unfold okD at h
  unfold rawS
  omega
theorem max_loud (l n : Int) (h : 0 ≤ l) : max (max l n) (0 - n) = loudS l n := by
  unfold loudS absI
  omega
theorem one_no {s : DS} {x : Int} (h : okD s) (h1 : ¬ 32767 < rawS s x) (h2 : ¬ rawS s x < -32768) : oneS s x = (seedS s.1, x + s.2.1 - rawS s x * 65536, max (max s.2.2.1 (rawS s x)) (0 - rawS s x), s.2.2.2) ∧ smpS s x = rawS s x := by
  have hc : cutS (rawS s x) = rawS s x := by unfold cutS; rw [if_neg h1, if_neg h2]
  have ht : tooB (rawS s x) = false := by unfold tooB; exact decide_eq_false (by omega)
  refine ⟨?_, hc⟩
  unfold oneS
  rw [hc, ht, max_loud _ _ h.2.1.1]
  rfl
theorem one_yes {s : DS} {x : Int} (h : okD s) (h1 : 32767 < rawS s x ∨ rawS s x < -32768) : oneS s x = (seedS s.1, 0, max (max s.2.2.1 (min (max (rawS s x) (-32768)) 32767)) (0 - min (max (rawS s x) (-32768)) 32767), s.2.2.2 + 1) ∧ smpS s x = min (max (rawS s x) (-32768)) 32767 := by
  have hc : cutS (rawS s x) = min (max (rawS s x) (-32768)) 32767 := by unfold cutS; omega
  have ht : tooB (rawS s x) = true := by unfold tooB; exact decide_eq_true h1
  refine ⟨?_, hc⟩
  unfold oneS
  rw [← hc, ht, max_loud _ _ h.2.1.1]
  rfl
end Go.Proofs.Ytgkahjaoajjgcaa.Pm
