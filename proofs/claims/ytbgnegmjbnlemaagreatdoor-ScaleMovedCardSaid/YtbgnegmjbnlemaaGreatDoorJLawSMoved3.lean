/-
  CHORDS: plain. No program in sight. | Small lemmas for all walks of this seat. | REGIONS THAT DRAW THEIR ORDER: a class C of worlds (Derived/Deep/Quiet.lean's own notion: an operation is quiet in C), behind which a tail stands that the order forces (Derived/StillTail.lean's notion of a tail). No program in sight. | THE WALKS of pitches: of the package. | THE WALKS of pitches, on: Between, Key, within, Sum, floor, Move, Mirror of the package. | MOVES: plain. | CHORDS: plain, for the walks of their notes. No program in sight. | The program's orders are mixed: one fact of this seat. | TEXTS: what Go's library does to them: the kit's contracts, by values. | THE WALKS of pitches: of the reference: Abs, Right, Up, White, Steps, Halves, At, Within, Key. | THE WALKS of pitches: of the reference: At, Between, Sum, Move, Mirror. | TEXTS: small functions of pitches: the kit's kind of contracts, as contracts by values. | PITCHES AS TEXTS: signs, numbers: walks. (Printed by wip/pm.) | INTERVALS AS TEXTS: written: walks. (Printed by wip/pm.)
-/
import Derived.Test.YtbgnegmjbnlemaaGreatDoorJLawSMoved2
import Derived.Test.YtbgnegmjbnlemaaGreatDoorRows
import Derived.WalkKit
import Derived.WalkSpells
import Derived.WalkLawsBesides
import Derived.Deep.QuietTactic
import Derived.BigQuiet
import Derived.Lib.Hide
import Derived.StillTail
import Derived.Deep.Quiet
import Derived.Below
import Derived.Deep.RegionHeld3
import Derived.Deep.RegionWith
import Derived.Shelf.Lay
import Derived.Shelf.Strings.Prefix
import Derived.Shelf.Strings.Trim
import Derived.Shelf.Strings.Search3
import Derived.Shelf.Strings.Repeat
import Derived.Shelf.Strings.SlTrimAscii
import Derived.Shelf.Strconv.Atoi
import Derived.Shelf.Strconv.Itoa3
import Derived.Shelf.Unicode.DecodeAny
import Derived.Lib.AtoiErrMem
import Derived.Lib.AppendIntMem
namespace Go.Proofs.YtbgnegmjbnlemaaGreatDoor.Pm
open Go Go.Proofs.YtbgnegmjbnlemaaGreatDoor.Pi

abbrev Pt := Int × Int × Int
abbrev Cl := Int × Int
def ptC (p : Pt) : List PV := [iv p.1, iv p.2.1, iv p.2.2]
def clC (c : Cl) : List PV := [iv c.1, iv c.2]
def pts (l : List Pt) : List PV := l.flatMap ptC
def clss (l : List Cl) : List PV := l.flatMap clC
def txC (t : List UInt8) : List PV := [sv (st t)]
def txs (l : List (List UInt8)) : List PV := l.flatMap txC
def dPt : Pt := (0, 0, 0)
def dCl : Cl := (0, 0)
def rb (p : Pt) : Bool := rightB p.1 p.2.1 p.2.2
def cl (p : Pt) : Cl := (p.1, p.2.1)
/-- What stands over the root: intervals, and their names. -/
def stkI (k : Int) : List (Int × Int) :=
  if k = 1 then [(2, 4), (4, 7)] else if k = 2 then [(2, 3), (4, 7)] else if k = 3 then [(2, 3), (4, 6)] else if k = 4 then [(2, 4), (4, 8)] else if k = 5 then [(2, 4), (4, 7), (6, 10)]
  else if k = 6 then [(2, 4), (4, 7), (6, 11)] else if k = 7 then [(2, 3), (4, 7), (6, 10)] else if k = 8 then [(2, 3), (4, 6), (6, 10)] else if k = 9 then [(2, 3), (4, 6), (6, 9)] else []
def inT (i : Int × Int) : List UInt8 :=
  if i = (2, 4) then [77, 51] else if i = (2, 3) then [109, 51] else if i = (4, 7) then [80, 53] else if i = (4, 6) then [100, 53] else if i = (4, 8) then [65, 53] else if i = (6, 10) then [109, 55] else if i = (6, 11) then [77, 55] else [100, 55]
def stkT (k : Int) : List (List UInt8) := (stkI k).map inT
theorem nameC {s h : Int} {q : List UInt8} {b : UInt8} (hw : withinB s h = true) (hn : ¬ (s < 0 ∨ (s = 0 ∧ h < 0))) (hq : qualS (perfB s) (moreOf s h) = q) (hl : q.length ≤ 6) (h1 : s + 1 < 10) (hb : UInt8.ofNat (48 + (s + 1)).toNat = b) : namedS (q ++ [b]) = ((s, h), 0) := by
  have e : nameS s h = (q ++ [b], 0) := by rw [name_ok0 hw hn hq hl, itoa_dig (by omega) h1, hb]
  have := named_name (s := s) (h := h) (by rw [e])
  rw [e] at this; exact this
theorem named_inT {i : Int × Int} (hi : i = (2, 4) ∨ i = (2, 3) ∨ i = (4, 7) ∨ i = (4, 6) ∨ i = (4, 8) ∨ i = (6, 10) ∨ i = (6, 11) ∨ i = (6, 9)) : namedS (inT i) = (i, 0) := by
  rcases hi with rfl | rfl | rfl | rfl | rfl | rfl | rfl | rfl
  · exact nameC (q := [77]) (by decide) (by decide) (by decide) (by decide) (by decide) (by decide)
  · exact nameC (q := [109]) (by decide) (by decide) (by decide) (by decide) (by decide) (by decide)
  · exact nameC (q := [80]) (by decide) (by decide) (by decide) (by decide) (by decide) (by decide)
  · exact nameC (q := [100]) (by decide) (by decide) (by decide) (by decide) (by decide) (by decide)
  · exact nameC (q := [65]) (by decide) (by decide) (by decide) (by decide) (by decide) (by decide)
  · exact nameC (q := [109]) (by decide) (by decide) (by decide) (by decide) (by decide) (by decide)
  · exact nameC (q := [77]) (by decide) (by decide) (by decide) (by decide) (by decide) (by decide)
  · exact nameC (q := [100]) (by decide) (by decide) (by decide) (by decide) (by decide) (by decide)
theorem stk_kinds {k : Int} (h : stkI k ≠ []) : k = 1 ∨ k = 2 ∨ k = 3 ∨ k = 4 ∨ k = 5 ∨ k = 6 ∨ k = 7 ∨ k = 8 ∨ k = 9 := by
  unfold stkI at h
  by_cases h1 : k = 1
  · omega
  · by_cases h2 : k = 2
    · omega
    · by_cases h3 : k = 3
      · omega
      · by_cases h4 : k = 4
        · omega
        · by_cases h5 : k = 5
          · omega
          · by_cases h6 : k = 6
            · omega
            · by_cases h7 : k = 7
              · omega
              · by_cases h8 : k = 8
                · omega
                · by_cases h9 : k = 9
                  · omega
                  · exfalso; apply h; simp [h1, h2, h3, h4, h5, h6, h7, h8, h9]
theorem stk_all {k : Int} {P : List (Int × Int) → Prop} (h1 : P (stkI 1)) (h2 : P (stkI 2)) (h3 : P (stkI 3)) (h4 : P (stkI 4)) (h5 : P (stkI 5)) (h6 : P (stkI 6)) (h7 : P (stkI 7)) (h8 : P (stkI 8)) (h9 : P (stkI 9)) (h0 : P []) : P (stkI k) := by
  by_cases hk : stkI k = []
  · rw [hk]; exact h0
  · rcases stk_kinds hk with rfl | rfl | rfl | rfl | rfl | rfl | rfl | rfl | rfl <;> assumption
theorem stk_in {k : Int} {i : Int × Int} (hi : i ∈ stkI k) : i = (2, 4) ∨ i = (2, 3) ∨ i = (4, 7) ∨ i = (4, 6) ∨ i = (4, 8) ∨ i = (6, 10) ∨ i = (6, 11) ∨ i = (6, 9) := by
  have key : ∀ i ∈ stkI k, i = (2, 4) ∨ i = (2, 3) ∨ i = (4, 7) ∨ i = (4, 6) ∨ i = (4, 8) ∨ i = (6, 10) ∨ i = (6, 11) ∨ i = (6, 9) :=
    stk_all (P := fun l => ∀ i ∈ l, i = (2, 4) ∨ i = (2, 3) ∨ i = (4, 7) ∨ i = (4, 6) ∨ i = (4, 8) ∨ i = (6, 10) ∨ i = (6, 11) ∨ i = (6, 9)) (by decide) (by decide) (by decide) (by decide) (by decide) (by decide) (by decide) (by decide) (by decide) (by decide)
  exact key i hi
theorem stk_len (k : Int) : (stkI k).length ≤ 3 := stk_all (P := fun l => l.length ≤ 3) (by decide) (by decide) (by decide) (by decide) (by decide) (by decide) (by decide) (by decide) (by decide) (by decide)
/-- Their steps: a third, a fifth, a seventh. -/
theorem stk_steps {k : Int} {j : Nat} (h : j < (stkI k).length) : ((stkI k).getD j (0, 0)).1 = 2 * (j : Int) + 2 ∧ 3 ≤ ((stkI k).getD j (0, 0)).2 ∧ ((stkI k).getD j (0, 0)).2 ≤ 11 := by
  have key : ∀ j : Fin 3, j.1 < (stkI k).length → ((stkI k).getD j.1 (0, 0)).1 = 2 * (j.1 : Int) + 2 ∧ 3 ≤ ((stkI k).getD j.1 (0, 0)).2 ∧ ((stkI k).getD j.1 (0, 0)).2 ≤ 11 :=
    stk_all (P := fun l => ∀ j : Fin 3, j.1 < l.length → (l.getD j.1 (0, 0)).1 = 2 * (j.1 : Int) + 2 ∧ 3 ≤ (l.getD j.1 (0, 0)).2 ∧ (l.getD j.1 (0, 0)).2 ≤ 11) (by decide) (by decide) (by decide) (by decide) (by decide) (by decide) (by decide) (by decide) (by decide) (by decide)
  exact key ⟨j, by have := stk_len k; omega⟩ h

/-! ### the notes of a chord -/
def mvP (p : Pt) (i : Int × Int) : Pt := ((Pi.move p.1 p.2.1 p.2.2 i.1 i.2).1, (Pi.move p.1 p.2.1 p.2.2 i.1 i.2).2.1, (Pi.move p.1 p.2.1 p.2.2 i.1 i.2).2.2.1)
def mvE (p : Pt) (i : Int × Int) : Int := (Pi.move p.1 p.2.1 p.2.2 i.1 i.2).2.2.2
def notesGo (p : Pt) : List (Int × Int) → List Pt → List Pt × Int
  | [], acc => (acc, 0)
  | i :: r, acc => if mvE p i = 0 then notesGo p r (acc ++ [mvP p i]) else ([], mvE p i)
def notesS (p : Pt) (k : Int) : List Pt × Int := if stkI k = [] then ([], 1) else if rb p = true then notesGo p (stkI k) [p] else ([], 2)
theorem notesGo_at {p : Pt} {l : List (Int × Int)} {j : Nat} (hj : j < l.length) {acc : List Pt} (h : mvE p (l.getD j (0, 0)) = 0) : notesGo p (l.drop j) acc = notesGo p (l.drop (j + 1)) (acc ++ [mvP p (l.getD j (0, 0))]) := by
  rw [List.drop_eq_getElem_cons hj]
  rw [List.getD_eq_getElem?_getD, List.getElem?_eq_getElem hj] at h ⊢
  exact if_pos h
theorem notesGo_no {p : Pt} {l : List (Int × Int)} {j : Nat} (hj : j < l.length) {acc : List Pt} (h : ¬ mvE p (l.getD j (0, 0)) = 0) : notesGo p (l.drop j) acc = ([], mvE p (l.getD j (0, 0))) := by
  rw [List.drop_eq_getElem_cons hj]
  rw [List.getD_eq_getElem?_getD, List.getElem?_eq_getElem hj] at h ⊢
  exact if_neg h
theorem notesGo_len {p : Pt} : ∀ {l : List (Int × Int)} {acc : List Pt}, (notesGo p l acc).2 = 0 → (notesGo p l acc).1.length = acc.length + l.length
  | [], acc, _ => rfl
  | i :: r, acc, h => by
    unfold notesGo at h ⊢
    split at h
    · rename_i c
      rw [if_pos c, notesGo_len h]
      simp; omega
    · rename_i c; exact absurd h c

/-! ### what chord it is -/
def addK (k : List Cl) (c : Cl) : List Cl := if c ∈ k then k else k ++ [c]
def knownN (l : List Pt) : Nat → List Cl
  | 0 => []
  | i + 1 => addK (knownN l i) (cl (l.getD i dPt))
def belowB (p q : Pt) : Bool := decide (steps p.1 p.2.2 < steps q.1 q.2.2 ∨ (steps p.1 p.2.2 = steps q.1 q.2.2 ∧ halves p.1 p.2.1 p.2.2 < halves q.1 q.2.1 q.2.2))
def lowI (l : List Pt) : Nat → Int
  | 0 => -1
  | i + 1 => if lowI l i < 0 ∨ belowB (l.getD i dPt) (l.getD (lowI l i).toNat dPt) = true then (i : Int) else lowI l i
def lineF (l : Int) : Int := if l = 0 then 0 else if l = 1 then 2 else if l = 2 then 4 else if l = 3 then -1 else if l = 4 then 1 else if l = 5 then 3 else 5
def fifC (c : Cl) : Int := lineF c.1 + 7 * c.2
def atC (n : Int) : Cl := (4 * n % 7, (n - lineF (4 * n % 7)) / 7)
def overC (c : Cl) (i : Int × Int) : Cl := atC (fifC c + 7 * i.2 - 12 * i.1)
def allS (r : Cl) (k : Int) : List Cl := r :: (stkI k).map (overC r)
def idxC (c : Cl) : List Cl → Int
  | [] => -1
  | x :: l => if x = c then 0 else if idxC c l = -1 then -1 else idxC c l + 1
def fitsB (r : Cl) (k : Int) (known : List Cl) : Bool := decide ((allS r k).length = known.length ∧ ∀ c ∈ allS r k, c ∈ known)
def firstK (r : Cl) (known : List Cl) (low : Cl) : Nat → Int → Option (Int × Int)
  | 0, _ => none
  | n + 1, k => if fitsB r k known = true then some (k, idxC low (allS r k)) else firstK r known low n (k + 1)
def firstR (known : List Cl) (low : Cl) : List Cl → Option (Cl × Int × Int)
  | [] => none
  | r :: l => match firstK r known low 9 1 with
    | some x => some (r, x)
    | none => firstR known low l
def allR (l : List Pt) : Prop := ∀ j, j < l.length → rb (l.getD j dPt) = true
open Classical in
noncomputable def whatS (l : List Pt) : (Cl × Int × Int) × Int :=
  if allR l then (match firstR (knownN l l.length) (cl (l.getD (lowI l l.length).toNat dPt)) (knownN l l.length) with | some x => (x, 0) | none => (((0, 0), 0, 0), 6)) else (((0, 0), 0, 0), 2)
theorem addK_yes {k : List Cl} {c : Cl} (h : c ∈ k) : addK k c = k := if_pos h
theorem addK_no {k : List Cl} {c : Cl} (h : ¬ c ∈ k) : addK k c = k ++ [c] := if_neg h
theorem addK_mem {k : List Cl} {c : Cl} : c ∈ addK k c := by unfold addK; split; assumption; simp
theorem addK_sub {k : List Cl} {c d : Cl} (h : d ∈ k) : d ∈ addK k c := by unfold addK; split; exact h; exact List.mem_append_left _ h
theorem addK_nd {k : List Cl} {c : Cl} (h : k.Nodup) : (addK k c).Nodup := by
  unfold addK; split
  · exact h
  · rename_i hc
    rw [List.nodup_append]
    exact ⟨h, by simp, fun a ha b hb => by rw [List.mem_singleton.1 hb]; rintro rfl; exact hc ha⟩
theorem known_nd (l : List Pt) : ∀ i, (knownN l i).Nodup
  | 0 => List.nodup_nil
  | i + 1 => addK_nd (known_nd l i)
theorem known_len (l : List Pt) : ∀ i, (knownN l i).length ≤ i
  | 0 => Nat.le_refl 0
  | i + 1 => by
    have := known_len l i
    show (addK (knownN l i) _).length ≤ i + 1
    unfold addK; split
    · omega
    · simp; omega
theorem known_has (l : List Pt) : ∀ i j, j < i → cl (l.getD j dPt) ∈ knownN l i
  | 0, j, h => absurd h (Nat.not_lt_zero j)
  | i + 1, j, h => by
    by_cases hj : j = i
    · subst hj; exact addK_mem
    · exact addK_sub (known_has l i j (by omega))
theorem low_bd (l : List Pt) : ∀ i, -1 ≤ lowI l i ∧ lowI l i < (i : Int) ∧ (0 < i → 0 ≤ lowI l i)
  | 0 => ⟨by show (-1 : Int) ≤ -1; decide, by show (-1 : Int) < 0; decide, fun h => absurd h (Nat.lt_irrefl 0)⟩
  | i + 1 => by
    have := low_bd l i
    unfold lowI
    split
    · omega
    · omega

/-! ### classes -/
theorem lineF_eq {l : Int} (h0 : 0 ≤ l) (h1 : l ≤ 6) : lineF l = 7 * nat7 l - 12 * l := by
  have hc : l = 0 ∨ l = 1 ∨ l = 2 ∨ l = 3 ∨ l = 4 ∨ l = 5 ∨ l = 6 := by omega
  rcases hc with rfl | rfl | rfl | rfl | rfl | rfl | rfl <;> decide
/-- The class over another one, by steps and half tones. -/
theorem overC_white {l a s h : Int} (h0 : 0 ≤ l) (h1 : l ≤ 6) : overC (l, a) (s, h) = ((l + s) % 7, nat7 l + a + h - white (l + s)) := by
  unfold overC atC fifC
  have e : lineF l = 7 * nat7 l - 12 * l := lineF_eq h0 h1
  show (4 * (lineF l + 7 * a + 7 * h - 12 * s) % 7, (lineF l + 7 * a + 7 * h - 12 * s - lineF (4 * (lineF l + 7 * a + 7 * h - 12 * s) % 7)) / 7) = _
  rw [e]
  have hm : 4 * (7 * nat7 l - 12 * l + 7 * a + 7 * h - 12 * s) % 7 = (l + s) % 7 := by omega
  rw [hm, lineF_eq (l := (l + s) % 7) (by omega) (by omega)]
  refine Prod.ext rfl ?_
  show (7 * nat7 l - 12 * l + 7 * a + 7 * h - 12 * s - (7 * nat7 ((l + s) % 7) - 12 * ((l + s) % 7))) / 7 = nat7 l + a + h - white (l + s)
  unfold white
  have hd : l + s = 7 * ((l + s) / 7) + (l + s) % 7 := by omega
  omega
theorem over_let {l a s h : Int} (h0 : 0 ≤ l) (h1 : l ≤ 6) : (overC (l, a) (s, h)).1 = (l + s) % 7 := by rw [overC_white h0 h1]
theorem all_nd {r : Cl} {k : Int} (h0 : 0 ≤ r.1) (h1 : r.1 ≤ 6) : (allS r k).Nodup := by
  obtain ⟨l, a⟩ := r
  have e : ∀ i, (overC (l, a) i).1 = (l + i.1) % 7 := fun i => over_let h0 h1
  have key : ∀ L : List (Int × Int), (∀ i ∈ L, 1 ≤ i.1 ∧ i.1 ≤ 6) → (L.map (·.1)).Nodup → ((l, a) :: L.map (overC (l, a))).Nodup := by
    intro L hL hn
    rw [List.nodup_cons]
    refine ⟨?_, ?_⟩
    · rw [List.mem_map]
      rintro ⟨i, hi, he⟩
      have h2 := e i
      rw [he] at h2
      have := hL i hi
      simp only at h2 h0 h1
      omega
    · induction L with
      | nil => exact List.nodup_nil
      | cons i L ih =>
        rw [List.map_cons, List.nodup_cons] at hn ⊢
        refine ⟨?_, ih (fun j hj => hL j (by simp [hj])) hn.2⟩
        rw [List.mem_map]
        rintro ⟨j, hj, he⟩
        apply hn.1
        rw [List.mem_map]
        refine ⟨j, hj, ?_⟩
        have h2 := e i
        have h3 := e j
        rw [he] at h3
        have h4 := hL i (by simp)
        have h5 := hL j (by simp [hj])
        rw [h2] at h3
        simp only at h0 h1
        omega
  unfold allS
  refine key _ ?_ ?_
  · intro i hi
    have := stk_in hi
    rcases this with rfl | rfl | rfl | rfl | rfl | rfl | rfl | rfl <;> decide
  · exact stk_all (P := fun L => (L.map (·.1)).Nodup) (by decide) (by decide) (by decide) (by decide) (by decide) (by decide) (by decide) (by decide) (by decide) (by decide)
/-- As many, each once, all of them there: the same ones. -/
theorem same_of {α : Type} [DecidableEq α] : ∀ {a b : List α}, a.Nodup → (∀ x ∈ a, x ∈ b) → b.length ≤ a.length → ∀ x ∈ b, x ∈ a
  | [], b, _, _, hl, x, hx => by
    have : b = [] := List.eq_nil_of_length_eq_zero (by simpa using hl)
    rw [this] at hx; exact hx
  | y :: a, b, hn, hs, hl, x, hx => by
    rw [List.nodup_cons] at hn
    by_cases hxy : x = y
    · subst hxy; simp
    · have hy : y ∈ b := hs y (by simp)
      have hlen := List.length_erase_of_mem hy
      have := same_of (a := a) (b := b.erase y) hn.2 (fun z hz => by
        have hzb := hs z (by simp [hz])
        exact (List.mem_erase_of_ne (by rintro rfl; exact hn.1 hz)).2 hzb) (by rw [hlen]; simp at hl; have := List.length_pos_of_mem hy; omega) x ((List.mem_erase_of_ne hxy).2 hx)
      simp [this]
/-- The last place of a class among others; where it stands once, that is the first one. -/
def turnN (all : List Cl) (c : Cl) : Nat → Int
  | 0 => 0
  | i + 1 => if all.getD i dCl = c then (i : Int) else turnN all c i
theorem idxC_at {c : Cl} : ∀ {l : List Cl} {j : Nat}, l.Nodup → j < l.length → l.getD j dCl = c → idxC c l = (j : Int)
  | [], j, _, h, _ => by simp at h
  | x :: l, 0, _, _, h => by unfold idxC; exact if_pos h
  | x :: l, j + 1, hn, hj, h => by
    rw [List.nodup_cons] at hn
    have hj' : j < l.length := by simpa using hj
    have h' : l.getD j dCl = c := h
    have hm : c ∈ l := by rw [← h', List.getD_eq_getElem?_getD, List.getElem?_eq_getElem hj']; exact List.getElem_mem hj'
    have := idxC_at hn.2 hj' h'
    unfold idxC
    rw [if_neg (by rintro rfl; exact hn.1 hm), this, if_neg (by omega)]
    omega
theorem turn_at {all : List Cl} {c : Cl} (hn : all.Nodup) {j : Nat} (hj : j < all.length) (h : all.getD j dCl = c) : ∀ n, n ≤ all.length → turnN all c n = if j < n then (j : Int) else 0
  | 0, _ => by rw [if_neg (Nat.not_lt_zero j)]; rfl
  | n + 1, hl => by
    unfold turnN
    rw [turn_at hn hj h n (by omega)]
    by_cases he : all.getD n dCl = c
    · have e1 := idxC_at hn hj h
      have e2 := idxC_at hn (by omega : n < all.length) he
      have : j = n := by omega
      rw [if_pos he, if_pos (by omega)]; omega
    · rw [if_neg he]
      by_cases hjn : j < n
      · rw [if_pos hjn, if_pos (by omega)]
      · have : j ≠ n := by rintro rfl; exact he h
        rw [if_neg hjn, if_neg (by omega)]
theorem mem_getD {l : List Cl} {c : Cl} (h : c ∈ l) : ∃ j, j < l.length ∧ l.getD j dCl = c := by
  obtain ⟨j, hj, e⟩ := List.mem_iff_getElem.1 h
  exact ⟨j, hj, by rw [List.getD_eq_getElem?_getD, List.getElem?_eq_getElem hj]; exact e⟩
/-- Where a chord fits, its lowest class stands where both say. -/
theorem turn_idx {r : Cl} {k : Int} {known : List Cl} {c : Cl} (h0 : 0 ≤ r.1) (h1 : r.1 ≤ 6) (hf : fitsB r k known = true) (hc : c ∈ known) : turnN (allS r k) c (allS r k).length = idxC c (allS r k) := by
  have hf := of_decide_eq_true hf
  have hn := all_nd (r := r) (k := k) h0 h1
  obtain ⟨j, hj, e⟩ := mem_getD (same_of hn hf.2 (by omega) c hc)
  rw [turn_at hn hj e _ (Nat.le_refl _), if_pos hj, idxC_at hn hj e]
end Go.Proofs.YtbgnegmjbnlemaaGreatDoor.Pm
namespace Go.Proofs.YtbgnegmjbnlemaaGreatDoor
open Go.RowKit

theorem ret_int {k : IntKind} {a b : Int} (h : a = b) : Ending.returned (.int k a) = .returned (.int k b) := by rw [h]
theorem ret_bool {a b : Bool} (h : a = b) : Ending.returned (.bool a) = .returned (.bool b) := by rw [h]
theorem bcell {W w1 : World} (hb : Below W.heap.size W w1) :
    (∀ b o, b < W.heap.size → w1.cell? ⟨b, o, none⟩ = W.cell? ⟨b, o, none⟩) ∧ (∀ b o, b < W.heap.size → w1.frozen? ⟨b, o, none⟩ = W.frozen? ⟨b, o, none⟩) :=
  ⟨fun b o h => hb.cell (p := ⟨b, o, none⟩) h, fun b o h => hb.frozen (p := ⟨b, o, none⟩) h⟩
theorem below_drewN {B : Nat} {a w : World} (h : Below B a w) (n : Nat) : Below B a (w.drewN n) := ⟨h.os, h.tape, h.output, h.size, h.block⟩
theorem below_then {a w w' : World} (h : Below w.heap.size w w') (k : Below a.heap.size a w) : Below a.heap.size a w' := k.trans (h.mono k.size)
theorem below_new {a w : World} (k : Below a.heap.size a w) (o : Obj) : Below a.heap.size a (w.alloc o) := k.alloc k.size o
theorem size_then {w w' : World} {n : Nat} (h : Below w.heap.size w w') (hn : n ≤ w.heap.size) : n ≤ w'.heap.size := Nat.le_trans hn h.size
theorem cell_then {W w' : World} {a : Addr} {v : Value} (h : W.cell? a = some v) (hb : Below W.heap.size W w') : w'.cell? a = some v :=
  (hb.cell (World.block_lt_of_cell? W _ h)).trans h
/-- A callee that leaves the world alone, met in a quiet region. -/
theorem quiet_left {P : Program} {f : FuncId} {args : Array Value} {w : World} {n : Nat} {v : Value}
    (h : Calls P f args (w.drewN n) fun e w' => e = .returned v ∧ w.drewN n = w') : Calls P f args (w.drewN n) fun e w'' => e = .returned v ∧ ∃ m, w'' = w.drewN m :=
  h.mono fun _ _ ⟨he, hm⟩ => ⟨he, n, hm.symm⟩
theorem quiet_add {P : Program} {f : FuncId} {args : Array Value} {w : World} {a n : Nat} {v : Value}
    (h : Calls P f args (w.drewN (a + n)) fun e w' => e = .returned v ∧ ∃ m, w' = (w.drewN (a + n)).drewN m) :
    Calls P f args (w.drewN (a + n)) fun e w'' => e = .returned v ∧ ∃ m, w'' = w.drewN (a + m) :=
  h.mono fun _ _ ⟨he, m, hm⟩ => ⟨he, n + m, by rw [hm, World.drewN_drewN, Nat.add_assoc]⟩
theorem quiet_add_left {P : Program} {f : FuncId} {args : Array Value} {w : World} {a n : Nat} {v : Value}
    (h : Calls P f args (w.drewN (a + n)) fun e w' => e = .returned v ∧ w.drewN (a + n) = w') :
    Calls P f args (w.drewN (a + n)) fun e w'' => e = .returned v ∧ ∃ m, w'' = w.drewN (a + m) :=
  h.mono fun _ _ ⟨he, hm⟩ => ⟨he, n, hm.symm⟩

end Go.Proofs.YtbgnegmjbnlemaaGreatDoor
namespace Go.Proofs.YtbgnegmjbnlemaaGreatDoor
open Go

section
variable {P : Program} {ops : Array Oper} {md : Region.Mode} {C : World → Prop}

/-- Whatever order is picked for the first n operations; then L. -/
def wpAnyC (P : Program) (md : Region.Mode) (ops : Array Oper) (C : World → Prop) (n : Nat) (L : Array Bool → Act → Prop) : Nat → Array Bool → Act → Prop
  | 0, listed, a => L listed a
  | f + 1, listed, a => Region.ready md ops listed ≠ [] ∧ ∀ i ∈ Region.ready md ops listed, i < n ∧ qOp P ops C i (wpAnyC P md ops C n L f (listed.setIfInBounds i true)) a

theorem wpAny_of_headC {n g : Nat} {L : Array Bool → Act → Prop} {Q' : Exit → Act → World → Prop} (hL : ∀ listed a w, C w → L listed a → wpAny P md ops Q' g listed a w) :
    ∀ (f : Nat) (listed : Array Bool) (a : Act) (w : World), C w → wpAnyC P md ops C n L f listed a → wpAny P md ops Q' (f + g) listed a w
  | 0, _, _, _, hw, h => by rw [Nat.zero_add]; exact hL _ _ _ hw h
  | f + 1, _, _, _, hw, h => by
    rw [show f + 1 + g = (f + g) + 1 by omega]
    exact ⟨fun h0 => absurd h0 h.1, fun i hi => wpOp_of_qOp hw (fun a' w' hw' h' => wpAny_of_headC hL f _ a' w' hw' h') (h.2 i hi).2⟩

theorem wpAnyC_first {n i : Nat} {oi : Oper} {v : Value} {L : Array Bool → Act → Prop} (hi : ops[i]? = some oi) (hsel : ∀ (j : Nat) (o : Oper) cs b, ops[j]? = some o → o.op ≠ .select cs b)
    (hs : Region.sinkB md ops n = true) (hc : Region.chainB md ops n = true) (hn : n < ops.size) (hin : i < n)
    (hdone : ∀ listed a, L listed a → ∀ j ∈ Region.ready md ops listed, n ≤ j) :
    ∀ (f : Nat) (listed : Array Bool) (a : Act), HeadInv md ops n listed →
      (∀ j oj, ops[j]? = some oj → j ≠ i → listed.getD j true = false → (∀ e ∈ oj.after, Region.binds md e = true → e.on ≠ i) → oi.apart ops oj = true) →
      i ∈ Region.ready md ops listed → YieldsIn P ops C oi v a →
      wpAnyC P md ops C n L f (listed.setIfInBounds i true) (a.put oi.dst v) → wpAnyC P md ops C n L (f + 1) listed a := by
  intro f
  induction f with
  | zero =>
    intro listed a inv _ hr hy H
    have hun := (mem_ready.1 hr).1
    refine ⟨fun h => (by rw [h] at hr; cases hr), fun j hj => ?_⟩
    have hjn : j < n := by
      rcases Nat.lt_or_ge j n with h | h
      · exact h
      · exact absurd hj (tail_waits hs hc hn inv _ i rfl hin hun j h)
    refine ⟨hjn, ?_⟩
    by_cases hji : j = i
    · subst hji; exact hy.qOp hi H
    · have := hdone _ _ H j (ready_mono hj hji)
      omega
  | succ f ih =>
    intro listed a inv hfree hr hy H
    have hun := (mem_ready.1 hr).1
    refine ⟨fun h => (by rw [h] at hr; cases hr), fun j hj => ?_⟩
    have hjn : j < n := by
      rcases Nat.lt_or_ge j n with h | h
      · exact h
      · exact absurd hj (tail_waits hs hc hn inv _ i rfl hin hun j h)
    refine ⟨hjn, ?_⟩
    by_cases hji : j = i
    · subst hji; exact hy.qOp hi H
    · have h1 := (H.2 j (ready_mono hj hji)).2
      obtain ⟨hjun, oj, hoj, hall⟩ := mem_ready.1 hj
      have hnot : ∀ e ∈ oj.after, Region.binds md e = true → e.on ≠ i := fun e he hb heq => by
        have h1 := hall e he hb
        rw [heq, getD_both hun] at h1
        cases h1
      have h2 := qOp_put hoj (hfree j oj hoj hji hjun hnot) (fun cs b => hsel i oi cs b hi) (fun cs b => hsel j oj cs b hoj) hy h1
      have hfree' : ∀ k ok, ops[k]? = some ok → k ≠ i → (listed.setIfInBounds j true).getD k true = false →
          (∀ e ∈ ok.after, Region.binds md e = true → e.on ≠ i) → oi.apart ops ok = true := fun k ok hk hki hun hno => by
        refine hfree k ok hk hki ?_ hno
        by_cases hjk : j = k
        · subst hjk; exact hjun
        · rw [getD_set_ne true hjk] at hun; exact hun
      refine qOp_mono (fun a' h3 => ih (listed.setIfInBounds j true) a' (inv.set hj hjn) hfree' (ready_mono hr (Ne.symm hji)) h3.1 ?_) h2
      rw [Array.setIfInBounds_comm _ _ hji]
      exact h3.2

theorem wpAnyC_lex {n g : Nat} {Lq : Act → Prop} (hsel : Region.noSelect ops = true) (hs : Region.sinkB md ops n = true) (hc : Region.chainB md ops n = true) (hn : n < ops.size) :
    ∀ (l : List Oper) (k : Nat) (listed : Array Bool) (a : Act), (∀ j, j < l.length → l[j]? = ops[k + j]?) → k + l.length = n → HeadInv md ops n listed →
    Region.lexHead md ops g l.length k listed = true → wpQuiet P ops C Lq l a →
    wpAnyC P md ops C n (fun listed' a' => Region.seqB md ops g n listed' = true ∧ Lq a') l.length listed a
  | [], k, _, _, _, hk, _, hB, h => by
    have : k = n := by simpa using hk
    subst this
    exact ⟨by simpa [Region.lexHead] using hB, h⟩
  | o :: l, k, listed, a, hl, hk, inv, hB, h => by
    have h0 : ops[k]? = some o := by simpa using (hl 0 (by simp)).symm
    simp only [List.length_cons, Region.lexHead, Bool.and_eq_true] at hB
    obtain ⟨⟨hr, hf⟩, hB'⟩ := hB
    have hkn : k < n := by simp only [List.length_cons] at hk; omega
    have hr' : k ∈ Region.ready md ops listed := by simpa using hr
    have hst : qOp P ops C k (wpQuiet P ops C Lq l) a := by unfold qOp; simp only [h0]; exact h
    obtain ⟨v, hy, hK⟩ := yieldsIn_of_qOp h0 hst
    exact wpAnyC_first h0 (Region.noSelect_spec hsel) hs hc hn hkn (fun listed' a' hL => seqB_ready hL.1) l.length listed a inv (Region.free_spec h0 hf) hr' hy
      (wpAnyC_lex hsel hs hc hn l (k + 1) _ _ (fun j hj => by have := hl (j + 1) (by simp; omega); simpa [Nat.add_assoc, Nat.add_comm 1 j] using this) (by simp only [List.length_cons] at hk; omega) (inv.set hr' hkn) hB' hK)

/-- THE FIRST n OPERATIONS QUIET IN C, THE REST FORCED: one walk. -/
theorem wp_region_class_tail {id : Nat} {Q : Exit → Act → World → Prop} {a : Act} {w : World} {l : List Oper} (C : World → Prop) (n : Nat) (hm : P.follows .mixedOrders = true) (hB : Region.lexTailB .any l.toArray n = true)
    (hC : C { w with drawn := w.drawn + 1 })
    (h : wpQuiet P l.toArray C (fun a' => ∀ w', C w' → wpList P l.toArray Q (l.drop n) a' w') (l.take n) a) : (Code.region id l.toArray true).wp P Q a w := by
  simp only [Region.lexTailB, Bool.and_eq_true, decide_eq_true_eq] at hB
  obtain ⟨⟨⟨⟨hsel, hn⟩, hs⟩, hc⟩, hlex⟩ := hB
  have hn' : n < l.length := by simpa using hn
  have htl : (l.take n).length = n := by simp; omega
  have hdl : (l.drop n).length = l.toArray.size - n := by simp
  have inv0 : HeadInv .any l.toArray n (Array.replicate l.toArray.size false) :=
    ⟨by simp, fun j oj _ hl => (by rw [getD_replicate_false] at hl; cases hl), fun t _ ht => getD_in (by simpa using ht) (getD_replicate_false _ _)⟩
  have H := wpAnyC_lex (md := .any) (g := l.toArray.size - n) hsel hs hc hn (l.take n) 0 _ a (fun j hj => by
    have hj' : j < n := by rw [htl] at hj; exact hj
    simp [hj']) (by simpa using htl) inv0 (by rw [htl]; exact hlex) h
  refine wp_region_any hm ?_
  have := wpAny_of_headC (Q' := Q) (g := l.toArray.size - n) (fun listed a' w' hw' hL => by
    have := wpAny_of_seq (md := .any) (Q' := Q) (l.drop n) n listed a' w' (fun j => by simp [List.getElem?_drop]) (by rw [hdl]; exact hL.1) (hL.2 w' hw')
    rwa [hdl] at this) _ _ _ _ hC H
  rw [htl, show n + (l.toArray.size - n) = l.toArray.size by omega] at this
  exact this

end

/-- A world with more in it: what was there is as it was. -/
structure Ext (w : World) where
  u : World
  h : RowKit.Below w.heap.size w u
instance Ext.some_ (w : World) : Nonempty (Ext w) := ⟨⟨w, RowKit.Below.refl _ _⟩⟩
theorem Ext.cells (w : World) : ∀ (d : Ext w) (b o : Nat), b < w.heap.size → d.u.cell? ⟨b, o, none⟩ = w.cell? ⟨b, o, none⟩ := fun d b o h => d.h.cell (p := ⟨b, o, none⟩) h

section
variable {P : Program}
theorem wp_region_ext_tail {id : Nat} {Q : Exit → Act → World → Prop} {a : Act} {w : World} {l : List Oper} (n : Nat) (hm : P.follows .mixedOrders = true) (hB : Region.lexTailB .any l.toArray n = true)
    (h : wpQuiet P l.toArray (fun w' => ∃ d : Ext w, w' = d.u) (fun a' => ∀ w', (∃ d : Ext w, w' = d.u) → wpList P l.toArray Q (l.drop n) a' w') (l.take n) a) :
    (Code.region id l.toArray true).wp P Q a w :=
  wp_region_class_tail (fun w' => ∃ d : Ext w, w' = d.u) n hm hB ⟨⟨{ w with drawn := w.drawn + 1 }, rfl, rfl, rfl, Nat.le_refl _, fun _ _ => rfl⟩, rfl⟩ h
theorem wp_region_ext {id : Nat} {Q : Exit → Act → World → Prop} {a : Act} {w : World} {l : List Oper} (hm : P.follows .mixedOrders = true) (hB : Region.lexB .any l.toArray = true)
    (h : wpQuiet P l.toArray (fun w' => ∃ d : Ext w, w' = d.u) (fun a' => ∀ w', (∃ d : Ext w, w' = d.u) → Q .normal a' w') l a) :
    (Code.region id l.toArray true).wp P Q a w :=
  wp_region_quiet (C := fun w' => ∃ d : Ext w, w' = d.u) hm hB ⟨⟨{ w with drawn := w.drawn + 1 }, rfl, rfl, rfl, Nat.le_refl _, fun _ _ => rfl⟩, rfl⟩ (by simpa using h)
/-- A call in such a region, by the callee's contract. -/
theorem ext_call {f : FuncId} {args : Array Value} {w : World} {d : Ext w} {v : Value} (h : Calls P f args d.u fun e w' => e = .returned v ∧ RowKit.Below d.u.heap.size d.u w') :
    Calls P f args d.u fun e w'' => e = .returned v ∧ ∃ d' : Ext w, w'' = d'.u :=
  h.mono fun _ w' ⟨he, hb⟩ => ⟨he, ⟨w', d.h.trans (hb.mono d.h.size)⟩, rfl⟩
theorem ext_same {f : FuncId} {args : Array Value} {w : World} {d : Ext w} {v : Value} (h : Calls P f args d.u fun e w' => e = .returned v ∧ d.u = w') :
    Calls P f args d.u fun e w'' => e = .returned v ∧ ∃ d' : Ext w, w'' = d'.u :=
  h.mono fun _ _ ⟨he, hb⟩ => ⟨he, d, hb.symm⟩
theorem ext_drewN {f : FuncId} {args : Array Value} {w : World} {d : Ext w} {v : Value} (h : Calls P f args d.u fun e w' => e = .returned v ∧ ∃ n, w' = d.u.drewN n) :
    Calls P f args d.u fun e w'' => e = .returned v ∧ ∃ d' : Ext w, w'' = d'.u :=
  h.mono fun _ w' ⟨he, n, hb⟩ => ⟨he, ⟨w', by subst hb; exact ⟨d.h.os, d.h.tape, d.h.output, d.h.size, d.h.block⟩⟩, rfl⟩
end
end Go.Proofs.YtbgnegmjbnlemaaGreatDoor
namespace Go.Proofs.YtbgnegmjbnlemaaGreatDoor.Pi
open Go.RowKit

def I64 (n : Int) : Prop := -9223372036854775808 ≤ n ∧ n ≤ 9223372036854775807
theorem one_ {n m : Nat} (h : n + 1 ≤ m) : n < m := h
theorem nat7_0 : nat7 0 = 0 := rfl

set_option maxHeartbeats 1000000 in
theorem natural_any (l : Int) (w : World) :
    Calls Tryz.prog 38 #[.int .i64 l] w fun e w' => e = .returned (.int .i64 (nat7 l)) ∧ w = w' := by
  have h : l = 0 ∨ l = 1 ∨ l = 2 ∨ l = 3 ∨ l = 4 ∨ l = 5 ∨ (¬ l = 0 ∧ ¬ l = 1 ∧ ¬ l = 2 ∧ ¬ l = 3 ∧ ¬ l = 4 ∧ ¬ l = 5) := by omega
  rcases h with rfl | rfl | rfl | rfl | rfl | rfl | ⟨h0, h1, h2, h3, h4, h5⟩
  all_goals
    go_enter Tryz.func38, Tryz.ntmps38
    go_wp2
    go_ret
    exact ⟨ret_int (by unfold nat7; omega), rfl⟩

set_option maxHeartbeats 1000000 in
theorem right_any (l a o : Int) (w : World) :
    Calls Tryz.prog 13 #[.agg #[.int .i64 l, .int .i64 a, .int .i64 o]] w fun e w' => e = .returned (.bool (rightB l a o)) ∧ Below w.heap.size w w' := by
  by_cases h1 : 0 ≤ l
  · by_cases h2 : l < 7
    · by_cases h3 : -3 ≤ a
      · by_cases h4 : a ≤ 3
        · by_cases h5 : -12 ≤ o
          · go_enter Tryz.func13, Tryz.ntmps13
            go_wp2
            go_ret
            refine ⟨ret_bool ?_, (by repeat (first | exact Below.refl _ _ | assumption | refine below_drewN ?_ _ | refine Below.drew ?_ | refine below_new ?_ _ | refine Below.setCell ?_ (by first | omega | (simp <;> omega)) _ | refine below_then (by assumption) ?_))⟩
            rw [Bool.eq_iff_iff, rightB_iff]; simp; omega
          · go_enter Tryz.func13, Tryz.ntmps13
            go_wp2
            go_ret
            refine ⟨ret_bool ?_, (by repeat (first | exact Below.refl _ _ | assumption | refine below_drewN ?_ _ | refine Below.drew ?_ | refine below_new ?_ _ | refine Below.setCell ?_ (by first | omega | (simp <;> omega)) _ | refine below_then (by assumption) ?_))⟩
            rw [eq_comm, ← Bool.not_eq_true, rightB_iff]; omega
        · go_enter Tryz.func13, Tryz.ntmps13
          go_wp2
          go_ret
          refine ⟨ret_bool ?_, (by repeat (first | exact Below.refl _ _ | assumption | refine below_drewN ?_ _ | refine Below.drew ?_ | refine below_new ?_ _ | refine Below.setCell ?_ (by first | omega | (simp <;> omega)) _ | refine below_then (by assumption) ?_))⟩
          rw [eq_comm, ← Bool.not_eq_true, rightB_iff]; omega
      · go_enter Tryz.func13, Tryz.ntmps13
        go_wp2
        go_ret
        refine ⟨ret_bool ?_, (by repeat (first | exact Below.refl _ _ | assumption | refine below_drewN ?_ _ | refine Below.drew ?_ | refine below_new ?_ _ | refine Below.setCell ?_ (by first | omega | (simp <;> omega)) _ | refine below_then (by assumption) ?_))⟩
        rw [eq_comm, ← Bool.not_eq_true, rightB_iff]; omega
    · go_enter Tryz.func13, Tryz.ntmps13
      go_wp2
      go_ret
      refine ⟨ret_bool ?_, (by repeat (first | exact Below.refl _ _ | assumption | refine below_drewN ?_ _ | refine Below.drew ?_ | refine below_new ?_ _ | refine Below.setCell ?_ (by first | omega | (simp <;> omega)) _ | refine below_then (by assumption) ?_))⟩
      rw [eq_comm, ← Bool.not_eq_true, rightB_iff]; omega
  · go_enter Tryz.func13, Tryz.ntmps13
    go_wp2
    go_ret
    refine ⟨ret_bool ?_, (by repeat (first | exact Below.refl _ _ | assumption | refine below_drewN ?_ _ | refine Below.drew ?_ | refine below_new ?_ _ | refine Below.setCell ?_ (by first | omega | (simp <;> omega)) _ | refine below_then (by assumption) ?_))⟩
    rw [eq_comm, ← Bool.not_eq_true, rightB_iff]; omega

set_option maxHeartbeats 1000000 in
theorem steps_any (l a o : Int) (w : World) (h : rightB l a o = true) :
    Calls Tryz.prog 33 #[.agg #[.int .i64 l, .int .i64 a, .int .i64 o]] w fun e w' => e = .returned (.int .i64 (steps l o)) ∧ Below w.heap.size w w' := by
  have hr := rightB_iff.1 h
  go_enter Tryz.func33, Tryz.ntmps33
  go_wp2
  go_ret
  exact ⟨ret_int rfl, (by repeat (first | exact Below.refl _ _ | assumption | refine below_drewN ?_ _ | refine Below.drew ?_ | refine below_new ?_ _ | refine Below.setCell ?_ (by first | omega | (simp <;> omega)) _ | refine below_then (by assumption) ?_))⟩

theorem nat7_lo (l : Int) : 0 ≤ nat7 l := (nat7_range l).1
theorem nat7_hi (l : Int) : nat7 l ≤ 11 := (nat7_range l).2

set_option maxHeartbeats 1000000 in
theorem halves_any (l a o : Int) (w : World) (ha : -1000000 ≤ a ∧ a ≤ 1000000) (ho : -1000000 ≤ o ∧ o ≤ 1000000) :
    Calls Tryz.prog 34 #[.agg #[.int .i64 l, .int .i64 a, .int .i64 o]] w fun e w' => e = .returned (.int .i64 (halves l a o)) ∧ Below w.heap.size w w' := by
  have h1 := nat7_lo l
  have h2 := nat7_hi l
  go_enter Tryz.func34, Tryz.ntmps34
  go_wp2
  go_quiet ((go_at_call 38; exact quiet_left (natural_any l _)))
  go_wp2
  go_ret
  exact ⟨ret_int rfl, (by repeat (first | exact Below.refl _ _ | assumption | refine below_drewN ?_ _ | refine Below.drew ?_ | refine below_new ?_ _ | refine Below.setCell ?_ (by first | omega | (simp <;> omega)) _ | refine below_then (by assumption) ?_))⟩


end Go.Proofs.YtbgnegmjbnlemaaGreatDoor.Pi
namespace Go.Proofs.YtbgnegmjbnlemaaGreatDoor.Pi
open Go.RowKit

/-- Two integers and what is wrong; three. -/
def R3 (r : Int × Int × Int) : Value := .tuple #[.agg #[.int .i64 r.1, .int .i64 r.2.1], .int .i64 r.2.2]
def R4 (r : Int × Int × Int × Int) : Value := .tuple #[.agg #[.int .i64 r.1, .int .i64 r.2.1, .int .i64 r.2.2.1], .int .i64 r.2.2.2]
def R2 (r : Int × Int) : Value := .tuple #[.int .i64 r.1, .int .i64 r.2]
theorem ret_R2 {r : Int × Int} {a b : Int} (h : r = (a, b)) : Ending.returned (.tuple #[.int .i64 a, .int .i64 b]) = .returned (R2 r) := by rw [h]; rfl
theorem three {n m : Nat} (h : n + 1 + 1 + 1 ≤ m) : n < m ∧ n + 1 < m ∧ n + 1 + 1 < m := by omega
theorem two_ {n m : Nat} (h : n + 1 + 1 ≤ m) : n < m ∧ n + 1 < m := by omega

set_option maxHeartbeats 1000000 in
theorem between_yes (l a o l' a' o' : Int) (w : World) (h1 : rightB l a o = true) (h2 : rightB l' a' o' = true) :
    Calls Tryz.prog 14 #[.agg #[.int .i64 l, .int .i64 a, .int .i64 o], .agg #[.int .i64 l', .int .i64 a', .int .i64 o']] w fun e w' =>
      e = .returned (R3 (between l a o l' a' o')) ∧ Below w.heap.size w w' := by
  have HR := Lib.hid (between_of h1 h2)
  have hr1 := rightB_iff.1 h1
  have hr2 := rightB_iff.1 h2
  have q1 := bounds h1
  have q2 := bounds h2
  go_enter Tryz.func14, Tryz.ntmps14
  go_wp2_with (first
    | (go_at_call 13; with_reducible refine (right_any l a o _).mono ?_; rintro e w1 ⟨rfl, hb1⟩; have hz := hb1.size; simp at hz; obtain ⟨z1, z2, z3⟩ := three hz; obtain ⟨hc, hf⟩ := bcell hb1)
    | (go_at_call 13; with_reducible refine (right_any l' a' o' _).mono ?_; rintro e w2 ⟨rfl, hb2⟩; have hz2 := hb2.size; have y1 : w.heap.size < w2.heap.size := (by omega); have y2 : w.heap.size + 1 < w2.heap.size := (by omega); have y3 : w.heap.size + 1 + 1 < w2.heap.size := (by omega); obtain ⟨hc2, hf2⟩ := bcell hb2))
  have hE := Ext.cells w2
  refine wp_region_ext_tail 11 (by kernel_rfl) (by kernel_rfl) ?_
  simp only [List.take_succ_cons, List.take_zero, List.drop_succ_cons, List.drop_zero]
  repeat go_big_quiet_step ((first | (go_at_call 33; with_reducible refine ext_call (steps_any l a o _ h1)) | (go_at_call 33; with_reducible refine ext_call (steps_any l' a' o' _ h2)) | (go_at_call 34; with_reducible refine ext_call (halves_any l a o _ (by omega) (by omega))) | (go_at_call 34; with_reducible refine ext_call (halves_any l' a' o' _ (by omega) (by omega)))))
  refine wpQuiet_nil ?_
  rintro wd ⟨⟨_, hbd⟩, rfl⟩
  obtain ⟨hcd, hfd⟩ := bcell hbd
  have zd := hbd.size
  have y4 : w.heap.size + 1 + 1 < wd.heap.size := by omega
  go_wp2
  exact bodyPost_ret (v := R3 (steps l' o' - steps l o, halves l' a' o' - halves l a o, 0)) (by simp [results, Tryz.results14, go_sem, R3, hcd, hc2, hc, y3, z3]) rfl ⟨by rw [HR.out], (by repeat (first | exact Below.refl _ _ | assumption | refine below_drewN ?_ _ | refine Below.drew ?_ | refine below_new ?_ _ | refine Below.setCell ?_ (by first | omega | (simp <;> omega)) _ | refine below_then (by assumption) ?_))⟩

set_option maxHeartbeats 1000000 in
theorem between_no (l a o l' a' o' : Int) (w : World) (h : (rightB l a o && rightB l' a' o') = false) :
    Calls Tryz.prog 14 #[.agg #[.int .i64 l, .int .i64 a, .int .i64 o], .agg #[.int .i64 l', .int .i64 a', .int .i64 o']] w fun e w' =>
      e = .returned (R3 (between l a o l' a' o')) ∧ Below w.heap.size w w' := by
  have HR := Lib.hid (show between l a o l' a' o' = (0, 0, 2) by simp [between, h])
  by_cases h1 : rightB l a o = true
  · have h2 : rightB l' a' o' = false := by simpa [h1] using h
    clear h
    go_enter Tryz.func14, Tryz.ntmps14
    go_wp2_with (first
      | (go_at_call 13; with_reducible refine (right_any l a o _).mono ?_; rintro e w1 ⟨rfl, hb1⟩; have hz := hb1.size; simp at hz; obtain ⟨z1, z2, z3⟩ := three hz; obtain ⟨hc, hf⟩ := bcell hb1)
      | (go_at_call 13; with_reducible refine (right_any l' a' o' _).mono ?_; rintro e w2 ⟨rfl, hb2⟩; have hz2 := hb2.size; have y3 : w.heap.size + 1 + 1 < w2.heap.size := (by omega); obtain ⟨hc2, hf2⟩ := bcell hb2))
    exact bodyPost_ret (v := R3 (0, 0, 2)) (by simp [results, Tryz.results14, go_sem, R3, hc2, hc, z3]) rfl ⟨by rw [HR.out], (by repeat (first | exact Below.refl _ _ | assumption | refine below_drewN ?_ _ | refine Below.drew ?_ | refine below_new ?_ _ | refine Below.setCell ?_ (by first | omega | (simp <;> omega)) _ | refine below_then (by assumption) ?_))⟩
  · simp only [Bool.not_eq_true] at h1
    clear h
    go_enter Tryz.func14, Tryz.ntmps14
    go_wp2_with (go_at_call 13; with_reducible refine (right_any l a o _).mono ?_; rintro e w1 ⟨rfl, hb1⟩; have hz := hb1.size; simp at hz; obtain ⟨z1, z2, z3⟩ := three hz; obtain ⟨hc, hf⟩ := bcell hb1)
    exact bodyPost_ret (v := R3 (0, 0, 2)) (by simp [results, Tryz.results14, go_sem, R3, hc]) rfl ⟨by rw [HR.out], (by repeat (first | exact Below.refl _ _ | assumption | refine below_drewN ?_ _ | refine Below.drew ?_ | refine below_new ?_ _ | refine Below.setCell ?_ (by first | omega | (simp <;> omega)) _ | refine below_then (by assumption) ?_))⟩

theorem between_any (l a o l' a' o' : Int) (w : World) :
    Calls Tryz.prog 14 #[.agg #[.int .i64 l, .int .i64 a, .int .i64 o], .agg #[.int .i64 l', .int .i64 a', .int .i64 o']] w fun e w' =>
      e = .returned (R3 (between l a o l' a' o')) ∧ Below w.heap.size w w' := by
  by_cases h : (rightB l a o && rightB l' a' o') = true
  · rw [Bool.and_eq_true] at h; exact between_yes l a o l' a' o' w h.1 h.2
  · exact between_no l a o l' a' o' w (by simpa only [Bool.not_eq_true] using h)

theorem wrap_least : wrap64 9223372036854775808 = -9223372036854775808 := by unfold wrap64; decide

set_option maxHeartbeats 4000000 in
theorem within_any (s h : Int) (w : World) (hs : I64 s) (hh : I64 h) :
    Calls Tryz.prog 31 #[.agg #[.int .i64 s, .int .i64 h]] w fun e w' => e = .returned (.bool (withinB s h)) ∧ Below w.heap.size w w' := by
  unfold I64 at hs hh
  have hw := wrap_least
  have cs : s = -9223372036854775808 ∨ (-9223372036854775808 < s ∧ s < -200) ∨ (-200 ≤ s ∧ s ≤ 200) ∨ 200 < s := by omega
  have ch : h = -9223372036854775808 ∨ (-9223372036854775808 < h ∧ h < -4096) ∨ (-4096 ≤ h ∧ h ≤ 4096) ∨ 4096 < h := by omega
  rcases cs with rfl | ⟨c1, c2⟩ | ⟨c1, c2⟩ | c1 <;> rcases ch with rfl | ⟨d1, d2⟩ | ⟨d1, d2⟩ | d1
  all_goals
    go_enter Tryz.func31, Tryz.ntmps31
    go_wp2
    all_goals
      go_ret
      refine ⟨ret_bool ?_, (by repeat (first | exact Below.refl _ _ | assumption | refine below_drewN ?_ _ | refine Below.drew ?_ | refine below_new ?_ _ | refine Below.setCell ?_ (by first | omega | (simp <;> omega)) _ | refine below_then (by assumption) ?_))⟩
      rw [Bool.eq_iff_iff, withinB_iff]
      simp
      try omega


theorem sum_ok {s h s' h' : Int} (h1 : withinB s h = true) (h2 : withinB s' h' = true) (h3 : withinB (s + s') (h + h') = true) : sum s h s' h' = (s + s', h + h', 0) := by simp [sum, h1, h2, h3]
theorem sum_no3 {s h s' h' : Int} (h3 : withinB (s + s') (h + h') = false) : sum s h s' h' = (0, 0, 3) := by simp [sum, h3]
theorem sum_no2 {s h s' h' : Int} (h2 : withinB s' h' = false) : sum s h s' h' = (0, 0, 3) := by simp [sum, h2]
theorem sum_no1 {s h s' h' : Int} (h1 : withinB s h = false) : sum s h s' h' = (0, 0, 3) := by simp [sum, h1]

theorem tq (n k : Int) (hk : 0 < k) : k * n.tdiv k + n.tmod k = n ∧ -k < n.tmod k ∧ n.tmod k < k := by
  have h1 := Int.natAbs_tmod n k
  have h2 := Nat.mod_lt n.natAbs (show 0 < k.natAbs by omega)
  exact ⟨Int.mul_tdiv_add_tmod n k, by omega, by omega⟩

set_option maxHeartbeats 1000000 in
theorem floor_any (n : Int) (w : World) (h1 : -1000 ≤ n) (h2 : n ≤ 1000) :
    Calls Tryz.prog 32 #[.int .i64 n, .int .i64 7] w fun e w' => e = .returned (R2 (n / 7, n % 7)) ∧ ∃ k, w' = w.drewN k := by
  have t := tq n 7 (by omega)
  have e1 : IntKind.i64.wrap (n.tdiv 7) = n.tdiv 7 := IntWalk.i64_in _ (by omega)
  by_cases hc : n.tmod 7 < 0
  · have HR := Lib.hid (show n.tdiv 7 - 1 = n / 7 ∧ n.tmod 7 + 7 = n % 7 by omega)
    have q1 : -1000 ≤ n.tdiv 7 ∧ n.tdiv 7 ≤ 1000 := by omega
    have q2 : -7 ≤ n.tmod 7 := by omega
    clear t
    go_enter Tryz.func32, Tryz.ntmps32
    go_wp2
    go_quiet (fail)
    go_wp2
    go_ret2
    exact ⟨ret_R2 (by rw [HR.out.1, HR.out.2]), nq, rfl⟩
  · have HR := Lib.hid (show n.tdiv 7 = n / 7 ∧ n.tmod 7 = n % 7 by omega)
    have hc' : 0 ≤ n.tmod 7 := by omega
    clear t
    go_enter Tryz.func32, Tryz.ntmps32
    go_wp2
    go_quiet (fail)
    go_wp2
    go_ret2
    exact ⟨ret_R2 (by rw [HR.out.1, HR.out.2]), nq, rfl⟩

end Go.Proofs.YtbgnegmjbnlemaaGreatDoor.Pi
namespace Go.Proofs.YtbgnegmjbnlemaaGreatDoor.Pi
open Go.RowKit

theorem move_no1 {l a o s h : Int} (k : rightB l a o = false) : move l a o s h = (0, 0, 0, 2) := by simp [move, k]
theorem move_no2 {l a o s h : Int} (k : rightB l a o = true) (k2 : withinB s h = false) : move l a o s h = (0, 0, 0, 3) := by simp [move, k, k2]

theorem at_yes {S H : Int} (k : rightB (S % 7) (H - halves (S % 7) 0 (S / 7)) (S / 7) = true) : at_ S H = (S % 7, H - halves (S % 7) 0 (S / 7), S / 7, 0) := by
  have e : H - halves (S % 7) 0 (S / 7) = H - (12 * (S / 7) + nat7 (S % 7)) := by unfold halves; omega
  rw [e] at k ⊢
  unfold at_
  rw [if_pos k]
theorem at_no {S H : Int} (k : rightB (S % 7) (H - halves (S % 7) 0 (S / 7)) (S / 7) = false) : at_ S H = (0, 0, 0, 3) := by
  have e : H - halves (S % 7) 0 (S / 7) = H - (12 * (S / 7) + nat7 (S % 7)) := by unfold halves; omega
  rw [e] at k
  unfold at_
  rw [if_neg (by rw [k]; exact Bool.false_ne_true)]
theorem halves_bd (S : Int) (h : -1000 ≤ S ∧ S ≤ 1000) : -2000 ≤ halves (S % 7) 0 (S / 7) ∧ halves (S % 7) 0 (S / 7) ≤ 2000 := by
  have := nat7_range (S % 7)
  unfold halves
  omega
end Go.Proofs.YtbgnegmjbnlemaaGreatDoor.Pi
namespace Go.Proofs.YtbgnegmjbnlemaaGreatDoor.Pm
open Go Go.Proofs.YtbgnegmjbnlemaaGreatDoor.Pi

theorem stk_none {k : Int} (h : stkI k = []) : k ≠ 1 ∧ k ≠ 2 ∧ k ≠ 3 ∧ k ≠ 4 ∧ k ≠ 5 ∧ k ≠ 6 ∧ k ≠ 7 ∧ k ≠ 8 ∧ k ≠ 9 := by
  refine ⟨?_, ?_, ?_, ?_, ?_, ?_, ?_, ?_, ?_⟩ <;> (rintro rfl; exact absurd h (by decide))
theorem pts_len (l : List Pt) : (pts l).length = l.length * 3 := flat_len ptC 3 (fun _ => rfl) l
theorem clss_len (l : List Cl) : (clss l).length = l.length * 2 := flat_len clC 2 (fun _ => rfl) l
theorem txs_len (l : List (List UInt8)) : (txs l).length = l.length := by have := flat_len txC 1 (fun _ => rfl) l; unfold txs; omega
theorem pts_shd (l : List Pt) : shds (pts l) := flat_shd ptC (fun _ => rfl) l
theorem clss_shd (l : List Cl) : shds (clss l) := flat_shd clC (fun _ => rfl) l
theorem txs_shd (l : List (List UInt8)) : shds (txs l) := flat_shd txC (fun _ => rfl) l
theorem stkT_len (k : Int) : (stkT k).length = (stkI k).length := List.length_map _
theorem stkT_at {k : Int} {j : Nat} (h : j < (stkI k).length) : (stkT k).getD j [] = inT ((stkI k).getD j (0, 0)) ∧ namedS ((stkT k).getD j []) = ((stkI k).getD j (0, 0), 0) ∧ ((stkT k).getD j []).length ≤ 2 := by
  have e : (stkT k).getD j [] = inT ((stkI k).getD j (0, 0)) := by
    unfold stkT
    rw [List.getD_eq_getElem?_getD, List.getElem?_map, List.getD_eq_getElem?_getD, List.getElem?_eq_getElem h]; rfl
  have hm : (stkI k).getD j (0, 0) ∈ stkI k := by rw [List.getD_eq_getElem?_getD, List.getElem?_eq_getElem h]; exact List.getElem_mem h
  have hi := stk_in hm
  refine ⟨e, by rw [e]; exact named_inT hi, ?_⟩
  rw [e]
  rcases hi with h | h | h | h | h | h | h | h <;> (rw [h]; decide)
/-- The document's stacks: three numbers of half tones, the last one 0 where there is no seventh. -/
def stkR (k : Int) : List Int := if stkI k = [] then [] else [((stkI k).getD 0 (0, 0)).2, ((stkI k).getD 1 (0, 0)).2, ((stkI k).getD 2 (0, 0)).2]
theorem stkR_len {k : Int} (h : stkI k ≠ []) : (stkR k).length = 3 := by unfold stkR; rw [if_neg h]; rfl
theorem stkR_at {k : Int} (h : stkI k ≠ []) {j : Nat} (hj : j < 3) : (stkR k).getD j 0 = ((stkI k).getD j (0, 0)).2 := by
  unfold stkR; rw [if_neg h]
  match j, hj with
  | 0, _ => rfl
  | 1, _ => rfl
  | 2, _ => rfl
theorem stkR_pos {k : Int} (h : stkI k ≠ []) {j : Nat} (hj : j < 3) : 0 < (stkR k).getD j 0 ↔ j < (stkI k).length := by
  rw [stkR_at h hj]
  constructor
  · intro h1
    rcases Nat.lt_or_ge j (stkI k).length with c | c
    · exact c
    · rw [List.getD_eq_getElem?_getD, List.getElem?_eq_none c] at h1; exact absurd h1 (by decide)
  · intro h1; have := stk_steps h1; omega
theorem stkR_bd {k : Int} (h : stkI k ≠ []) {j : Nat} (hj : j < 3) : 0 ≤ (stkR k).getD j 0 ∧ (stkR k).getD j 0 ≤ 11 := by
  rw [stkR_at h hj]
  rcases Nat.lt_or_ge j (stkI k).length with c | c
  · have := stk_steps c; omega
  · rw [List.getD_eq_getElem?_getD, List.getElem?_eq_none c]; decide
theorem stkT_pos1 {k : Int} (h : ¬ stkI k = []) : 0 < (stkT k).length := by rw [stkT_len]; exact List.length_pos_iff.2 h
theorem stkR_pos1 {k : Int} (h : ¬ stkI k = []) : 0 < (stkR k).length := by rw [stkR_len h]; decide
theorem notesGo_end {p : Pt} {l : List (Int × Int)} {j : Nat} (hj : l.length ≤ j) {acc : List Pt} : notesGo p (l.drop j) acc = (acc, 0) := by rw [List.drop_eq_nil_of_le hj]; rfl
theorem notesGo_skip {p : Pt} {l : List (Int × Int)} {j : Nat} (hj : l.length ≤ j) {acc : List Pt} : notesGo p (l.drop (j + 1)) acc = notesGo p (l.drop j) acc := by rw [notesGo_end hj, notesGo_end (by omega)]
theorem notesS_go {p : Pt} {k : Int} (h : ¬ stkI k = []) (hr : rb p = true) : notesS p k = notesGo p (stkI k) [p] := by unfold notesS; rw [if_neg h, if_pos hr]
theorem notesS_kind {p : Pt} {k : Int} (h : stkI k = []) : notesS p k = ([], 1) := by unfold notesS; rw [if_pos h]
theorem notesS_form {p : Pt} {k : Int} (h : ¬ stkI k = []) (hr : ¬ rb p = true) : notesS p k = ([], 2) := by unfold notesS; rw [if_neg h, if_neg hr]
section
variable {p : Pt} {k : Int} (h : ¬ stkI k = []) (hr : rb p = true) {j : Nat} {out : List Pt} (hg : notesGo p ((stkI k).drop j) out = notesGo p (stkI k) [p])
include h hr hg
theorem notes_bad (hj : j < (stkI k).length) {e : Int} (he : mvE p ((stkI k).getD j (0, 0)) = e) (hn : ¬ e = 0) : notesS p k = ([], e) := by
  subst he
  rw [notesS_go h hr, ← hg, notesGo_no hj hn]
theorem notes_done (hj : (stkI k).length ≤ j) : notesS p k = (out, 0) := by rw [notesS_go h hr, ← hg, notesGo_end hj]
end
/-- The document's way to a note. -/
theorem ref_mv {p : Pt} {i : Int × Int} (hr : rb p = true) (hi : withinB i.1 i.2 = true) {S H : Int} (hS : S = steps p.1 p.2.2 + i.1) (hH : H = halves p.1 p.2.1 p.2.2 + i.2) :
    (rightB (S % 7) (H - white S) (S / 7) = true → mvP p i = (S % 7, H - white S, S / 7) ∧ mvE p i = 0) ∧ (¬ rightB (S % 7) (H - white S) (S / 7) = true → mvE p i = 3) := by
  have e : Pi.move p.1 p.2.1 p.2.2 i.1 i.2 = at_ S H := by rw [move_at hr hi, hS, hH]
  unfold mvP mvE
  rw [e, at_white]
  constructor
  · intro c; rw [if_pos c]; exact ⟨rfl, rfl⟩
  · intro c; rw [if_neg c]
theorem mv_within {k : Int} {j : Nat} (hj : j < (stkI k).length) : withinB ((stkI k).getD j (0, 0)).1 ((stkI k).getD j (0, 0)).2 = true := by
  have h := stk_steps hj
  have := stk_len k
  rw [withinB_iff]; omega
end Go.Proofs.YtbgnegmjbnlemaaGreatDoor.Pm
namespace Go.Proofs.YtbgnegmjbnlemaaGreatDoor.Pm
open Go
theorem mixed : Tryz.prog.follows .mixedOrders = true := by kernel_rfl
end Go.Proofs.YtbgnegmjbnlemaaGreatDoor.Pm
namespace Go.Proofs
open Go.Shelf

def Tryz.lays99_ren : Go.Shelf.Ren := ⟨fun | 99 => 53 | 206 => 64 | n => n, fun | 9 => 9 | 4 => 4 | 3 => 3 | n => n, fun | n => n⟩
theorem Tryz.lays99 : Go.Proofs.Lays.n99 Tryz.prog Tryz.lays99_ren := {
  mixed := by kernel_rfl,
  f99 := Tryz.func53.trans (congrArg some (by kernel_rfl)),
  f206 := Tryz.func64.trans (congrArg some (by kernel_rfl)),
  t3 := Tryz.underlying3,
  a3 := Tryz.isAgg3,
  z3 := Tryz.sizeOf3,
  v3 := Tryz.zeroValue3,
  t4 := Tryz.underlying4,
  a4 := Tryz.isAgg4,
  z4 := Tryz.sizeOf4,
  v4 := Tryz.zeroValue4,
  t9 := Tryz.underlying9,
  a9 := Tryz.isAgg9,
  z9 := Tryz.sizeOf9,
  v9 := Tryz.zeroValue9 }
def Tryz.lays101_ren : Go.Shelf.Ren := ⟨fun | 101 => 35 | 208 => 48 | 206 => 64 | n => n, fun | 9 => 9 | 4 => 4 | 3 => 3 | n => n, fun | n => n⟩
theorem Tryz.lays101 : Go.Proofs.Lays.n101 Tryz.prog Tryz.lays101_ren := {
  mixed := by kernel_rfl,
  f101 := Tryz.func35.trans (congrArg some (by kernel_rfl)),
  f206 := Tryz.func64.trans (congrArg some (by kernel_rfl)),
  f208 := Tryz.func48.trans (congrArg some (by kernel_rfl)),
  t3 := Tryz.underlying3,
  a3 := Tryz.isAgg3,
  z3 := Tryz.sizeOf3,
  v3 := Tryz.zeroValue3,
  t4 := Tryz.underlying4,
  a4 := Tryz.isAgg4,
  z4 := Tryz.sizeOf4,
  v4 := Tryz.zeroValue4,
  t9 := Tryz.underlying9,
  a9 := Tryz.isAgg9,
  z9 := Tryz.sizeOf9,
  v9 := Tryz.zeroValue9 }
def Tryz.lays160_ren : Go.Shelf.Ren := ⟨fun | 160 => 40 | 232 => 55 | 231 => 49 | 227 => 50 | 234 => 56 | 233 => 51 | 236 => 57 | 235 => 52 | 228 => 65 | 271 => 70 | 151 => 67 | 197 => 66 | 120 => 84 | 152 => 78 | 260 => 77 | 137 => 90 | 119 => 91 | 224 => 92 | 225 => 93 | 217 => 103 | 266 => 111 | n => n, fun | 9 => 9 | 4 => 4 | 3 => 3 | 5 => 5 | 117 => 81 | 116 => 80 | 0 => 0 | 124 => 84 | 21 => 21 | 105 => 95 | 46 => 99 | 119 => 125 | 139 => 128 | 138 => 127 | n => n, fun | 3 => 0 | 4 => 1 | n => n⟩
theorem Tryz.lays160 : Go.Proofs.Lays.n160 Tryz.prog Tryz.lays160_ren := {
  mixed := by kernel_rfl,
  f119 := Tryz.func91.trans (congrArg some (by kernel_rfl)),
  f120 := Tryz.func84.trans (congrArg some (by kernel_rfl)),
  f137 := Tryz.func90.trans (congrArg some (by kernel_rfl)),
  f151 := Tryz.func67.trans (congrArg some (by kernel_rfl)),
  f152 := Tryz.func78.trans (congrArg some (by kernel_rfl)),
  f160 := Tryz.func40.trans (congrArg some (by kernel_rfl)),
  f197 := Tryz.func66.trans (congrArg some (by kernel_rfl)),
  f217 := Tryz.func103.trans (congrArg some (by kernel_rfl)),
  f224 := Tryz.func92.trans (congrArg some (by kernel_rfl)),
  f225 := Tryz.func93.trans (congrArg some (by kernel_rfl)),
  f227 := Tryz.func50.trans (congrArg some (by kernel_rfl)),
  f228 := Tryz.func65.trans (congrArg some (by kernel_rfl)),
  f231 := Tryz.func49.trans (congrArg some (by kernel_rfl)),
  f232 := Tryz.func55.trans (congrArg some (by kernel_rfl)),
  f233 := Tryz.func51.trans (congrArg some (by kernel_rfl)),
  f234 := Tryz.func56.trans (congrArg some (by kernel_rfl)),
  f235 := Tryz.func52.trans (congrArg some (by kernel_rfl)),
  f236 := Tryz.func57.trans (congrArg some (by kernel_rfl)),
  f260 := Tryz.func77.trans (congrArg some (by kernel_rfl)),
  f266 := Tryz.func111.trans (congrArg some (by kernel_rfl)),
  f271 := Tryz.func70.trans (congrArg some (by kernel_rfl)),
  t0 := Tryz.underlying0,
  a0 := Tryz.isAgg0,
  z0 := Tryz.sizeOf0,
  v0 := Tryz.zeroValue0,
  t3 := Tryz.underlying3,
  a3 := Tryz.isAgg3,
  z3 := Tryz.sizeOf3,
  v3 := Tryz.zeroValue3,
  t4 := Tryz.underlying4,
  a4 := Tryz.isAgg4,
  z4 := Tryz.sizeOf4,
  v4 := Tryz.zeroValue4,
  t5 := Tryz.underlying5,
  a5 := Tryz.isAgg5,
  z5 := Tryz.sizeOf5,
  v5 := Tryz.zeroValue5,
  t9 := Tryz.underlying9,
  a9 := Tryz.isAgg9,
  z9 := Tryz.sizeOf9,
  v9 := Tryz.zeroValue9,
  t21 := Tryz.underlying21,
  a21 := Tryz.isAgg21,
  z21 := Tryz.sizeOf21,
  v21 := Tryz.zeroValue21,
  t46 := Tryz.underlying99,
  a46 := Tryz.isAgg99,
  z46 := Tryz.sizeOf99,
  v46 := Tryz.zeroValue99,
  t105 := Tryz.underlying95,
  a105 := Tryz.isAgg95,
  z105 := Tryz.sizeOf95,
  v105 := Tryz.zeroValue95,
  t116 := Tryz.underlying80,
  a116 := Tryz.isAgg80,
  z116 := Tryz.sizeOf80,
  t117 := Tryz.underlying81,
  a117 := Tryz.isAgg81,
  z117 := Tryz.sizeOf81,
  v117 := Tryz.zeroValue81,
  t119 := Tryz.underlying125,
  a119 := Tryz.isAgg125,
  z119 := Tryz.sizeOf125,
  t124 := Tryz.underlying84,
  a124 := Tryz.isAgg84,
  z124 := Tryz.sizeOf84,
  v124 := Tryz.zeroValue84,
  t138 := Tryz.underlying127,
  a138 := Tryz.isAgg127,
  z138 := Tryz.sizeOf127,
  v138 := Tryz.zeroValue127,
  t139 := Tryz.underlying128,
  a139 := Tryz.isAgg128,
  z139 := Tryz.sizeOf128,
  v139 := Tryz.zeroValue128,
  g3 := by kernel_rfl,
  g4 := by kernel_rfl }
def Tryz.lays161_ren : Go.Shelf.Ren := ⟨fun | 161 => 36 | 231 => 49 | 227 => 50 | 233 => 51 | 235 => 52 | 228 => 65 | 197 => 66 | 151 => 67 | 260 => 77 | 152 => 78 | 137 => 90 | 119 => 91 | 224 => 92 | 225 => 93 | 217 => 103 | 266 => 111 | n => n, fun | 9 => 9 | 4 => 4 | 3 => 3 | 5 => 5 | 117 => 81 | 116 => 80 | 0 => 0 | 124 => 84 | 105 => 95 | 21 => 21 | 119 => 125 | 46 => 99 | 139 => 128 | 138 => 127 | n => n, fun | 3 => 0 | 4 => 1 | n => n⟩
theorem Tryz.lays161 : Go.Proofs.Lays.n161 Tryz.prog Tryz.lays161_ren := {
  mixed := by kernel_rfl,
  f119 := Tryz.func91.trans (congrArg some (by kernel_rfl)),
  f137 := Tryz.func90.trans (congrArg some (by kernel_rfl)),
  f151 := Tryz.func67.trans (congrArg some (by kernel_rfl)),
  f152 := Tryz.func78.trans (congrArg some (by kernel_rfl)),
  f161 := Tryz.func36.trans (congrArg some (by kernel_rfl)),
  f197 := Tryz.func66.trans (congrArg some (by kernel_rfl)),
  f217 := Tryz.func103.trans (congrArg some (by kernel_rfl)),
  f224 := Tryz.func92.trans (congrArg some (by kernel_rfl)),
  f225 := Tryz.func93.trans (congrArg some (by kernel_rfl)),
  f227 := Tryz.func50.trans (congrArg some (by kernel_rfl)),
  f228 := Tryz.func65.trans (congrArg some (by kernel_rfl)),
  f231 := Tryz.func49.trans (congrArg some (by kernel_rfl)),
  f233 := Tryz.func51.trans (congrArg some (by kernel_rfl)),
  f235 := Tryz.func52.trans (congrArg some (by kernel_rfl)),
  f260 := Tryz.func77.trans (congrArg some (by kernel_rfl)),
  f266 := Tryz.func111.trans (congrArg some (by kernel_rfl)),
  t0 := Tryz.underlying0,
  a0 := Tryz.isAgg0,
  z0 := Tryz.sizeOf0,
  v0 := Tryz.zeroValue0,
  t3 := Tryz.underlying3,
  a3 := Tryz.isAgg3,
  z3 := Tryz.sizeOf3,
  v3 := Tryz.zeroValue3,
  t4 := Tryz.underlying4,
  a4 := Tryz.isAgg4,
  z4 := Tryz.sizeOf4,
  v4 := Tryz.zeroValue4,
  t5 := Tryz.underlying5,
  a5 := Tryz.isAgg5,
  z5 := Tryz.sizeOf5,
  v5 := Tryz.zeroValue5,
  t9 := Tryz.underlying9,
  a9 := Tryz.isAgg9,
  z9 := Tryz.sizeOf9,
  v9 := Tryz.zeroValue9,
  t21 := Tryz.underlying21,
  a21 := Tryz.isAgg21,
  z21 := Tryz.sizeOf21,
  v21 := Tryz.zeroValue21,
  t46 := Tryz.underlying99,
  a46 := Tryz.isAgg99,
  z46 := Tryz.sizeOf99,
  v46 := Tryz.zeroValue99,
  t105 := Tryz.underlying95,
  a105 := Tryz.isAgg95,
  z105 := Tryz.sizeOf95,
  v105 := Tryz.zeroValue95,
  t116 := Tryz.underlying80,
  a116 := Tryz.isAgg80,
  z116 := Tryz.sizeOf80,
  t117 := Tryz.underlying81,
  a117 := Tryz.isAgg81,
  z117 := Tryz.sizeOf81,
  v117 := Tryz.zeroValue81,
  t119 := Tryz.underlying125,
  a119 := Tryz.isAgg125,
  z119 := Tryz.sizeOf125,
  t124 := Tryz.underlying84,
  a124 := Tryz.isAgg84,
  z124 := Tryz.sizeOf84,
  v124 := Tryz.zeroValue84,
  t138 := Tryz.underlying127,
  a138 := Tryz.isAgg127,
  z138 := Tryz.sizeOf127,
  v138 := Tryz.zeroValue127,
  t139 := Tryz.underlying128,
  a139 := Tryz.isAgg128,
  z139 := Tryz.sizeOf128,
  v139 := Tryz.zeroValue128,
  g3 := by kernel_rfl,
  g4 := by kernel_rfl }
def Tryz.lays105_ren : Go.Shelf.Ren := ⟨fun | 105 => 58 | 212 => 71 | 99 => 53 | 165 => 72 | 166 => 73 | 170 => 74 | 169 => 75 | 263 => 85 | 264 => 86 | 206 => 64 | 240 => 87 | 241 => 88 | 276 => 97 | 277 => 98 | n => n, fun | 9 => 9 | 3 => 3 | 4 => 4 | 20 => 20 | 0 => 0 | 46 => 99 | 109 => 100 | 5 => 5 | 72 => 105 | 76 => 88 | 51 => 117 | 146 => 118 | 53 => 120 | 148 => 121 | 70 => 102 | 37 => 103 | 75 => 87 | 127 => 123 | 164 => 138 | 80 => 108 | n => n, fun | n => n⟩
theorem Tryz.lays105 : Go.Proofs.Lays.n105 Tryz.prog Tryz.lays105_ren := {
  mixed := by kernel_rfl,
  f99 := Tryz.func53.trans (congrArg some (by kernel_rfl)),
  f105 := Tryz.func58.trans (congrArg some (by kernel_rfl)),
  f165 := Tryz.func72.trans (congrArg some (by kernel_rfl)),
  f166 := Tryz.func73.trans (congrArg some (by kernel_rfl)),
  f169 := Tryz.func75.trans (congrArg some (by kernel_rfl)),
  f170 := Tryz.func74.trans (congrArg some (by kernel_rfl)),
  f206 := Tryz.func64.trans (congrArg some (by kernel_rfl)),
  f212 := Tryz.func71.trans (congrArg some (by kernel_rfl)),
  f240 := Tryz.func87.trans (congrArg some (by kernel_rfl)),
  f241 := Tryz.func88.trans (congrArg some (by kernel_rfl)),
  f263 := Tryz.func85.trans (congrArg some (by kernel_rfl)),
  f264 := Tryz.func86.trans (congrArg some (by kernel_rfl)),
  f276 := Tryz.func97.trans (congrArg some (by kernel_rfl)),
  f277 := Tryz.func98.trans (congrArg some (by kernel_rfl)),
  t0 := Tryz.underlying0,
  a0 := Tryz.isAgg0,
  z0 := Tryz.sizeOf0,
  v0 := Tryz.zeroValue0,
  t3 := Tryz.underlying3,
  a3 := Tryz.isAgg3,
  z3 := Tryz.sizeOf3,
  v3 := Tryz.zeroValue3,
  t4 := Tryz.underlying4,
  a4 := Tryz.isAgg4,
  z4 := Tryz.sizeOf4,
  v4 := Tryz.zeroValue4,
  t5 := Tryz.underlying5,
  a5 := Tryz.isAgg5,
  z5 := Tryz.sizeOf5,
  v5 := Tryz.zeroValue5,
  t9 := Tryz.underlying9,
  a9 := Tryz.isAgg9,
  z9 := Tryz.sizeOf9,
  v9 := Tryz.zeroValue9,
  t20 := Tryz.underlying20,
  a20 := Tryz.isAgg20,
  z20 := Tryz.sizeOf20,
  v20 := Tryz.zeroValue20,
  t37 := Tryz.underlying103,
  a37 := Tryz.isAgg103,
  z37 := Tryz.sizeOf103,
  v37 := Tryz.zeroValue103,
  t46 := Tryz.underlying99,
  a46 := Tryz.isAgg99,
  z46 := Tryz.sizeOf99,
  v46 := Tryz.zeroValue99,
  t51 := Tryz.underlying117,
  a51 := Tryz.isAgg117,
  z51 := Tryz.sizeOf117,
  v51 := Tryz.zeroValue117,
  t53 := Tryz.underlying120,
  a53 := Tryz.isAgg120,
  z53 := Tryz.sizeOf120,
  v53 := Tryz.zeroValue120,
  t70 := Tryz.underlying102,
  a70 := Tryz.isAgg102,
  z70 := Tryz.sizeOf102,
  v70 := Tryz.zeroValue102,
  t72 := Tryz.underlying105,
  a72 := Tryz.isAgg105,
  z72 := Tryz.sizeOf105,
  v72 := Tryz.zeroValue105,
  t75 := Tryz.underlying87,
  a75 := Tryz.isAgg87,
  z75 := Tryz.sizeOf87,
  v75 := Tryz.zeroValue87,
  t76 := Tryz.underlying88,
  a76 := Tryz.isAgg88,
  z76 := Tryz.sizeOf88,
  v76 := Tryz.zeroValue88,
  t109 := Tryz.underlying100,
  a109 := Tryz.isAgg100,
  z109 := Tryz.sizeOf100,
  v109 := Tryz.zeroValue100,
  t127 := Tryz.underlying123,
  a127 := Tryz.isAgg123,
  z127 := Tryz.sizeOf123,
  v127 := Tryz.zeroValue123,
  t146 := Tryz.underlying118,
  a146 := Tryz.isAgg118,
  z146 := Tryz.sizeOf118,
  v146 := Tryz.zeroValue118,
  t148 := Tryz.underlying121,
  a148 := Tryz.isAgg121,
  z148 := Tryz.sizeOf121,
  v148 := Tryz.zeroValue121,
  t164 := Tryz.underlying138,
  a164 := Tryz.isAgg138,
  z164 := Tryz.sizeOf138,
  v164 := Tryz.zeroValue138 }
def Tryz.lays172_ren : Go.Shelf.Ren := ⟨fun | 172 => 54 | 244 => 68 | 245 => 69 | 247 => 79 | 279 => 80 | 280 => 81 | 281 => 82 | 282 => 83 | 287 => 94 | 316 => 95 | 171 => 59 | 205 => 96 | 321 => 104 | 322 => 105 | 243 => 76 | 246 => 89 | 283 => 99 | 284 => 100 | 285 => 101 | 286 => 102 | 129 => 107 | 317 => 106 | 318 => 108 | 319 => 109 | 320 => 110 | 337 => 112 | 338 => 113 | n => n, fun | 9 => 9 | 3 => 3 | 75 => 87 | 76 => 88 | 4 => 4 | 5 => 5 | 167 => 111 | 37 => 103 | 0 => 0 | 85 => 112 | 2 => 2 | 168 => 114 | 53 => 120 | 175 => 132 | 46 => 99 | 210 => 136 | 127 => 123 | 145 => 150 | 143 => 148 | 21 => 21 | 171 => 141 | 173 => 144 | 212 => 152 | 51 => 117 | 20 => 20 | 213 => 153 | 232 => 156 | 233 => 157 | 80 => 108 | n => n, fun | 15 => 2 | 16 => 3 | 17 => 5 | 18 => 6 | 19 => 7 | n => n⟩
theorem Tryz.lays172 : Go.Proofs.Lays.n172 Tryz.prog Tryz.lays172_ren := {
  mixed := by kernel_rfl,
  f129 := Tryz.func107.trans (congrArg some (by kernel_rfl)),
  f171 := Tryz.func59.trans (congrArg some (by kernel_rfl)),
  f172 := Tryz.func54.trans (congrArg some (by kernel_rfl)),
  f205 := Tryz.func96.trans (congrArg some (by kernel_rfl)),
  f243 := Tryz.func76.trans (congrArg some (by kernel_rfl)),
  f244 := Tryz.func68.trans (congrArg some (by kernel_rfl)),
  f245 := Tryz.func69.trans (congrArg some (by kernel_rfl)),
  f246 := Tryz.func89.trans (congrArg some (by kernel_rfl)),
  f247 := Tryz.func79.trans (congrArg some (by kernel_rfl)),
  f279 := Tryz.func80.trans (congrArg some (by kernel_rfl)),
  f280 := Tryz.func81.trans (congrArg some (by kernel_rfl)),
  f281 := Tryz.func82.trans (congrArg some (by kernel_rfl)),
  f282 := Tryz.func83.trans (congrArg some (by kernel_rfl)),
  f283 := Tryz.func99.trans (congrArg some (by kernel_rfl)),
  f284 := Tryz.func100.trans (congrArg some (by kernel_rfl)),
  f285 := Tryz.func101.trans (congrArg some (by kernel_rfl)),
  f286 := Tryz.func102.trans (congrArg some (by kernel_rfl)),
  f287 := Tryz.func94.trans (congrArg some (by kernel_rfl)),
  f316 := Tryz.func95.trans (congrArg some (by kernel_rfl)),
  f317 := Tryz.func106.trans (congrArg some (by kernel_rfl)),
  f318 := Tryz.func108.trans (congrArg some (by kernel_rfl)),
  f319 := Tryz.func109.trans (congrArg some (by kernel_rfl)),
  f320 := Tryz.func110.trans (congrArg some (by kernel_rfl)),
  f321 := Tryz.func104.trans (congrArg some (by kernel_rfl)),
  f322 := Tryz.func105.trans (congrArg some (by kernel_rfl)),
  f337 := Tryz.func112.trans (congrArg some (by kernel_rfl)),
  f338 := Tryz.func113.trans (congrArg some (by kernel_rfl)),
  t0 := Tryz.underlying0,
  a0 := Tryz.isAgg0,
  z0 := Tryz.sizeOf0,
  v0 := Tryz.zeroValue0,
  t2 := Tryz.underlying2,
  a2 := Tryz.isAgg2,
  z2 := Tryz.sizeOf2,
  v2 := Tryz.zeroValue2,
  t3 := Tryz.underlying3,
  a3 := Tryz.isAgg3,
  z3 := Tryz.sizeOf3,
  v3 := Tryz.zeroValue3,
  t4 := Tryz.underlying4,
  a4 := Tryz.isAgg4,
  z4 := Tryz.sizeOf4,
  v4 := Tryz.zeroValue4,
  t5 := Tryz.underlying5,
  a5 := Tryz.isAgg5,
  z5 := Tryz.sizeOf5,
  v5 := Tryz.zeroValue5,
  t9 := Tryz.underlying9,
  a9 := Tryz.isAgg9,
  z9 := Tryz.sizeOf9,
  v9 := Tryz.zeroValue9,
  t20 := Tryz.underlying20,
  a20 := Tryz.isAgg20,
  z20 := Tryz.sizeOf20,
  v20 := Tryz.zeroValue20,
  t21 := Tryz.underlying21,
  a21 := Tryz.isAgg21,
  z21 := Tryz.sizeOf21,
  v21 := Tryz.zeroValue21,
  t37 := Tryz.underlying103,
  a37 := Tryz.isAgg103,
  z37 := Tryz.sizeOf103,
  v37 := Tryz.zeroValue103,
  t46 := Tryz.underlying99,
  a46 := Tryz.isAgg99,
  z46 := Tryz.sizeOf99,
  v46 := Tryz.zeroValue99,
  t51 := Tryz.underlying117,
  a51 := Tryz.isAgg117,
  z51 := Tryz.sizeOf117,
  v51 := Tryz.zeroValue117,
  t53 := Tryz.underlying120,
  a53 := Tryz.isAgg120,
  z53 := Tryz.sizeOf120,
  v53 := Tryz.zeroValue120,
  t75 := Tryz.underlying87,
  a75 := Tryz.isAgg87,
  z75 := Tryz.sizeOf87,
  v75 := Tryz.zeroValue87,
  t76 := Tryz.underlying88,
  a76 := Tryz.isAgg88,
  z76 := Tryz.sizeOf88,
  v76 := Tryz.zeroValue88,
  t85 := Tryz.underlying112,
  a85 := Tryz.isAgg112,
  z85 := Tryz.sizeOf112,
  v85 := Tryz.zeroValue112,
  t127 := Tryz.underlying123,
  a127 := Tryz.isAgg123,
  z127 := Tryz.sizeOf123,
  v127 := Tryz.zeroValue123,
  t143 := Tryz.underlying148,
  a143 := Tryz.isAgg148,
  z143 := Tryz.sizeOf148,
  v143 := Tryz.zeroValue148,
  t145 := Tryz.underlying150,
  a145 := Tryz.isAgg150,
  z145 := Tryz.sizeOf150,
  v145 := Tryz.zeroValue150,
  t167 := Tryz.underlying111,
  a167 := Tryz.isAgg111,
  z167 := Tryz.sizeOf111,
  v167 := Tryz.zeroValue111,
  t168 := Tryz.underlying114,
  a168 := Tryz.isAgg114,
  z168 := Tryz.sizeOf114,
  v168 := Tryz.zeroValue114,
  t171 := Tryz.underlying141,
  a171 := Tryz.isAgg141,
  z171 := Tryz.sizeOf141,
  v171 := Tryz.zeroValue141,
  t173 := Tryz.underlying144,
  a173 := Tryz.isAgg144,
  z173 := Tryz.sizeOf144,
  v173 := Tryz.zeroValue144,
  t175 := Tryz.underlying132,
  a175 := Tryz.isAgg132,
  z175 := Tryz.sizeOf132,
  v175 := Tryz.zeroValue132,
  t210 := Tryz.underlying136,
  a210 := Tryz.isAgg136,
  z210 := Tryz.sizeOf136,
  v210 := Tryz.zeroValue136,
  t212 := Tryz.underlying152,
  a212 := Tryz.isAgg152,
  z212 := Tryz.sizeOf152,
  v212 := Tryz.zeroValue152,
  t213 := Tryz.underlying153,
  a213 := Tryz.isAgg153,
  z213 := Tryz.sizeOf153,
  t232 := Tryz.underlying156,
  a232 := Tryz.isAgg156,
  z232 := Tryz.sizeOf156,
  v232 := Tryz.zeroValue156,
  t233 := Tryz.underlying157,
  a233 := Tryz.isAgg157,
  z233 := Tryz.sizeOf157,
  v233 := Tryz.zeroValue157,
  g15 := by kernel_rfl,
  g16 := by kernel_rfl,
  g17 := by kernel_rfl,
  g18 := by kernel_rfl,
  g19 := by kernel_rfl }
def Tryz.laysM171_ren : Go.Shelf.Ren := ⟨fun | 171 => 59 | 243 => 76 | 246 => 89 | 283 => 99 | 284 => 100 | 285 => 101 | 286 => 102 | 129 => 107 | 317 => 106 | 318 => 108 | 319 => 109 | 320 => 110 | 337 => 112 | 338 => 113 | n => n, fun | 3 => 3 | 9 => 9 | 2 => 2 | 4 => 4 | 171 => 141 | 0 => 0 | 53 => 120 | 37 => 103 | 5 => 5 | 173 => 144 | 212 => 152 | 51 => 117 | 20 => 20 | 213 => 153 | 46 => 99 | 232 => 156 | 233 => 157 | n => n, fun | 17 => 5 | 18 => 6 | 19 => 7 | n => n⟩
theorem Tryz.laysM171 : Go.Proofs.LaysM.n171 Tryz.prog Tryz.laysM171_ren := {
  mixed := by kernel_rfl,
  f129 := Tryz.func107.trans (congrArg some (by kernel_rfl)),
  f171 := Tryz.func59.trans (congrArg some (by kernel_rfl)),
  f243 := Tryz.func76.trans (congrArg some (by kernel_rfl)),
  f246 := Tryz.func89.trans (congrArg some (by kernel_rfl)),
  f283 := Tryz.func99.trans (congrArg some (by kernel_rfl)),
  f284 := Tryz.func100.trans (congrArg some (by kernel_rfl)),
  f285 := Tryz.func101.trans (congrArg some (by kernel_rfl)),
  f286 := Tryz.func102.trans (congrArg some (by kernel_rfl)),
  f317 := Tryz.func106.trans (congrArg some (by kernel_rfl)),
  f318 := Tryz.func108.trans (congrArg some (by kernel_rfl)),
  f319 := Tryz.func109.trans (congrArg some (by kernel_rfl)),
  f320 := Tryz.func110.trans (congrArg some (by kernel_rfl)),
  f337 := Tryz.func112.trans (congrArg some (by kernel_rfl)),
  f338 := Tryz.func113.trans (congrArg some (by kernel_rfl)),
  t0 := Tryz.underlying0,
  a0 := Tryz.isAgg0,
  z0 := Tryz.sizeOf0,
  v0 := Tryz.zeroValue0,
  t2 := Tryz.underlying2,
  a2 := Tryz.isAgg2,
  z2 := Tryz.sizeOf2,
  v2 := Tryz.zeroValue2,
  t3 := Tryz.underlying3,
  a3 := Tryz.isAgg3,
  z3 := Tryz.sizeOf3,
  v3 := Tryz.zeroValue3,
  t4 := Tryz.underlying4,
  a4 := Tryz.isAgg4,
  z4 := Tryz.sizeOf4,
  v4 := Tryz.zeroValue4,
  t5 := Tryz.underlying5,
  a5 := Tryz.isAgg5,
  z5 := Tryz.sizeOf5,
  v5 := Tryz.zeroValue5,
  t9 := Tryz.underlying9,
  a9 := Tryz.isAgg9,
  z9 := Tryz.sizeOf9,
  v9 := Tryz.zeroValue9,
  t20 := Tryz.underlying20,
  a20 := Tryz.isAgg20,
  z20 := Tryz.sizeOf20,
  v20 := Tryz.zeroValue20,
  t37 := Tryz.underlying103,
  a37 := Tryz.isAgg103,
  z37 := Tryz.sizeOf103,
  v37 := Tryz.zeroValue103,
  t46 := Tryz.underlying99,
  a46 := Tryz.isAgg99,
  z46 := Tryz.sizeOf99,
  v46 := Tryz.zeroValue99,
  t51 := Tryz.underlying117,
  a51 := Tryz.isAgg117,
  z51 := Tryz.sizeOf117,
  v51 := Tryz.zeroValue117,
  t53 := Tryz.underlying120,
  a53 := Tryz.isAgg120,
  z53 := Tryz.sizeOf120,
  v53 := Tryz.zeroValue120,
  t171 := Tryz.underlying141,
  a171 := Tryz.isAgg141,
  z171 := Tryz.sizeOf141,
  v171 := Tryz.zeroValue141,
  t173 := Tryz.underlying144,
  a173 := Tryz.isAgg144,
  z173 := Tryz.sizeOf144,
  v173 := Tryz.zeroValue144,
  t212 := Tryz.underlying152,
  a212 := Tryz.isAgg152,
  z212 := Tryz.sizeOf152,
  v212 := Tryz.zeroValue152,
  t213 := Tryz.underlying153,
  a213 := Tryz.isAgg153,
  z213 := Tryz.sizeOf153,
  t232 := Tryz.underlying156,
  a232 := Tryz.isAgg156,
  z232 := Tryz.sizeOf156,
  v232 := Tryz.zeroValue156,
  t233 := Tryz.underlying157,
  a233 := Tryz.isAgg157,
  z233 := Tryz.sizeOf157,
  v233 := Tryz.zeroValue157,
  g17 := by kernel_rfl,
  g18 := by kernel_rfl,
  g19 := by kernel_rfl,
  i0 := by kernel_rfl,
  i2 := by kernel_rfl,
  i3 := by kernel_rfl,
  i4 := by kernel_rfl,
  i5 := by kernel_rfl,
  i9 := by kernel_rfl,
  i20 := by kernel_rfl,
  i37 := by kernel_rfl,
  i46 := by kernel_rfl,
  i51 := by kernel_rfl,
  i53 := by kernel_rfl,
  i171 := by kernel_rfl,
  i173 := by kernel_rfl,
  i212 := by kernel_rfl,
  i232 := by kernel_rfl,
  i233 := by kernel_rfl,
  m17 := by kernel_rfl,
  m18 := by kernel_rfl,
  m19 := by kernel_rfl }
def Tryz.lays197_ren : Go.Shelf.Ren := ⟨fun | 197 => 66 | 260 => 77 | n => n, fun | 9 => 9 | 21 => 21 | 3 => 3 | 4 => 4 | 5 => 5 | 105 => 95 | 119 => 125 | 0 => 0 | 46 => 99 | 139 => 128 | 138 => 127 | n => n, fun | 3 => 0 | 4 => 1 | n => n⟩
theorem Tryz.lays197 : Go.Proofs.Lays.n197 Tryz.prog Tryz.lays197_ren := {
  mixed := by kernel_rfl,
  f197 := Tryz.func66.trans (congrArg some (by kernel_rfl)),
  f260 := Tryz.func77.trans (congrArg some (by kernel_rfl)),
  t0 := Tryz.underlying0,
  a0 := Tryz.isAgg0,
  z0 := Tryz.sizeOf0,
  v0 := Tryz.zeroValue0,
  t3 := Tryz.underlying3,
  a3 := Tryz.isAgg3,
  z3 := Tryz.sizeOf3,
  v3 := Tryz.zeroValue3,
  t4 := Tryz.underlying4,
  a4 := Tryz.isAgg4,
  z4 := Tryz.sizeOf4,
  v4 := Tryz.zeroValue4,
  t5 := Tryz.underlying5,
  a5 := Tryz.isAgg5,
  z5 := Tryz.sizeOf5,
  v5 := Tryz.zeroValue5,
  t9 := Tryz.underlying9,
  a9 := Tryz.isAgg9,
  z9 := Tryz.sizeOf9,
  v9 := Tryz.zeroValue9,
  t21 := Tryz.underlying21,
  a21 := Tryz.isAgg21,
  z21 := Tryz.sizeOf21,
  v21 := Tryz.zeroValue21,
  t46 := Tryz.underlying99,
  a46 := Tryz.isAgg99,
  z46 := Tryz.sizeOf99,
  v46 := Tryz.zeroValue99,
  t105 := Tryz.underlying95,
  a105 := Tryz.isAgg95,
  z105 := Tryz.sizeOf95,
  v105 := Tryz.zeroValue95,
  t119 := Tryz.underlying125,
  a119 := Tryz.isAgg125,
  z119 := Tryz.sizeOf125,
  t138 := Tryz.underlying127,
  a138 := Tryz.isAgg127,
  z138 := Tryz.sizeOf127,
  v138 := Tryz.zeroValue127,
  t139 := Tryz.underlying128,
  a139 := Tryz.isAgg128,
  z139 := Tryz.sizeOf128,
  v139 := Tryz.zeroValue128,
  g3 := by kernel_rfl,
  g4 := by kernel_rfl }
theorem Tryz.builder105 : Builder.Extra Tryz.prog Tryz.lays105_ren where
  sizeBuilder := by kernel_rfl
  liesBuilder := by kernel_rfl
  t5 := Tryz.underlying5
  a5 := Tryz.isAgg5
  z5 := Tryz.sizeOf5
  v5 := Tryz.zeroValue5
  infoByte := by kernel_rfl
  cellsByte := by kernel_rfl
  sizeByte := by kernel_rfl
  neB5 := by decide
end Go.Proofs
namespace Go.Proofs.YtbgnegmjbnlemaaGreatDoor.Pm
open Go Go.RowKit

theorem hasPrefix_pc (s p : List UInt8) : PC Tryz.prog 53 [sv (st s), sv (st p)] [] (bv (Lib.hasPrefix s p)) [] :=
  pc_flat (fn_ok Tryz.func53 (by kernel_rfl) (by kernel_rfl)) rfl rfl fun w => (Any.strings_HasPrefix Tryz.lays99 (st s) (st p) w).mono fun e w' ⟨h1, h2⟩ => ⟨h1, h2 ▸ Below.refl _ _⟩
theorem trimPrefix_pc (s p : List UInt8) : PC Tryz.prog 35 [sv (st s), sv (st p)] [] (sv (st (Lib.trimPrefix s p))) [] :=
  pc_flat (fn_ok Tryz.func35 (by kernel_rfl) (by kernel_rfl)) rfl rfl fun w => (Any.strings_TrimPrefix Tryz.lays101 (st s) (st p) w).mono fun e w' ⟨h1, h2⟩ => ⟨h1, h2 ▸ Below.refl _ _⟩
theorem trim_pc (s cs : List UInt8) (hs : s.length ≤ 9223372036854775807) (hc : cs.length < 4294967281) (ha : ∀ (j : Nat) b, cs[j]? = some b → b.toNat < 128) : PC Tryz.prog 40 [sv (st s), sv (st cs)] [] (sv (st (Lib.trimS s cs))) [] :=
  pc_flat (fn_ok Tryz.func40 (by kernel_rfl) (by kernel_rfl)) rfl rfl fun w => (Any.strings_Trim_laid Tryz.lays160 (by kernel_rfl) (st s) (st cs) w hs hc ha).mono fun e w' ⟨h1, h2⟩ => ⟨h1, h2⟩
theorem trimLeft_pc (s cs : List UInt8) (hc : cs.length < 4294967281) (ha : ∀ (j : Nat) b, cs[j]? = some b → b.toNat < 128) : PC Tryz.prog 36 [sv (st s), sv (st cs)] [] (sv (st (Lib.trimLeftS s cs))) [] :=
  pc_flat (fn_ok Tryz.func36 (by kernel_rfl) (by kernel_rfl)) rfl rfl fun w => (Any.strings_TrimLeft_laid Tryz.lays161 (by kernel_rfl) (st s) (st cs) w hc ha).mono fun e w' ⟨h1, h2⟩ => ⟨h1, h2⟩
theorem repeat_pc (s : List UInt8) (c : Nat) (hc : c ≤ 9223372036854775807) (hl : s.length * c ≤ 140737488355328) : PC Tryz.prog 58 [sv (st s), iv ((c : Nat) : Int)] [] (sv (st (Lib.repeatL s c))) [] :=
  pc_flat (fn_ok Tryz.func58 (by kernel_rfl) (by kernel_rfl)) rfl rfl fun w => (Any.strings_Repeat Tryz.lays105 Tryz.builder105 (st s) c w hc hl)
theorem atoi_pc (s : List UInt8) (n : Int) (hs : s.length ≤ 18) (h : Lib.atoi s = some n) : PC Tryz.prog 54 [sv (st s)] [] (.tup [iv n, .av .nilIface]) [] :=
  pc_flat (fn_ok Tryz.func54 (by kernel_rfl) (by kernel_rfl)) rfl rfl fun w => (Any.strconv_Atoi Tryz.lays172 (st s) n hs h w).mono fun e w' ⟨h1, t, h2⟩ => ⟨h1, h2 ▸ Lib.bytesWorld_below _ _ _⟩
theorem itoa_pc (n : Int) (h0 : -9223372036854775808 ≤ n) (h1 : n ≤ 9223372036854775807) : PC Tryz.prog 59 [iv n] [] (sv (st (Lib.itoa n))) [] :=
  pc_flatL (fn_ok Tryz.func59 (by kernel_rfl) (by kernel_rfl)) rfl rfl fun w hL => (Any.strconv_Itoa Tryz.laysM171 n h0 h1 w hL.2.1).mono fun e w' ⟨h1, k, os, h2⟩ => ⟨h1, h2 ▸ Lib.below_grow _ _ (Nat.le_refl _) _ _⟩
theorem decode_pc (s : List UInt8) : PC Tryz.prog 66 [sv (st s)] [] (.tup [.av (.int .i32 (((Lib.decodeGo (st s)).1 : Nat) : Int)), iv (((Lib.decodeGo (st s)).2 : Nat) : Int)]) [] :=
  pc_flatL (fn_ok Tryz.func66 (by kernel_rfl) (by kernel_rfl)) rfl rfl fun w hL => (Any.utf8_DecodeRuneInString Tryz.lays197 (st s) w hL.2.2)
end Go.Proofs.YtbgnegmjbnlemaaGreatDoor.Pm
namespace Go.Proofs.YtbgnegmjbnlemaaGreatDoor.Pi
open Go.RowKit

theorem abs_any (n : Int) (w : World) (h1 : -9223372036854775808 < n) (h2 : n ≤ 9223372036854775807) :
    Calls Tryz.prog 30 #[.int .i64 n] w fun e w' => e = .returned (.int .i64 (n.natAbs : Int)) ∧ w = w' := by
  go_enter Tryz.func30, Tryz.ntmps30
  go_wp2
  all_goals
    go_ret
    exact ⟨ret_int (by omega), rfl⟩
theorem abs_least (w : World) :
    Calls Tryz.prog 30 #[.int .i64 (-9223372036854775808)] w fun e w' => e = .returned (.int .i64 (-9223372036854775808)) ∧ w = w' := by
  have hw := wrap_least
  go_enter Tryz.func30, Tryz.ntmps30
  go_wp2
  go_ret
  exact ⟨ret_int hw, rfl⟩

set_option maxHeartbeats 4000000 in
theorem ref_right_any (l a o : Int) (w : World) (ha : I64 a) :
    Calls Tryz.prog 18 #[.agg #[.int .i64 l, .int .i64 a, .int .i64 o]] w fun e w' => e = .returned (.bool (rightB l a o)) ∧ Below w.heap.size w w' := by
  unfold I64 at ha
  have cl : l < 0 ∨ 6 < l ∨ (0 ≤ l ∧ l ≤ 6) := by omega
  have ca : a = -9223372036854775808 ∨ (-9223372036854775808 < a ∧ 3 < (a.natAbs : Int)) ∨ (-3 ≤ a ∧ (a.natAbs : Int) ≤ 3) := by omega
  have co : o < -12 ∨ 12 < o ∨ (-12 ≤ o ∧ o ≤ 12) := by omega
  rcases cl with c1 | c1 | ⟨c1, c2⟩
  · go_enter Tryz.func18, Tryz.ntmps18
    go_wp2
    go_ret
    refine ⟨ret_bool ?_, (by repeat (first | exact Below.refl _ _ | assumption | refine below_drewN ?_ _ | refine Below.drew ?_ | refine below_new ?_ _ | refine Below.setCell ?_ (by first | omega | (simp <;> omega)) _ | refine below_then (by assumption) ?_))⟩
    rw [eq_comm, ← Bool.not_eq_true, rightB_iff]; omega
  · go_enter Tryz.func18, Tryz.ntmps18
    go_wp2
    go_ret
    refine ⟨ret_bool ?_, (by repeat (first | exact Below.refl _ _ | assumption | refine below_drewN ?_ _ | refine Below.drew ?_ | refine below_new ?_ _ | refine Below.setCell ?_ (by first | omega | (simp <;> omega)) _ | refine below_then (by assumption) ?_))⟩
    rw [eq_comm, ← Bool.not_eq_true, rightB_iff]; omega
  · rcases ca with rfl | ⟨d1, d2⟩ | ⟨d1, d2⟩
    · rcases co with k1 | k1 | ⟨k1, k2⟩
      all_goals
        go_enter Tryz.func18, Tryz.ntmps18
        go_wp2_with (go_at_call 30; refine (abs_least _).mono ?_; rintro e w1 ⟨rfl, rfl⟩)
        go_ret
        refine ⟨ret_bool ?_, (by repeat (first | exact Below.refl _ _ | assumption | refine below_drewN ?_ _ | refine Below.drew ?_ | refine below_new ?_ _ | refine Below.setCell ?_ (by first | omega | (simp <;> omega)) _ | refine below_then (by assumption) ?_))⟩
        rw [eq_comm, ← Bool.not_eq_true, rightB_iff]; omega
    · go_enter Tryz.func18, Tryz.ntmps18
      go_wp2_with (go_at_call 30; refine (abs_any a _ (by omega) (by omega)).mono ?_; rintro e w1 ⟨rfl, rfl⟩)
      go_ret
      refine ⟨ret_bool ?_, (by repeat (first | exact Below.refl _ _ | assumption | refine below_drewN ?_ _ | refine Below.drew ?_ | refine below_new ?_ _ | refine Below.setCell ?_ (by first | omega | (simp <;> omega)) _ | refine below_then (by assumption) ?_))⟩
      rw [eq_comm, ← Bool.not_eq_true, rightB_iff]; omega
    · rcases co with k1 | k1 | ⟨k1, k2⟩
      all_goals
        go_enter Tryz.func18, Tryz.ntmps18
        go_wp2_with (go_at_call 30; refine (abs_any a _ (by omega) (by omega)).mono ?_; rintro e w1 ⟨rfl, rfl⟩)
        go_ret
        refine ⟨ret_bool ?_, (by repeat (first | exact Below.refl _ _ | assumption | refine below_drewN ?_ _ | refine Below.drew ?_ | refine below_new ?_ _ | refine Below.setCell ?_ (by first | omega | (simp <;> omega)) _ | refine below_then (by assumption) ?_))⟩
        rw [Bool.eq_iff_iff, rightB_iff]
        simp
        try omega

theorem up_any (l : Int) (w : World) :
    Calls Tryz.prog 60 #[.int .i64 l] w fun e w' => e = .returned (.int .i64 (up l)) ∧ w = w' := by
  by_cases h2 : l = 2
  · subst h2
    go_enter Tryz.func60, Tryz.ntmps60
    go_wp2
    go_ret
    exact ⟨rfl, rfl⟩
  · by_cases h6 : l = 6
    · subst h6
      go_enter Tryz.func60, Tryz.ntmps60
      go_wp2
      go_ret
      exact ⟨rfl, rfl⟩
    · have HU := Lib.hid (show up l = 2 by unfold up; rw [if_neg (by omega)])
      replace h2 : (l == 2) = false := by simpa using h2
      replace h6 : (l == 6) = false := by simpa using h6
      go_enter Tryz.func60, Tryz.ntmps60
      go_wp2
      go_ret
      exact ⟨ret_int HU.out.symm, rfl⟩

set_option maxHeartbeats 2000000 in
theorem white_pos (n : Int) (w : World) (h0 : 0 ≤ n) (h1 : n ≤ 1000) :
    Calls Tryz.prog 42 #[.int .i64 n] w fun e w' => e = .returned (.int .i64 (white n)) ∧ w = w' := by
  go_enter Tryz.func42, Tryz.ntmps42
  go_wp2
  go_loop [0, 3, 4] (fun x m l => ∃ t : Int, 0 ≤ t ∧ t ≤ n ∧ x = .int .i64 (n - t) ∧ m = .int .i64 (white t) ∧ l = .int .i64 (t % 7)) (fun x _ _ => (intOf x).toNat)
  case atStart => exact ⟨0, by omega, h0, by go_num, by go_num, by go_num⟩
  case round =>
    obtain ⟨t, ht0, ht1, rfl, rfl, rfl⟩ := hrel
    have hb := white_bd t (by omega)
    have hu := up_range (t % 7)
    have hl : 0 ≤ t % 7 ∧ t % 7 ≤ 6 := by omega
    have HS := Lib.hid (white_succ t)
    have HL := Lib.hid (show (t % 7 + 1) % 7 = (t + 1) % 7 by omega)
    by_cases hc : t < n
    · have hc' : 0 < n - t := by omega
      go_wp2_with (go_at_call 60; refine (up_any (t % 7) _).mono ?_; rintro e w1 ⟨rfl, rfl⟩)
      go_round
      case rel => exact ⟨t + 1, by omega, by omega, by go_num, by rw [HS.out], by rw [HL.out]⟩
      case measure => (simp [intOf] <;> omega)
    · obtain rfl : t = n := by omega
      have hz : t - t = 0 := by omega
      go_wp2
      refine wp_loop_rounds 1 ?_
      rw [rounds_succ]
      go_wp2
      go_ret
      exact ⟨rfl, rfl⟩

set_option maxHeartbeats 2000000 in
theorem white_neg (n : Int) (w : World) (h0 : n < 0) (h1 : -1000 ≤ n) :
    Calls Tryz.prog 42 #[.int .i64 n] w fun e w' => e = .returned (.int .i64 (white n)) ∧ w = w' := by
  go_enter Tryz.func42, Tryz.ntmps42
  go_wp2
  refine wp_loop_rounds 1 ?_
  rw [rounds_succ]
  go_wp2
  go_loop [0, 3, 4] (fun x m l => ∃ t : Int, t ≤ 0 ∧ n ≤ t ∧ x = .int .i64 (n - t) ∧ m = .int .i64 (white t) ∧ l = .int .i64 (t % 7)) (fun x _ _ => (-(intOf x)).toNat)
  case atStart => exact ⟨0, by omega, by omega, by go_num, by go_num, by go_num⟩
  case round =>
    obtain ⟨t, ht0, ht1, rfl, rfl, rfl⟩ := hrel
    have hb := white_bd t (by omega)
    have hu := up_range ((t - 1) % 7)
    have hl : 0 ≤ t % 7 ∧ t % 7 ≤ 6 := by omega
    have HS := Lib.hid (white_pred t)
    have hL : (t % 7 + 6) % 7 = (t - 1) % 7 := by omega
    by_cases hc : n < t
    · have hc' : n - t < 0 := by omega
      go_wp2_with (go_at_call 60; refine (up_any ((t - 1) % 7) _).mono ?_; rintro e w1 ⟨rfl, rfl⟩)
      go_round
      case rel => exact ⟨t - 1, by omega, by omega, by go_num, by rw [HS.out], rfl⟩
      case measure => (simp [intOf] <;> omega)
    · obtain rfl : t = n := by omega
      have hz : t - t = 0 := by omega
      go_wp2
      go_ret
      exact ⟨rfl, rfl⟩

theorem white_any (n : Int) (w : World) (h0 : -1000 ≤ n) (h1 : n ≤ 1000) :
    Calls Tryz.prog 42 #[.int .i64 n] w fun e w' => e = .returned (.int .i64 (white n)) ∧ w = w' := by
  by_cases h : 0 ≤ n
  · exact white_pos n w h h1
  · exact white_neg n w (by omega) h0

set_option maxHeartbeats 1000000 in
theorem ref_steps_any (l a o : Int) (w : World) (h : rightB l a o = true) :
    Calls Tryz.prog 20 #[.agg #[.int .i64 l, .int .i64 a, .int .i64 o]] w fun e w' => e = .returned (.int .i64 (steps l o)) ∧ Below w.heap.size w w' := by
  have hr := rightB_iff.1 h
  go_enter Tryz.func20, Tryz.ntmps20
  go_wp2
  go_ret
  exact ⟨ret_int rfl, (by repeat (first | exact Below.refl _ _ | assumption | refine below_drewN ?_ _ | refine Below.drew ?_ | refine below_new ?_ _ | refine Below.setCell ?_ (by first | omega | (simp <;> omega)) _ | refine below_then (by assumption) ?_))⟩

set_option maxHeartbeats 1000000 in
theorem ref_halves_any (l a o : Int) (w : World) (h : rightB l a o = true) :
    Calls Tryz.prog 21 #[.agg #[.int .i64 l, .int .i64 a, .int .i64 o]] w fun e w' => e = .returned (.int .i64 (halves l a o)) ∧ Below w.heap.size w w' := by
  have hr := rightB_iff.1 h
  have hb := (bounds h).1
  have hwb := white_bd (steps l o) (by omega)
  have HW := Lib.hid (white_halves h)
  go_enter Tryz.func21, Tryz.ntmps21
  go_wp2
  have hE := Ext.cells (w.alloc (Obj.cells #[Value.int .i64 l, Value.int .i64 a, Value.int .i64 o] 23))
  refine wp_region_ext (by kernel_rfl) (by kernel_rfl) ?_
  repeat go_big_quiet_step ((first | (go_at_call 20; with_reducible refine ext_call (ref_steps_any l a o _ h)) | (go_at_call 42; with_reducible refine ext_same (white_any (steps l o) _ (by omega) (by omega)))))
  refine wpQuiet_nil ?_
  rintro wd ⟨⟨_, hbd⟩, rfl⟩
  go_wp2
  go_ret
  exact ⟨ret_int HW.out, (by repeat (first | exact Below.refl _ _ | assumption | refine below_drewN ?_ _ | refine Below.drew ?_ | refine below_new ?_ _ | refine Below.setCell ?_ (by first | omega | (simp <;> omega)) _ | refine below_then (by assumption) ?_))⟩

theorem ref_within_any (s h : Int) (w : World) :
    Calls Tryz.prog 47 #[.agg #[.int .i64 s, .int .i64 h]] w fun e w' => e = .returned (.bool (withinB s h)) ∧ Below w.heap.size w w' := by
  have cs : s < -200 ∨ 200 < s ∨ (-200 ≤ s ∧ s ≤ 200) := by omega
  have ch : h < -4096 ∨ 4096 < h ∨ (-4096 ≤ h ∧ h ≤ 4096) := by omega
  rcases cs with c1 | c1 | ⟨c1, c2⟩ <;> rcases ch with d1 | d1 | ⟨d1, d2⟩
  all_goals
    go_enter Tryz.func47, Tryz.ntmps47
    go_wp2
    go_ret
    refine ⟨ret_bool ?_, (by repeat (first | exact Below.refl _ _ | assumption | refine below_drewN ?_ _ | refine Below.drew ?_ | refine below_new ?_ _ | refine Below.setCell ?_ (by first | omega | (simp <;> omega)) _ | refine below_then (by assumption) ?_))⟩
    rw [Bool.eq_iff_iff, withinB_iff]
    simp
    try omega

end Go.Proofs.YtbgnegmjbnlemaaGreatDoor.Pi
namespace Go.Proofs.YtbgnegmjbnlemaaGreatDoor.Pi
open Go.RowKit

/-- What At tells, as a value. -/
def RA (s h : Int) : Value := .tuple #[.agg #[.int .i64 (s % 7), .int .i64 (h - white s), .int .i64 (s / 7)], .bool (rightB (s % 7) (h - white s) (s / 7))]

set_option maxHeartbeats 4000000 in
theorem ref_at_any (s h : Int) (w : World) (h0 : -1000 ≤ s ∧ s ≤ 1000) (h1 : -100000 ≤ h ∧ h ≤ 100000) :
    Calls Tryz.prog 19 #[.int .i64 s, .int .i64 h] w fun e w' => e = .returned (RA s h) ∧ Below w.heap.size w w' := by
  have hwb := white_bd s h0
  have hA : I64 (h - white s) := by unfold I64; omega
  have hL : 0 ≤ s % 7 ∧ s % 7 ≤ 6 := by omega
  have hO : -1000 ≤ s / 7 ∧ s / 7 ≤ 1000 := by omega
  go_enter Tryz.func19, Tryz.ntmps19
  go_wp2
  go_loop [6, 7] (fun x y => ∃ q : Int, x = .int .i64 q ∧ y = .int .i64 (s - 7 * q) ∧ -1000 ≤ q ∧ q ≤ 0 ∧ (q = 0 ∨ s - 7 * q < 7)) (fun _ y => (-(intOf y)).toNat)
  case atStart => exact ⟨0, rfl, by go_num, by omega, by omega, by omega⟩
  case round =>
    obtain ⟨q, rfl, rfl, q1, q2, q3⟩ := hrel
    by_cases hc : s - 7 * q < 0
    · go_wp2
      go_round
      case rel => exact ⟨q - 1, rfl, by go_num, by omega, by omega, by omega⟩
      case measure => (simp [intOf] <;> omega)
    · have hc' : 0 ≤ s - 7 * q := by omega
      clear hc
      go_wp2
      go_loop [6, 7] (fun x y => ∃ r : Int, x = .int .i64 r ∧ y = .int .i64 (s - 7 * r) ∧ -1000 ≤ r ∧ 0 ≤ s - 7 * r ∧ r ≤ 1000) (fun _ y => (intOf y).toNat)
      case atStart => exact ⟨q, rfl, rfl, by omega, by omega, by omega⟩
      case round =>
        obtain ⟨r, rfl, rfl, r1, r2, r3⟩ := hrel
        clear hc' q3 q1 q2
        by_cases hd : 6 < s - 7 * r
        · go_wp2
          go_round
          case rel => exact ⟨r + 1, rfl, by go_num, by omega, by omega, by omega⟩
          case measure => (simp [intOf] <;> omega)
        · obtain ⟨rO, rL⟩ : r = s / 7 ∧ s - 7 * r = s % 7 := by omega
          subst rO
          have HL := Lib.hid rL
          clear rL
          have hd' : s - 7 * (s / 7) ≤ 6 := by omega
          clear hd
          go_wp2_with (go_at_call 42; refine (white_any s _ h0.1 h0.2).mono ?_; rintro e w1 ⟨rfl, rfl⟩)
          obtain ⟨m, hm⟩ : ∃ m, m = s - 7 * (s / 7) := ⟨_, rfl⟩
          rw [← hm]
          have HM := Lib.hid (hm.trans HL.out)
          clear hm
          obtain ⟨W, hW⟩ : ∃ W, W = (w.alloc (Obj.cells #[Value.int .i64 0, Value.int .i64 0, Value.int .i64 0] 23)).alloc (Obj.cells #[Value.int .i64 m, Value.int .i64 (h - white s), Value.int .i64 (s / 7)] 23) := ⟨_, rfl⟩
          have zr : w.heap.size < W.heap.size := by rw [hW]; simp; omega
          have zq : w.heap.size + 1 < W.heap.size := by rw [hW]; simp
          have cr0 : W.cell? ⟨w.heap.size, 0, none⟩ = some (.int .i64 (0)) := by rw [hW]; go_simp
          have fr0 : W.frozen? ⟨w.heap.size, 0, none⟩ = false := by rw [hW]; go_simp
          have cr1 : W.cell? ⟨w.heap.size, 1, none⟩ = some (.int .i64 (0)) := by rw [hW]; go_simp
          have fr1 : W.frozen? ⟨w.heap.size, 1, none⟩ = false := by rw [hW]; go_simp
          have cr2 : W.cell? ⟨w.heap.size, 2, none⟩ = some (.int .i64 (0)) := by rw [hW]; go_simp
          have fr2 : W.frozen? ⟨w.heap.size, 2, none⟩ = false := by rw [hW]; go_simp
          have cq0 : W.cell? ⟨w.heap.size + 1, 0, none⟩ = some (.int .i64 (m)) := by rw [hW]; go_simp
          have cq1 : W.cell? ⟨w.heap.size + 1, 1, none⟩ = some (.int .i64 (h - white s)) := by rw [hW]; go_simp
          have cq2 : W.cell? ⟨w.heap.size + 1, 2, none⟩ = some (.int .i64 (s / 7)) := by rw [hW]; go_simp
          have hBW : Below w.heap.size w W := by rw [hW]; exact (by repeat (first | exact Below.refl _ _ | assumption | refine below_drewN ?_ _ | refine Below.drew ?_ | refine below_new ?_ _ | refine Below.setCell ?_ (by first | omega | (simp <;> omega)) _ | refine below_then (by assumption) ?_))
          rw [← hW]
          clear hW
          have hE := Ext.cells W
          refine wp_region_ext_tail 3 (by kernel_rfl) (by kernel_rfl) ?_
          simp only [List.take_succ_cons, List.take_zero, List.drop_succ_cons, List.drop_zero]
          repeat go_big_quiet_step ((first | (go_at_call 18; with_reducible refine ext_call (ref_right_any m (h - white s) (s / 7) _ hA))))
          refine wpQuiet_nil ?_
          rintro wd ⟨⟨_, hbd⟩, rfl⟩
          have kr0 := cell_then cr0 hbd
          have kr1 := cell_then cr1 hbd
          have kr2 := cell_then cr2 hbd
          have lr0 := (hbd.frozen (p := ⟨w.heap.size, 0, none⟩) zr).trans fr0
          have lr1 := (hbd.frozen (p := ⟨w.heap.size, 1, none⟩) zr).trans fr1
          have lr2 := (hbd.frozen (p := ⟨w.heap.size, 2, none⟩) zr).trans fr2
          have hBd : Below w.heap.size w wd := below_then hbd hBW
          go_wp2
          exact bodyPost_ret (v := .tuple #[.agg #[.int .i64 m, .int .i64 (h - white s), .int .i64 (s / 7)], .bool (rightB m (h - white s) (s / 7))])
            (by simp [results, Tryz.results19, go_sem, kr0, kr1, kr2]) rfl ⟨by rw [RA, HM.out], (by repeat (first | exact Below.refl _ _ | assumption | refine below_drewN ?_ _ | refine Below.drew ?_ | refine below_new ?_ _ | refine Below.setCell ?_ (by first | omega | (simp <;> omega)) _ | refine below_then (by assumption) ?_))⟩

set_option maxHeartbeats 1000000 in
theorem ref_move_bad (l a o s h : Int) (w : World) (ha : I64 a) (k : (rightB l a o && withinB s h) = false) :
    Calls Tryz.prog 29 #[.agg #[.int .i64 l, .int .i64 a, .int .i64 o], .agg #[.int .i64 s, .int .i64 h]] w fun e w' =>
      e = .returned (R4 (move l a o s h)) ∧ Below w.heap.size w w' := by
  by_cases h1 : rightB l a o = true
  · have h2 : withinB s h = false := by simpa [h1] using k
    clear k
    have HR := Lib.hid (move_no2 h1 h2)
    go_enter Tryz.func29, Tryz.ntmps29
    go_wp2_with (first
      | (go_at_call 18; with_reducible refine (ref_right_any l a o _ ha).mono ?_; rintro e w1 ⟨rfl, hb1⟩; have hz1 := hb1.size; (try simp at hz1); have zp1 : w.heap.size < w1.heap.size := (by first | omega | (simp; omega)); have cp0_1 : w1.cell? ⟨w.heap.size, 0, none⟩ = some (.int .i64 (l)) := (hb1.cell (by first | assumption | (simp <;> omega))).trans (by go_simp); have cp1_1 : w1.cell? ⟨w.heap.size, 1, none⟩ = some (.int .i64 (a)) := (hb1.cell (by first | assumption | (simp <;> omega))).trans (by go_simp); have cp2_1 : w1.cell? ⟨w.heap.size, 2, none⟩ = some (.int .i64 (o)) := (hb1.cell (by first | assumption | (simp <;> omega))).trans (by go_simp); have zi1 : w.heap.size + 1 < w1.heap.size := (by first | omega | (simp; omega)); have ci0_1 : w1.cell? ⟨w.heap.size + 1, 0, none⟩ = some (.int .i64 (s)) := (hb1.cell (by first | assumption | (simp <;> omega))).trans (by go_simp); have ci1_1 : w1.cell? ⟨w.heap.size + 1, 1, none⟩ = some (.int .i64 (h)) := (hb1.cell (by first | assumption | (simp <;> omega))).trans (by go_simp); have zr1 : w.heap.size + 1 + 1 < w1.heap.size := (by first | omega | (simp; omega)); have cr0_1 : w1.cell? ⟨w.heap.size + 1 + 1, 0, none⟩ = some (.int .i64 (0)) := (hb1.cell (by first | assumption | (simp <;> omega))).trans (by go_simp); have fr0_1 : w1.frozen? ⟨w.heap.size + 1 + 1, 0, none⟩ = false := (hb1.frozen (by first | assumption | (simp <;> omega))).trans (by go_simp); have cr1_1 : w1.cell? ⟨w.heap.size + 1 + 1, 1, none⟩ = some (.int .i64 (0)) := (hb1.cell (by first | assumption | (simp <;> omega))).trans (by go_simp); have fr1_1 : w1.frozen? ⟨w.heap.size + 1 + 1, 1, none⟩ = false := (hb1.frozen (by first | assumption | (simp <;> omega))).trans (by go_simp); have cr2_1 : w1.cell? ⟨w.heap.size + 1 + 1, 2, none⟩ = some (.int .i64 (0)) := (hb1.cell (by first | assumption | (simp <;> omega))).trans (by go_simp); have fr2_1 : w1.frozen? ⟨w.heap.size + 1 + 1, 2, none⟩ = false := (hb1.frozen (by first | assumption | (simp <;> omega))).trans (by go_simp))
      | (go_at_call 47; with_reducible refine (ref_within_any s h _).mono ?_; rintro e w2 ⟨rfl, hb2⟩; have hz2 := hb2.size; (try simp at hz2); have zp2 : w.heap.size < w2.heap.size := (by first | omega | (simp; omega)); have cp0_2 : w2.cell? ⟨w.heap.size, 0, none⟩ = some (.int .i64 (l)) := (hb2.cell (by first | assumption | (simp <;> omega))).trans (by go_simp); have cp1_2 : w2.cell? ⟨w.heap.size, 1, none⟩ = some (.int .i64 (a)) := (hb2.cell (by first | assumption | (simp <;> omega))).trans (by go_simp); have cp2_2 : w2.cell? ⟨w.heap.size, 2, none⟩ = some (.int .i64 (o)) := (hb2.cell (by first | assumption | (simp <;> omega))).trans (by go_simp); have zi2 : w.heap.size + 1 < w2.heap.size := (by first | omega | (simp; omega)); have ci0_2 : w2.cell? ⟨w.heap.size + 1, 0, none⟩ = some (.int .i64 (s)) := (hb2.cell (by first | assumption | (simp <;> omega))).trans (by go_simp); have ci1_2 : w2.cell? ⟨w.heap.size + 1, 1, none⟩ = some (.int .i64 (h)) := (hb2.cell (by first | assumption | (simp <;> omega))).trans (by go_simp); have zr2 : w.heap.size + 1 + 1 < w2.heap.size := (by first | omega | (simp; omega)); have cr0_2 : w2.cell? ⟨w.heap.size + 1 + 1, 0, none⟩ = some (.int .i64 (0)) := (hb2.cell (by first | assumption | (simp <;> omega))).trans (by go_simp); have fr0_2 : w2.frozen? ⟨w.heap.size + 1 + 1, 0, none⟩ = false := (hb2.frozen (by first | assumption | (simp <;> omega))).trans (by go_simp); have cr1_2 : w2.cell? ⟨w.heap.size + 1 + 1, 1, none⟩ = some (.int .i64 (0)) := (hb2.cell (by first | assumption | (simp <;> omega))).trans (by go_simp); have fr1_2 : w2.frozen? ⟨w.heap.size + 1 + 1, 1, none⟩ = false := (hb2.frozen (by first | assumption | (simp <;> omega))).trans (by go_simp); have cr2_2 : w2.cell? ⟨w.heap.size + 1 + 1, 2, none⟩ = some (.int .i64 (0)) := (hb2.cell (by first | assumption | (simp <;> omega))).trans (by go_simp); have fr2_2 : w2.frozen? ⟨w.heap.size + 1 + 1, 2, none⟩ = false := (hb2.frozen (by first | assumption | (simp <;> omega))).trans (by go_simp)))
    exact bodyPost_ret (v := R4 (0, 0, 0, 3)) (by simp [results, Tryz.results29, go_sem, R4, cr0_2, cr1_2, cr2_2]) rfl ⟨by rw [HR.out], (by repeat (first | exact Below.refl _ _ | assumption | refine below_drewN ?_ _ | refine Below.drew ?_ | refine below_new ?_ _ | refine Below.setCell ?_ (by first | omega | (simp <;> omega)) _ | refine below_then (by assumption) ?_))⟩
  · simp only [Bool.not_eq_true] at h1
    clear k
    have HR := Lib.hid (move_no1 (s := s) (h := h) h1)
    go_enter Tryz.func29, Tryz.ntmps29
    go_wp2_with (first
      | (go_at_call 18; with_reducible refine (ref_right_any l a o _ ha).mono ?_; rintro e w1 ⟨rfl, hb1⟩; have hz1 := hb1.size; (try simp at hz1); have zp1 : w.heap.size < w1.heap.size := (by first | omega | (simp; omega)); have cp0_1 : w1.cell? ⟨w.heap.size, 0, none⟩ = some (.int .i64 (l)) := (hb1.cell (by first | assumption | (simp <;> omega))).trans (by go_simp); have cp1_1 : w1.cell? ⟨w.heap.size, 1, none⟩ = some (.int .i64 (a)) := (hb1.cell (by first | assumption | (simp <;> omega))).trans (by go_simp); have cp2_1 : w1.cell? ⟨w.heap.size, 2, none⟩ = some (.int .i64 (o)) := (hb1.cell (by first | assumption | (simp <;> omega))).trans (by go_simp); have zi1 : w.heap.size + 1 < w1.heap.size := (by first | omega | (simp; omega)); have ci0_1 : w1.cell? ⟨w.heap.size + 1, 0, none⟩ = some (.int .i64 (s)) := (hb1.cell (by first | assumption | (simp <;> omega))).trans (by go_simp); have ci1_1 : w1.cell? ⟨w.heap.size + 1, 1, none⟩ = some (.int .i64 (h)) := (hb1.cell (by first | assumption | (simp <;> omega))).trans (by go_simp); have zr1 : w.heap.size + 1 + 1 < w1.heap.size := (by first | omega | (simp; omega)); have cr0_1 : w1.cell? ⟨w.heap.size + 1 + 1, 0, none⟩ = some (.int .i64 (0)) := (hb1.cell (by first | assumption | (simp <;> omega))).trans (by go_simp); have fr0_1 : w1.frozen? ⟨w.heap.size + 1 + 1, 0, none⟩ = false := (hb1.frozen (by first | assumption | (simp <;> omega))).trans (by go_simp); have cr1_1 : w1.cell? ⟨w.heap.size + 1 + 1, 1, none⟩ = some (.int .i64 (0)) := (hb1.cell (by first | assumption | (simp <;> omega))).trans (by go_simp); have fr1_1 : w1.frozen? ⟨w.heap.size + 1 + 1, 1, none⟩ = false := (hb1.frozen (by first | assumption | (simp <;> omega))).trans (by go_simp); have cr2_1 : w1.cell? ⟨w.heap.size + 1 + 1, 2, none⟩ = some (.int .i64 (0)) := (hb1.cell (by first | assumption | (simp <;> omega))).trans (by go_simp); have fr2_1 : w1.frozen? ⟨w.heap.size + 1 + 1, 2, none⟩ = false := (hb1.frozen (by first | assumption | (simp <;> omega))).trans (by go_simp)))
    exact bodyPost_ret (v := R4 (0, 0, 0, 2)) (by simp [results, Tryz.results29, go_sem, R4, cr0_1, cr1_1, cr2_1]) rfl ⟨by rw [HR.out], (by repeat (first | exact Below.refl _ _ | assumption | refine below_drewN ?_ _ | refine Below.drew ?_ | refine below_new ?_ _ | refine Below.setCell ?_ (by first | omega | (simp <;> omega)) _ | refine below_then (by assumption) ?_))⟩

theorem ref_at_is (S H : Int) (w : World) (h0 : -1000 ≤ S ∧ S ≤ 1000) (h1 : -100000 ≤ H ∧ H ≤ 100000) {v : Bool} (hv : rightB (S % 7) (H - white S) (S / 7) = v) :
    Calls Tryz.prog 19 #[.int .i64 S, .int .i64 H] w fun e w' =>
      e = .returned (.tuple #[.agg #[.int .i64 (S % 7), .int .i64 (H - white S), .int .i64 (S / 7)], .bool v]) ∧ Below w.heap.size w w' := by
  subst hv; exact ref_at_any S H w h0 h1

end Go.Proofs.YtbgnegmjbnlemaaGreatDoor.Pi
namespace Go.Proofs.YtbgnegmjbnlemaaGreatDoor.Pm
open Go Go.Proofs.YtbgnegmjbnlemaaGreatDoor.Pi

abbrev pitP (l a o : Int) : PV := .agg [iv l, iv a, iv o]
abbrev invP (s h : Int) : PV := .agg [iv s, iv h]
theorem natural_pc (l : Int) : PC Tryz.prog 38 [iv l] [] (iv (Pi.nat7 l)) [] :=
  pc_flat (fn_ok Tryz.func38 (by kernel_rfl) (by kernel_rfl)) rfl rfl fun w => (natural_any l w).mono fun _ w' ⟨e1, e2⟩ => ⟨e1, e2 ▸ RowKit.Below.refl _ _⟩
theorem pright_pc (l a o : Int) : PC Tryz.prog 13 [pitP l a o] [] (bv (rightB l a o)) [] :=
  pc_flat (fn_ok Tryz.func13 (by kernel_rfl) (by kernel_rfl)) rfl rfl fun w => right_any l a o w
theorem pwithin_pc (s h : Int) (i1 : Pi.I64 s) (i2 : Pi.I64 h) : PC Tryz.prog 31 [invP s h] [] (bv (withinB s h)) [] :=
  pc_flat (fn_ok Tryz.func31 (by kernel_rfl) (by kernel_rfl)) rfl rfl fun w => within_any s h w i1 i2
theorem pfloor_pc (n : Int) (h1 : -1000 ≤ n) (h2 : n ≤ 1000) : PC Tryz.prog 32 [iv n, iv 7] [] (.tup [iv (n / 7), iv (n % 7)]) [] :=
  pc_flat (fn_ok Tryz.func32 (by kernel_rfl) (by kernel_rfl)) rfl rfl fun w => (floor_any n w h1 h2).mono fun _ w' ⟨e1, k, e2⟩ => ⟨e1, by rw [e2]; exact ⟨rfl, rfl, rfl, Nat.le_refl _, fun _ _ => rfl⟩⟩
theorem ref_pright_pc (l a o : Int) (ha : Pi.I64 a) : PC Tryz.prog 18 [pitP l a o] [] (bv (rightB l a o)) [] :=
  pc_flat (fn_ok Tryz.func18 (by kernel_rfl) (by kernel_rfl)) rfl rfl fun w => ref_right_any l a o w ha
theorem ref_pwithin_pc (s h : Int) : PC Tryz.prog 47 [invP s h] [] (bv (withinB s h)) [] :=
  pc_flat (fn_ok Tryz.func47 (by kernel_rfl) (by kernel_rfl)) rfl rfl fun w => ref_within_any s h w
end Go.Proofs.YtbgnegmjbnlemaaGreatDoor.Pm
namespace Go.Proofs.YtbgnegmjbnlemaaGreatDoor.Pm
open Go Go.Proofs.YtbgnegmjbnlemaaGreatDoor.Pi

set_option maxRecDepth 100000 in
set_option maxHeartbeats 4000000 in
theorem number_pc (s : List UInt8) (hs : s.length ≤ 9223372036854775807) : PC Tryz.prog 37 [(sv (st s))] [] (.tup [(iv ((numS s).1)), (bv ((numS s).2))]) [] := by
  refine pc_intro Tryz.func37 rfl (by kernel_rfl) (Nat.le_of_ble_eq_true rfl) (by kernel_rfl) (l0 := [ps 0 (sv (st s))]) rfl (fun c0 Bor hc0 => ?_)
  refine T_seq ?_
  refine T_r mixed [] [ps 0 (sv (st s))] (obs_nil) ?_
  refine T_seq ?_
  refine T_r mixed [(1, .call [] [(sv (st s)), (sv (st ([45] : List UInt8)))] [] (bv (Lib.hasPrefix s ([45] : List UInt8))) [])] [ps 0 (sv (st s)), ps 4 (bv (Lib.hasPrefix s ([45] : List UInt8)))] (obs_cons (hasPrefix_pc s ([45] : List UInt8)) (obs_cons (rfl : Ren0 24 [(sv (st s)), (sv (st ([45] : List UInt8)))]) obs_nil)) ?_
  refine T_seq <| T_seq ?_
  refine T_r mixed [] [ps 0 (sv (st s)), ps 4 (bv (Lib.hasPrefix s ([45] : List UInt8))), ps 9 (bv (Lib.hasPrefix s ([45] : List UInt8)))] (obs_nil) ?_
  by_cases h1 : (Lib.hasPrefix s ([45] : List UInt8)) = true
  · refine T_then (b := (Lib.hasPrefix s ([45] : List UInt8))) rfl h1 ?_
    have hp1 := pre_len h1
    refine T_r mixed [(1, .val (.av (.string (st (s.drop 1)))))] [ps 0 (sv (st (s.drop 1))), ps 4 (bv (Lib.hasPrefix s ([45] : List UInt8)))] (obs_cons (by first | omega | (simp only [List.length_cons, List.length_nil, List.length_drop, List.length_append, List.length_take]; omega) : (0 : Int) ≤ (1 : Int) ∧ (1 : Int) ≤ ((s.length : Nat) : Int) ∧ ((s.length : Nat) : Int) ≤ ((s.length : Nat) : Int)) (obs_cons (st_from _ _ _ rfl : (st s).extract ((1 : Int) : Int).toNat (((s.length : Nat) : Int) : Int).toNat = st (s.drop 1)) obs_nil)) ?_
    refine T_seq <| T_seq ?_
    by_cases h2 : (s.drop 1) = ([] : List UInt8)
    · refine T_r mixed [(1, .val (.av (.bool (decide ((s.drop 1) = ([] : List UInt8)))))), (3, .gd true .no), (4, .gd true .no), (5, .gd true .no), (6, .yes true), (8, .gd true .no), (9, .gd true .no), (10, .gd true .no), (11, .gd true .no), (18, .gd true .no), (21, .gd true .no), (22, .gd true .no), (23, .gd true .no)] [ps 0 (sv (st (s.drop 1))), ps 4 (bv (Lib.hasPrefix s ([45] : List UInt8))), ps 36 (bv true)] (obs_cons (st_eq _ _ : ((st (s.drop 1)).toList == (st ([] : List UInt8)).toList) = decide ((s.drop 1) = ([] : List UInt8))) (obs_cons (decide_eq_true h2) (obs_cons (decide_eq_true h2) (obs_cons (decide_eq_true h2) (obs_cons (decide_eq_true h2) (obs_cons (rfl : true = true) (obs_cons (rfl : true = true) (obs_cons (rfl : true = true) (obs_cons (rfl : true = true) (obs_cons (rfl : true = true) (obs_cons (rfl : true = true) (obs_cons (rfl : true = true) (obs_cons (rfl : true = true) obs_nil))))))))))))) ?_
      refine T_then (b := true) rfl rfl ?_
      refine T_seq ?_
      refine T_r mixed [] [ps 2 (iv 0), ps 3 (bv false)] (obs_nil) ?_
      rw [numS_no (s := s) (by rw [body_min h1]; exact .inl h2)]
      exact T_ret fun cx_ a_ hI_ => rt hc0 [ps 2 (iv 0), ps 3 (bv false)] [] hI_
    by_cases h3 : 4 < (((s.drop 1).length : Nat) : Int)
    · refine T_r mixed [(1, .val (.av (.bool (decide ((s.drop 1) = ([] : List UInt8)))))), (3, .gd false (.no)), (4, .gd false (.no)), (5, .gd false (.no)), (6, .yes false), (8, .gd true .no), (9, .gd true .no), (10, .gd true .no), (11, .gd true .no), (18, .gd true .no), (19, .yes true), (21, .gd true .no), (22, .gd true .no), (23, .gd true .no)] [ps 0 (sv (st (s.drop 1))), ps 4 (bv (Lib.hasPrefix s ([45] : List UInt8))), ps 36 (bv true)] (obs_cons (st_eq _ _ : ((st (s.drop 1)).toList == (st ([] : List UInt8)).toList) = decide ((s.drop 1) = ([] : List UInt8))) (obs_cons (decide_eq_false h2) (obs_cons (decide_eq_false h2) (obs_cons (decide_eq_false h2) (obs_cons (decide_eq_false h2) (obs_cons (decide_eq_true h3) (obs_cons (decide_eq_true h3) (obs_cons (decide_eq_true h3) (obs_cons (decide_eq_true h3) (obs_cons (decide_eq_true h3) (obs_cons (decide_eq_true h3) (obs_cons (rfl : true = true) (obs_cons (rfl : true = true) (obs_cons (rfl : true = true) obs_nil)))))))))))))) ?_
      refine T_then (b := true) rfl rfl ?_
      refine T_seq ?_
      refine T_r mixed [] [ps 2 (iv 0), ps 3 (bv false)] (obs_nil) ?_
      rw [numS_no (s := s) (by rw [body_min h1]; exact .inr (.inl (by omega)))]
      exact T_ret fun cx_ a_ hI_ => rt hc0 [ps 2 (iv 0), ps 3 (bv false)] [] hI_
    by_cases h4 : ((((s.drop 1).getD 0 0).toNat : Nat) : Int) = 48
    · by_cases h5 : 1 < (((s.drop 1).length : Nat) : Int)
      · refine T_r mixed [(1, .val (.av (.bool (decide ((s.drop 1) = ([] : List UInt8)))))), (3, .gd false (.no)), (4, .gd false (.no)), (5, .gd false (.no)), (6, .yes false), (8, .gd false (.no)), (9, .gd false (.no)), (10, .gd false (.no)), (11, .gd false (.no)), (12, .gd true (.no)), (13, .gd true (.no)), (14, .gd true (.no)), (15, .gd true (.no)), (16, .gd true .no), (17, .gd true (.yes true)), (18, .gd false (.yes true)), (19, .yes false), (21, .gd true .no), (22, .gd true .no), (23, .gd true .no)] [ps 0 (sv (st (s.drop 1))), ps 4 (bv (Lib.hasPrefix s ([45] : List UInt8))), ps 36 (bv true)] (obs_cons (st_eq _ _ : ((st (s.drop 1)).toList == (st ([] : List UInt8)).toList) = decide ((s.drop 1) = ([] : List UInt8))) (obs_cons (decide_eq_false h2) (obs_cons (decide_eq_false h2) (obs_cons (decide_eq_false h2) (obs_cons (decide_eq_false h2) (obs_cons (decide_eq_false h3) (obs_cons (decide_eq_false h3) (obs_cons (by have := List.length_pos_iff.2 h2; omega : (0 : Int) ≤ 0 ∧ 0 < (((s.drop 1).length : Nat) : Int)) (obs_cons (decide_eq_false h3) (obs_cons (decide_eq_false h3) (obs_cons (decide_eq_true h4) (obs_cons (decide_eq_true h4) (obs_cons (decide_eq_true h4) (obs_cons (decide_eq_true h4) (obs_cons (decide_eq_true h5) (obs_cons (decide_eq_true h4) (obs_cons (decide_eq_true h5) (obs_cons (decide_eq_false h3) (obs_cons (decide_eq_true h4) (obs_cons (decide_eq_false h3) (obs_cons (rfl : true = true) (obs_cons (rfl : true = true) (obs_cons (rfl : true = true) obs_nil))))))))))))))))))))))) ?_
        refine T_then (b := true) rfl rfl ?_
        refine T_seq ?_
        refine T_r mixed [] [ps 2 (iv 0), ps 3 (bv false)] (obs_nil) ?_
        rw [numS_no (s := s) (by rw [body_min h1]; exact .inr (.inr (.inl ⟨by omega, .inl (by omega)⟩)))]
        exact T_ret fun cx_ a_ hI_ => rt hc0 [ps 2 (iv 0), ps 3 (bv false)] [] hI_
      refine T_r mixed [(1, .val (.av (.bool (decide ((s.drop 1) = ([] : List UInt8)))))), (3, .gd false (.no)), (4, .gd false (.no)), (5, .gd false (.no)), (6, .yes false), (8, .gd false (.no)), (9, .gd false (.no)), (10, .gd false (.no)), (11, .gd false (.no)), (12, .gd true (.no)), (13, .gd true (.no)), (14, .gd true (.no)), (15, .gd true (.no)), (16, .gd false (.no)), (17, .gd true (.yes false)), (18, .gd false (.yes true)), (19, .yes false), (21, .gd true .no), (22, .gd true .no), (23, .gd true .no), (24, .yes true)] [ps 0 (sv (st (s.drop 1))), ps 4 (bv (Lib.hasPrefix s ([45] : List UInt8))), ps 36 (bv true)] (obs_cons (st_eq _ _ : ((st (s.drop 1)).toList == (st ([] : List UInt8)).toList) = decide ((s.drop 1) = ([] : List UInt8))) (obs_cons (decide_eq_false h2) (obs_cons (decide_eq_false h2) (obs_cons (decide_eq_false h2) (obs_cons (decide_eq_false h2) (obs_cons (decide_eq_false h3) (obs_cons (decide_eq_false h3) (obs_cons (by have := List.length_pos_iff.2 h2; omega : (0 : Int) ≤ 0 ∧ 0 < (((s.drop 1).length : Nat) : Int)) (obs_cons (decide_eq_false h3) (obs_cons (decide_eq_false h3) (obs_cons (decide_eq_true h4) (obs_cons (decide_eq_true h4) (obs_cons (decide_eq_true h4) (obs_cons (decide_eq_true h4) (obs_cons (decide_eq_false h5) (obs_cons (decide_eq_true h4) (obs_cons (decide_eq_false h5) (obs_cons (decide_eq_false h3) (obs_cons (decide_eq_true h4) (obs_cons (decide_eq_false h3) (obs_cons (h1 : (Lib.hasPrefix s ([45] : List UInt8)) = true) (obs_cons (h1 : (Lib.hasPrefix s ([45] : List UInt8)) = true) (obs_cons (h1 : (Lib.hasPrefix s ([45] : List UInt8)) = true) (obs_cons (h1 : (Lib.hasPrefix s ([45] : List UInt8)) = true) obs_nil)))))))))))))))))))))))) ?_
      refine T_then (b := true) rfl rfl ?_
      refine T_seq ?_
      refine T_r mixed [] [ps 2 (iv 0), ps 3 (bv false)] (obs_nil) ?_
      rw [numS_no (s := s) (by rw [body_min h1]; exact .inr (.inr (.inl ⟨by omega, .inr h1⟩)))]
      exact T_ret fun cx_ a_ hI_ => rt hc0 [ps 2 (iv 0), ps 3 (bv false)] [] hI_
    refine T_r mixed [(1, .val (.av (.bool (decide ((s.drop 1) = ([] : List UInt8)))))), (3, .gd false (.no)), (4, .gd false (.no)), (5, .gd false (.no)), (6, .yes false), (8, .gd false (.no)), (9, .gd false (.no)), (10, .gd false (.no)), (11, .gd false (.no)), (12, .gd false .no), (13, .gd false .no), (14, .gd false .no), (15, .gd false .no), (17, .gd false .no), (18, .gd false (.yes false)), (19, .yes false), (21, .gd false (.no)), (22, .gd false (.call [] [(sv (st (s.drop 1))), (sv (st digs))] [] (sv (st (Lib.trimS (s.drop 1) digs))) [])), (23, .gd false (.val (.av (.bool (!decide ((Lib.trimS (s.drop 1) digs) = ([] : List UInt8)))))))] [ps 0 (sv (st (s.drop 1))), ps 4 (bv (Lib.hasPrefix s ([45] : List UInt8))), ps 36 (bv (!(decide ((Lib.trimS (s.drop 1) digs) = ([] : List UInt8)))))] (obs_cons (st_eq _ _ : ((st (s.drop 1)).toList == (st ([] : List UInt8)).toList) = decide ((s.drop 1) = ([] : List UInt8))) (obs_cons (decide_eq_false h2) (obs_cons (decide_eq_false h2) (obs_cons (decide_eq_false h2) (obs_cons (decide_eq_false h2) (obs_cons (decide_eq_false h3) (obs_cons (decide_eq_false h3) (obs_cons (by have := List.length_pos_iff.2 h2; omega : (0 : Int) ≤ 0 ∧ 0 < (((s.drop 1).length : Nat) : Int)) (obs_cons (decide_eq_false h3) (obs_cons (decide_eq_false h3) (obs_cons (decide_eq_false h4) (obs_cons (decide_eq_false h4) (obs_cons (decide_eq_false h4) (obs_cons (decide_eq_false h4) (obs_cons (decide_eq_false h4) (obs_cons (decide_eq_false h3) (obs_cons (decide_eq_false h4) (obs_cons (decide_eq_false h3) (obs_cons (rfl : false = false) (obs_cons (rfl : false = false) (obs_cons (trim_pc (s.drop 1) digs (by rw [List.length_drop]; omega) (by decide) digs_ascii) (obs_cons (rfl : [(sv (st (s.drop 1))), (sv (st ([48, 49, 50, 51, 52, 53, 54, 55, 56, 57] : List UInt8)))] = renL (sigi [] 248) [(sv (st (s.drop 1))), (sv (st digs))]) (obs_cons (rfl : false = false) (obs_cons (st_ne _ _ : (!((st (Lib.trimS (s.drop 1) digs)).toList == (st ([] : List UInt8)).toList)) = !decide ((Lib.trimS (s.drop 1) digs) = ([] : List UInt8))) obs_nil)))))))))))))))))))))))) ?_
    by_cases h6 : (Lib.trimS (s.drop 1) digs) = ([] : List UInt8)
    · refine T_el (bt h6) ?_
      refine T_skip <| T_seq ?_
      have hv := num_val (noNum_not (m := Lib.hasPrefix s [45]) (t := (s.drop 1)) h2 h3 (.inl h4) h6)
      refine T_r mixed [(1, .call [] [(sv (st (s.drop 1)))] [] (.tup [(iv (atoiN (s.drop 1))), (.av .nilIface)]) [])] [ps 4 (bv (Lib.hasPrefix s ([45] : List UInt8))), ps 5 (iv (atoiN (s.drop 1)))] (obs_cons (atoi_pc (s.drop 1) _ (by omega) hv.1 : PC Tryz.prog 54 [(sv (st (s.drop 1)))] [] (.tup [(iv (atoiN (s.drop 1))), (.av .nilIface)]) []) (obs_cons (rfl : Ren0 280 [(sv (st (s.drop 1)))]) obs_nil)) ?_
      refine T_seq <| T_seq ?_
      refine T_r mixed [] [ps 5 (iv (atoiN (s.drop 1))), ps 42 (bv (Lib.hasPrefix s ([45] : List UInt8)))] (obs_nil) ?_
      refine T_then (b := (Lib.hasPrefix s ([45] : List UInt8))) rfl h1 ?_
      refine T_r mixed [] [ps 5 (iv (0 - (atoiN (s.drop 1))))] (obs_cons (by simp only [InK]; omega : InK .i64 (0 - (atoiN (s.drop 1)))) obs_nil) ?_
      refine T_seq ?_
      refine T_r mixed [] [ps 2 (iv (0 - (atoiN (s.drop 1)))), ps 3 (bv true)] (obs_nil) ?_
      rw [numS_neg (s := s) (noNum_not (m := Lib.hasPrefix s [45]) (t := (s.drop 1)) h2 h3 (.inl h4) h6) h1]
      exact T_ret fun cx_ a_ hI_ => rt hc0 [ps 2 (iv (0 - (atoiN (s.drop 1)))), ps 3 (bv true)] [] hI_
    refine T_th (bf h6) ?_
    refine T_seq ?_
    refine T_r mixed [] [ps 2 (iv 0), ps 3 (bv false)] (obs_nil) ?_
    rw [numS_no (s := s) (by rw [body_min h1]; exact .inr (.inr (.inr h6)))]
    exact T_ret fun cx_ a_ hI_ => rt hc0 [ps 2 (iv 0), ps 3 (bv false)] [] hI_
  refine T_else (b := (Lib.hasPrefix s ([45] : List UInt8))) rfl (Bool.eq_false_iff.2 h1) ?_
  refine T_skip <| T_seq <| T_seq ?_
  by_cases h7 : s = ([] : List UInt8)
  · refine T_r mixed [(1, .val (.av (.bool (decide (s = ([] : List UInt8)))))), (3, .gd true .no), (4, .gd true .no), (5, .gd true .no), (6, .yes true), (8, .gd true .no), (9, .gd true .no), (10, .gd true .no), (11, .gd true .no), (18, .gd true .no), (21, .gd true .no), (22, .gd true .no), (23, .gd true .no)] [ps 0 (sv (st s)), ps 4 (bv (Lib.hasPrefix s ([45] : List UInt8))), ps 36 (bv true)] (obs_cons (st_eq _ _ : ((st s).toList == (st ([] : List UInt8)).toList) = decide (s = ([] : List UInt8))) (obs_cons (decide_eq_true h7) (obs_cons (decide_eq_true h7) (obs_cons (decide_eq_true h7) (obs_cons (decide_eq_true h7) (obs_cons (rfl : true = true) (obs_cons (rfl : true = true) (obs_cons (rfl : true = true) (obs_cons (rfl : true = true) (obs_cons (rfl : true = true) (obs_cons (rfl : true = true) (obs_cons (rfl : true = true) (obs_cons (rfl : true = true) obs_nil))))))))))))) ?_
    refine T_then (b := true) rfl rfl ?_
    refine T_seq ?_
    refine T_r mixed [] [ps 2 (iv 0), ps 3 (bv false)] (obs_nil) ?_
    rw [numS_no (s := s) (by rw [body_plain h1]; exact .inl h7)]
    exact T_ret fun cx_ a_ hI_ => rt hc0 [ps 2 (iv 0), ps 3 (bv false)] [] hI_
  by_cases h8 : 4 < ((s.length : Nat) : Int)
  · refine T_r mixed [(1, .val (.av (.bool (decide (s = ([] : List UInt8)))))), (3, .gd false (.no)), (4, .gd false (.no)), (5, .gd false (.no)), (6, .yes false), (8, .gd true .no), (9, .gd true .no), (10, .gd true .no), (11, .gd true .no), (18, .gd true .no), (19, .yes true), (21, .gd true .no), (22, .gd true .no), (23, .gd true .no)] [ps 0 (sv (st s)), ps 4 (bv (Lib.hasPrefix s ([45] : List UInt8))), ps 36 (bv true)] (obs_cons (st_eq _ _ : ((st s).toList == (st ([] : List UInt8)).toList) = decide (s = ([] : List UInt8))) (obs_cons (decide_eq_false h7) (obs_cons (decide_eq_false h7) (obs_cons (decide_eq_false h7) (obs_cons (decide_eq_false h7) (obs_cons (decide_eq_true h8) (obs_cons (decide_eq_true h8) (obs_cons (decide_eq_true h8) (obs_cons (decide_eq_true h8) (obs_cons (decide_eq_true h8) (obs_cons (decide_eq_true h8) (obs_cons (rfl : true = true) (obs_cons (rfl : true = true) (obs_cons (rfl : true = true) obs_nil)))))))))))))) ?_
    refine T_then (b := true) rfl rfl ?_
    refine T_seq ?_
    refine T_r mixed [] [ps 2 (iv 0), ps 3 (bv false)] (obs_nil) ?_
    rw [numS_no (s := s) (by rw [body_plain h1]; exact .inr (.inl (by omega)))]
    exact T_ret fun cx_ a_ hI_ => rt hc0 [ps 2 (iv 0), ps 3 (bv false)] [] hI_
  by_cases h9 : (((s.getD 0 0).toNat : Nat) : Int) = 48
  · by_cases h10 : 1 < ((s.length : Nat) : Int)
    · refine T_r mixed [(1, .val (.av (.bool (decide (s = ([] : List UInt8)))))), (3, .gd false (.no)), (4, .gd false (.no)), (5, .gd false (.no)), (6, .yes false), (8, .gd false (.no)), (9, .gd false (.no)), (10, .gd false (.no)), (11, .gd false (.no)), (12, .gd true (.no)), (13, .gd true (.no)), (14, .gd true (.no)), (15, .gd true (.no)), (16, .gd true .no), (17, .gd true (.yes true)), (18, .gd false (.yes true)), (19, .yes false), (21, .gd true .no), (22, .gd true .no), (23, .gd true .no)] [ps 0 (sv (st s)), ps 4 (bv (Lib.hasPrefix s ([45] : List UInt8))), ps 36 (bv true)] (obs_cons (st_eq _ _ : ((st s).toList == (st ([] : List UInt8)).toList) = decide (s = ([] : List UInt8))) (obs_cons (decide_eq_false h7) (obs_cons (decide_eq_false h7) (obs_cons (decide_eq_false h7) (obs_cons (decide_eq_false h7) (obs_cons (decide_eq_false h8) (obs_cons (decide_eq_false h8) (obs_cons (by have := List.length_pos_iff.2 h7; omega : (0 : Int) ≤ 0 ∧ 0 < ((s.length : Nat) : Int)) (obs_cons (decide_eq_false h8) (obs_cons (decide_eq_false h8) (obs_cons (decide_eq_true h9) (obs_cons (decide_eq_true h9) (obs_cons (decide_eq_true h9) (obs_cons (decide_eq_true h9) (obs_cons (decide_eq_true h10) (obs_cons (decide_eq_true h9) (obs_cons (decide_eq_true h10) (obs_cons (decide_eq_false h8) (obs_cons (decide_eq_true h9) (obs_cons (decide_eq_false h8) (obs_cons (rfl : true = true) (obs_cons (rfl : true = true) (obs_cons (rfl : true = true) obs_nil))))))))))))))))))))))) ?_
      refine T_then (b := true) rfl rfl ?_
      refine T_seq ?_
      refine T_r mixed [] [ps 2 (iv 0), ps 3 (bv false)] (obs_nil) ?_
      rw [numS_no (s := s) (by rw [body_plain h1]; exact .inr (.inr (.inl ⟨by omega, .inl (by omega)⟩)))]
      exact T_ret fun cx_ a_ hI_ => rt hc0 [ps 2 (iv 0), ps 3 (bv false)] [] hI_
    refine T_r mixed [(1, .val (.av (.bool (decide (s = ([] : List UInt8)))))), (3, .gd false (.no)), (4, .gd false (.no)), (5, .gd false (.no)), (6, .yes false), (8, .gd false (.no)), (9, .gd false (.no)), (10, .gd false (.no)), (11, .gd false (.no)), (12, .gd true (.no)), (13, .gd true (.no)), (14, .gd true (.no)), (15, .gd true (.no)), (16, .gd false (.no)), (17, .gd true (.yes false)), (18, .gd false (.yes true)), (19, .yes false), (21, .gd false (.no)), (22, .gd false (.call [] [(sv (st s)), (sv (st digs))] [] (sv (st (Lib.trimS s digs))) [])), (23, .gd false (.val (.av (.bool (!decide ((Lib.trimS s digs) = ([] : List UInt8))))))), (24, .yes false)] [ps 0 (sv (st s)), ps 4 (bv (Lib.hasPrefix s ([45] : List UInt8))), ps 36 (bv (!(decide ((Lib.trimS s digs) = ([] : List UInt8)))))] (obs_cons (st_eq _ _ : ((st s).toList == (st ([] : List UInt8)).toList) = decide (s = ([] : List UInt8))) (obs_cons (decide_eq_false h7) (obs_cons (decide_eq_false h7) (obs_cons (decide_eq_false h7) (obs_cons (decide_eq_false h7) (obs_cons (decide_eq_false h8) (obs_cons (decide_eq_false h8) (obs_cons (by have := List.length_pos_iff.2 h7; omega : (0 : Int) ≤ 0 ∧ 0 < ((s.length : Nat) : Int)) (obs_cons (decide_eq_false h8) (obs_cons (decide_eq_false h8) (obs_cons (decide_eq_true h9) (obs_cons (decide_eq_true h9) (obs_cons (decide_eq_true h9) (obs_cons (decide_eq_true h9) (obs_cons (decide_eq_false h10) (obs_cons (decide_eq_true h9) (obs_cons (decide_eq_false h10) (obs_cons (decide_eq_false h8) (obs_cons (decide_eq_true h9) (obs_cons (decide_eq_false h8) (obs_cons (Bool.eq_false_iff.2 h1 : (Lib.hasPrefix s ([45] : List UInt8)) = false) (obs_cons (Bool.eq_false_iff.2 h1 : (Lib.hasPrefix s ([45] : List UInt8)) = false) (obs_cons (trim_pc s digs hs (by decide) digs_ascii) (obs_cons (rfl : [(sv (st s)), (sv (st ([48, 49, 50, 51, 52, 53, 54, 55, 56, 57] : List UInt8)))] = renL (sigi [] 224) [(sv (st s)), (sv (st digs))]) (obs_cons (Bool.eq_false_iff.2 h1 : (Lib.hasPrefix s ([45] : List UInt8)) = false) (obs_cons (st_ne _ _ : (!((st (Lib.trimS s digs)).toList == (st ([] : List UInt8)).toList)) = !decide ((Lib.trimS s digs) = ([] : List UInt8))) (obs_cons (Bool.eq_false_iff.2 h1 : (Lib.hasPrefix s ([45] : List UInt8)) = false) obs_nil))))))))))))))))))))))))))) ?_
    by_cases h11 : (Lib.trimS s digs) = ([] : List UInt8)
    · refine T_el (bt h11) ?_
      refine T_skip <| T_seq ?_
      have hv := num_val (noNum_not (m := Lib.hasPrefix s [45]) (t := s) h7 h8 (.inr ⟨h10, h1⟩) h11)
      refine T_r mixed [(1, .call [] [(sv (st s))] [] (.tup [(iv (atoiN s)), (.av .nilIface)]) [])] [ps 4 (bv (Lib.hasPrefix s ([45] : List UInt8))), ps 5 (iv (atoiN s))] (obs_cons (atoi_pc s _ (by omega) hv.1 : PC Tryz.prog 54 [(sv (st s))] [] (.tup [(iv (atoiN s)), (.av .nilIface)]) []) (obs_cons (rfl : Ren0 256 [(sv (st s))]) obs_nil)) ?_
      refine T_seq <| T_seq ?_
      refine T_r mixed [] [ps 5 (iv (atoiN s)), ps 42 (bv (Lib.hasPrefix s ([45] : List UInt8)))] (obs_nil) ?_
      refine T_else (b := (Lib.hasPrefix s ([45] : List UInt8))) rfl (Bool.eq_false_iff.2 h1) ?_
      refine T_skip <| T_seq ?_
      refine T_r mixed [] [ps 2 (iv (atoiN s)), ps 3 (bv true)] (obs_nil) ?_
      rw [numS_pos (s := s) (noNum_not (m := Lib.hasPrefix s [45]) (t := s) h7 h8 (.inr ⟨h10, h1⟩) h11) h1]
      exact T_ret fun cx_ a_ hI_ => rt hc0 [ps 2 (iv (atoiN s)), ps 3 (bv true)] [] hI_
    refine T_th (bf h11) ?_
    refine T_seq ?_
    refine T_r mixed [] [ps 2 (iv 0), ps 3 (bv false)] (obs_nil) ?_
    rw [numS_no (s := s) (by rw [body_plain h1]; exact .inr (.inr (.inr h11)))]
    exact T_ret fun cx_ a_ hI_ => rt hc0 [ps 2 (iv 0), ps 3 (bv false)] [] hI_
  refine T_r mixed [(1, .val (.av (.bool (decide (s = ([] : List UInt8)))))), (3, .gd false (.no)), (4, .gd false (.no)), (5, .gd false (.no)), (6, .yes false), (8, .gd false (.no)), (9, .gd false (.no)), (10, .gd false (.no)), (11, .gd false (.no)), (12, .gd false .no), (13, .gd false .no), (14, .gd false .no), (15, .gd false .no), (17, .gd false .no), (18, .gd false (.yes false)), (19, .yes false), (21, .gd false (.no)), (22, .gd false (.call [] [(sv (st s)), (sv (st digs))] [] (sv (st (Lib.trimS s digs))) [])), (23, .gd false (.val (.av (.bool (!decide ((Lib.trimS s digs) = ([] : List UInt8)))))))] [ps 0 (sv (st s)), ps 4 (bv (Lib.hasPrefix s ([45] : List UInt8))), ps 36 (bv (!(decide ((Lib.trimS s digs) = ([] : List UInt8)))))] (obs_cons (st_eq _ _ : ((st s).toList == (st ([] : List UInt8)).toList) = decide (s = ([] : List UInt8))) (obs_cons (decide_eq_false h7) (obs_cons (decide_eq_false h7) (obs_cons (decide_eq_false h7) (obs_cons (decide_eq_false h7) (obs_cons (decide_eq_false h8) (obs_cons (decide_eq_false h8) (obs_cons (by have := List.length_pos_iff.2 h7; omega : (0 : Int) ≤ 0 ∧ 0 < ((s.length : Nat) : Int)) (obs_cons (decide_eq_false h8) (obs_cons (decide_eq_false h8) (obs_cons (decide_eq_false h9) (obs_cons (decide_eq_false h9) (obs_cons (decide_eq_false h9) (obs_cons (decide_eq_false h9) (obs_cons (decide_eq_false h9) (obs_cons (decide_eq_false h8) (obs_cons (decide_eq_false h9) (obs_cons (decide_eq_false h8) (obs_cons (rfl : false = false) (obs_cons (rfl : false = false) (obs_cons (trim_pc s digs hs (by decide) digs_ascii) (obs_cons (rfl : [(sv (st s)), (sv (st ([48, 49, 50, 51, 52, 53, 54, 55, 56, 57] : List UInt8)))] = renL (sigi [] 224) [(sv (st s)), (sv (st digs))]) (obs_cons (rfl : false = false) (obs_cons (st_ne _ _ : (!((st (Lib.trimS s digs)).toList == (st ([] : List UInt8)).toList)) = !decide ((Lib.trimS s digs) = ([] : List UInt8))) obs_nil)))))))))))))))))))))))) ?_
  by_cases h12 : (Lib.trimS s digs) = ([] : List UInt8)
  · refine T_el (bt h12) ?_
    refine T_skip <| T_seq ?_
    have hv := num_val (noNum_not (m := Lib.hasPrefix s [45]) (t := s) h7 h8 (.inl h9) h12)
    refine T_r mixed [(1, .call [] [(sv (st s))] [] (.tup [(iv (atoiN s)), (.av .nilIface)]) [])] [ps 4 (bv (Lib.hasPrefix s ([45] : List UInt8))), ps 5 (iv (atoiN s))] (obs_cons (atoi_pc s _ (by omega) hv.1 : PC Tryz.prog 54 [(sv (st s))] [] (.tup [(iv (atoiN s)), (.av .nilIface)]) []) (obs_cons (rfl : Ren0 256 [(sv (st s))]) obs_nil)) ?_
    refine T_seq <| T_seq ?_
    refine T_r mixed [] [ps 5 (iv (atoiN s)), ps 42 (bv (Lib.hasPrefix s ([45] : List UInt8)))] (obs_nil) ?_
    refine T_else (b := (Lib.hasPrefix s ([45] : List UInt8))) rfl (Bool.eq_false_iff.2 h1) ?_
    refine T_skip <| T_seq ?_
    refine T_r mixed [] [ps 2 (iv (atoiN s)), ps 3 (bv true)] (obs_nil) ?_
    rw [numS_pos (s := s) (noNum_not (m := Lib.hasPrefix s [45]) (t := s) h7 h8 (.inl h9) h12) h1]
    exact T_ret fun cx_ a_ hI_ => rt hc0 [ps 2 (iv (atoiN s)), ps 3 (bv true)] [] hI_
  refine T_th (bf h12) ?_
  refine T_seq ?_
  refine T_r mixed [] [ps 2 (iv 0), ps 3 (bv false)] (obs_nil) ?_
  rw [numS_no (s := s) (by rw [body_plain h1]; exact .inr (.inr (.inr h12)))]
  exact T_ret fun cx_ a_ hI_ => rt hc0 [ps 2 (iv 0), ps 3 (bv false)] [] hI_
end Go.Proofs.YtbgnegmjbnlemaaGreatDoor.Pm
namespace Go.Proofs.YtbgnegmjbnlemaaGreatDoor.Pm
open Go Go.Proofs.YtbgnegmjbnlemaaGreatDoor.Pi

set_option maxRecDepth 100000 in
set_option maxHeartbeats 4000000 in
theorem perfect_pc (s : Int) (hs : 0 ≤ s) : PC Tryz.prog 39 [(iv s)] [] (bv (perfB s)) [] := by
  refine pc_intro Tryz.func39 rfl (by kernel_rfl) (Nat.le_of_ble_eq_true rfl) (by kernel_rfl) (l0 := [ps 0 (iv s)]) rfl (fun c0 Bor hc0 => ?_)
  refine T_seq ?_
  refine T_r mixed [] [ps 0 (iv s)] (obs_nil) ?_
  refine T_seq ?_
  refine T_r mixed [] [ps 3 (iv ((s).tmod 7))] (obs_cons (by decide : 7 ≠ (0 : Int)) obs_nil) ?_
  refine T_seq ?_
  refine T_wk (Wk.eq (show _ = [ps 3 (iv (s % 7))] from by rw [Int.tmod_eq_emod_of_nonneg hs])) ?_
  by_cases h1 : (s % 7) = 0
  · refine T_r mixed [(3, .gd true .no), (4, .gd true .no), (5, .yes true), (7, .gd true .no), (8, .gd true .no)] [ps 2 (bv true)] (obs_cons (decide_eq_true h1) (obs_cons (decide_eq_true h1) (obs_cons (decide_eq_true h1) (obs_cons (rfl : true = true) (obs_cons (rfl : true = true) obs_nil))))) ?_
    rw [show perfB s = true from decide_eq_true (by omega)]
    exact T_ret fun cx_ a_ hI_ => rt hc0 [ps 2 (bv true)] [] hI_
  by_cases h2 : (s % 7) = 3
  · refine T_r mixed [(3, .gd false (.no)), (4, .gd false (.no)), (5, .yes false), (7, .gd true .no), (8, .gd true .no), (9, .yes true)] [ps 2 (bv true)] (obs_cons (decide_eq_false h1) (obs_cons (decide_eq_false h1) (obs_cons (decide_eq_false h1) (obs_cons (decide_eq_true h2) (obs_cons (decide_eq_true h2) (obs_cons (decide_eq_true h2) obs_nil)))))) ?_
    rw [show perfB s = true from decide_eq_true (by omega)]
    exact T_ret fun cx_ a_ hI_ => rt hc0 [ps 2 (bv true)] [] hI_
  refine T_r mixed [(3, .gd false (.no)), (4, .gd false (.no)), (5, .yes false), (7, .gd false (.no)), (8, .gd false (.no)), (9, .yes false)] [ps 2 (bv (decide ((s % 7) = 4)))] (obs_cons (decide_eq_false h1) (obs_cons (decide_eq_false h1) (obs_cons (decide_eq_false h1) (obs_cons (decide_eq_false h2) (obs_cons (decide_eq_false h2) (obs_cons (decide_eq_false h2) obs_nil)))))) ?_
  refine T_wk (Wk.eq (show _ = [ps 2 (bv (perfB s))] from by rw [show decide ((s % 7) = 4) = perfB s from decide_eq_decide.2 (by omega)])) ?_
  exact T_ret fun cx_ a_ hI_ => rt hc0 [ps 2 (bv (perfB s))] [] hI_
set_option maxRecDepth 100000 in
set_option maxHeartbeats 4000000 in
theorem name_pc (s h : Int) (i1 : Pi.I64 s) (i2 : Pi.I64 h) : PC Tryz.prog 41 [(.agg [(iv s), (iv h)])] [] (.tup [(sv (st ((nameS s h).1))), (iv ((nameS s h).2))]) [] := by
  refine pc_intro Tryz.func41 rfl (by kernel_rfl) (Nat.le_of_ble_eq_true rfl) (by kernel_rfl) (l0 := [ps 0 (.agg [(iv s), (iv h)])]) rfl (fun c0 Bor hc0 => ?_)
  refine T_seq ?_
  refine T_r mixed [] [ps 1 (.opt 0 0), pb 0 37 [(iv s), (iv h)]] (obs_nil) ?_
  refine T_seq <| T_seq ?_
  refine T_r mixed [(1, .call [] [(.agg [(iv s), (iv h)])] [] (bv (Pi.withinB s h)) [])] [ps 1 (.opt 0 0), ps 11 (bv (!(Pi.withinB s h))), pb 0 37 [(iv s), (iv h)]] (obs_cons (pwithin_pc s h i1 i2) (obs_cons (rfl : Ren0 32 [(.agg [(iv s), (iv h)])]) obs_nil)) ?_
  by_cases h1 : (Pi.withinB s h) = true
  · refine T_el (congrArg Bool.not h1) ?_
    refine T_skip <| T_seq ?_
    refine T_r mixed [] [ps 1 (.opt 0 0), ps 4 (sv (st ([] : List UInt8))), pb 0 37 [(iv s), (iv h)]] (obs_nil) ?_
    refine T_seq <| T_seq ?_
    have hw := Pi.withinB_iff.1 h1
    by_cases h2 : s < 0
    · refine T_r mixed [(4, .gd true .no), (5, .gd true .no), (6, .gd true .no), (7, .gd true .no), (11, .gd true .no), (12, .yes true)] [ps 1 (.opt 0 0), ps 4 (sv (st ([] : List UInt8))), ps 24 (bv true), pb 0 37 [(iv s), (iv h)]] (obs_cons (decide_eq_true h2) (obs_cons (decide_eq_true h2) (obs_cons (decide_eq_true h2) (obs_cons (decide_eq_true h2) (obs_cons (decide_eq_true h2) (obs_cons (decide_eq_true h2) obs_nil)))))) ?_
      refine T_then (b := true) rfl rfl ?_
      refine T_seq ?_
      refine T_r mixed [] [ps 1 (.opt 0 0), ps 4 (sv (st ([45] : List UInt8))), pb 0 37 [(iv s), (iv h)]] (obs_nil) ?_
      refine T_r mixed [] [ps 1 (.opt 0 0), ps 4 (sv (st ([45] : List UInt8))), pb 0 37 [(iv (0 - s)), (iv (0 - h))]] (obs_cons (by simp only [InK]; omega : InK .i64 (0 - s)) (obs_cons (by simp only [InK]; omega : InK .i64 (0 - h)) obs_nil)) ?_
      refine T_seq ?_
      obtain ⟨x, hx⟩ : ∃ x, x = 0 - s := ⟨_, rfl⟩
      obtain ⟨y, hy⟩ : ∃ y, y = 0 - h := ⟨_, rfl⟩
      refine T_wk (Wk.eq (show _ = [ps 1 (.opt 0 0), ps 4 (sv (st ([45] : List UInt8))), pb 0 37 [(iv x), (iv y)]] from by rw [hx, hy])) ?_
      have hnb := Pi.nat7_range (x % 7)
      have hl2 := itoa_len (o := x + 1) (by omega) (by omega)
      refine T_r mixed [(2, .call [] [(iv x), (iv 7)] [] (.tup [(iv (x / 7)), (iv (x % 7))]) [])] [ps 1 (.opt 0 0), ps 4 (sv (st ([45] : List UInt8))), ps 5 (iv (x / 7)), ps 6 (iv (x % 7)), pb 0 37 [(iv x), (iv y)]] (obs_cons (pfloor_pc x (by omega) (by omega)) (obs_cons (rfl : Ren0 264 [(iv x), (iv 7)]) obs_nil)) ?_
      refine T_seq ?_
      refine T_rd mixed [(6, .call [] [(iv (x % 7))] [] (iv (Pi.nat7 (x % 7))) [])] [[], [0], [], [2], [0, 1, 2, 3], [], [5], [0, 1, 2, 3, 4, 5, 6], [0, 1, 2, 3, 4, 5, 6, 7]] [([78], [2]), ([80], [1, 78]), ([82], [10]), ([84], [82]), ([86], [80, 84]), ([88], [12]), ([90], [88]), ([92], [86, 90]), ([14], [92])] [ps 1 (.opt 0 0), ps 4 (sv (st ([45] : List UInt8))), ps 7 (iv ((y - (12 * (x / 7))) - (Pi.nat7 (x % 7)))), pb 0 37 [(iv x), (iv y)]] (obs_cons (by simp only [InK]; omega : InK .i64 (12 * (x / 7))) (obs_cons (by simp only [InK]; omega : InK .i64 (y - (12 * (x / 7)))) (obs_cons (natural_pc (x % 7)) (obs_cons (rfl : Ren0 360 [(iv (x % 7))]) (obs_cons (by simp only [InK]; omega : InK .i64 ((y - (12 * (x / 7))) - (Pi.nat7 (x % 7)))) obs_nil))))) ?_
      refine T_seq ?_
      obtain ⟨m, hm⟩ : ∃ m, m = moreOf x y := ⟨_, rfl⟩
      have hmb : -9000 ≤ m ∧ m ≤ 9000 := by rw [hm]; unfold moreOf; omega
      refine T_wk (Wk.eq (show _ = [ps 1 (.opt 0 0), ps 4 (sv (st ([45] : List UInt8))), ps 7 (iv m), pb 0 37 [(iv x), (iv y)]] from by rw [hm]; rfl)) ?_
      refine T_r mixed [] [ps 1 (.opt 0 0), ps 4 (sv (st ([45] : List UInt8))), ps 7 (iv m), pb 0 37 [(iv x), (iv y)]] (obs_nil) ?_
      refine T_seq <| T_block <| T_seq ?_
      refine T_r mixed [] [ps 1 (.opt 0 0), ps 4 (sv (st ([45] : List UInt8))), ps 7 (iv m), ps 52 (bv (decide (0 < m))), pb 0 37 [(iv x), (iv y)]] (obs_nil) ?_
      by_cases h3 : 0 < m
      · refine T_th (decide_eq_true h3) ?_
        refine T_r mixed [(2, .call [] [(sv (st ([65] : List UInt8))), (nv ((min m 7).toNat))] [] (sv (st (Lib.repeatL ([65] : List UInt8) ((min m 7).toNat)))) [])] [ps 1 (.opt 0 0), ps 4 (sv (st ([45] : List UInt8))), ps 8 (sv (st (Lib.repeatL ([65] : List UInt8) ((min m 7).toNat)))), pb 0 37 [(iv x), (iv y)]] (obs_cons (repeat_pc ([65] : List UInt8) ((min m 7).toNat) (by omega) (by simp only [List.length_cons, List.length_nil]; omega)) (obs_cons (congrArg (fun z => [(sv (st ([65] : List UInt8))), iv z]) (show min m 7 = (((min m 7).toNat : Nat) : Int) from by omega) : [(sv (st ([65] : List UInt8))), (iv (min m 7))] = renL (sigi [] 432) [(sv (st ([65] : List UInt8))), (nv ((min m 7).toNat))]) obs_nil)) ?_
        refine T_blk <| T_seq <| T_seq ?_
        refine T_r mixed [] [ps 1 (.opt 0 0), ps 4 (sv (st ([45] : List UInt8))), ps 8 (sv (st (Lib.repeatL ([65] : List UInt8) ((min m 7).toNat)))), ps 82 (bv (decide (6 < (((Lib.repeatL ([65] : List UInt8) ((min m 7).toNat)).length : Nat) : Int)))), pb 0 37 [(iv x), (iv y)]] (obs_nil) ?_
        by_cases h4 : 6 < (((Lib.repeatL ([65] : List UInt8) ((min m 7).toNat)).length : Nat) : Int)
        · refine T_th (decide_eq_true h4) ?_
          refine T_seq ?_
          refine T_r mixed [] [ps 2 (sv (st ([] : List UInt8))), ps 3 (iv 3)] (obs_nil) ?_
          rw [nameS_neg (s := s) (h := h) h1 (.inl h2) (Eq.trans (by rw [← hx, ← hy]) (nameA_far (by rw [← hm]; exact (qual_up h3)) h4))]
          exact T_ret fun cx_ a_ hI_ => rt hc0 [ps 2 (sv (st ([] : List UInt8))), ps 3 (iv 3)] [] hI_
        refine T_el (decide_eq_false h4) ?_
        refine T_skip <| T_seq ?_
        refine T_r mixed [(2, .val (.av (.string (st (([45] : List UInt8) ++ (Lib.repeatL ([65] : List UInt8) ((min m 7).toNat))))))), (6, .call [] [(iv (x + 1))] [] (sv (st (Lib.itoa (x + 1)))) []), (7, .val (.av (.string (st ((([45] : List UInt8) ++ (Lib.repeatL ([65] : List UInt8) ((min m 7).toNat))) ++ (Lib.itoa (x + 1)))))))] [ps 2 (sv (st ((([45] : List UInt8) ++ (Lib.repeatL ([65] : List UInt8) ((min m 7).toNat))) ++ (Lib.itoa (x + 1))))), ps 3 (iv 0)] (obs_cons (by first | omega | (simp only [List.length_append, List.length_cons, List.length_nil]; omega) : ((([45] : List UInt8).length + (Lib.repeatL ([65] : List UInt8) ((min m 7).toNat)).length : Nat) : Int) ≤ 9223372036854775807) (obs_cons (st_app _ _ : st ([45] : List UInt8) ++ st (Lib.repeatL ([65] : List UInt8) ((min m 7).toNat)) = st (([45] : List UInt8) ++ (Lib.repeatL ([65] : List UInt8) ((min m 7).toNat)))) (obs_cons (by simp only [InK]; omega : InK .i64 (x + 1)) (obs_cons (itoa_pc (x + 1) (by omega) (by omega)) (obs_cons (rfl : Ren0 520 [(iv (x + 1))]) (obs_cons (by first | omega | (simp only [List.length_append, List.length_cons, List.length_nil]; omega) : (((([45] : List UInt8) ++ (Lib.repeatL ([65] : List UInt8) ((min m 7).toNat))).length + (Lib.itoa (x + 1)).length : Nat) : Int) ≤ 9223372036854775807) (obs_cons (st_app _ _ : st (([45] : List UInt8) ++ (Lib.repeatL ([65] : List UInt8) ((min m 7).toNat))) ++ st (Lib.itoa (x + 1)) = st ((([45] : List UInt8) ++ (Lib.repeatL ([65] : List UInt8) ((min m 7).toNat))) ++ (Lib.itoa (x + 1)))) obs_nil))))))) ?_
        rw [nameS_neg (s := s) (h := h) h1 (.inl h2) (Eq.trans (by rw [← hx, ← hy]) (nameA_ok (by rw [← hm]; exact (qual_up h3)) h4))]
        exact T_ret fun cx_ a_ hI_ => rt hc0 [ps 2 (sv (st ((([45] : List UInt8) ++ (Lib.repeatL ([65] : List UInt8) ((min m 7).toNat))) ++ (Lib.itoa (x + 1))))), ps 3 (iv 0)] [] hI_
      refine T_el (decide_eq_false h3) ?_
      refine T_seq ?_
      by_cases h5 : m = 0
      · refine T_r mixed [(3, .gd true (.no)), (4, .gd true (.no)), (5, .gd true (.call [] [(iv x)] [] (bv (perfB x)) [])), (6, .yes true)] [ps 1 (.opt 0 0), ps 4 (sv (st ([45] : List UInt8))), ps 7 (iv m), ps 58 (bv (perfB x)), pb 0 37 [(iv x), (iv y)]] (obs_cons (decide_eq_true h5) (obs_cons (decide_eq_true h5) (obs_cons (decide_eq_true h5) (obs_cons (perfect_pc x (by omega)) (obs_cons (rfl : Ren0 456 [(iv x)]) (obs_cons (decide_eq_true h5) obs_nil)))))) ?_
        by_cases h6 : (perfB x) = true
        · refine T_then (b := (perfB x)) rfl h6 ?_
          refine T_r mixed [] [ps 1 (.opt 0 0), ps 4 (sv (st ([45] : List UInt8))), ps 8 (sv (st ([80] : List UInt8))), pb 0 37 [(iv x), (iv y)]] (obs_nil) ?_
          refine T_blk <| T_seq <| T_seq ?_
          refine T_r mixed [] [ps 1 (.opt 0 0), ps 4 (sv (st ([45] : List UInt8))), ps 8 (sv (st ([80] : List UInt8))), ps 82 (bv false), pb 0 37 [(iv x), (iv y)]] (obs_nil) ?_
          refine T_else (b := false) rfl rfl ?_
          refine T_skip <| T_seq ?_
          refine T_r mixed [(2, .val (.av (.string (st (([45] : List UInt8) ++ ([80] : List UInt8)))))), (6, .call [] [(iv (x + 1))] [] (sv (st (Lib.itoa (x + 1)))) []), (7, .val (.av (.string (st ((([45] : List UInt8) ++ ([80] : List UInt8)) ++ (Lib.itoa (x + 1)))))))] [ps 2 (sv (st ((([45] : List UInt8) ++ ([80] : List UInt8)) ++ (Lib.itoa (x + 1))))), ps 3 (iv 0)] (obs_cons (by first | omega | (simp only [List.length_append, List.length_cons, List.length_nil]; omega) : ((([45] : List UInt8).length + ([80] : List UInt8).length : Nat) : Int) ≤ 9223372036854775807) (obs_cons (st_app _ _ : st ([45] : List UInt8) ++ st ([80] : List UInt8) = st (([45] : List UInt8) ++ ([80] : List UInt8))) (obs_cons (by simp only [InK]; omega : InK .i64 (x + 1)) (obs_cons (itoa_pc (x + 1) (by omega) (by omega)) (obs_cons (rfl : Ren0 560 [(iv (x + 1))]) (obs_cons (by first | omega | (simp only [List.length_append, List.length_cons, List.length_nil]; omega) : (((([45] : List UInt8) ++ ([80] : List UInt8)).length + (Lib.itoa (x + 1)).length : Nat) : Int) ≤ 9223372036854775807) (obs_cons (st_app _ _ : st (([45] : List UInt8) ++ ([80] : List UInt8)) ++ st (Lib.itoa (x + 1)) = st ((([45] : List UInt8) ++ ([80] : List UInt8)) ++ (Lib.itoa (x + 1)))) obs_nil))))))) ?_
          rw [nameS_neg (s := s) (h := h) h1 (.inl h2) (Eq.trans (by rw [← hx, ← hy]) (nameA_ok (q := [80]) (by rw [← hm]; exact (qual_P h5 h6)) (by decide)))]
          exact T_ret fun cx_ a_ hI_ => rt hc0 [ps 2 (sv (st ((([45] : List UInt8) ++ ([80] : List UInt8)) ++ (Lib.itoa (x + 1))))), ps 3 (iv 0)] [] hI_
        refine T_else (b := (perfB x)) rfl (Bool.eq_false_iff.2 h6) ?_
        refine T_seq ?_
        refine T_r mixed [] [ps 1 (.opt 0 0), ps 4 (sv (st ([45] : List UInt8))), ps 7 (iv m), ps 66 (bv (decide (m = 0))), pb 0 37 [(iv x), (iv y)]] (obs_nil) ?_
        refine T_th (decide_eq_true h5) ?_
        refine T_r mixed [] [ps 1 (.opt 0 0), ps 4 (sv (st ([45] : List UInt8))), ps 8 (sv (st ([77] : List UInt8))), pb 0 37 [(iv x), (iv y)]] (obs_nil) ?_
        refine T_blk <| T_seq <| T_seq ?_
        refine T_r mixed [] [ps 1 (.opt 0 0), ps 4 (sv (st ([45] : List UInt8))), ps 8 (sv (st ([77] : List UInt8))), ps 82 (bv false), pb 0 37 [(iv x), (iv y)]] (obs_nil) ?_
        refine T_else (b := false) rfl rfl ?_
        refine T_skip <| T_seq ?_
        refine T_r mixed [(2, .val (.av (.string (st (([45] : List UInt8) ++ ([77] : List UInt8)))))), (6, .call [] [(iv (x + 1))] [] (sv (st (Lib.itoa (x + 1)))) []), (7, .val (.av (.string (st ((([45] : List UInt8) ++ ([77] : List UInt8)) ++ (Lib.itoa (x + 1)))))))] [ps 2 (sv (st ((([45] : List UInt8) ++ ([77] : List UInt8)) ++ (Lib.itoa (x + 1))))), ps 3 (iv 0)] (obs_cons (by first | omega | (simp only [List.length_append, List.length_cons, List.length_nil]; omega) : ((([45] : List UInt8).length + ([77] : List UInt8).length : Nat) : Int) ≤ 9223372036854775807) (obs_cons (st_app _ _ : st ([45] : List UInt8) ++ st ([77] : List UInt8) = st (([45] : List UInt8) ++ ([77] : List UInt8))) (obs_cons (by simp only [InK]; omega : InK .i64 (x + 1)) (obs_cons (itoa_pc (x + 1) (by omega) (by omega)) (obs_cons (rfl : Ren0 584 [(iv (x + 1))]) (obs_cons (by first | omega | (simp only [List.length_append, List.length_cons, List.length_nil]; omega) : (((([45] : List UInt8) ++ ([77] : List UInt8)).length + (Lib.itoa (x + 1)).length : Nat) : Int) ≤ 9223372036854775807) (obs_cons (st_app _ _ : st (([45] : List UInt8) ++ ([77] : List UInt8)) ++ st (Lib.itoa (x + 1)) = st ((([45] : List UInt8) ++ ([77] : List UInt8)) ++ (Lib.itoa (x + 1)))) obs_nil))))))) ?_
        rw [nameS_neg (s := s) (h := h) h1 (.inl h2) (Eq.trans (by rw [← hx, ← hy]) (nameA_ok (q := [77]) (by rw [← hm]; exact (qual_M h5 h6)) (by decide)))]
        exact T_ret fun cx_ a_ hI_ => rt hc0 [ps 2 (sv (st ((([45] : List UInt8) ++ ([77] : List UInt8)) ++ (Lib.itoa (x + 1))))), ps 3 (iv 0)] [] hI_
      refine T_r mixed [(3, .gd false .no), (4, .gd false .no), (5, .gd false .no), (6, .yes false)] [ps 1 (.opt 0 0), ps 4 (sv (st ([45] : List UInt8))), ps 7 (iv m), ps 58 (bv false), pb 0 37 [(iv x), (iv y)]] (obs_cons (decide_eq_false h5) (obs_cons (decide_eq_false h5) (obs_cons (decide_eq_false h5) (obs_cons (decide_eq_false h5) obs_nil)))) ?_
      refine T_else (b := false) rfl rfl ?_
      refine T_seq ?_
      refine T_r mixed [] [ps 1 (.opt 0 0), ps 4 (sv (st ([45] : List UInt8))), ps 7 (iv m), ps 66 (bv (decide (m = 0))), pb 0 37 [(iv x), (iv y)]] (obs_nil) ?_
      refine T_el (decide_eq_false h5) ?_
      refine T_seq ?_
      refine T_r mixed [(2, .call [] [(iv x)] [] (bv (perfB x)) [])] [ps 1 (.opt 0 0), ps 4 (sv (st ([45] : List UInt8))), ps 7 (iv m), ps 69 (bv (perfB x)), pb 0 37 [(iv x), (iv y)]] (obs_cons (perfect_pc x (by omega)) (obs_cons (rfl : Ren0 520 [(iv x)]) obs_nil)) ?_
      by_cases h7 : (perfB x) = true
      · refine T_then (b := (perfB x)) rfl h7 ?_
        refine T_r mixed [(3, .call [] [(sv (st ([100] : List UInt8))), (nv ((min (0 - m) 7).toNat))] [] (sv (st (Lib.repeatL ([100] : List UInt8) ((min (0 - m) 7).toNat)))) [])] [ps 1 (.opt 0 0), ps 4 (sv (st ([45] : List UInt8))), ps 8 (sv (st (Lib.repeatL ([100] : List UInt8) ((min (0 - m) 7).toNat)))), pb 0 37 [(iv x), (iv y)]] (obs_cons (by simp only [InK]; omega : InK .i64 (0 - m)) (obs_cons (repeat_pc ([100] : List UInt8) ((min (0 - m) 7).toNat) (by omega) (by simp only [List.length_cons, List.length_nil]; omega)) (obs_cons (congrArg (fun z => [(sv (st ([100] : List UInt8))), iv z]) (show min (0 - m) 7 = (((min (0 - m) 7).toNat : Nat) : Int) from by omega) : [(sv (st ([100] : List UInt8))), (iv (min (0 - m) 7))] = renL (sigi [] 560) [(sv (st ([100] : List UInt8))), (nv ((min (0 - m) 7).toNat))]) obs_nil))) ?_
        refine T_blk <| T_seq <| T_seq ?_
        refine T_r mixed [] [ps 1 (.opt 0 0), ps 4 (sv (st ([45] : List UInt8))), ps 8 (sv (st (Lib.repeatL ([100] : List UInt8) ((min (0 - m) 7).toNat)))), ps 82 (bv (decide (6 < (((Lib.repeatL ([100] : List UInt8) ((min (0 - m) 7).toNat)).length : Nat) : Int)))), pb 0 37 [(iv x), (iv y)]] (obs_nil) ?_
        by_cases h8 : 6 < (((Lib.repeatL ([100] : List UInt8) ((min (0 - m) 7).toNat)).length : Nat) : Int)
        · refine T_th (decide_eq_true h8) ?_
          refine T_seq ?_
          refine T_r mixed [] [ps 2 (sv (st ([] : List UInt8))), ps 3 (iv 3)] (obs_nil) ?_
          rw [nameS_neg (s := s) (h := h) h1 (.inl h2) (Eq.trans (by rw [← hx, ← hy]) (nameA_far (by rw [← hm]; exact (qual_d h3 h5 h7)) h8))]
          exact T_ret fun cx_ a_ hI_ => rt hc0 [ps 2 (sv (st ([] : List UInt8))), ps 3 (iv 3)] [] hI_
        refine T_el (decide_eq_false h8) ?_
        refine T_skip <| T_seq ?_
        refine T_r mixed [(2, .val (.av (.string (st (([45] : List UInt8) ++ (Lib.repeatL ([100] : List UInt8) ((min (0 - m) 7).toNat))))))), (6, .call [] [(iv (x + 1))] [] (sv (st (Lib.itoa (x + 1)))) []), (7, .val (.av (.string (st ((([45] : List UInt8) ++ (Lib.repeatL ([100] : List UInt8) ((min (0 - m) 7).toNat))) ++ (Lib.itoa (x + 1)))))))] [ps 2 (sv (st ((([45] : List UInt8) ++ (Lib.repeatL ([100] : List UInt8) ((min (0 - m) 7).toNat))) ++ (Lib.itoa (x + 1))))), ps 3 (iv 0)] (obs_cons (by first | omega | (simp only [List.length_append, List.length_cons, List.length_nil]; omega) : ((([45] : List UInt8).length + (Lib.repeatL ([100] : List UInt8) ((min (0 - m) 7).toNat)).length : Nat) : Int) ≤ 9223372036854775807) (obs_cons (st_app _ _ : st ([45] : List UInt8) ++ st (Lib.repeatL ([100] : List UInt8) ((min (0 - m) 7).toNat)) = st (([45] : List UInt8) ++ (Lib.repeatL ([100] : List UInt8) ((min (0 - m) 7).toNat)))) (obs_cons (by simp only [InK]; omega : InK .i64 (x + 1)) (obs_cons (itoa_pc (x + 1) (by omega) (by omega)) (obs_cons (rfl : Ren0 648 [(iv (x + 1))]) (obs_cons (by first | omega | (simp only [List.length_append, List.length_cons, List.length_nil]; omega) : (((([45] : List UInt8) ++ (Lib.repeatL ([100] : List UInt8) ((min (0 - m) 7).toNat))).length + (Lib.itoa (x + 1)).length : Nat) : Int) ≤ 9223372036854775807) (obs_cons (st_app _ _ : st (([45] : List UInt8) ++ (Lib.repeatL ([100] : List UInt8) ((min (0 - m) 7).toNat))) ++ st (Lib.itoa (x + 1)) = st ((([45] : List UInt8) ++ (Lib.repeatL ([100] : List UInt8) ((min (0 - m) 7).toNat))) ++ (Lib.itoa (x + 1)))) obs_nil))))))) ?_
        rw [nameS_neg (s := s) (h := h) h1 (.inl h2) (Eq.trans (by rw [← hx, ← hy]) (nameA_ok (by rw [← hm]; exact (qual_d h3 h5 h7)) h8))]
        exact T_ret fun cx_ a_ hI_ => rt hc0 [ps 2 (sv (st ((([45] : List UInt8) ++ (Lib.repeatL ([100] : List UInt8) ((min (0 - m) 7).toNat))) ++ (Lib.itoa (x + 1))))), ps 3 (iv 0)] [] hI_
      refine T_else (b := (perfB x)) rfl (Bool.eq_false_iff.2 h7) ?_
      refine T_seq ?_
      refine T_r mixed [] [ps 1 (.opt 0 0), ps 4 (sv (st ([45] : List UInt8))), ps 7 (iv m), ps 77 (bv (decide (m = (-1)))), pb 0 37 [(iv x), (iv y)]] (obs_nil) ?_
      by_cases h9 : m = (-1)
      · refine T_th (decide_eq_true h9) ?_
        refine T_r mixed [] [ps 1 (.opt 0 0), ps 4 (sv (st ([45] : List UInt8))), ps 8 (sv (st ([109] : List UInt8))), pb 0 37 [(iv x), (iv y)]] (obs_nil) ?_
        refine T_blk <| T_seq <| T_seq ?_
        refine T_r mixed [] [ps 1 (.opt 0 0), ps 4 (sv (st ([45] : List UInt8))), ps 8 (sv (st ([109] : List UInt8))), ps 82 (bv false), pb 0 37 [(iv x), (iv y)]] (obs_nil) ?_
        refine T_else (b := false) rfl rfl ?_
        refine T_skip <| T_seq ?_
        refine T_r mixed [(2, .val (.av (.string (st (([45] : List UInt8) ++ ([109] : List UInt8)))))), (6, .call [] [(iv (x + 1))] [] (sv (st (Lib.itoa (x + 1)))) []), (7, .val (.av (.string (st ((([45] : List UInt8) ++ ([109] : List UInt8)) ++ (Lib.itoa (x + 1)))))))] [ps 2 (sv (st ((([45] : List UInt8) ++ ([109] : List UInt8)) ++ (Lib.itoa (x + 1))))), ps 3 (iv 0)] (obs_cons (by first | omega | (simp only [List.length_append, List.length_cons, List.length_nil]; omega) : ((([45] : List UInt8).length + ([109] : List UInt8).length : Nat) : Int) ≤ 9223372036854775807) (obs_cons (st_app _ _ : st ([45] : List UInt8) ++ st ([109] : List UInt8) = st (([45] : List UInt8) ++ ([109] : List UInt8))) (obs_cons (by simp only [InK]; omega : InK .i64 (x + 1)) (obs_cons (itoa_pc (x + 1) (by omega) (by omega)) (obs_cons (rfl : Ren0 640 [(iv (x + 1))]) (obs_cons (by first | omega | (simp only [List.length_append, List.length_cons, List.length_nil]; omega) : (((([45] : List UInt8) ++ ([109] : List UInt8)).length + (Lib.itoa (x + 1)).length : Nat) : Int) ≤ 9223372036854775807) (obs_cons (st_app _ _ : st (([45] : List UInt8) ++ ([109] : List UInt8)) ++ st (Lib.itoa (x + 1)) = st ((([45] : List UInt8) ++ ([109] : List UInt8)) ++ (Lib.itoa (x + 1)))) obs_nil))))))) ?_
        rw [nameS_neg (s := s) (h := h) h1 (.inl h2) (Eq.trans (by rw [← hx, ← hy]) (nameA_ok (q := [109]) (by rw [← hm]; exact (qual_m h9 h7)) (by decide)))]
        exact T_ret fun cx_ a_ hI_ => rt hc0 [ps 2 (sv (st ((([45] : List UInt8) ++ ([109] : List UInt8)) ++ (Lib.itoa (x + 1))))), ps 3 (iv 0)] [] hI_
      refine T_el (decide_eq_false h9) ?_
      refine T_r mixed [(4, .call [] [(sv (st ([100] : List UInt8))), (nv ((min ((0 - m) - 1) 7).toNat))] [] (sv (st (Lib.repeatL ([100] : List UInt8) ((min ((0 - m) - 1) 7).toNat)))) [])] [ps 1 (.opt 0 0), ps 4 (sv (st ([45] : List UInt8))), ps 8 (sv (st (Lib.repeatL ([100] : List UInt8) ((min ((0 - m) - 1) 7).toNat)))), pb 0 37 [(iv x), (iv y)]] (obs_cons (by simp only [InK]; omega : InK .i64 (0 - m)) (obs_cons (by simp only [InK]; omega : InK .i64 ((0 - m) - 1)) (obs_cons (repeat_pc ([100] : List UInt8) ((min ((0 - m) - 1) 7).toNat) (by omega) (by simp only [List.length_cons, List.length_nil]; omega)) (obs_cons (congrArg (fun z => [(sv (st ([100] : List UInt8))), iv z]) (show min ((0 - m) - 1) 7 = (((min ((0 - m) - 1) 7).toNat : Nat) : Int) from by omega) : [(sv (st ([100] : List UInt8))), (iv (min ((0 - m) - 1) 7))] = renL (sigi [] 592) [(sv (st ([100] : List UInt8))), (nv ((min ((0 - m) - 1) 7).toNat))]) obs_nil)))) ?_
      refine T_blk <| T_seq <| T_seq ?_
      refine T_r mixed [] [ps 1 (.opt 0 0), ps 4 (sv (st ([45] : List UInt8))), ps 8 (sv (st (Lib.repeatL ([100] : List UInt8) ((min ((0 - m) - 1) 7).toNat)))), ps 82 (bv (decide (6 < (((Lib.repeatL ([100] : List UInt8) ((min ((0 - m) - 1) 7).toNat)).length : Nat) : Int)))), pb 0 37 [(iv x), (iv y)]] (obs_nil) ?_
      by_cases h10 : 6 < (((Lib.repeatL ([100] : List UInt8) ((min ((0 - m) - 1) 7).toNat)).length : Nat) : Int)
      · refine T_th (decide_eq_true h10) ?_
        refine T_seq ?_
        refine T_r mixed [] [ps 2 (sv (st ([] : List UInt8))), ps 3 (iv 3)] (obs_nil) ?_
        rw [nameS_neg (s := s) (h := h) h1 (.inl h2) (Eq.trans (by rw [← hx, ← hy]) (nameA_far (by rw [← hm]; exact (qual_dd h3 h5 h7 h9)) h10))]
        exact T_ret fun cx_ a_ hI_ => rt hc0 [ps 2 (sv (st ([] : List UInt8))), ps 3 (iv 3)] [] hI_
      refine T_el (decide_eq_false h10) ?_
      refine T_skip <| T_seq ?_
      refine T_r mixed [(2, .val (.av (.string (st (([45] : List UInt8) ++ (Lib.repeatL ([100] : List UInt8) ((min ((0 - m) - 1) 7).toNat))))))), (6, .call [] [(iv (x + 1))] [] (sv (st (Lib.itoa (x + 1)))) []), (7, .val (.av (.string (st ((([45] : List UInt8) ++ (Lib.repeatL ([100] : List UInt8) ((min ((0 - m) - 1) 7).toNat))) ++ (Lib.itoa (x + 1)))))))] [ps 2 (sv (st ((([45] : List UInt8) ++ (Lib.repeatL ([100] : List UInt8) ((min ((0 - m) - 1) 7).toNat))) ++ (Lib.itoa (x + 1))))), ps 3 (iv 0)] (obs_cons (by first | omega | (simp only [List.length_append, List.length_cons, List.length_nil]; omega) : ((([45] : List UInt8).length + (Lib.repeatL ([100] : List UInt8) ((min ((0 - m) - 1) 7).toNat)).length : Nat) : Int) ≤ 9223372036854775807) (obs_cons (st_app _ _ : st ([45] : List UInt8) ++ st (Lib.repeatL ([100] : List UInt8) ((min ((0 - m) - 1) 7).toNat)) = st (([45] : List UInt8) ++ (Lib.repeatL ([100] : List UInt8) ((min ((0 - m) - 1) 7).toNat)))) (obs_cons (by simp only [InK]; omega : InK .i64 (x + 1)) (obs_cons (itoa_pc (x + 1) (by omega) (by omega)) (obs_cons (rfl : Ren0 680 [(iv (x + 1))]) (obs_cons (by first | omega | (simp only [List.length_append, List.length_cons, List.length_nil]; omega) : (((([45] : List UInt8) ++ (Lib.repeatL ([100] : List UInt8) ((min ((0 - m) - 1) 7).toNat))).length + (Lib.itoa (x + 1)).length : Nat) : Int) ≤ 9223372036854775807) (obs_cons (st_app _ _ : st (([45] : List UInt8) ++ (Lib.repeatL ([100] : List UInt8) ((min ((0 - m) - 1) 7).toNat))) ++ st (Lib.itoa (x + 1)) = st ((([45] : List UInt8) ++ (Lib.repeatL ([100] : List UInt8) ((min ((0 - m) - 1) 7).toNat))) ++ (Lib.itoa (x + 1)))) obs_nil))))))) ?_
      rw [nameS_neg (s := s) (h := h) h1 (.inl h2) (Eq.trans (by rw [← hx, ← hy]) (nameA_ok (by rw [← hm]; exact (qual_dd h3 h5 h7 h9)) h10))]
      exact T_ret fun cx_ a_ hI_ => rt hc0 [ps 2 (sv (st ((([45] : List UInt8) ++ (Lib.repeatL ([100] : List UInt8) ((min ((0 - m) - 1) 7).toNat))) ++ (Lib.itoa (x + 1))))), ps 3 (iv 0)] [] hI_
    by_cases h11 : s = 0
    · refine T_r mixed [(4, .gd false (.no)), (5, .gd false (.no)), (6, .gd false (.no)), (7, .gd false (.no)), (8, .gd true (.no)), (9, .gd true (.no)), (10, .gd true (.no)), (11, .gd false (.yes true)), (12, .yes false)] [ps 1 (.opt 0 0), ps 4 (sv (st ([] : List UInt8))), ps 24 (bv (decide (h < 0))), pb 0 37 [(iv s), (iv h)]] (obs_cons (decide_eq_false h2) (obs_cons (decide_eq_false h2) (obs_cons (decide_eq_false h2) (obs_cons (decide_eq_false h2) (obs_cons (decide_eq_true h11) (obs_cons (decide_eq_true h11) (obs_cons (decide_eq_true h11) (obs_cons (decide_eq_false h2) (obs_cons (decide_eq_true h11) (obs_cons (decide_eq_false h2) obs_nil)))))))))) ?_
      by_cases h12 : h < 0
      · refine T_th (decide_eq_true h12) ?_
        refine T_seq ?_
        refine T_r mixed [] [ps 1 (.opt 0 0), ps 4 (sv (st ([45] : List UInt8))), pb 0 37 [(iv s), (iv h)]] (obs_nil) ?_
        refine T_r mixed [] [ps 1 (.opt 0 0), ps 4 (sv (st ([45] : List UInt8))), pb 0 37 [(iv (0 - s)), (iv (0 - h))]] (obs_cons (by simp only [InK]; omega : InK .i64 (0 - s)) (obs_cons (by simp only [InK]; omega : InK .i64 (0 - h)) obs_nil)) ?_
        refine T_seq ?_
        obtain ⟨x, hx⟩ : ∃ x, x = 0 - s := ⟨_, rfl⟩
        obtain ⟨y, hy⟩ : ∃ y, y = 0 - h := ⟨_, rfl⟩
        refine T_wk (Wk.eq (show _ = [ps 1 (.opt 0 0), ps 4 (sv (st ([45] : List UInt8))), pb 0 37 [(iv x), (iv y)]] from by rw [hx, hy])) ?_
        have hnb := Pi.nat7_range (x % 7)
        have hl2 := itoa_len (o := x + 1) (by omega) (by omega)
        refine T_r mixed [(2, .call [] [(iv x), (iv 7)] [] (.tup [(iv (x / 7)), (iv (x % 7))]) [])] [ps 1 (.opt 0 0), ps 4 (sv (st ([45] : List UInt8))), ps 5 (iv (x / 7)), ps 6 (iv (x % 7)), pb 0 37 [(iv x), (iv y)]] (obs_cons (pfloor_pc x (by omega) (by omega)) (obs_cons (rfl : Ren0 264 [(iv x), (iv 7)]) obs_nil)) ?_
        refine T_seq ?_
        refine T_rd mixed [(6, .call [] [(iv (x % 7))] [] (iv (Pi.nat7 (x % 7))) [])] [[], [0], [], [2], [0, 1, 2, 3], [], [5], [0, 1, 2, 3, 4, 5, 6], [0, 1, 2, 3, 4, 5, 6, 7]] [([78], [2]), ([80], [1, 78]), ([82], [10]), ([84], [82]), ([86], [80, 84]), ([88], [12]), ([90], [88]), ([92], [86, 90]), ([14], [92])] [ps 1 (.opt 0 0), ps 4 (sv (st ([45] : List UInt8))), ps 7 (iv ((y - (12 * (x / 7))) - (Pi.nat7 (x % 7)))), pb 0 37 [(iv x), (iv y)]] (obs_cons (by simp only [InK]; omega : InK .i64 (12 * (x / 7))) (obs_cons (by simp only [InK]; omega : InK .i64 (y - (12 * (x / 7)))) (obs_cons (natural_pc (x % 7)) (obs_cons (rfl : Ren0 360 [(iv (x % 7))]) (obs_cons (by simp only [InK]; omega : InK .i64 ((y - (12 * (x / 7))) - (Pi.nat7 (x % 7)))) obs_nil))))) ?_
        refine T_seq ?_
        obtain ⟨m, hm⟩ : ∃ m, m = moreOf x y := ⟨_, rfl⟩
        have hmb : -9000 ≤ m ∧ m ≤ 9000 := by rw [hm]; unfold moreOf; omega
        refine T_wk (Wk.eq (show _ = [ps 1 (.opt 0 0), ps 4 (sv (st ([45] : List UInt8))), ps 7 (iv m), pb 0 37 [(iv x), (iv y)]] from by rw [hm]; rfl)) ?_
        refine T_r mixed [] [ps 1 (.opt 0 0), ps 4 (sv (st ([45] : List UInt8))), ps 7 (iv m), pb 0 37 [(iv x), (iv y)]] (obs_nil) ?_
        refine T_seq <| T_block <| T_seq ?_
        refine T_r mixed [] [ps 1 (.opt 0 0), ps 4 (sv (st ([45] : List UInt8))), ps 7 (iv m), ps 52 (bv (decide (0 < m))), pb 0 37 [(iv x), (iv y)]] (obs_nil) ?_
        by_cases h13 : 0 < m
        · refine T_th (decide_eq_true h13) ?_
          refine T_r mixed [(2, .call [] [(sv (st ([65] : List UInt8))), (nv ((min m 7).toNat))] [] (sv (st (Lib.repeatL ([65] : List UInt8) ((min m 7).toNat)))) [])] [ps 1 (.opt 0 0), ps 4 (sv (st ([45] : List UInt8))), ps 8 (sv (st (Lib.repeatL ([65] : List UInt8) ((min m 7).toNat)))), pb 0 37 [(iv x), (iv y)]] (obs_cons (repeat_pc ([65] : List UInt8) ((min m 7).toNat) (by omega) (by simp only [List.length_cons, List.length_nil]; omega)) (obs_cons (congrArg (fun z => [(sv (st ([65] : List UInt8))), iv z]) (show min m 7 = (((min m 7).toNat : Nat) : Int) from by omega) : [(sv (st ([65] : List UInt8))), (iv (min m 7))] = renL (sigi [] 432) [(sv (st ([65] : List UInt8))), (nv ((min m 7).toNat))]) obs_nil)) ?_
          refine T_blk <| T_seq <| T_seq ?_
          refine T_r mixed [] [ps 1 (.opt 0 0), ps 4 (sv (st ([45] : List UInt8))), ps 8 (sv (st (Lib.repeatL ([65] : List UInt8) ((min m 7).toNat)))), ps 82 (bv (decide (6 < (((Lib.repeatL ([65] : List UInt8) ((min m 7).toNat)).length : Nat) : Int)))), pb 0 37 [(iv x), (iv y)]] (obs_nil) ?_
          by_cases h14 : 6 < (((Lib.repeatL ([65] : List UInt8) ((min m 7).toNat)).length : Nat) : Int)
          · refine T_th (decide_eq_true h14) ?_
            refine T_seq ?_
            refine T_r mixed [] [ps 2 (sv (st ([] : List UInt8))), ps 3 (iv 3)] (obs_nil) ?_
            rw [nameS_neg (s := s) (h := h) h1 (.inr ⟨h11, h12⟩) (Eq.trans (by rw [← hx, ← hy]) (nameA_far (by rw [← hm]; exact (qual_up h13)) h14))]
            exact T_ret fun cx_ a_ hI_ => rt hc0 [ps 2 (sv (st ([] : List UInt8))), ps 3 (iv 3)] [] hI_
          refine T_el (decide_eq_false h14) ?_
          refine T_skip <| T_seq ?_
          refine T_r mixed [(2, .val (.av (.string (st (([45] : List UInt8) ++ (Lib.repeatL ([65] : List UInt8) ((min m 7).toNat))))))), (6, .call [] [(iv (x + 1))] [] (sv (st (Lib.itoa (x + 1)))) []), (7, .val (.av (.string (st ((([45] : List UInt8) ++ (Lib.repeatL ([65] : List UInt8) ((min m 7).toNat))) ++ (Lib.itoa (x + 1)))))))] [ps 2 (sv (st ((([45] : List UInt8) ++ (Lib.repeatL ([65] : List UInt8) ((min m 7).toNat))) ++ (Lib.itoa (x + 1))))), ps 3 (iv 0)] (obs_cons (by first | omega | (simp only [List.length_append, List.length_cons, List.length_nil]; omega) : ((([45] : List UInt8).length + (Lib.repeatL ([65] : List UInt8) ((min m 7).toNat)).length : Nat) : Int) ≤ 9223372036854775807) (obs_cons (st_app _ _ : st ([45] : List UInt8) ++ st (Lib.repeatL ([65] : List UInt8) ((min m 7).toNat)) = st (([45] : List UInt8) ++ (Lib.repeatL ([65] : List UInt8) ((min m 7).toNat)))) (obs_cons (by simp only [InK]; omega : InK .i64 (x + 1)) (obs_cons (itoa_pc (x + 1) (by omega) (by omega)) (obs_cons (rfl : Ren0 520 [(iv (x + 1))]) (obs_cons (by first | omega | (simp only [List.length_append, List.length_cons, List.length_nil]; omega) : (((([45] : List UInt8) ++ (Lib.repeatL ([65] : List UInt8) ((min m 7).toNat))).length + (Lib.itoa (x + 1)).length : Nat) : Int) ≤ 9223372036854775807) (obs_cons (st_app _ _ : st (([45] : List UInt8) ++ (Lib.repeatL ([65] : List UInt8) ((min m 7).toNat))) ++ st (Lib.itoa (x + 1)) = st ((([45] : List UInt8) ++ (Lib.repeatL ([65] : List UInt8) ((min m 7).toNat))) ++ (Lib.itoa (x + 1)))) obs_nil))))))) ?_
          rw [nameS_neg (s := s) (h := h) h1 (.inr ⟨h11, h12⟩) (Eq.trans (by rw [← hx, ← hy]) (nameA_ok (by rw [← hm]; exact (qual_up h13)) h14))]
          exact T_ret fun cx_ a_ hI_ => rt hc0 [ps 2 (sv (st ((([45] : List UInt8) ++ (Lib.repeatL ([65] : List UInt8) ((min m 7).toNat))) ++ (Lib.itoa (x + 1))))), ps 3 (iv 0)] [] hI_
        refine T_el (decide_eq_false h13) ?_
        refine T_seq ?_
        by_cases h15 : m = 0
        · refine T_r mixed [(3, .gd true (.no)), (4, .gd true (.no)), (5, .gd true (.call [] [(iv x)] [] (bv (perfB x)) [])), (6, .yes true)] [ps 1 (.opt 0 0), ps 4 (sv (st ([45] : List UInt8))), ps 7 (iv m), ps 58 (bv (perfB x)), pb 0 37 [(iv x), (iv y)]] (obs_cons (decide_eq_true h15) (obs_cons (decide_eq_true h15) (obs_cons (decide_eq_true h15) (obs_cons (perfect_pc x (by omega)) (obs_cons (rfl : Ren0 456 [(iv x)]) (obs_cons (decide_eq_true h15) obs_nil)))))) ?_
          by_cases h16 : (perfB x) = true
          · refine T_then (b := (perfB x)) rfl h16 ?_
            refine T_r mixed [] [ps 1 (.opt 0 0), ps 4 (sv (st ([45] : List UInt8))), ps 8 (sv (st ([80] : List UInt8))), pb 0 37 [(iv x), (iv y)]] (obs_nil) ?_
            refine T_blk <| T_seq <| T_seq ?_
            refine T_r mixed [] [ps 1 (.opt 0 0), ps 4 (sv (st ([45] : List UInt8))), ps 8 (sv (st ([80] : List UInt8))), ps 82 (bv false), pb 0 37 [(iv x), (iv y)]] (obs_nil) ?_
            refine T_else (b := false) rfl rfl ?_
            refine T_skip <| T_seq ?_
            refine T_r mixed [(2, .val (.av (.string (st (([45] : List UInt8) ++ ([80] : List UInt8)))))), (6, .call [] [(iv (x + 1))] [] (sv (st (Lib.itoa (x + 1)))) []), (7, .val (.av (.string (st ((([45] : List UInt8) ++ ([80] : List UInt8)) ++ (Lib.itoa (x + 1)))))))] [ps 2 (sv (st ((([45] : List UInt8) ++ ([80] : List UInt8)) ++ (Lib.itoa (x + 1))))), ps 3 (iv 0)] (obs_cons (by first | omega | (simp only [List.length_append, List.length_cons, List.length_nil]; omega) : ((([45] : List UInt8).length + ([80] : List UInt8).length : Nat) : Int) ≤ 9223372036854775807) (obs_cons (st_app _ _ : st ([45] : List UInt8) ++ st ([80] : List UInt8) = st (([45] : List UInt8) ++ ([80] : List UInt8))) (obs_cons (by simp only [InK]; omega : InK .i64 (x + 1)) (obs_cons (itoa_pc (x + 1) (by omega) (by omega)) (obs_cons (rfl : Ren0 560 [(iv (x + 1))]) (obs_cons (by first | omega | (simp only [List.length_append, List.length_cons, List.length_nil]; omega) : (((([45] : List UInt8) ++ ([80] : List UInt8)).length + (Lib.itoa (x + 1)).length : Nat) : Int) ≤ 9223372036854775807) (obs_cons (st_app _ _ : st (([45] : List UInt8) ++ ([80] : List UInt8)) ++ st (Lib.itoa (x + 1)) = st ((([45] : List UInt8) ++ ([80] : List UInt8)) ++ (Lib.itoa (x + 1)))) obs_nil))))))) ?_
            rw [nameS_neg (s := s) (h := h) h1 (.inr ⟨h11, h12⟩) (Eq.trans (by rw [← hx, ← hy]) (nameA_ok (q := [80]) (by rw [← hm]; exact (qual_P h15 h16)) (by decide)))]
            exact T_ret fun cx_ a_ hI_ => rt hc0 [ps 2 (sv (st ((([45] : List UInt8) ++ ([80] : List UInt8)) ++ (Lib.itoa (x + 1))))), ps 3 (iv 0)] [] hI_
          refine T_else (b := (perfB x)) rfl (Bool.eq_false_iff.2 h16) ?_
          refine T_seq ?_
          refine T_r mixed [] [ps 1 (.opt 0 0), ps 4 (sv (st ([45] : List UInt8))), ps 7 (iv m), ps 66 (bv (decide (m = 0))), pb 0 37 [(iv x), (iv y)]] (obs_nil) ?_
          refine T_th (decide_eq_true h15) ?_
          refine T_r mixed [] [ps 1 (.opt 0 0), ps 4 (sv (st ([45] : List UInt8))), ps 8 (sv (st ([77] : List UInt8))), pb 0 37 [(iv x), (iv y)]] (obs_nil) ?_
          refine T_blk <| T_seq <| T_seq ?_
          refine T_r mixed [] [ps 1 (.opt 0 0), ps 4 (sv (st ([45] : List UInt8))), ps 8 (sv (st ([77] : List UInt8))), ps 82 (bv false), pb 0 37 [(iv x), (iv y)]] (obs_nil) ?_
          refine T_else (b := false) rfl rfl ?_
          refine T_skip <| T_seq ?_
          refine T_r mixed [(2, .val (.av (.string (st (([45] : List UInt8) ++ ([77] : List UInt8)))))), (6, .call [] [(iv (x + 1))] [] (sv (st (Lib.itoa (x + 1)))) []), (7, .val (.av (.string (st ((([45] : List UInt8) ++ ([77] : List UInt8)) ++ (Lib.itoa (x + 1)))))))] [ps 2 (sv (st ((([45] : List UInt8) ++ ([77] : List UInt8)) ++ (Lib.itoa (x + 1))))), ps 3 (iv 0)] (obs_cons (by first | omega | (simp only [List.length_append, List.length_cons, List.length_nil]; omega) : ((([45] : List UInt8).length + ([77] : List UInt8).length : Nat) : Int) ≤ 9223372036854775807) (obs_cons (st_app _ _ : st ([45] : List UInt8) ++ st ([77] : List UInt8) = st (([45] : List UInt8) ++ ([77] : List UInt8))) (obs_cons (by simp only [InK]; omega : InK .i64 (x + 1)) (obs_cons (itoa_pc (x + 1) (by omega) (by omega)) (obs_cons (rfl : Ren0 584 [(iv (x + 1))]) (obs_cons (by first | omega | (simp only [List.length_append, List.length_cons, List.length_nil]; omega) : (((([45] : List UInt8) ++ ([77] : List UInt8)).length + (Lib.itoa (x + 1)).length : Nat) : Int) ≤ 9223372036854775807) (obs_cons (st_app _ _ : st (([45] : List UInt8) ++ ([77] : List UInt8)) ++ st (Lib.itoa (x + 1)) = st ((([45] : List UInt8) ++ ([77] : List UInt8)) ++ (Lib.itoa (x + 1)))) obs_nil))))))) ?_
          rw [nameS_neg (s := s) (h := h) h1 (.inr ⟨h11, h12⟩) (Eq.trans (by rw [← hx, ← hy]) (nameA_ok (q := [77]) (by rw [← hm]; exact (qual_M h15 h16)) (by decide)))]
          exact T_ret fun cx_ a_ hI_ => rt hc0 [ps 2 (sv (st ((([45] : List UInt8) ++ ([77] : List UInt8)) ++ (Lib.itoa (x + 1))))), ps 3 (iv 0)] [] hI_
        refine T_r mixed [(3, .gd false .no), (4, .gd false .no), (5, .gd false .no), (6, .yes false)] [ps 1 (.opt 0 0), ps 4 (sv (st ([45] : List UInt8))), ps 7 (iv m), ps 58 (bv false), pb 0 37 [(iv x), (iv y)]] (obs_cons (decide_eq_false h15) (obs_cons (decide_eq_false h15) (obs_cons (decide_eq_false h15) (obs_cons (decide_eq_false h15) obs_nil)))) ?_
        refine T_else (b := false) rfl rfl ?_
        refine T_seq ?_
        refine T_r mixed [] [ps 1 (.opt 0 0), ps 4 (sv (st ([45] : List UInt8))), ps 7 (iv m), ps 66 (bv (decide (m = 0))), pb 0 37 [(iv x), (iv y)]] (obs_nil) ?_
        refine T_el (decide_eq_false h15) ?_
        refine T_seq ?_
        refine T_r mixed [(2, .call [] [(iv x)] [] (bv (perfB x)) [])] [ps 1 (.opt 0 0), ps 4 (sv (st ([45] : List UInt8))), ps 7 (iv m), ps 69 (bv (perfB x)), pb 0 37 [(iv x), (iv y)]] (obs_cons (perfect_pc x (by omega)) (obs_cons (rfl : Ren0 520 [(iv x)]) obs_nil)) ?_
        by_cases h17 : (perfB x) = true
        · refine T_then (b := (perfB x)) rfl h17 ?_
          refine T_r mixed [(3, .call [] [(sv (st ([100] : List UInt8))), (nv ((min (0 - m) 7).toNat))] [] (sv (st (Lib.repeatL ([100] : List UInt8) ((min (0 - m) 7).toNat)))) [])] [ps 1 (.opt 0 0), ps 4 (sv (st ([45] : List UInt8))), ps 8 (sv (st (Lib.repeatL ([100] : List UInt8) ((min (0 - m) 7).toNat)))), pb 0 37 [(iv x), (iv y)]] (obs_cons (by simp only [InK]; omega : InK .i64 (0 - m)) (obs_cons (repeat_pc ([100] : List UInt8) ((min (0 - m) 7).toNat) (by omega) (by simp only [List.length_cons, List.length_nil]; omega)) (obs_cons (congrArg (fun z => [(sv (st ([100] : List UInt8))), iv z]) (show min (0 - m) 7 = (((min (0 - m) 7).toNat : Nat) : Int) from by omega) : [(sv (st ([100] : List UInt8))), (iv (min (0 - m) 7))] = renL (sigi [] 560) [(sv (st ([100] : List UInt8))), (nv ((min (0 - m) 7).toNat))]) obs_nil))) ?_
          refine T_blk <| T_seq <| T_seq ?_
          refine T_r mixed [] [ps 1 (.opt 0 0), ps 4 (sv (st ([45] : List UInt8))), ps 8 (sv (st (Lib.repeatL ([100] : List UInt8) ((min (0 - m) 7).toNat)))), ps 82 (bv (decide (6 < (((Lib.repeatL ([100] : List UInt8) ((min (0 - m) 7).toNat)).length : Nat) : Int)))), pb 0 37 [(iv x), (iv y)]] (obs_nil) ?_
          by_cases h18 : 6 < (((Lib.repeatL ([100] : List UInt8) ((min (0 - m) 7).toNat)).length : Nat) : Int)
          · refine T_th (decide_eq_true h18) ?_
            refine T_seq ?_
            refine T_r mixed [] [ps 2 (sv (st ([] : List UInt8))), ps 3 (iv 3)] (obs_nil) ?_
            rw [nameS_neg (s := s) (h := h) h1 (.inr ⟨h11, h12⟩) (Eq.trans (by rw [← hx, ← hy]) (nameA_far (by rw [← hm]; exact (qual_d h13 h15 h17)) h18))]
            exact T_ret fun cx_ a_ hI_ => rt hc0 [ps 2 (sv (st ([] : List UInt8))), ps 3 (iv 3)] [] hI_
          refine T_el (decide_eq_false h18) ?_
          refine T_skip <| T_seq ?_
          refine T_r mixed [(2, .val (.av (.string (st (([45] : List UInt8) ++ (Lib.repeatL ([100] : List UInt8) ((min (0 - m) 7).toNat))))))), (6, .call [] [(iv (x + 1))] [] (sv (st (Lib.itoa (x + 1)))) []), (7, .val (.av (.string (st ((([45] : List UInt8) ++ (Lib.repeatL ([100] : List UInt8) ((min (0 - m) 7).toNat))) ++ (Lib.itoa (x + 1)))))))] [ps 2 (sv (st ((([45] : List UInt8) ++ (Lib.repeatL ([100] : List UInt8) ((min (0 - m) 7).toNat))) ++ (Lib.itoa (x + 1))))), ps 3 (iv 0)] (obs_cons (by first | omega | (simp only [List.length_append, List.length_cons, List.length_nil]; omega) : ((([45] : List UInt8).length + (Lib.repeatL ([100] : List UInt8) ((min (0 - m) 7).toNat)).length : Nat) : Int) ≤ 9223372036854775807) (obs_cons (st_app _ _ : st ([45] : List UInt8) ++ st (Lib.repeatL ([100] : List UInt8) ((min (0 - m) 7).toNat)) = st (([45] : List UInt8) ++ (Lib.repeatL ([100] : List UInt8) ((min (0 - m) 7).toNat)))) (obs_cons (by simp only [InK]; omega : InK .i64 (x + 1)) (obs_cons (itoa_pc (x + 1) (by omega) (by omega)) (obs_cons (rfl : Ren0 648 [(iv (x + 1))]) (obs_cons (by first | omega | (simp only [List.length_append, List.length_cons, List.length_nil]; omega) : (((([45] : List UInt8) ++ (Lib.repeatL ([100] : List UInt8) ((min (0 - m) 7).toNat))).length + (Lib.itoa (x + 1)).length : Nat) : Int) ≤ 9223372036854775807) (obs_cons (st_app _ _ : st (([45] : List UInt8) ++ (Lib.repeatL ([100] : List UInt8) ((min (0 - m) 7).toNat))) ++ st (Lib.itoa (x + 1)) = st ((([45] : List UInt8) ++ (Lib.repeatL ([100] : List UInt8) ((min (0 - m) 7).toNat))) ++ (Lib.itoa (x + 1)))) obs_nil))))))) ?_
          rw [nameS_neg (s := s) (h := h) h1 (.inr ⟨h11, h12⟩) (Eq.trans (by rw [← hx, ← hy]) (nameA_ok (by rw [← hm]; exact (qual_d h13 h15 h17)) h18))]
          exact T_ret fun cx_ a_ hI_ => rt hc0 [ps 2 (sv (st ((([45] : List UInt8) ++ (Lib.repeatL ([100] : List UInt8) ((min (0 - m) 7).toNat))) ++ (Lib.itoa (x + 1))))), ps 3 (iv 0)] [] hI_
        refine T_else (b := (perfB x)) rfl (Bool.eq_false_iff.2 h17) ?_
        refine T_seq ?_
        refine T_r mixed [] [ps 1 (.opt 0 0), ps 4 (sv (st ([45] : List UInt8))), ps 7 (iv m), ps 77 (bv (decide (m = (-1)))), pb 0 37 [(iv x), (iv y)]] (obs_nil) ?_
        by_cases h19 : m = (-1)
        · refine T_th (decide_eq_true h19) ?_
          refine T_r mixed [] [ps 1 (.opt 0 0), ps 4 (sv (st ([45] : List UInt8))), ps 8 (sv (st ([109] : List UInt8))), pb 0 37 [(iv x), (iv y)]] (obs_nil) ?_
          refine T_blk <| T_seq <| T_seq ?_
          refine T_r mixed [] [ps 1 (.opt 0 0), ps 4 (sv (st ([45] : List UInt8))), ps 8 (sv (st ([109] : List UInt8))), ps 82 (bv false), pb 0 37 [(iv x), (iv y)]] (obs_nil) ?_
          refine T_else (b := false) rfl rfl ?_
          refine T_skip <| T_seq ?_
          refine T_r mixed [(2, .val (.av (.string (st (([45] : List UInt8) ++ ([109] : List UInt8)))))), (6, .call [] [(iv (x + 1))] [] (sv (st (Lib.itoa (x + 1)))) []), (7, .val (.av (.string (st ((([45] : List UInt8) ++ ([109] : List UInt8)) ++ (Lib.itoa (x + 1)))))))] [ps 2 (sv (st ((([45] : List UInt8) ++ ([109] : List UInt8)) ++ (Lib.itoa (x + 1))))), ps 3 (iv 0)] (obs_cons (by first | omega | (simp only [List.length_append, List.length_cons, List.length_nil]; omega) : ((([45] : List UInt8).length + ([109] : List UInt8).length : Nat) : Int) ≤ 9223372036854775807) (obs_cons (st_app _ _ : st ([45] : List UInt8) ++ st ([109] : List UInt8) = st (([45] : List UInt8) ++ ([109] : List UInt8))) (obs_cons (by simp only [InK]; omega : InK .i64 (x + 1)) (obs_cons (itoa_pc (x + 1) (by omega) (by omega)) (obs_cons (rfl : Ren0 640 [(iv (x + 1))]) (obs_cons (by first | omega | (simp only [List.length_append, List.length_cons, List.length_nil]; omega) : (((([45] : List UInt8) ++ ([109] : List UInt8)).length + (Lib.itoa (x + 1)).length : Nat) : Int) ≤ 9223372036854775807) (obs_cons (st_app _ _ : st (([45] : List UInt8) ++ ([109] : List UInt8)) ++ st (Lib.itoa (x + 1)) = st ((([45] : List UInt8) ++ ([109] : List UInt8)) ++ (Lib.itoa (x + 1)))) obs_nil))))))) ?_
          rw [nameS_neg (s := s) (h := h) h1 (.inr ⟨h11, h12⟩) (Eq.trans (by rw [← hx, ← hy]) (nameA_ok (q := [109]) (by rw [← hm]; exact (qual_m h19 h17)) (by decide)))]
          exact T_ret fun cx_ a_ hI_ => rt hc0 [ps 2 (sv (st ((([45] : List UInt8) ++ ([109] : List UInt8)) ++ (Lib.itoa (x + 1))))), ps 3 (iv 0)] [] hI_
        refine T_el (decide_eq_false h19) ?_
        refine T_r mixed [(4, .call [] [(sv (st ([100] : List UInt8))), (nv ((min ((0 - m) - 1) 7).toNat))] [] (sv (st (Lib.repeatL ([100] : List UInt8) ((min ((0 - m) - 1) 7).toNat)))) [])] [ps 1 (.opt 0 0), ps 4 (sv (st ([45] : List UInt8))), ps 8 (sv (st (Lib.repeatL ([100] : List UInt8) ((min ((0 - m) - 1) 7).toNat)))), pb 0 37 [(iv x), (iv y)]] (obs_cons (by simp only [InK]; omega : InK .i64 (0 - m)) (obs_cons (by simp only [InK]; omega : InK .i64 ((0 - m) - 1)) (obs_cons (repeat_pc ([100] : List UInt8) ((min ((0 - m) - 1) 7).toNat) (by omega) (by simp only [List.length_cons, List.length_nil]; omega)) (obs_cons (congrArg (fun z => [(sv (st ([100] : List UInt8))), iv z]) (show min ((0 - m) - 1) 7 = (((min ((0 - m) - 1) 7).toNat : Nat) : Int) from by omega) : [(sv (st ([100] : List UInt8))), (iv (min ((0 - m) - 1) 7))] = renL (sigi [] 592) [(sv (st ([100] : List UInt8))), (nv ((min ((0 - m) - 1) 7).toNat))]) obs_nil)))) ?_
        refine T_blk <| T_seq <| T_seq ?_
        refine T_r mixed [] [ps 1 (.opt 0 0), ps 4 (sv (st ([45] : List UInt8))), ps 8 (sv (st (Lib.repeatL ([100] : List UInt8) ((min ((0 - m) - 1) 7).toNat)))), ps 82 (bv (decide (6 < (((Lib.repeatL ([100] : List UInt8) ((min ((0 - m) - 1) 7).toNat)).length : Nat) : Int)))), pb 0 37 [(iv x), (iv y)]] (obs_nil) ?_
        by_cases h20 : 6 < (((Lib.repeatL ([100] : List UInt8) ((min ((0 - m) - 1) 7).toNat)).length : Nat) : Int)
        · refine T_th (decide_eq_true h20) ?_
          refine T_seq ?_
          refine T_r mixed [] [ps 2 (sv (st ([] : List UInt8))), ps 3 (iv 3)] (obs_nil) ?_
          rw [nameS_neg (s := s) (h := h) h1 (.inr ⟨h11, h12⟩) (Eq.trans (by rw [← hx, ← hy]) (nameA_far (by rw [← hm]; exact (qual_dd h13 h15 h17 h19)) h20))]
          exact T_ret fun cx_ a_ hI_ => rt hc0 [ps 2 (sv (st ([] : List UInt8))), ps 3 (iv 3)] [] hI_
        refine T_el (decide_eq_false h20) ?_
        refine T_skip <| T_seq ?_
        refine T_r mixed [(2, .val (.av (.string (st (([45] : List UInt8) ++ (Lib.repeatL ([100] : List UInt8) ((min ((0 - m) - 1) 7).toNat))))))), (6, .call [] [(iv (x + 1))] [] (sv (st (Lib.itoa (x + 1)))) []), (7, .val (.av (.string (st ((([45] : List UInt8) ++ (Lib.repeatL ([100] : List UInt8) ((min ((0 - m) - 1) 7).toNat))) ++ (Lib.itoa (x + 1)))))))] [ps 2 (sv (st ((([45] : List UInt8) ++ (Lib.repeatL ([100] : List UInt8) ((min ((0 - m) - 1) 7).toNat))) ++ (Lib.itoa (x + 1))))), ps 3 (iv 0)] (obs_cons (by first | omega | (simp only [List.length_append, List.length_cons, List.length_nil]; omega) : ((([45] : List UInt8).length + (Lib.repeatL ([100] : List UInt8) ((min ((0 - m) - 1) 7).toNat)).length : Nat) : Int) ≤ 9223372036854775807) (obs_cons (st_app _ _ : st ([45] : List UInt8) ++ st (Lib.repeatL ([100] : List UInt8) ((min ((0 - m) - 1) 7).toNat)) = st (([45] : List UInt8) ++ (Lib.repeatL ([100] : List UInt8) ((min ((0 - m) - 1) 7).toNat)))) (obs_cons (by simp only [InK]; omega : InK .i64 (x + 1)) (obs_cons (itoa_pc (x + 1) (by omega) (by omega)) (obs_cons (rfl : Ren0 680 [(iv (x + 1))]) (obs_cons (by first | omega | (simp only [List.length_append, List.length_cons, List.length_nil]; omega) : (((([45] : List UInt8) ++ (Lib.repeatL ([100] : List UInt8) ((min ((0 - m) - 1) 7).toNat))).length + (Lib.itoa (x + 1)).length : Nat) : Int) ≤ 9223372036854775807) (obs_cons (st_app _ _ : st (([45] : List UInt8) ++ (Lib.repeatL ([100] : List UInt8) ((min ((0 - m) - 1) 7).toNat))) ++ st (Lib.itoa (x + 1)) = st ((([45] : List UInt8) ++ (Lib.repeatL ([100] : List UInt8) ((min ((0 - m) - 1) 7).toNat))) ++ (Lib.itoa (x + 1)))) obs_nil))))))) ?_
        rw [nameS_neg (s := s) (h := h) h1 (.inr ⟨h11, h12⟩) (Eq.trans (by rw [← hx, ← hy]) (nameA_ok (by rw [← hm]; exact (qual_dd h13 h15 h17 h19)) h20))]
        exact T_ret fun cx_ a_ hI_ => rt hc0 [ps 2 (sv (st ((([45] : List UInt8) ++ (Lib.repeatL ([100] : List UInt8) ((min ((0 - m) - 1) 7).toNat))) ++ (Lib.itoa (x + 1))))), ps 3 (iv 0)] [] hI_
      refine T_el (decide_eq_false h12) ?_
      refine T_skip <| T_seq ?_
      obtain ⟨x, hx⟩ : ∃ x, x = s := ⟨_, rfl⟩
      obtain ⟨y, hy⟩ : ∃ y, y = h := ⟨_, rfl⟩
      refine T_wk (Wk.eq (show _ = [ps 1 (.opt 0 0), ps 4 (sv (st ([] : List UInt8))), ps 24 (bv (decide (h < 0))), pb 0 37 [(iv x), (iv y)]] from by rw [hx, hy])) ?_
      have hnb := Pi.nat7_range (x % 7)
      have hl2 := itoa_len (o := x + 1) (by omega) (by omega)
      refine T_r mixed [(2, .call [] [(iv x), (iv 7)] [] (.tup [(iv (x / 7)), (iv (x % 7))]) [])] [ps 1 (.opt 0 0), ps 4 (sv (st ([] : List UInt8))), ps 5 (iv (x / 7)), ps 6 (iv (x % 7)), pb 0 37 [(iv x), (iv y)]] (obs_cons (pfloor_pc x (by omega) (by omega)) (obs_cons (rfl : Ren0 176 [(iv x), (iv 7)]) obs_nil)) ?_
      refine T_seq ?_
      refine T_rd mixed [(6, .call [] [(iv (x % 7))] [] (iv (Pi.nat7 (x % 7))) [])] [[], [0], [], [2], [0, 1, 2, 3], [], [5], [0, 1, 2, 3, 4, 5, 6], [0, 1, 2, 3, 4, 5, 6, 7]] [([78], [2]), ([80], [1, 78]), ([82], [10]), ([84], [82]), ([86], [80, 84]), ([88], [12]), ([90], [88]), ([92], [86, 90]), ([14], [92])] [ps 1 (.opt 0 0), ps 4 (sv (st ([] : List UInt8))), ps 7 (iv ((y - (12 * (x / 7))) - (Pi.nat7 (x % 7)))), pb 0 37 [(iv x), (iv y)]] (obs_cons (by simp only [InK]; omega : InK .i64 (12 * (x / 7))) (obs_cons (by simp only [InK]; omega : InK .i64 (y - (12 * (x / 7)))) (obs_cons (natural_pc (x % 7)) (obs_cons (rfl : Ren0 272 [(iv (x % 7))]) (obs_cons (by simp only [InK]; omega : InK .i64 ((y - (12 * (x / 7))) - (Pi.nat7 (x % 7)))) obs_nil))))) ?_
      refine T_seq ?_
      obtain ⟨m, hm⟩ : ∃ m, m = moreOf x y := ⟨_, rfl⟩
      have hmb : -9000 ≤ m ∧ m ≤ 9000 := by rw [hm]; unfold moreOf; omega
      refine T_wk (Wk.eq (show _ = [ps 1 (.opt 0 0), ps 4 (sv (st ([] : List UInt8))), ps 7 (iv m), pb 0 37 [(iv x), (iv y)]] from by rw [hm]; rfl)) ?_
      refine T_r mixed [] [ps 1 (.opt 0 0), ps 4 (sv (st ([] : List UInt8))), ps 7 (iv m), pb 0 37 [(iv x), (iv y)]] (obs_nil) ?_
      refine T_seq <| T_block <| T_seq ?_
      refine T_r mixed [] [ps 1 (.opt 0 0), ps 4 (sv (st ([] : List UInt8))), ps 7 (iv m), ps 52 (bv (decide (0 < m))), pb 0 37 [(iv x), (iv y)]] (obs_nil) ?_
      by_cases h21 : 0 < m
      · refine T_th (decide_eq_true h21) ?_
        refine T_r mixed [(2, .call [] [(sv (st ([65] : List UInt8))), (nv ((min m 7).toNat))] [] (sv (st (Lib.repeatL ([65] : List UInt8) ((min m 7).toNat)))) [])] [ps 1 (.opt 0 0), ps 4 (sv (st ([] : List UInt8))), ps 8 (sv (st (Lib.repeatL ([65] : List UInt8) ((min m 7).toNat)))), pb 0 37 [(iv x), (iv y)]] (obs_cons (repeat_pc ([65] : List UInt8) ((min m 7).toNat) (by omega) (by simp only [List.length_cons, List.length_nil]; omega)) (obs_cons (congrArg (fun z => [(sv (st ([65] : List UInt8))), iv z]) (show min m 7 = (((min m 7).toNat : Nat) : Int) from by omega) : [(sv (st ([65] : List UInt8))), (iv (min m 7))] = renL (sigi [] 344) [(sv (st ([65] : List UInt8))), (nv ((min m 7).toNat))]) obs_nil)) ?_
        refine T_blk <| T_seq <| T_seq ?_
        refine T_r mixed [] [ps 1 (.opt 0 0), ps 4 (sv (st ([] : List UInt8))), ps 8 (sv (st (Lib.repeatL ([65] : List UInt8) ((min m 7).toNat)))), ps 82 (bv (decide (6 < (((Lib.repeatL ([65] : List UInt8) ((min m 7).toNat)).length : Nat) : Int)))), pb 0 37 [(iv x), (iv y)]] (obs_nil) ?_
        by_cases h22 : 6 < (((Lib.repeatL ([65] : List UInt8) ((min m 7).toNat)).length : Nat) : Int)
        · refine T_th (decide_eq_true h22) ?_
          refine T_seq ?_
          refine T_r mixed [] [ps 2 (sv (st ([] : List UInt8))), ps 3 (iv 3)] (obs_nil) ?_
          rw [nameS_pos (s := s) (h := h) h1 (by omega) (Eq.trans (by rw [← hx, ← hy]) (nameA_far (by rw [← hm]; exact (qual_up h21)) h22))]
          exact T_ret fun cx_ a_ hI_ => rt hc0 [ps 2 (sv (st ([] : List UInt8))), ps 3 (iv 3)] [] hI_
        refine T_el (decide_eq_false h22) ?_
        refine T_skip <| T_seq ?_
        refine T_r mixed [(2, .val (.av (.string (st (([] : List UInt8) ++ (Lib.repeatL ([65] : List UInt8) ((min m 7).toNat))))))), (6, .call [] [(iv (x + 1))] [] (sv (st (Lib.itoa (x + 1)))) []), (7, .val (.av (.string (st ((([] : List UInt8) ++ (Lib.repeatL ([65] : List UInt8) ((min m 7).toNat))) ++ (Lib.itoa (x + 1)))))))] [ps 2 (sv (st ((([] : List UInt8) ++ (Lib.repeatL ([65] : List UInt8) ((min m 7).toNat))) ++ (Lib.itoa (x + 1))))), ps 3 (iv 0)] (obs_cons (by first | omega | (simp only [List.length_append, List.length_cons, List.length_nil]; omega) : ((([] : List UInt8).length + (Lib.repeatL ([65] : List UInt8) ((min m 7).toNat)).length : Nat) : Int) ≤ 9223372036854775807) (obs_cons (st_app _ _ : st ([] : List UInt8) ++ st (Lib.repeatL ([65] : List UInt8) ((min m 7).toNat)) = st (([] : List UInt8) ++ (Lib.repeatL ([65] : List UInt8) ((min m 7).toNat)))) (obs_cons (by simp only [InK]; omega : InK .i64 (x + 1)) (obs_cons (itoa_pc (x + 1) (by omega) (by omega)) (obs_cons (rfl : Ren0 432 [(iv (x + 1))]) (obs_cons (by first | omega | (simp only [List.length_append, List.length_cons, List.length_nil]; omega) : (((([] : List UInt8) ++ (Lib.repeatL ([65] : List UInt8) ((min m 7).toNat))).length + (Lib.itoa (x + 1)).length : Nat) : Int) ≤ 9223372036854775807) (obs_cons (st_app _ _ : st (([] : List UInt8) ++ (Lib.repeatL ([65] : List UInt8) ((min m 7).toNat))) ++ st (Lib.itoa (x + 1)) = st ((([] : List UInt8) ++ (Lib.repeatL ([65] : List UInt8) ((min m 7).toNat))) ++ (Lib.itoa (x + 1)))) obs_nil))))))) ?_
        rw [nameS_pos (s := s) (h := h) h1 (by omega) (Eq.trans (by rw [← hx, ← hy]) (nameA_ok (by rw [← hm]; exact (qual_up h21)) h22))]
        exact T_ret fun cx_ a_ hI_ => rt hc0 [ps 2 (sv (st ((([] : List UInt8) ++ (Lib.repeatL ([65] : List UInt8) ((min m 7).toNat))) ++ (Lib.itoa (x + 1))))), ps 3 (iv 0)] [] hI_
      refine T_el (decide_eq_false h21) ?_
      refine T_seq ?_
      by_cases h23 : m = 0
      · refine T_r mixed [(3, .gd true (.no)), (4, .gd true (.no)), (5, .gd true (.call [] [(iv x)] [] (bv (perfB x)) [])), (6, .yes true)] [ps 1 (.opt 0 0), ps 4 (sv (st ([] : List UInt8))), ps 7 (iv m), ps 58 (bv (perfB x)), pb 0 37 [(iv x), (iv y)]] (obs_cons (decide_eq_true h23) (obs_cons (decide_eq_true h23) (obs_cons (decide_eq_true h23) (obs_cons (perfect_pc x (by omega)) (obs_cons (rfl : Ren0 368 [(iv x)]) (obs_cons (decide_eq_true h23) obs_nil)))))) ?_
        by_cases h24 : (perfB x) = true
        · refine T_then (b := (perfB x)) rfl h24 ?_
          refine T_r mixed [] [ps 1 (.opt 0 0), ps 4 (sv (st ([] : List UInt8))), ps 8 (sv (st ([80] : List UInt8))), pb 0 37 [(iv x), (iv y)]] (obs_nil) ?_
          refine T_blk <| T_seq <| T_seq ?_
          refine T_r mixed [] [ps 1 (.opt 0 0), ps 4 (sv (st ([] : List UInt8))), ps 8 (sv (st ([80] : List UInt8))), ps 82 (bv false), pb 0 37 [(iv x), (iv y)]] (obs_nil) ?_
          refine T_else (b := false) rfl rfl ?_
          refine T_skip <| T_seq ?_
          refine T_r mixed [(2, .val (.av (.string (st (([] : List UInt8) ++ ([80] : List UInt8)))))), (6, .call [] [(iv (x + 1))] [] (sv (st (Lib.itoa (x + 1)))) []), (7, .val (.av (.string (st ((([] : List UInt8) ++ ([80] : List UInt8)) ++ (Lib.itoa (x + 1)))))))] [ps 2 (sv (st ((([] : List UInt8) ++ ([80] : List UInt8)) ++ (Lib.itoa (x + 1))))), ps 3 (iv 0)] (obs_cons (by first | omega | (simp only [List.length_append, List.length_cons, List.length_nil]; omega) : ((([] : List UInt8).length + ([80] : List UInt8).length : Nat) : Int) ≤ 9223372036854775807) (obs_cons (st_app _ _ : st ([] : List UInt8) ++ st ([80] : List UInt8) = st (([] : List UInt8) ++ ([80] : List UInt8))) (obs_cons (by simp only [InK]; omega : InK .i64 (x + 1)) (obs_cons (itoa_pc (x + 1) (by omega) (by omega)) (obs_cons (rfl : Ren0 472 [(iv (x + 1))]) (obs_cons (by first | omega | (simp only [List.length_append, List.length_cons, List.length_nil]; omega) : (((([] : List UInt8) ++ ([80] : List UInt8)).length + (Lib.itoa (x + 1)).length : Nat) : Int) ≤ 9223372036854775807) (obs_cons (st_app _ _ : st (([] : List UInt8) ++ ([80] : List UInt8)) ++ st (Lib.itoa (x + 1)) = st ((([] : List UInt8) ++ ([80] : List UInt8)) ++ (Lib.itoa (x + 1)))) obs_nil))))))) ?_
          rw [nameS_pos (s := s) (h := h) h1 (by omega) (Eq.trans (by rw [← hx, ← hy]) (nameA_ok (q := [80]) (by rw [← hm]; exact (qual_P h23 h24)) (by decide)))]
          exact T_ret fun cx_ a_ hI_ => rt hc0 [ps 2 (sv (st ((([] : List UInt8) ++ ([80] : List UInt8)) ++ (Lib.itoa (x + 1))))), ps 3 (iv 0)] [] hI_
        refine T_else (b := (perfB x)) rfl (Bool.eq_false_iff.2 h24) ?_
        refine T_seq ?_
        refine T_r mixed [] [ps 1 (.opt 0 0), ps 4 (sv (st ([] : List UInt8))), ps 7 (iv m), ps 66 (bv (decide (m = 0))), pb 0 37 [(iv x), (iv y)]] (obs_nil) ?_
        refine T_th (decide_eq_true h23) ?_
        refine T_r mixed [] [ps 1 (.opt 0 0), ps 4 (sv (st ([] : List UInt8))), ps 8 (sv (st ([77] : List UInt8))), pb 0 37 [(iv x), (iv y)]] (obs_nil) ?_
        refine T_blk <| T_seq <| T_seq ?_
        refine T_r mixed [] [ps 1 (.opt 0 0), ps 4 (sv (st ([] : List UInt8))), ps 8 (sv (st ([77] : List UInt8))), ps 82 (bv false), pb 0 37 [(iv x), (iv y)]] (obs_nil) ?_
        refine T_else (b := false) rfl rfl ?_
        refine T_skip <| T_seq ?_
        refine T_r mixed [(2, .val (.av (.string (st (([] : List UInt8) ++ ([77] : List UInt8)))))), (6, .call [] [(iv (x + 1))] [] (sv (st (Lib.itoa (x + 1)))) []), (7, .val (.av (.string (st ((([] : List UInt8) ++ ([77] : List UInt8)) ++ (Lib.itoa (x + 1)))))))] [ps 2 (sv (st ((([] : List UInt8) ++ ([77] : List UInt8)) ++ (Lib.itoa (x + 1))))), ps 3 (iv 0)] (obs_cons (by first | omega | (simp only [List.length_append, List.length_cons, List.length_nil]; omega) : ((([] : List UInt8).length + ([77] : List UInt8).length : Nat) : Int) ≤ 9223372036854775807) (obs_cons (st_app _ _ : st ([] : List UInt8) ++ st ([77] : List UInt8) = st (([] : List UInt8) ++ ([77] : List UInt8))) (obs_cons (by simp only [InK]; omega : InK .i64 (x + 1)) (obs_cons (itoa_pc (x + 1) (by omega) (by omega)) (obs_cons (rfl : Ren0 496 [(iv (x + 1))]) (obs_cons (by first | omega | (simp only [List.length_append, List.length_cons, List.length_nil]; omega) : (((([] : List UInt8) ++ ([77] : List UInt8)).length + (Lib.itoa (x + 1)).length : Nat) : Int) ≤ 9223372036854775807) (obs_cons (st_app _ _ : st (([] : List UInt8) ++ ([77] : List UInt8)) ++ st (Lib.itoa (x + 1)) = st ((([] : List UInt8) ++ ([77] : List UInt8)) ++ (Lib.itoa (x + 1)))) obs_nil))))))) ?_
        rw [nameS_pos (s := s) (h := h) h1 (by omega) (Eq.trans (by rw [← hx, ← hy]) (nameA_ok (q := [77]) (by rw [← hm]; exact (qual_M h23 h24)) (by decide)))]
        exact T_ret fun cx_ a_ hI_ => rt hc0 [ps 2 (sv (st ((([] : List UInt8) ++ ([77] : List UInt8)) ++ (Lib.itoa (x + 1))))), ps 3 (iv 0)] [] hI_
      refine T_r mixed [(3, .gd false .no), (4, .gd false .no), (5, .gd false .no), (6, .yes false)] [ps 1 (.opt 0 0), ps 4 (sv (st ([] : List UInt8))), ps 7 (iv m), ps 58 (bv false), pb 0 37 [(iv x), (iv y)]] (obs_cons (decide_eq_false h23) (obs_cons (decide_eq_false h23) (obs_cons (decide_eq_false h23) (obs_cons (decide_eq_false h23) obs_nil)))) ?_
      refine T_else (b := false) rfl rfl ?_
      refine T_seq ?_
      refine T_r mixed [] [ps 1 (.opt 0 0), ps 4 (sv (st ([] : List UInt8))), ps 7 (iv m), ps 66 (bv (decide (m = 0))), pb 0 37 [(iv x), (iv y)]] (obs_nil) ?_
      refine T_el (decide_eq_false h23) ?_
      refine T_seq ?_
      refine T_r mixed [(2, .call [] [(iv x)] [] (bv (perfB x)) [])] [ps 1 (.opt 0 0), ps 4 (sv (st ([] : List UInt8))), ps 7 (iv m), ps 69 (bv (perfB x)), pb 0 37 [(iv x), (iv y)]] (obs_cons (perfect_pc x (by omega)) (obs_cons (rfl : Ren0 432 [(iv x)]) obs_nil)) ?_
      by_cases h25 : (perfB x) = true
      · refine T_then (b := (perfB x)) rfl h25 ?_
        refine T_r mixed [(3, .call [] [(sv (st ([100] : List UInt8))), (nv ((min (0 - m) 7).toNat))] [] (sv (st (Lib.repeatL ([100] : List UInt8) ((min (0 - m) 7).toNat)))) [])] [ps 1 (.opt 0 0), ps 4 (sv (st ([] : List UInt8))), ps 8 (sv (st (Lib.repeatL ([100] : List UInt8) ((min (0 - m) 7).toNat)))), pb 0 37 [(iv x), (iv y)]] (obs_cons (by simp only [InK]; omega : InK .i64 (0 - m)) (obs_cons (repeat_pc ([100] : List UInt8) ((min (0 - m) 7).toNat) (by omega) (by simp only [List.length_cons, List.length_nil]; omega)) (obs_cons (congrArg (fun z => [(sv (st ([100] : List UInt8))), iv z]) (show min (0 - m) 7 = (((min (0 - m) 7).toNat : Nat) : Int) from by omega) : [(sv (st ([100] : List UInt8))), (iv (min (0 - m) 7))] = renL (sigi [] 472) [(sv (st ([100] : List UInt8))), (nv ((min (0 - m) 7).toNat))]) obs_nil))) ?_
        refine T_blk <| T_seq <| T_seq ?_
        refine T_r mixed [] [ps 1 (.opt 0 0), ps 4 (sv (st ([] : List UInt8))), ps 8 (sv (st (Lib.repeatL ([100] : List UInt8) ((min (0 - m) 7).toNat)))), ps 82 (bv (decide (6 < (((Lib.repeatL ([100] : List UInt8) ((min (0 - m) 7).toNat)).length : Nat) : Int)))), pb 0 37 [(iv x), (iv y)]] (obs_nil) ?_
        by_cases h26 : 6 < (((Lib.repeatL ([100] : List UInt8) ((min (0 - m) 7).toNat)).length : Nat) : Int)
        · refine T_th (decide_eq_true h26) ?_
          refine T_seq ?_
          refine T_r mixed [] [ps 2 (sv (st ([] : List UInt8))), ps 3 (iv 3)] (obs_nil) ?_
          rw [nameS_pos (s := s) (h := h) h1 (by omega) (Eq.trans (by rw [← hx, ← hy]) (nameA_far (by rw [← hm]; exact (qual_d h21 h23 h25)) h26))]
          exact T_ret fun cx_ a_ hI_ => rt hc0 [ps 2 (sv (st ([] : List UInt8))), ps 3 (iv 3)] [] hI_
        refine T_el (decide_eq_false h26) ?_
        refine T_skip <| T_seq ?_
        refine T_r mixed [(2, .val (.av (.string (st (([] : List UInt8) ++ (Lib.repeatL ([100] : List UInt8) ((min (0 - m) 7).toNat))))))), (6, .call [] [(iv (x + 1))] [] (sv (st (Lib.itoa (x + 1)))) []), (7, .val (.av (.string (st ((([] : List UInt8) ++ (Lib.repeatL ([100] : List UInt8) ((min (0 - m) 7).toNat))) ++ (Lib.itoa (x + 1)))))))] [ps 2 (sv (st ((([] : List UInt8) ++ (Lib.repeatL ([100] : List UInt8) ((min (0 - m) 7).toNat))) ++ (Lib.itoa (x + 1))))), ps 3 (iv 0)] (obs_cons (by first | omega | (simp only [List.length_append, List.length_cons, List.length_nil]; omega) : ((([] : List UInt8).length + (Lib.repeatL ([100] : List UInt8) ((min (0 - m) 7).toNat)).length : Nat) : Int) ≤ 9223372036854775807) (obs_cons (st_app _ _ : st ([] : List UInt8) ++ st (Lib.repeatL ([100] : List UInt8) ((min (0 - m) 7).toNat)) = st (([] : List UInt8) ++ (Lib.repeatL ([100] : List UInt8) ((min (0 - m) 7).toNat)))) (obs_cons (by simp only [InK]; omega : InK .i64 (x + 1)) (obs_cons (itoa_pc (x + 1) (by omega) (by omega)) (obs_cons (rfl : Ren0 560 [(iv (x + 1))]) (obs_cons (by first | omega | (simp only [List.length_append, List.length_cons, List.length_nil]; omega) : (((([] : List UInt8) ++ (Lib.repeatL ([100] : List UInt8) ((min (0 - m) 7).toNat))).length + (Lib.itoa (x + 1)).length : Nat) : Int) ≤ 9223372036854775807) (obs_cons (st_app _ _ : st (([] : List UInt8) ++ (Lib.repeatL ([100] : List UInt8) ((min (0 - m) 7).toNat))) ++ st (Lib.itoa (x + 1)) = st ((([] : List UInt8) ++ (Lib.repeatL ([100] : List UInt8) ((min (0 - m) 7).toNat))) ++ (Lib.itoa (x + 1)))) obs_nil))))))) ?_
        rw [nameS_pos (s := s) (h := h) h1 (by omega) (Eq.trans (by rw [← hx, ← hy]) (nameA_ok (by rw [← hm]; exact (qual_d h21 h23 h25)) h26))]
        exact T_ret fun cx_ a_ hI_ => rt hc0 [ps 2 (sv (st ((([] : List UInt8) ++ (Lib.repeatL ([100] : List UInt8) ((min (0 - m) 7).toNat))) ++ (Lib.itoa (x + 1))))), ps 3 (iv 0)] [] hI_
      refine T_else (b := (perfB x)) rfl (Bool.eq_false_iff.2 h25) ?_
      refine T_seq ?_
      refine T_r mixed [] [ps 1 (.opt 0 0), ps 4 (sv (st ([] : List UInt8))), ps 7 (iv m), ps 77 (bv (decide (m = (-1)))), pb 0 37 [(iv x), (iv y)]] (obs_nil) ?_
      by_cases h27 : m = (-1)
      · refine T_th (decide_eq_true h27) ?_
        refine T_r mixed [] [ps 1 (.opt 0 0), ps 4 (sv (st ([] : List UInt8))), ps 8 (sv (st ([109] : List UInt8))), pb 0 37 [(iv x), (iv y)]] (obs_nil) ?_
        refine T_blk <| T_seq <| T_seq ?_
        refine T_r mixed [] [ps 1 (.opt 0 0), ps 4 (sv (st ([] : List UInt8))), ps 8 (sv (st ([109] : List UInt8))), ps 82 (bv false), pb 0 37 [(iv x), (iv y)]] (obs_nil) ?_
        refine T_else (b := false) rfl rfl ?_
        refine T_skip <| T_seq ?_
        refine T_r mixed [(2, .val (.av (.string (st (([] : List UInt8) ++ ([109] : List UInt8)))))), (6, .call [] [(iv (x + 1))] [] (sv (st (Lib.itoa (x + 1)))) []), (7, .val (.av (.string (st ((([] : List UInt8) ++ ([109] : List UInt8)) ++ (Lib.itoa (x + 1)))))))] [ps 2 (sv (st ((([] : List UInt8) ++ ([109] : List UInt8)) ++ (Lib.itoa (x + 1))))), ps 3 (iv 0)] (obs_cons (by first | omega | (simp only [List.length_append, List.length_cons, List.length_nil]; omega) : ((([] : List UInt8).length + ([109] : List UInt8).length : Nat) : Int) ≤ 9223372036854775807) (obs_cons (st_app _ _ : st ([] : List UInt8) ++ st ([109] : List UInt8) = st (([] : List UInt8) ++ ([109] : List UInt8))) (obs_cons (by simp only [InK]; omega : InK .i64 (x + 1)) (obs_cons (itoa_pc (x + 1) (by omega) (by omega)) (obs_cons (rfl : Ren0 552 [(iv (x + 1))]) (obs_cons (by first | omega | (simp only [List.length_append, List.length_cons, List.length_nil]; omega) : (((([] : List UInt8) ++ ([109] : List UInt8)).length + (Lib.itoa (x + 1)).length : Nat) : Int) ≤ 9223372036854775807) (obs_cons (st_app _ _ : st (([] : List UInt8) ++ ([109] : List UInt8)) ++ st (Lib.itoa (x + 1)) = st ((([] : List UInt8) ++ ([109] : List UInt8)) ++ (Lib.itoa (x + 1)))) obs_nil))))))) ?_
        rw [nameS_pos (s := s) (h := h) h1 (by omega) (Eq.trans (by rw [← hx, ← hy]) (nameA_ok (q := [109]) (by rw [← hm]; exact (qual_m h27 h25)) (by decide)))]
        exact T_ret fun cx_ a_ hI_ => rt hc0 [ps 2 (sv (st ((([] : List UInt8) ++ ([109] : List UInt8)) ++ (Lib.itoa (x + 1))))), ps 3 (iv 0)] [] hI_
      refine T_el (decide_eq_false h27) ?_
      refine T_r mixed [(4, .call [] [(sv (st ([100] : List UInt8))), (nv ((min ((0 - m) - 1) 7).toNat))] [] (sv (st (Lib.repeatL ([100] : List UInt8) ((min ((0 - m) - 1) 7).toNat)))) [])] [ps 1 (.opt 0 0), ps 4 (sv (st ([] : List UInt8))), ps 8 (sv (st (Lib.repeatL ([100] : List UInt8) ((min ((0 - m) - 1) 7).toNat)))), pb 0 37 [(iv x), (iv y)]] (obs_cons (by simp only [InK]; omega : InK .i64 (0 - m)) (obs_cons (by simp only [InK]; omega : InK .i64 ((0 - m) - 1)) (obs_cons (repeat_pc ([100] : List UInt8) ((min ((0 - m) - 1) 7).toNat) (by omega) (by simp only [List.length_cons, List.length_nil]; omega)) (obs_cons (congrArg (fun z => [(sv (st ([100] : List UInt8))), iv z]) (show min ((0 - m) - 1) 7 = (((min ((0 - m) - 1) 7).toNat : Nat) : Int) from by omega) : [(sv (st ([100] : List UInt8))), (iv (min ((0 - m) - 1) 7))] = renL (sigi [] 504) [(sv (st ([100] : List UInt8))), (nv ((min ((0 - m) - 1) 7).toNat))]) obs_nil)))) ?_
      refine T_blk <| T_seq <| T_seq ?_
      refine T_r mixed [] [ps 1 (.opt 0 0), ps 4 (sv (st ([] : List UInt8))), ps 8 (sv (st (Lib.repeatL ([100] : List UInt8) ((min ((0 - m) - 1) 7).toNat)))), ps 82 (bv (decide (6 < (((Lib.repeatL ([100] : List UInt8) ((min ((0 - m) - 1) 7).toNat)).length : Nat) : Int)))), pb 0 37 [(iv x), (iv y)]] (obs_nil) ?_
      by_cases h28 : 6 < (((Lib.repeatL ([100] : List UInt8) ((min ((0 - m) - 1) 7).toNat)).length : Nat) : Int)
      · refine T_th (decide_eq_true h28) ?_
        refine T_seq ?_
        refine T_r mixed [] [ps 2 (sv (st ([] : List UInt8))), ps 3 (iv 3)] (obs_nil) ?_
        rw [nameS_pos (s := s) (h := h) h1 (by omega) (Eq.trans (by rw [← hx, ← hy]) (nameA_far (by rw [← hm]; exact (qual_dd h21 h23 h25 h27)) h28))]
        exact T_ret fun cx_ a_ hI_ => rt hc0 [ps 2 (sv (st ([] : List UInt8))), ps 3 (iv 3)] [] hI_
      refine T_el (decide_eq_false h28) ?_
      refine T_skip <| T_seq ?_
      refine T_r mixed [(2, .val (.av (.string (st (([] : List UInt8) ++ (Lib.repeatL ([100] : List UInt8) ((min ((0 - m) - 1) 7).toNat))))))), (6, .call [] [(iv (x + 1))] [] (sv (st (Lib.itoa (x + 1)))) []), (7, .val (.av (.string (st ((([] : List UInt8) ++ (Lib.repeatL ([100] : List UInt8) ((min ((0 - m) - 1) 7).toNat))) ++ (Lib.itoa (x + 1)))))))] [ps 2 (sv (st ((([] : List UInt8) ++ (Lib.repeatL ([100] : List UInt8) ((min ((0 - m) - 1) 7).toNat))) ++ (Lib.itoa (x + 1))))), ps 3 (iv 0)] (obs_cons (by first | omega | (simp only [List.length_append, List.length_cons, List.length_nil]; omega) : ((([] : List UInt8).length + (Lib.repeatL ([100] : List UInt8) ((min ((0 - m) - 1) 7).toNat)).length : Nat) : Int) ≤ 9223372036854775807) (obs_cons (st_app _ _ : st ([] : List UInt8) ++ st (Lib.repeatL ([100] : List UInt8) ((min ((0 - m) - 1) 7).toNat)) = st (([] : List UInt8) ++ (Lib.repeatL ([100] : List UInt8) ((min ((0 - m) - 1) 7).toNat)))) (obs_cons (by simp only [InK]; omega : InK .i64 (x + 1)) (obs_cons (itoa_pc (x + 1) (by omega) (by omega)) (obs_cons (rfl : Ren0 592 [(iv (x + 1))]) (obs_cons (by first | omega | (simp only [List.length_append, List.length_cons, List.length_nil]; omega) : (((([] : List UInt8) ++ (Lib.repeatL ([100] : List UInt8) ((min ((0 - m) - 1) 7).toNat))).length + (Lib.itoa (x + 1)).length : Nat) : Int) ≤ 9223372036854775807) (obs_cons (st_app _ _ : st (([] : List UInt8) ++ (Lib.repeatL ([100] : List UInt8) ((min ((0 - m) - 1) 7).toNat))) ++ st (Lib.itoa (x + 1)) = st ((([] : List UInt8) ++ (Lib.repeatL ([100] : List UInt8) ((min ((0 - m) - 1) 7).toNat))) ++ (Lib.itoa (x + 1)))) obs_nil))))))) ?_
      rw [nameS_pos (s := s) (h := h) h1 (by omega) (Eq.trans (by rw [← hx, ← hy]) (nameA_ok (by rw [← hm]; exact (qual_dd h21 h23 h25 h27)) h28))]
      exact T_ret fun cx_ a_ hI_ => rt hc0 [ps 2 (sv (st ((([] : List UInt8) ++ (Lib.repeatL ([100] : List UInt8) ((min ((0 - m) - 1) 7).toNat))) ++ (Lib.itoa (x + 1))))), ps 3 (iv 0)] [] hI_
    refine T_r mixed [(4, .gd false (.no)), (5, .gd false (.no)), (6, .gd false (.no)), (7, .gd false (.no)), (8, .gd false .no), (9, .gd false .no), (10, .gd false .no), (11, .gd false (.yes false)), (12, .yes false)] [ps 1 (.opt 0 0), ps 4 (sv (st ([] : List UInt8))), ps 24 (bv false), pb 0 37 [(iv s), (iv h)]] (obs_cons (decide_eq_false h2) (obs_cons (decide_eq_false h2) (obs_cons (decide_eq_false h2) (obs_cons (decide_eq_false h2) (obs_cons (decide_eq_false h11) (obs_cons (decide_eq_false h11) (obs_cons (decide_eq_false h11) (obs_cons (decide_eq_false h2) (obs_cons (decide_eq_false h11) (obs_cons (decide_eq_false h2) obs_nil)))))))))) ?_
    refine T_else (b := false) rfl rfl ?_
    refine T_skip <| T_seq ?_
    obtain ⟨x, hx⟩ : ∃ x, x = s := ⟨_, rfl⟩
    obtain ⟨y, hy⟩ : ∃ y, y = h := ⟨_, rfl⟩
    refine T_wk (Wk.eq (show _ = [ps 1 (.opt 0 0), ps 4 (sv (st ([] : List UInt8))), ps 24 (bv false), pb 0 37 [(iv x), (iv y)]] from by rw [hx, hy])) ?_
    have hnb := Pi.nat7_range (x % 7)
    have hl2 := itoa_len (o := x + 1) (by omega) (by omega)
    refine T_r mixed [(2, .call [] [(iv x), (iv 7)] [] (.tup [(iv (x / 7)), (iv (x % 7))]) [])] [ps 1 (.opt 0 0), ps 4 (sv (st ([] : List UInt8))), ps 5 (iv (x / 7)), ps 6 (iv (x % 7)), pb 0 37 [(iv x), (iv y)]] (obs_cons (pfloor_pc x (by omega) (by omega)) (obs_cons (rfl : Ren0 176 [(iv x), (iv 7)]) obs_nil)) ?_
    refine T_seq ?_
    refine T_rd mixed [(6, .call [] [(iv (x % 7))] [] (iv (Pi.nat7 (x % 7))) [])] [[], [0], [], [2], [0, 1, 2, 3], [], [5], [0, 1, 2, 3, 4, 5, 6], [0, 1, 2, 3, 4, 5, 6, 7]] [([78], [2]), ([80], [1, 78]), ([82], [10]), ([84], [82]), ([86], [80, 84]), ([88], [12]), ([90], [88]), ([92], [86, 90]), ([14], [92])] [ps 1 (.opt 0 0), ps 4 (sv (st ([] : List UInt8))), ps 7 (iv ((y - (12 * (x / 7))) - (Pi.nat7 (x % 7)))), pb 0 37 [(iv x), (iv y)]] (obs_cons (by simp only [InK]; omega : InK .i64 (12 * (x / 7))) (obs_cons (by simp only [InK]; omega : InK .i64 (y - (12 * (x / 7)))) (obs_cons (natural_pc (x % 7)) (obs_cons (rfl : Ren0 272 [(iv (x % 7))]) (obs_cons (by simp only [InK]; omega : InK .i64 ((y - (12 * (x / 7))) - (Pi.nat7 (x % 7)))) obs_nil))))) ?_
    refine T_seq ?_
    obtain ⟨m, hm⟩ : ∃ m, m = moreOf x y := ⟨_, rfl⟩
    have hmb : -9000 ≤ m ∧ m ≤ 9000 := by rw [hm]; unfold moreOf; omega
    refine T_wk (Wk.eq (show _ = [ps 1 (.opt 0 0), ps 4 (sv (st ([] : List UInt8))), ps 7 (iv m), pb 0 37 [(iv x), (iv y)]] from by rw [hm]; rfl)) ?_
    refine T_r mixed [] [ps 1 (.opt 0 0), ps 4 (sv (st ([] : List UInt8))), ps 7 (iv m), pb 0 37 [(iv x), (iv y)]] (obs_nil) ?_
    refine T_seq <| T_block <| T_seq ?_
    refine T_r mixed [] [ps 1 (.opt 0 0), ps 4 (sv (st ([] : List UInt8))), ps 7 (iv m), ps 52 (bv (decide (0 < m))), pb 0 37 [(iv x), (iv y)]] (obs_nil) ?_
    by_cases h29 : 0 < m
    · refine T_th (decide_eq_true h29) ?_
      refine T_r mixed [(2, .call [] [(sv (st ([65] : List UInt8))), (nv ((min m 7).toNat))] [] (sv (st (Lib.repeatL ([65] : List UInt8) ((min m 7).toNat)))) [])] [ps 1 (.opt 0 0), ps 4 (sv (st ([] : List UInt8))), ps 8 (sv (st (Lib.repeatL ([65] : List UInt8) ((min m 7).toNat)))), pb 0 37 [(iv x), (iv y)]] (obs_cons (repeat_pc ([65] : List UInt8) ((min m 7).toNat) (by omega) (by simp only [List.length_cons, List.length_nil]; omega)) (obs_cons (congrArg (fun z => [(sv (st ([65] : List UInt8))), iv z]) (show min m 7 = (((min m 7).toNat : Nat) : Int) from by omega) : [(sv (st ([65] : List UInt8))), (iv (min m 7))] = renL (sigi [] 344) [(sv (st ([65] : List UInt8))), (nv ((min m 7).toNat))]) obs_nil)) ?_
      refine T_blk <| T_seq <| T_seq ?_
      refine T_r mixed [] [ps 1 (.opt 0 0), ps 4 (sv (st ([] : List UInt8))), ps 8 (sv (st (Lib.repeatL ([65] : List UInt8) ((min m 7).toNat)))), ps 82 (bv (decide (6 < (((Lib.repeatL ([65] : List UInt8) ((min m 7).toNat)).length : Nat) : Int)))), pb 0 37 [(iv x), (iv y)]] (obs_nil) ?_
      by_cases h30 : 6 < (((Lib.repeatL ([65] : List UInt8) ((min m 7).toNat)).length : Nat) : Int)
      · refine T_th (decide_eq_true h30) ?_
        refine T_seq ?_
        refine T_r mixed [] [ps 2 (sv (st ([] : List UInt8))), ps 3 (iv 3)] (obs_nil) ?_
        rw [nameS_pos (s := s) (h := h) h1 (by omega) (Eq.trans (by rw [← hx, ← hy]) (nameA_far (by rw [← hm]; exact (qual_up h29)) h30))]
        exact T_ret fun cx_ a_ hI_ => rt hc0 [ps 2 (sv (st ([] : List UInt8))), ps 3 (iv 3)] [] hI_
      refine T_el (decide_eq_false h30) ?_
      refine T_skip <| T_seq ?_
      refine T_r mixed [(2, .val (.av (.string (st (([] : List UInt8) ++ (Lib.repeatL ([65] : List UInt8) ((min m 7).toNat))))))), (6, .call [] [(iv (x + 1))] [] (sv (st (Lib.itoa (x + 1)))) []), (7, .val (.av (.string (st ((([] : List UInt8) ++ (Lib.repeatL ([65] : List UInt8) ((min m 7).toNat))) ++ (Lib.itoa (x + 1)))))))] [ps 2 (sv (st ((([] : List UInt8) ++ (Lib.repeatL ([65] : List UInt8) ((min m 7).toNat))) ++ (Lib.itoa (x + 1))))), ps 3 (iv 0)] (obs_cons (by first | omega | (simp only [List.length_append, List.length_cons, List.length_nil]; omega) : ((([] : List UInt8).length + (Lib.repeatL ([65] : List UInt8) ((min m 7).toNat)).length : Nat) : Int) ≤ 9223372036854775807) (obs_cons (st_app _ _ : st ([] : List UInt8) ++ st (Lib.repeatL ([65] : List UInt8) ((min m 7).toNat)) = st (([] : List UInt8) ++ (Lib.repeatL ([65] : List UInt8) ((min m 7).toNat)))) (obs_cons (by simp only [InK]; omega : InK .i64 (x + 1)) (obs_cons (itoa_pc (x + 1) (by omega) (by omega)) (obs_cons (rfl : Ren0 432 [(iv (x + 1))]) (obs_cons (by first | omega | (simp only [List.length_append, List.length_cons, List.length_nil]; omega) : (((([] : List UInt8) ++ (Lib.repeatL ([65] : List UInt8) ((min m 7).toNat))).length + (Lib.itoa (x + 1)).length : Nat) : Int) ≤ 9223372036854775807) (obs_cons (st_app _ _ : st (([] : List UInt8) ++ (Lib.repeatL ([65] : List UInt8) ((min m 7).toNat))) ++ st (Lib.itoa (x + 1)) = st ((([] : List UInt8) ++ (Lib.repeatL ([65] : List UInt8) ((min m 7).toNat))) ++ (Lib.itoa (x + 1)))) obs_nil))))))) ?_
      rw [nameS_pos (s := s) (h := h) h1 (by omega) (Eq.trans (by rw [← hx, ← hy]) (nameA_ok (by rw [← hm]; exact (qual_up h29)) h30))]
      exact T_ret fun cx_ a_ hI_ => rt hc0 [ps 2 (sv (st ((([] : List UInt8) ++ (Lib.repeatL ([65] : List UInt8) ((min m 7).toNat))) ++ (Lib.itoa (x + 1))))), ps 3 (iv 0)] [] hI_
    refine T_el (decide_eq_false h29) ?_
    refine T_seq ?_
    by_cases h31 : m = 0
    · refine T_r mixed [(3, .gd true (.no)), (4, .gd true (.no)), (5, .gd true (.call [] [(iv x)] [] (bv (perfB x)) [])), (6, .yes true)] [ps 1 (.opt 0 0), ps 4 (sv (st ([] : List UInt8))), ps 7 (iv m), ps 58 (bv (perfB x)), pb 0 37 [(iv x), (iv y)]] (obs_cons (decide_eq_true h31) (obs_cons (decide_eq_true h31) (obs_cons (decide_eq_true h31) (obs_cons (perfect_pc x (by omega)) (obs_cons (rfl : Ren0 368 [(iv x)]) (obs_cons (decide_eq_true h31) obs_nil)))))) ?_
      by_cases h32 : (perfB x) = true
      · refine T_then (b := (perfB x)) rfl h32 ?_
        refine T_r mixed [] [ps 1 (.opt 0 0), ps 4 (sv (st ([] : List UInt8))), ps 8 (sv (st ([80] : List UInt8))), pb 0 37 [(iv x), (iv y)]] (obs_nil) ?_
        refine T_blk <| T_seq <| T_seq ?_
        refine T_r mixed [] [ps 1 (.opt 0 0), ps 4 (sv (st ([] : List UInt8))), ps 8 (sv (st ([80] : List UInt8))), ps 82 (bv false), pb 0 37 [(iv x), (iv y)]] (obs_nil) ?_
        refine T_else (b := false) rfl rfl ?_
        refine T_skip <| T_seq ?_
        refine T_r mixed [(2, .val (.av (.string (st (([] : List UInt8) ++ ([80] : List UInt8)))))), (6, .call [] [(iv (x + 1))] [] (sv (st (Lib.itoa (x + 1)))) []), (7, .val (.av (.string (st ((([] : List UInt8) ++ ([80] : List UInt8)) ++ (Lib.itoa (x + 1)))))))] [ps 2 (sv (st ((([] : List UInt8) ++ ([80] : List UInt8)) ++ (Lib.itoa (x + 1))))), ps 3 (iv 0)] (obs_cons (by first | omega | (simp only [List.length_append, List.length_cons, List.length_nil]; omega) : ((([] : List UInt8).length + ([80] : List UInt8).length : Nat) : Int) ≤ 9223372036854775807) (obs_cons (st_app _ _ : st ([] : List UInt8) ++ st ([80] : List UInt8) = st (([] : List UInt8) ++ ([80] : List UInt8))) (obs_cons (by simp only [InK]; omega : InK .i64 (x + 1)) (obs_cons (itoa_pc (x + 1) (by omega) (by omega)) (obs_cons (rfl : Ren0 472 [(iv (x + 1))]) (obs_cons (by first | omega | (simp only [List.length_append, List.length_cons, List.length_nil]; omega) : (((([] : List UInt8) ++ ([80] : List UInt8)).length + (Lib.itoa (x + 1)).length : Nat) : Int) ≤ 9223372036854775807) (obs_cons (st_app _ _ : st (([] : List UInt8) ++ ([80] : List UInt8)) ++ st (Lib.itoa (x + 1)) = st ((([] : List UInt8) ++ ([80] : List UInt8)) ++ (Lib.itoa (x + 1)))) obs_nil))))))) ?_
        rw [nameS_pos (s := s) (h := h) h1 (by omega) (Eq.trans (by rw [← hx, ← hy]) (nameA_ok (q := [80]) (by rw [← hm]; exact (qual_P h31 h32)) (by decide)))]
        exact T_ret fun cx_ a_ hI_ => rt hc0 [ps 2 (sv (st ((([] : List UInt8) ++ ([80] : List UInt8)) ++ (Lib.itoa (x + 1))))), ps 3 (iv 0)] [] hI_
      refine T_else (b := (perfB x)) rfl (Bool.eq_false_iff.2 h32) ?_
      refine T_seq ?_
      refine T_r mixed [] [ps 1 (.opt 0 0), ps 4 (sv (st ([] : List UInt8))), ps 7 (iv m), ps 66 (bv (decide (m = 0))), pb 0 37 [(iv x), (iv y)]] (obs_nil) ?_
      refine T_th (decide_eq_true h31) ?_
      refine T_r mixed [] [ps 1 (.opt 0 0), ps 4 (sv (st ([] : List UInt8))), ps 8 (sv (st ([77] : List UInt8))), pb 0 37 [(iv x), (iv y)]] (obs_nil) ?_
      refine T_blk <| T_seq <| T_seq ?_
      refine T_r mixed [] [ps 1 (.opt 0 0), ps 4 (sv (st ([] : List UInt8))), ps 8 (sv (st ([77] : List UInt8))), ps 82 (bv false), pb 0 37 [(iv x), (iv y)]] (obs_nil) ?_
      refine T_else (b := false) rfl rfl ?_
      refine T_skip <| T_seq ?_
      refine T_r mixed [(2, .val (.av (.string (st (([] : List UInt8) ++ ([77] : List UInt8)))))), (6, .call [] [(iv (x + 1))] [] (sv (st (Lib.itoa (x + 1)))) []), (7, .val (.av (.string (st ((([] : List UInt8) ++ ([77] : List UInt8)) ++ (Lib.itoa (x + 1)))))))] [ps 2 (sv (st ((([] : List UInt8) ++ ([77] : List UInt8)) ++ (Lib.itoa (x + 1))))), ps 3 (iv 0)] (obs_cons (by first | omega | (simp only [List.length_append, List.length_cons, List.length_nil]; omega) : ((([] : List UInt8).length + ([77] : List UInt8).length : Nat) : Int) ≤ 9223372036854775807) (obs_cons (st_app _ _ : st ([] : List UInt8) ++ st ([77] : List UInt8) = st (([] : List UInt8) ++ ([77] : List UInt8))) (obs_cons (by simp only [InK]; omega : InK .i64 (x + 1)) (obs_cons (itoa_pc (x + 1) (by omega) (by omega)) (obs_cons (rfl : Ren0 496 [(iv (x + 1))]) (obs_cons (by first | omega | (simp only [List.length_append, List.length_cons, List.length_nil]; omega) : (((([] : List UInt8) ++ ([77] : List UInt8)).length + (Lib.itoa (x + 1)).length : Nat) : Int) ≤ 9223372036854775807) (obs_cons (st_app _ _ : st (([] : List UInt8) ++ ([77] : List UInt8)) ++ st (Lib.itoa (x + 1)) = st ((([] : List UInt8) ++ ([77] : List UInt8)) ++ (Lib.itoa (x + 1)))) obs_nil))))))) ?_
      rw [nameS_pos (s := s) (h := h) h1 (by omega) (Eq.trans (by rw [← hx, ← hy]) (nameA_ok (q := [77]) (by rw [← hm]; exact (qual_M h31 h32)) (by decide)))]
      exact T_ret fun cx_ a_ hI_ => rt hc0 [ps 2 (sv (st ((([] : List UInt8) ++ ([77] : List UInt8)) ++ (Lib.itoa (x + 1))))), ps 3 (iv 0)] [] hI_
    refine T_r mixed [(3, .gd false .no), (4, .gd false .no), (5, .gd false .no), (6, .yes false)] [ps 1 (.opt 0 0), ps 4 (sv (st ([] : List UInt8))), ps 7 (iv m), ps 58 (bv false), pb 0 37 [(iv x), (iv y)]] (obs_cons (decide_eq_false h31) (obs_cons (decide_eq_false h31) (obs_cons (decide_eq_false h31) (obs_cons (decide_eq_false h31) obs_nil)))) ?_
    refine T_else (b := false) rfl rfl ?_
    refine T_seq ?_
    refine T_r mixed [] [ps 1 (.opt 0 0), ps 4 (sv (st ([] : List UInt8))), ps 7 (iv m), ps 66 (bv (decide (m = 0))), pb 0 37 [(iv x), (iv y)]] (obs_nil) ?_
    refine T_el (decide_eq_false h31) ?_
    refine T_seq ?_
    refine T_r mixed [(2, .call [] [(iv x)] [] (bv (perfB x)) [])] [ps 1 (.opt 0 0), ps 4 (sv (st ([] : List UInt8))), ps 7 (iv m), ps 69 (bv (perfB x)), pb 0 37 [(iv x), (iv y)]] (obs_cons (perfect_pc x (by omega)) (obs_cons (rfl : Ren0 432 [(iv x)]) obs_nil)) ?_
    by_cases h33 : (perfB x) = true
    · refine T_then (b := (perfB x)) rfl h33 ?_
      refine T_r mixed [(3, .call [] [(sv (st ([100] : List UInt8))), (nv ((min (0 - m) 7).toNat))] [] (sv (st (Lib.repeatL ([100] : List UInt8) ((min (0 - m) 7).toNat)))) [])] [ps 1 (.opt 0 0), ps 4 (sv (st ([] : List UInt8))), ps 8 (sv (st (Lib.repeatL ([100] : List UInt8) ((min (0 - m) 7).toNat)))), pb 0 37 [(iv x), (iv y)]] (obs_cons (by simp only [InK]; omega : InK .i64 (0 - m)) (obs_cons (repeat_pc ([100] : List UInt8) ((min (0 - m) 7).toNat) (by omega) (by simp only [List.length_cons, List.length_nil]; omega)) (obs_cons (congrArg (fun z => [(sv (st ([100] : List UInt8))), iv z]) (show min (0 - m) 7 = (((min (0 - m) 7).toNat : Nat) : Int) from by omega) : [(sv (st ([100] : List UInt8))), (iv (min (0 - m) 7))] = renL (sigi [] 472) [(sv (st ([100] : List UInt8))), (nv ((min (0 - m) 7).toNat))]) obs_nil))) ?_
      refine T_blk <| T_seq <| T_seq ?_
      refine T_r mixed [] [ps 1 (.opt 0 0), ps 4 (sv (st ([] : List UInt8))), ps 8 (sv (st (Lib.repeatL ([100] : List UInt8) ((min (0 - m) 7).toNat)))), ps 82 (bv (decide (6 < (((Lib.repeatL ([100] : List UInt8) ((min (0 - m) 7).toNat)).length : Nat) : Int)))), pb 0 37 [(iv x), (iv y)]] (obs_nil) ?_
      by_cases h34 : 6 < (((Lib.repeatL ([100] : List UInt8) ((min (0 - m) 7).toNat)).length : Nat) : Int)
      · refine T_th (decide_eq_true h34) ?_
        refine T_seq ?_
        refine T_r mixed [] [ps 2 (sv (st ([] : List UInt8))), ps 3 (iv 3)] (obs_nil) ?_
        rw [nameS_pos (s := s) (h := h) h1 (by omega) (Eq.trans (by rw [← hx, ← hy]) (nameA_far (by rw [← hm]; exact (qual_d h29 h31 h33)) h34))]
        exact T_ret fun cx_ a_ hI_ => rt hc0 [ps 2 (sv (st ([] : List UInt8))), ps 3 (iv 3)] [] hI_
      refine T_el (decide_eq_false h34) ?_
      refine T_skip <| T_seq ?_
      refine T_r mixed [(2, .val (.av (.string (st (([] : List UInt8) ++ (Lib.repeatL ([100] : List UInt8) ((min (0 - m) 7).toNat))))))), (6, .call [] [(iv (x + 1))] [] (sv (st (Lib.itoa (x + 1)))) []), (7, .val (.av (.string (st ((([] : List UInt8) ++ (Lib.repeatL ([100] : List UInt8) ((min (0 - m) 7).toNat))) ++ (Lib.itoa (x + 1)))))))] [ps 2 (sv (st ((([] : List UInt8) ++ (Lib.repeatL ([100] : List UInt8) ((min (0 - m) 7).toNat))) ++ (Lib.itoa (x + 1))))), ps 3 (iv 0)] (obs_cons (by first | omega | (simp only [List.length_append, List.length_cons, List.length_nil]; omega) : ((([] : List UInt8).length + (Lib.repeatL ([100] : List UInt8) ((min (0 - m) 7).toNat)).length : Nat) : Int) ≤ 9223372036854775807) (obs_cons (st_app _ _ : st ([] : List UInt8) ++ st (Lib.repeatL ([100] : List UInt8) ((min (0 - m) 7).toNat)) = st (([] : List UInt8) ++ (Lib.repeatL ([100] : List UInt8) ((min (0 - m) 7).toNat)))) (obs_cons (by simp only [InK]; omega : InK .i64 (x + 1)) (obs_cons (itoa_pc (x + 1) (by omega) (by omega)) (obs_cons (rfl : Ren0 560 [(iv (x + 1))]) (obs_cons (by first | omega | (simp only [List.length_append, List.length_cons, List.length_nil]; omega) : (((([] : List UInt8) ++ (Lib.repeatL ([100] : List UInt8) ((min (0 - m) 7).toNat))).length + (Lib.itoa (x + 1)).length : Nat) : Int) ≤ 9223372036854775807) (obs_cons (st_app _ _ : st (([] : List UInt8) ++ (Lib.repeatL ([100] : List UInt8) ((min (0 - m) 7).toNat))) ++ st (Lib.itoa (x + 1)) = st ((([] : List UInt8) ++ (Lib.repeatL ([100] : List UInt8) ((min (0 - m) 7).toNat))) ++ (Lib.itoa (x + 1)))) obs_nil))))))) ?_
      rw [nameS_pos (s := s) (h := h) h1 (by omega) (Eq.trans (by rw [← hx, ← hy]) (nameA_ok (by rw [← hm]; exact (qual_d h29 h31 h33)) h34))]
      exact T_ret fun cx_ a_ hI_ => rt hc0 [ps 2 (sv (st ((([] : List UInt8) ++ (Lib.repeatL ([100] : List UInt8) ((min (0 - m) 7).toNat))) ++ (Lib.itoa (x + 1))))), ps 3 (iv 0)] [] hI_
    refine T_else (b := (perfB x)) rfl (Bool.eq_false_iff.2 h33) ?_
    refine T_seq ?_
    refine T_r mixed [] [ps 1 (.opt 0 0), ps 4 (sv (st ([] : List UInt8))), ps 7 (iv m), ps 77 (bv (decide (m = (-1)))), pb 0 37 [(iv x), (iv y)]] (obs_nil) ?_
    by_cases h35 : m = (-1)
    · refine T_th (decide_eq_true h35) ?_
      refine T_r mixed [] [ps 1 (.opt 0 0), ps 4 (sv (st ([] : List UInt8))), ps 8 (sv (st ([109] : List UInt8))), pb 0 37 [(iv x), (iv y)]] (obs_nil) ?_
      refine T_blk <| T_seq <| T_seq ?_
      refine T_r mixed [] [ps 1 (.opt 0 0), ps 4 (sv (st ([] : List UInt8))), ps 8 (sv (st ([109] : List UInt8))), ps 82 (bv false), pb 0 37 [(iv x), (iv y)]] (obs_nil) ?_
      refine T_else (b := false) rfl rfl ?_
      refine T_skip <| T_seq ?_
      refine T_r mixed [(2, .val (.av (.string (st (([] : List UInt8) ++ ([109] : List UInt8)))))), (6, .call [] [(iv (x + 1))] [] (sv (st (Lib.itoa (x + 1)))) []), (7, .val (.av (.string (st ((([] : List UInt8) ++ ([109] : List UInt8)) ++ (Lib.itoa (x + 1)))))))] [ps 2 (sv (st ((([] : List UInt8) ++ ([109] : List UInt8)) ++ (Lib.itoa (x + 1))))), ps 3 (iv 0)] (obs_cons (by first | omega | (simp only [List.length_append, List.length_cons, List.length_nil]; omega) : ((([] : List UInt8).length + ([109] : List UInt8).length : Nat) : Int) ≤ 9223372036854775807) (obs_cons (st_app _ _ : st ([] : List UInt8) ++ st ([109] : List UInt8) = st (([] : List UInt8) ++ ([109] : List UInt8))) (obs_cons (by simp only [InK]; omega : InK .i64 (x + 1)) (obs_cons (itoa_pc (x + 1) (by omega) (by omega)) (obs_cons (rfl : Ren0 552 [(iv (x + 1))]) (obs_cons (by first | omega | (simp only [List.length_append, List.length_cons, List.length_nil]; omega) : (((([] : List UInt8) ++ ([109] : List UInt8)).length + (Lib.itoa (x + 1)).length : Nat) : Int) ≤ 9223372036854775807) (obs_cons (st_app _ _ : st (([] : List UInt8) ++ ([109] : List UInt8)) ++ st (Lib.itoa (x + 1)) = st ((([] : List UInt8) ++ ([109] : List UInt8)) ++ (Lib.itoa (x + 1)))) obs_nil))))))) ?_
      rw [nameS_pos (s := s) (h := h) h1 (by omega) (Eq.trans (by rw [← hx, ← hy]) (nameA_ok (q := [109]) (by rw [← hm]; exact (qual_m h35 h33)) (by decide)))]
      exact T_ret fun cx_ a_ hI_ => rt hc0 [ps 2 (sv (st ((([] : List UInt8) ++ ([109] : List UInt8)) ++ (Lib.itoa (x + 1))))), ps 3 (iv 0)] [] hI_
    refine T_el (decide_eq_false h35) ?_
    refine T_r mixed [(4, .call [] [(sv (st ([100] : List UInt8))), (nv ((min ((0 - m) - 1) 7).toNat))] [] (sv (st (Lib.repeatL ([100] : List UInt8) ((min ((0 - m) - 1) 7).toNat)))) [])] [ps 1 (.opt 0 0), ps 4 (sv (st ([] : List UInt8))), ps 8 (sv (st (Lib.repeatL ([100] : List UInt8) ((min ((0 - m) - 1) 7).toNat)))), pb 0 37 [(iv x), (iv y)]] (obs_cons (by simp only [InK]; omega : InK .i64 (0 - m)) (obs_cons (by simp only [InK]; omega : InK .i64 ((0 - m) - 1)) (obs_cons (repeat_pc ([100] : List UInt8) ((min ((0 - m) - 1) 7).toNat) (by omega) (by simp only [List.length_cons, List.length_nil]; omega)) (obs_cons (congrArg (fun z => [(sv (st ([100] : List UInt8))), iv z]) (show min ((0 - m) - 1) 7 = (((min ((0 - m) - 1) 7).toNat : Nat) : Int) from by omega) : [(sv (st ([100] : List UInt8))), (iv (min ((0 - m) - 1) 7))] = renL (sigi [] 504) [(sv (st ([100] : List UInt8))), (nv ((min ((0 - m) - 1) 7).toNat))]) obs_nil)))) ?_
    refine T_blk <| T_seq <| T_seq ?_
    refine T_r mixed [] [ps 1 (.opt 0 0), ps 4 (sv (st ([] : List UInt8))), ps 8 (sv (st (Lib.repeatL ([100] : List UInt8) ((min ((0 - m) - 1) 7).toNat)))), ps 82 (bv (decide (6 < (((Lib.repeatL ([100] : List UInt8) ((min ((0 - m) - 1) 7).toNat)).length : Nat) : Int)))), pb 0 37 [(iv x), (iv y)]] (obs_nil) ?_
    by_cases h36 : 6 < (((Lib.repeatL ([100] : List UInt8) ((min ((0 - m) - 1) 7).toNat)).length : Nat) : Int)
    · refine T_th (decide_eq_true h36) ?_
      refine T_seq ?_
      refine T_r mixed [] [ps 2 (sv (st ([] : List UInt8))), ps 3 (iv 3)] (obs_nil) ?_
      rw [nameS_pos (s := s) (h := h) h1 (by omega) (Eq.trans (by rw [← hx, ← hy]) (nameA_far (by rw [← hm]; exact (qual_dd h29 h31 h33 h35)) h36))]
      exact T_ret fun cx_ a_ hI_ => rt hc0 [ps 2 (sv (st ([] : List UInt8))), ps 3 (iv 3)] [] hI_
    refine T_el (decide_eq_false h36) ?_
    refine T_skip <| T_seq ?_
    refine T_r mixed [(2, .val (.av (.string (st (([] : List UInt8) ++ (Lib.repeatL ([100] : List UInt8) ((min ((0 - m) - 1) 7).toNat))))))), (6, .call [] [(iv (x + 1))] [] (sv (st (Lib.itoa (x + 1)))) []), (7, .val (.av (.string (st ((([] : List UInt8) ++ (Lib.repeatL ([100] : List UInt8) ((min ((0 - m) - 1) 7).toNat))) ++ (Lib.itoa (x + 1)))))))] [ps 2 (sv (st ((([] : List UInt8) ++ (Lib.repeatL ([100] : List UInt8) ((min ((0 - m) - 1) 7).toNat))) ++ (Lib.itoa (x + 1))))), ps 3 (iv 0)] (obs_cons (by first | omega | (simp only [List.length_append, List.length_cons, List.length_nil]; omega) : ((([] : List UInt8).length + (Lib.repeatL ([100] : List UInt8) ((min ((0 - m) - 1) 7).toNat)).length : Nat) : Int) ≤ 9223372036854775807) (obs_cons (st_app _ _ : st ([] : List UInt8) ++ st (Lib.repeatL ([100] : List UInt8) ((min ((0 - m) - 1) 7).toNat)) = st (([] : List UInt8) ++ (Lib.repeatL ([100] : List UInt8) ((min ((0 - m) - 1) 7).toNat)))) (obs_cons (by simp only [InK]; omega : InK .i64 (x + 1)) (obs_cons (itoa_pc (x + 1) (by omega) (by omega)) (obs_cons (rfl : Ren0 592 [(iv (x + 1))]) (obs_cons (by first | omega | (simp only [List.length_append, List.length_cons, List.length_nil]; omega) : (((([] : List UInt8) ++ (Lib.repeatL ([100] : List UInt8) ((min ((0 - m) - 1) 7).toNat))).length + (Lib.itoa (x + 1)).length : Nat) : Int) ≤ 9223372036854775807) (obs_cons (st_app _ _ : st (([] : List UInt8) ++ (Lib.repeatL ([100] : List UInt8) ((min ((0 - m) - 1) 7).toNat))) ++ st (Lib.itoa (x + 1)) = st ((([] : List UInt8) ++ (Lib.repeatL ([100] : List UInt8) ((min ((0 - m) - 1) 7).toNat))) ++ (Lib.itoa (x + 1)))) obs_nil))))))) ?_
    rw [nameS_pos (s := s) (h := h) h1 (by omega) (Eq.trans (by rw [← hx, ← hy]) (nameA_ok (by rw [← hm]; exact (qual_dd h29 h31 h33 h35)) h36))]
    exact T_ret fun cx_ a_ hI_ => rt hc0 [ps 2 (sv (st ((([] : List UInt8) ++ (Lib.repeatL ([100] : List UInt8) ((min ((0 - m) - 1) 7).toNat))) ++ (Lib.itoa (x + 1))))), ps 3 (iv 0)] [] hI_
  refine T_th (congrArg Bool.not (Bool.eq_false_iff.2 h1)) ?_
  refine T_seq ?_
  refine T_r mixed [] [ps 2 (sv (st ([] : List UInt8))), ps 3 (iv 3)] (obs_nil) ?_
  rw [nameS_no (s := s) (h := h) h1]
  exact T_ret fun cx_ a_ hI_ => rt hc0 [ps 2 (sv (st ([] : List UInt8))), ps 3 (iv 3)] [] hI_
end Go.Proofs.YtbgnegmjbnlemaaGreatDoor.Pm
