/-
  The plain law of pitches and intervals. No program in sight.
-/
namespace Go.Proofs.Ytdboencinnlebaa.Pi

/-- Half tones of a letter above C. -/
def nat7 (l : Int) : Int := if l = 0 then 0 else if l = 1 then 2 else if l = 2 then 4 else if l = 3 then 5 else if l = 4 then 7 else if l = 5 then 9 else 11
theorem nat7_range (l : Int) : 0 ≤ nat7 l ∧ nat7 l ≤ 11 := by unfold nat7; omega
def rightB (l a o : Int) : Bool := decide (0 ≤ l ∧ l ≤ 6 ∧ -3 ≤ a ∧ a ≤ 3 ∧ -12 ≤ o ∧ o ≤ 12)
theorem rightB_iff {l a o : Int} : rightB l a o = true ↔ 0 ≤ l ∧ l ≤ 6 ∧ -3 ≤ a ∧ a ≤ 3 ∧ -12 ≤ o ∧ o ≤ 12 := by simp [rightB]
def withinB (s h : Int) : Bool := decide (-200 ≤ s ∧ s ≤ 200 ∧ -4096 ≤ h ∧ h ≤ 4096)
theorem withinB_iff {s h : Int} : withinB s h = true ↔ -200 ≤ s ∧ s ≤ 200 ∧ -4096 ≤ h ∧ h ≤ 4096 := by simp [withinB]
def steps (l o : Int) : Int := 7 * o + l
def halves (l a o : Int) : Int := 12 * o + nat7 l + a
def key (l a o : Int) : Int × Int := if rightB l a o then (halves l a o + 12, 0) else (0, 2)
/-- What lies between, and what is wrong. -/
def between (l a o l' a' o' : Int) : Int × Int × Int :=
  if rightB l a o && rightB l' a' o' then (steps l' o' - steps l o, halves l' a' o' - halves l a o, 0) else (0, 0, 2)
/-- The pitch at so many steps and half tones from C0; what is wrong. -/
def at_ (s h : Int) : Int × Int × Int × Int :=
  if rightB (s % 7) (h - (12 * (s / 7) + nat7 (s % 7))) (s / 7) then (s % 7, h - (12 * (s / 7) + nat7 (s % 7)), s / 7, 0) else (0, 0, 0, 3)
def move (l a o s h : Int) : Int × Int × Int × Int :=
  if rightB l a o then (if withinB s h then at_ (steps l o + s) (halves l a o + h) else (0, 0, 0, 3)) else (0, 0, 0, 2)
def sum (s h s' h' : Int) : Int × Int × Int :=
  if withinB s h && withinB s' h' && withinB (s + s') (h + h') then (s + s', h + h', 0) else (0, 0, 3)
def mirror (l a o l' a' o' : Int) : Int × Int × Int × Int :=
  if rightB l a o && rightB l' a' o' then move l' a' o' (steps l' o' - steps l o) (halves l' a' o' - halves l a o) else (0, 0, 0, 2)

theorem at_ok {s h l a o : Int} (k : at_ s h = (l, a, o, 0)) : rightB l a o = true ∧ steps l o = s ∧ halves l a o = h := by
  unfold at_ at k
  split at k
  · rename_i hr
    simp only [Prod.mk.injEq, and_true] at k
    obtain ⟨rfl, rfl, rfl⟩ := k
    exact ⟨hr, by unfold steps; omega, by unfold halves; omega⟩
  · simp at k
theorem at_of {s h l a o : Int} (hr : rightB l a o = true) (hs : steps l o = s) (hh : halves l a o = h) : at_ s h = (l, a, o, 0) := by
  obtain ⟨r1, r2, r3, r4, r5, r6⟩ := rightB_iff.1 hr
  unfold steps at hs
  unfold halves at hh
  have e1 : s / 7 = o := by omega
  have e2 : s % 7 = l := by omega
  have e3 : h - (12 * o + nat7 l) = a := by omega
  unfold at_
  rw [e1, e2, e3, if_pos hr]
theorem at_err {s h l a o e : Int} (k : at_ s h = (l, a, o, e)) (he : e ≠ 0) : l = 0 ∧ a = 0 ∧ o = 0 ∧ e = 3 := by
  unfold at_ at k
  split at k <;> simp only [Prod.mk.injEq] at k <;> omega
theorem at_range (s h : Int) : rightB (at_ s h).1 (at_ s h).2.1 (at_ s h).2.2.1 = true ∧ (0 ≤ (at_ s h).2.2.2 ∧ (at_ s h).2.2.2 ≤ 3) := by
  unfold at_
  split
  · rename_i h; exact ⟨h, by simp⟩
  · simp [rightB]

theorem move_ok {l a o s h l' a' o' : Int} (k : move l a o s h = (l', a', o', 0)) :
    rightB l a o = true ∧ withinB s h = true ∧ rightB l' a' o' = true ∧ steps l' o' = steps l o + s ∧ halves l' a' o' = halves l a o + h := by
  unfold move at k
  split at k
  · rename_i h1
    split at k
    · rename_i h2
      have := at_ok k
      exact ⟨h1, h2, this⟩
    · simp at k
  · simp at k
theorem move_of {l a o s h l' a' o' : Int} (h1 : rightB l a o = true) (h2 : withinB s h = true) (h3 : rightB l' a' o' = true) (h4 : steps l' o' = steps l o + s) (h5 : halves l' a' o' = halves l a o + h) :
    move l a o s h = (l', a', o', 0) := by
  unfold move
  rw [if_pos h1, if_pos h2, at_of h3 h4 h5]
theorem move_at {l a o s h : Int} (h1 : rightB l a o = true) (h2 : withinB s h = true) : move l a o s h = at_ (steps l o + s) (halves l a o + h) := by
  unfold move; rw [if_pos h1, if_pos h2]
theorem move_right (l a o s h : Int) : rightB (move l a o s h).1 (move l a o s h).2.1 (move l a o s h).2.2.1 = true := by
  unfold move
  split
  · split
    · exact (at_range _ _).1
    · rfl
  · rfl
theorem between_of {l a o l' a' o' : Int} (h1 : rightB l a o = true) (h2 : rightB l' a' o' = true) : between l a o l' a' o' = (steps l' o' - steps l o, halves l' a' o' - halves l a o, 0) := by
  simp [between, h1, h2]
theorem between_ok {l a o l' a' o' s h : Int} (k : between l a o l' a' o' = (s, h, 0)) : rightB l a o = true ∧ rightB l' a' o' = true ∧ s = steps l' o' - steps l o ∧ h = halves l' a' o' - halves l a o := by
  unfold between at k
  split at k
  · rename_i hr
    simp only [Bool.and_eq_true] at hr
    simp only [Prod.mk.injEq, and_true] at k
    exact ⟨hr.1, hr.2, k.1.symm, k.2.symm⟩
  · simp at k
theorem bounds {l a o : Int} (h : rightB l a o = true) : (-84 ≤ steps l o ∧ steps l o ≤ 90) ∧ (-147 ≤ halves l a o ∧ halves l a o ≤ 158) := by
  have := rightB_iff.1 h
  have := nat7_range l
  unfold steps halves
  omega
/-- Between two pitches nothing is too wide. -/
theorem between_within {l a o l' a' o' : Int} (h1 : rightB l a o = true) (h2 : rightB l' a' o' = true) (h : -200 ≤ steps l' o' - steps l o ∧ steps l' o' - steps l o ≤ 200) : withinB (steps l' o' - steps l o) (halves l' a' o' - halves l a o) = true := by
  have := bounds h1
  have := bounds h2
  rw [withinB_iff]; omega
theorem mirror_of {l a o l' a' o' : Int} (h1 : rightB l a o = true) (h2 : rightB l' a' o' = true) : mirror l a o l' a' o' = move l' a' o' (steps l' o' - steps l o) (halves l' a' o' - halves l a o) := by
  simp [mirror, h1, h2]
theorem mirror_ok {l a o l' a' o' x y z : Int} (k : mirror l a o l' a' o' = (x, y, z, 0)) :
    rightB l a o = true ∧ rightB l' a' o' = true ∧ rightB x y z = true ∧ steps x z = 2 * steps l' o' - steps l o ∧ halves x y z = 2 * halves l' a' o' - halves l a o := by
  unfold mirror at k
  split at k
  · rename_i hr
    simp only [Bool.and_eq_true] at hr
    have := move_ok k
    exact ⟨hr.1, hr.2, this.2.2.1, by omega, by omega⟩
  · simp at k
theorem mirror_within {l a o l' a' o' x y z : Int} (k : mirror l a o l' a' o' = (x, y, z, 0)) : withinB (steps l' o' - steps l o) (halves l' a' o' - halves l a o) = true := by
  unfold mirror at k
  split at k
  · exact (move_ok k).2.1
  · simp at k
/-- One pitch to its steps and half tones. -/
theorem one {l a o l' a' o' : Int} (h1 : rightB l a o = true) (h2 : rightB l' a' o' = true) (hs : steps l o = steps l' o') (hh : halves l a o = halves l' a' o') : l = l' ∧ a = a' ∧ o = o' := by
  have := rightB_iff.1 h1
  have := rightB_iff.1 h2
  unfold steps at hs
  unfold halves at hh
  have e1 : o = o' := by omega
  have e2 : l = l' := by omega
  subst e1 e2
  omega

/-! TWICE MIRRORED -/
theorem mirror_back {l a o l' a' o' x y z : Int} (k : mirror l a o l' a' o' = (x, y, z, 0)) : mirror x y z l' a' o' = (l, a, o, 0) := by
  obtain ⟨h1, h2, h3, h4, h5⟩ := mirror_ok k
  have hw := withinB_iff.1 (mirror_within k)
  rw [mirror_of h3 h2]
  refine move_of h2 ?_ h1 (by omega) (by omega)
  rw [withinB_iff]; omega
/-- Two mirrors move by twice what is between them. -/
theorem mirror_twice {l a o l' a' o' l2 a2 o2 x y z x' y' z' u v w : Int} (k : mirror l a o l' a' o' = (x, y, z, 0)) (k2 : mirror x y z l2 a2 o2 = (x', y', z', 0))
    (k3 : move l a o (2 * (steps l2 o2 - steps l' o')) (2 * (halves l2 a2 o2 - halves l' a' o')) = (u, v, w, 0)) : u = x' ∧ v = y' ∧ w = z' := by
  obtain ⟨h1, h2, h3, h4, h5⟩ := mirror_ok k
  obtain ⟨g1, g2, g3, g4, g5⟩ := mirror_ok k2
  obtain ⟨f1, f2, f3, f4, f5⟩ := move_ok k3
  exact one f3 g3 (by omega) (by omega)
/-- What is moved and mirrored is mirrored and moved back. -/
theorem mirror_moved {l a o l' a' o' x y z s h m1 m2 m3 n1 n2 n3 p1 p2 p3 : Int} (k : mirror l a o l' a' o' = (x, y, z, 0)) (k1 : move l a o s h = (m1, m2, m3, 0))
    (k2 : mirror m1 m2 m3 l' a' o' = (n1, n2, n3, 0)) (k3 : move x y z (-s) (-h) = (p1, p2, p3, 0)) : n1 = p1 ∧ n2 = p2 ∧ n3 = p3 := by
  obtain ⟨h1, h2, h3, h4, h5⟩ := mirror_ok k
  obtain ⟨g1, g2, g3, g4, g5⟩ := move_ok k1
  obtain ⟨f1, f2, f3, f4, f5⟩ := mirror_ok k2
  obtain ⟨d1, d2, d3, d4, d5⟩ := move_ok k3
  exact one f3 d3 (by omega) (by omega)

/-! INTERVALS MOVE PITCHES -/
theorem move_between {l a o l' a' o' : Int} (h1 : rightB l a o = true) (h2 : rightB l' a' o' = true) (h : withinB (steps l' o' - steps l o) (halves l' a' o' - halves l a o) = true) :
    move l a o (steps l' o' - steps l o) (halves l' a' o' - halves l a o) = (l', a', o', 0) := move_of h1 h h2 (by omega) (by omega)
theorem move_none {l a o : Int} (h1 : rightB l a o = true) : move l a o 0 0 = (l, a, o, 0) := move_of h1 (by rw [withinB_iff]; omega) h1 (by omega) (by omega)
theorem move_back {l a o s h l' a' o' : Int} (k : move l a o s h = (l', a', o', 0)) : between l a o l' a' o' = (s, h, 0) := by
  obtain ⟨h1, h2, h3, h4, h5⟩ := move_ok k
  rw [between_of h1 h3]
  simp only [Prod.mk.injEq, and_true]
  omega
theorem move_sum {l a o s h s' h' l' a' o' u v : Int} (k : move l a o s h = (l', a', o', 0)) (k2 : sum s h s' h' = (u, v, 0)) : move l' a' o' s' h' = move l a o u v := by
  obtain ⟨h1, h2, h3, h4, h5⟩ := move_ok k
  unfold sum at k2
  split at k2
  · rename_i hw
    simp only [Bool.and_eq_true] at hw
    simp only [Prod.mk.injEq, and_true] at k2
    obtain ⟨rfl, rfl⟩ := k2
    rw [move_at h3 hw.1.2, move_at h1 hw.2, h4, h5, Int.add_assoc, Int.add_assoc]
  · simp at k2
end Go.Proofs.Ytdboencinnlebaa.Pi
