/-
  SCORE: plain: a piece that is moved: its notes moved. No program in sight. | SCORE: plain, for the walk of a piece that is moved: rows told in part, sizes. No program in sight. | SCORE: plain: a text read: gaps, words, numbers, pitches, lyrics, items, bars, voices. No program in sight. | SCORE: plain: a text read: long numbers; bars, voices, pieces. No program in sight. | SCORE: plain: rows of items, bars, voices that grow. No program in sight. | THE VALUE MACHINE (PX): calls and operations that panic; functions that hand back or panic. No program in sight. | THE VALUE MACHINE (DF): a function that puts off one call of a literal that recovers, with its two result cells lent to it. No program in sight. | SCORE: plain: what is read ends in no place, or in no piece; endings that hand on what is known. No program in sight. | FROM THE ROW's LIST OF VARIABLES to what the walks ask of the world. | What every law's row of this seat needs: the arguments read qay the call as before it, whatever their types, if the call has turned nothing that was there. | THE VALUE MACHINE (Row): a law's arguments, opened to values. | SCORE: a text read: gaps and signs: walks. (Printed by wip/pm.) | SCORE: a text read: words: walks. (Printed by wip/pm.) | SCORE: a text read: numbers and pitches: walks. (Printed by wip/pm.) | SCORE: a text read that has no rests, ties, groups, chords, shares, lyrics. Plain. | SCORE: a text read: lyrics: walk. Plain ones. (Printed by wip/pm.) | SCORE: a text read: items: walk. Plain ones. (Printed by wip/pm.) | SCORE: a text read: bars and voices: walks. Plain ones. (Printed by wip/pm.) | SCORE: a text read: the literal, the voices: walks. Plain ones. (Printed by wip/pm.)
-/
import Derived.Test.YtmlnilkbolcknaaGreatDoorJLawSVMoved4
import Derived.Test.YtmlnilkbolcknaaGreatDoorJLawSVMoved2
import Derived.Lib.IndexAny
import Derived.Lib.AtoiAll
import Derived.Recover
import Derived.Test.YtmlnilkbolcknaaGreatDoorJLawSVMoved1
import Derived.Test.YtmlnilkbolcknaaGreatDoorRows
import Derived.Lib.LaidU8T
import Derived.Lib.LaidTab
import Derived.PinnedBridge
import Derived.Lay
import Derived.WalkKit
import Derived.ProofKit
import Derived.OpenShut
import Derived.Lib.SmallJoins
import Derived.Below
import Derived.ChangeSame
import Derived.SizedLaws
import Derived.Deep.Matrix
import Derived.Test.YtmlnilkbolcknaaGreatDoorJLawSVMoved3
namespace Go.Proofs.YtmlnilkbolcknaaGreatDoor.Pm
open Go Fr

/-! ### pitches and notes, moved -/
def movP (i : Iv) (p : Pt) : Pt := ((Pi.move p.1 p.2.1 p.2.2 i.1 i.2).1, (Pi.move p.1 p.2.1 p.2.2 i.1 i.2).2.1, (Pi.move p.1 p.2.1 p.2.2 i.1 i.2).2.2.1)
def movE (i : Iv) (p : Pt) : Int := (Pi.move p.1 p.2.1 p.2.2 i.1 i.2).2.2.2
def movN (i : Iv) (n : Nt) : Nt := (n.1, n.2.1, n.2.2.1, movP i n.2.2.2.1, n.2.2.2.2)
/-- The notes' pitches. -/
def pch (N : List Nt) : List Pt := N.map fun n => n.2.2.2.1
def okN (i : Iv) (N : List Nt) : Prop := ∀ p ∈ pch N, movE i p = 0
theorem qsg {i : Iv} {N M : List Nt} (h : pch N <+: pch M) (ho : okN i M) : okN i N := fun p hp => ho p (h.subset hp)
theorem qut (i : Iv) : ∀ (g : List Iv) (p : Pt), mvBy p (g ++ [i]) = if (mvBy p g).2 = 0 then (movP i (mvBy p g).1, movE i (mvBy p g).1) else mvBy p g
 | [], p => by
  rw [List.nil_append, mvBy, mvBy, if_pos rfl, mvBy]
  split
  ·rename_i c
   exact Prod.ext rfl c.symm
  ·rfl
 | j :: g, p => by
  rw [List.cons_append, mvBy, mvBy]
  split
  ·exact qut i g _
  ·rfl
theorem qfg (N M : List Nt) : pch (N ++ M) = pch N ++ pch M := List.map_append ..
/-! ### what comes stands qay what stood -/
theorem qlz {v : Int} {s g : Int × Int} {ly : Txt} {by_ : List Iv} : ∀ (ps : List Pt) (N : List Nt), pch N <+: pch (qca v s g ly by_ ps N).1
 | [], N => List.prefix_rfl
 | p :: ps, N => by
  rw [qca]
  split
  ·exact List.IsPrefix.trans (by rw [qfg]; exact List.prefix_append _ _) (qlz ps _)
  ·exact List.prefix_rfl
theorem qts {u d : Int} : ∀ l : List Nt, pch (tieL u d l).1 = pch l
 | [] => by rw [tieL]
 | n :: l => by
  rw [tieL]
  split
  ·show _ :: pch (tieL u d l).1 = _
   rw [qts l]
   rfl
  ·rfl
theorem qnv {u d : Int} {N : List Nt} {k : Nat} : pch (tieF u d N k).1 = pch N := by
 unfold tieF
 dsimp only
 rw [qfg, qts, ← qfg, List.take_append_drop]
theorem leaf_pre {v a b : Int} {S : List Sp} {x : It} {g : List Iv} {t : TsS} : pch t.1 <+: pch (qar v a b S x g t).2.1 := by
 unfold qar
 split
 ·split
  ·exact List.prefix_rfl
  ·split
   ·dsimp only
    rw [qnv]
    exact List.prefix_rfl
   ·exact qlz _ _
 ·exact List.prefix_rfl
mutual
theorem qtv {v a b : Int} {S : List Sp} : ∀ (x : It) (g : List Iv) (t : TsS), pch t.1 <+: pch (telI v a b S x g t).2.1
 | .mk k s ps by_ ly ks, g, t => by
  rw [telI]
  split
  ·exact qhr ks g t
  ·split
   ·exact qhr ks _ t
   ·exact leaf_pre
theorem qhr {v a b : Int} {S : List Sp} : ∀ (l : List It) (g : List Iv) (t : TsS), pch t.1 <+: pch (telL v a b S l g t).2.1
 | [], g, t => by rw [telL]; exact List.prefix_rfl
 | x :: l, g, t => by
  rw [telL]
  split
  ·exact (qtv x g t).trans (qhr l g _)
  ·exact qtv x g t
end
theorem barT_pre {v : Int} {y : Br} {s : (Int × Int) × List Nt × Nat} : pch s.2.1 <+: pch (barT v y s).2.2.1 := by
 unfold barT
 split
 ·split
  ·split
   ·exact qhr y.2.2 [] (s.2.1, s.2.2, 0)
   ·exact List.prefix_rfl
  ·exact List.prefix_rfl
 ·exact List.prefix_rfl
theorem qrn {v : Int} : ∀ (l : List Br) (s : (Int × Int) × List Nt × Nat), pch s.2.1 <+: pch (qcf v l s).2.2.1
 | [], s => by rw [qcf]; exact List.prefix_rfl
 | y :: l, s => by
  rw [qcf]
  split
  ·exact barT_pre.trans (qrn l _)
  ·exact barT_pre
/-! ### told with one interval more -/
theorem qwe {i : Iv} {v : Int} {s g : Int × Int} {ly : Txt} {by_ : List Iv} : ∀ (ps : List Pt) (N : List Nt), okN i N → (qca v s g ly by_ ps N).2 = 0 →
  ((qca v s g ly (by_ ++ [i]) ps (N.map (movN i))).2 = 0 ∧ (qca v s g ly (by_ ++ [i]) ps (N.map (movN i))).1 = (qca v s g ly by_ ps N).1.map (movN i) ∧ okN i (qca v s g ly by_ ps N).1) ∨
  ((qca v s g ly (by_ ++ [i]) ps (N.map (movN i))).2 ≠ 0 ∧ ¬ okN i (qca v s g ly by_ ps N).1)
 | [], N, ho, _ => .inl ⟨rfl, rfl, ho⟩
 | p :: ps, N, ho, h => by
  rw [qca] at h
  split at h
  case isFalse c => exact absurd h c
  rename_i c
  have e1 : qca v s g ly by_ (p :: ps) N = qca v s g ly by_ ps (N ++ [(v, s, g, (mvBy p by_).1, ly)]) := by rw [qca, if_pos c]
  have e2 : mvBy p (by_ ++ [i]) = (movP i (mvBy p by_).1, movE i (mvBy p by_).1) := by rw [qut, if_pos c]
  rw [e1, qca, e2]
  by_cases c2 : movE i (mvBy p by_).1 = 0
  ·rw [if_pos c2]
   have e3 : N.map (movN i) ++ [(v, s, g, movP i (mvBy p by_).1, ly)] = (N ++ [(v, s, g, (mvBy p by_).1, ly)]).map (movN i) := by rw [List.map_append]; rfl
   dsimp only
   rw [e3]
   refine qwe ps _ (fun q hq => ?_) h
   rw [qfg] at hq
   rcases List.mem_append.1 hq with hq | hq
   ·exact ho q hq
   ·rw [List.mem_singleton.1 hq]; exact c2
  ·right
   rw [if_neg c2]
   refine ⟨c2, fun hk => c2 (hk _ ((qlz ps _).subset ?_))⟩
   rw [qfg]
   exact List.mem_append_right _ (List.mem_singleton.2 rfl)
theorem qyt {i : Iv} {u d : Int} : ∀ l : List Nt, tieL u d (l.map (movN i)) = ((tieL u d l).1.map (movN i), (tieL u d l).2)
 | [] => rfl
 | n :: l => by
  rw [List.map_cons, tieL, tieL]
  have e1 : (movN i n).2.2.1 = n.2.2.1 := rfl
  rw [e1]
  split
  ·rw [qyt l]; rfl
  ·rfl
theorem tieF_mv {i : Iv} {u d : Int} {N : List Nt} {k : Nat} : tieF u d (N.map (movN i)) k = ((tieF u d N k).1.map (movN i), (tieF u d N k).2) := by
 unfold tieF
 rw [← List.map_drop, qyt, ← List.map_take, List.map_append]
/-- The moved one's state against the other's. -/
structure Rm (i : Iv) (t t' : TsS) : Prop where
 n : t'.1 = t.1.map (movN i)
 z : t'.2 = t.2
 ok : okN i t.1
section
variable {i : Iv} {v a b : Int} {S : List Sp}
theorem leaf_mv {x : It} {g : List Iv} {t t' : TsS} (h : Rm i t t') (h0 : (qar v a b S x g t).1 = 0) :
  ((qar v a b S x (g ++ [i]) t').1 = 0 ∧ Rm i (qar v a b S x g t).2 (qar v a b S x (g ++ [i]) t').2) ∨ ((qar v a b S x (g ++ [i]) t').1 ≠ 0 ∧ ¬ okN i (qar v a b S x g t).2.1) := by
 obtain ⟨N, z, k⟩ := t
 obtain ⟨N', z', k'⟩ := t'
 obtain ⟨hn, hz, hok⟩ := h
 dsimp only at hn hz hok
 cases hz
 subst hn
 unfold qar at h0 ⊢
 dsimp only at h0 ⊢
 split at h0
 case isFalse hc => exact absurd h0 hc
 rename_i c1
 rw [if_pos c1, if_pos c1]
 split at h0
 ·rename_i c2
  rw [if_pos c2, if_pos c2]
  exact .inl ⟨rfl, rfl, rfl, hok⟩
 rename_i c2
 rw [if_neg c2, if_neg c2]
 split at h0
 ·rename_i c3
  rw [if_pos c3, if_pos c3, List.length_map, tieF_mv]
  exact .inl ⟨h0, rfl, rfl, fun p hp => hok p (by rw [qnv] at hp; exact hp)⟩
 ·rename_i c3
  rw [if_neg c3, if_neg c3]
  rcases qwe (i := i) (v := v) (s := ((plus a b (S.getD k dS).1 (S.getD k dS).2.1).1, (plus a b (S.getD k dS).1 (S.getD k dS).2.1).2.1)) (g := ((S.getD k dS).2.2.1, (S.getD k dS).2.2.2.1)) (ly := iL x) (by_ := g) (iP x) N hok h0 with ⟨h1, h2, h3⟩ | h1
  ·left
   refine ⟨h1, h2, ?_, h3⟩
   show ((if _ then _ else z), k + 1) = ((if _ then _ else z), k + 1)
   rw [if_pos h1, if_pos h0]
  ·exact .inr h1
mutual
theorem telI_mv : ∀ (x : It) (g : List Iv) (t t' : TsS), Rm i t t' → (telI v a b S x g t).1 = 0 →
  ((telI v a b S x (g ++ [i]) t').1 = 0 ∧ Rm i (telI v a b S x g t).2 (telI v a b S x (g ++ [i]) t').2) ∨ ((telI v a b S x (g ++ [i]) t').1 ≠ 0 ∧ ¬ okN i (telI v a b S x g t).2.1)
 | .mk k s ps by_ ly ks, g, t, t', h, h0 => by
  rw [telI] at h0
  rw [telI, telI]
  split at h0
  ·rename_i c4
   rw [if_pos c4, if_pos c4]
   exact qnx ks g t t' h h0
  ·rename_i c4
   rw [if_neg c4, if_neg c4]
   split at h0
   ·rename_i c5
    rw [if_pos c5, if_pos c5]
    exact qnx ks (by_ :: g) t t' h h0
   ·rename_i c5
    rw [if_neg c5, if_neg c5]
    exact leaf_mv h h0
theorem qnx : ∀ (l : List It) (g : List Iv) (t t' : TsS), Rm i t t' → (telL v a b S l g t).1 = 0 →
  ((telL v a b S l (g ++ [i]) t').1 = 0 ∧ Rm i (telL v a b S l g t).2 (telL v a b S l (g ++ [i]) t').2) ∨ ((telL v a b S l (g ++ [i]) t').1 ≠ 0 ∧ ¬ okN i (telL v a b S l g t).2.1)
 | [], g, t, t', h, _ => by rw [telL, telL]; exact .inl ⟨rfl, h⟩
 | x :: l, g, t, t', h, h0 => by
  rw [telL] at h0
  split at h0
  case isFalse c => exact absurd h0 c
  rename_i c1
  rw [telL, telL, if_pos c1]
  rcases telI_mv x g t t' h c1 with ⟨h1, h2⟩ | ⟨h1, h2⟩
  ·rw [if_pos h1]
   exact qnx l g _ _ h2 h0
  ·rw [if_neg h1]
   exact .inr ⟨h1, fun hk => h2 (qsg (qhr l g _) hk)⟩
end
end
/-! ### a bar's items in one that moves them -/
/-- Items that one item moves. -/
def wrap (i : Iv) (l : List It) : It := .mk 5 1 [] i [] l
def upB (i : Iv) (y : Br) : Br := (y.1, y.2.1, [wrap i y.2.2])
def upV (i : Iv) (v : Vo) : Vo := (v.1, v.2.map (upB i))
mutual
theorem itS_look : ∀ (x : It) (lv n : Int), (itS x lv n).1 = true → qbq (toB x) (lv + 1) (4096 - n) = (0, 4096 - (itS x lv n).2)
 | .mk k s ps b ly ks, lv, n, h => by
  rw [itS] at h ⊢
  rw [toB, qbq]
  by_cases c0 : n - 1 < 0 ∨ 31 < lv ∨ s < 1 ∨ 65536 < s
  ·rw [if_pos c0] at h; cases h
  rw [if_neg c0] at h ⊢
  rw [if_neg (by omega), if_neg (by omega), if_neg (by omega)]
  have e0 : (toBs ks).length = ks.length := by rw [qjw, List.length_map]
  have e1 : 4096 - n + 1 = 4096 - (n - 1) := by omega
  by_cases c1 : k = 1
  ·rw [if_pos c1] at h ⊢
   have hk := (qhj h).1
   simp only [iC] at hk
   rw [if_pos hk, if_pos (.inl rfl), e0, if_pos hk, e1]
  rw [if_neg c1] at h ⊢
  by_cases c2 : k = 2 ∨ k = 3
  ·rw [if_pos c2] at h ⊢
   have hk := (qhg h).1
   simp only [iC] at hk
   rw [if_pos hk, if_pos (.inl rfl), e0, if_pos hk, e1]
  rw [if_neg c2] at h ⊢
  by_cases c4 : k = 4 ∨ k = 5
  ·rw [if_pos c4] at h ⊢
   by_cases cg : qbj (.mk k s ps b ly ks) = true
   ·rw [if_pos cg] at h ⊢
    have hk := qjn cg
    simp only [iC] at hk
    rw [if_neg hk, if_neg (by omega), if_pos rfl, e0, if_neg hk, e1]
    exact qow ks (lv + 1) (n - 1) h
   ·rw [if_neg cg] at h; cases h
  ·rw [if_neg c4] at h; cases h
theorem qow : ∀ (l : List It) (lv n : Int), (itL l lv n).1 = true → qer (toBs l) (lv + 1) (4096 - n) = (0, 4096 - (itL l lv n).2)
 | [], lv, n, h => by rw [toBs, qer, itL]
 | x :: l, lv, n, h => by
  rw [itL] at h ⊢
  by_cases c : (itS x lv n).1 = true
  ·rw [if_pos c] at h ⊢
   rw [toBs, qer, itS_look x lv n c, if_pos rfl]
   exact qow l lv _ h
  ·rw [if_neg c] at h; cases h
end
theorem qzn {l : List It} (h : (itL l 1 4095).1 = true) (hne : l.length ≠ 0) : qes (toB (qae l)) = 0 := by
 have e0 : (toBs l).length = l.length := by rw [qjw, List.length_map]
 unfold qes qae
 rw [toB, qbq, if_neg (by decide), if_neg (by decide), if_neg (by decide), if_neg hne, if_neg (by decide), if_pos rfl, e0, if_neg hne]
 have := qow l 1 4095 h
 rw [show (4096 : Int) - 4095 = 0 + 1 by decide] at this
 rw [this]
theorem qmx {i : Iv} {l : List It} (hne : l.length ≠ 0) {u d : Int} (hr : rightB u d = true) (h0 : (qah (toB (qae l)) u d ([], 0, 1)).1 = 0) :
  qah (toB (qae [wrap i l])) u d ([], 0, 1) = qah (toB (qae l)) u d ([], 0, 1) := by
 have hm : make 1 1 = (1, 1, 0) := make_of (by decide) (by decide +kernel) rfl
 have ht : times 1 1 u d = (u, d, 0) := by
  rw [times_of (by decide +kernel) hr]
  exact make_of (by have := pos_of hr; omega) hr (by rw [Int.one_mul, Int.one_mul])
 unfold qae at h0 ⊢
 rw [toB, qah, if_neg hne, if_pos rfl] at h0
 rw [toB, qah, if_neg (show ¬ [wrap i l].length = 0 by show ¬ 1 = 0; decide), if_pos rfl, toBs, toBs, qbx]
 have e1 : sh (toB (wrap i l)) = 1 := by rw [qyo]; rfl
 have e2 : qaf [toB (wrap i l)] = 1 := by unfold qaf; rw [List.map_cons, List.map_nil, e1]; rfl
 rw [e1, e2, hm]
 dsimp only
 rw [if_pos rfl, ht]
 dsimp only
 rw [if_pos rfl]
 have e3 : qah (toB (wrap i l)) u d ([], 0, 1) = qah (toB (.mk 0 1 [] (0, 0) [] l)) u d ([], 0, 1) := by
  unfold wrap
  rw [toB, toB]
 rw [e3, toB, qah, if_neg hne, if_pos rfl, if_pos h0, qbx]
 exact Prod.ext h0.symm rfl
theorem qwx {i : Iv} {l : List It} (hne : l.length ≠ 0) (hw : (itL [wrap i l] 1 4095).1 = true) {u d : Int} (h : qbp (toB (qae l)) u d = 0) :
  qbp (toB (qae [wrap i l])) u d = 0 ∧ qac (toB (qae [wrap i l])) u d = qac (toB (qae l)) u d := by
 have hs := qkm h
 unfold qbp at h ⊢
 split at h
 case isFalse c => exact absurd h c
 rw [if_pos (qzn hw (by show ¬ 1 = 0; decide))]
 split at h
 case isFalse => cases h
 rename_i c2
 rw [if_pos c2]
 split at h
 ·cases h
 ·rename_i c3
  rw [if_neg c3, qmx hne c2 hs]
  unfold qac
  rw [qmx hne c2 hs]
  exact ⟨hs, rfl⟩
/-- From bar to bar. -/
structure Rw (i : Iv) (s s' : (Int × Int) × List Nt × Nat) : Prop where
 a : s'.1 = s.1
 n : s'.2.1 = s.2.1.map (movN i)
 z : s'.2.2 = s.2.2
 ok : okN i s.2.1
theorem barT_mv {i : Iv} {v : Int} {y : Br} {s s' : (Int × Int) × List Nt × Nat} (hne : y.2.2.length ≠ 0) (hw : (itL [wrap i y.2.2] 1 4095).1 = true) (h : Rw i s s') (h0 : (barT v y s).1 = 0) :
  ((barT v (upB i y) s').1 = 0 ∧ Rw i (barT v y s).2 (barT v (upB i y) s').2) ∨ ((barT v (upB i y) s').1 ≠ 0 ∧ ¬ okN i (barT v y s).2.2.1) := by
 obtain ⟨u, d, l⟩ := y
 obtain ⟨⟨a, b⟩, N, z⟩ := s
 obtain ⟨p', N', z'⟩ := s'
 obtain ⟨ha, hn, hz, hok⟩ := h
 dsimp only at ha hn hz hok hne hw
 subst ha
 subst hz
 rw [show upB i (u, d, l) = (u, d, [wrap i l]) from rfl]
 unfold barT at h0 ⊢
 dsimp only at h0 ⊢
 split at h0
 case isFalse c => exact absurd h0 c
 rename_i c1
 rw [if_pos c1, if_pos c1]
 split at h0
 case isFalse c => exact absurd h0 c
 rename_i c2
 obtain ⟨h1, h2⟩ := qwx (i := i) hne hw c2
 rw [if_pos c2, if_pos h1, h2]
 split at h0
 case isFalse c => exact absurd h0 c
 rename_i c3
 rw [if_pos c3]
 have e : ∀ t, telL v a b (qac (toB (qae l)) (make u d).1 (make u d).2.1) [wrap i l] [] t = telL v a b (qac (toB (qae l)) (make u d).1 (make u d).2.1) l ([] ++ [i]) t := fun t => by
  rw [telL, wrap, telI, if_neg (show ¬ (5 : Int) = 4 by decide), if_pos (show (5 : Int) = 5 from rfl), List.nil_append]
  split
  ·rename_i c; rw [telL]; exact Prod.ext c.symm rfl
  ·rfl
 rw [e]
 rcases qnx (v := v) (a := a) (b := b) (S := qac (toB (qae l)) (make u d).1 (make u d).2.1) l [] (N, z', 0) (N', z', 0) ⟨hn, rfl, hok⟩ c3 with ⟨h3, h4⟩ | ⟨h3, h4⟩
 ·left
  rw [if_pos h3]
  exact ⟨h0, rfl, h4.n, congrArg Prod.fst h4.z, h4.ok⟩
 ·right
  rw [if_neg h3]
  exact ⟨h3, h4⟩
theorem qwk {i : Iv} {v : Int} : ∀ (l : List Br) (s s' : (Int × Int) × List Nt × Nat), (∀ y ∈ l, y.2.2.length ≠ 0 ∧ (itL [wrap i y.2.2] 1 4095).1 = true) → Rw i s s' → (qcf v l s).1 = 0 →
  ((qcf v (l.map (upB i)) s').1 = 0 ∧ Rw i (qcf v l s).2 (qcf v (l.map (upB i)) s').2) ∨ ((qcf v (l.map (upB i)) s').1 ≠ 0 ∧ ¬ okN i (qcf v l s).2.2.1)
 | [], s, s', _, h, _ => by rw [List.map_nil, qcf, qcf]; exact .inl ⟨rfl, h⟩
 | y :: l, s, s', hy, h, h0 => by
  rw [qcf] at h0
  split at h0
  case isFalse c => exact absurd h0 c
  rename_i c1
  rw [List.map_cons, qcf, qcf, if_pos c1]
  have hy0 := hy y (List.mem_cons_self ..)
  rcases barT_mv hy0.1 hy0.2 h c1 with ⟨h1, h2⟩ | ⟨h1, h2⟩
  ·rw [if_pos h1]
   exact qwk l _ _ (fun q hq => hy q (List.mem_cons_of_mem _ hq)) h2 h0
  ·rw [if_neg h1]
   exact .inr ⟨h1, fun hk => h2 (qsg (qrn l _) hk)⟩
theorem qnh : ∀ (l : List Vo) (k : Int) (N : List Nt), (qbz l k N).1 = 0 → pch N <+: pch (qbz l k N).2
 | [], k, N, _ => by rw [qbz]; exact List.prefix_rfl
 | x :: l, k, N, h => by
  rw [qbz] at h ⊢
  split at h
  ·rename_i c
   rw [if_pos c]
   exact List.IsPrefix.trans (by rw [qfg]; exact List.prefix_append _ _) (qnh l _ _ h)
  ·rename_i c; exact absurd h c
theorem okN_app {i : Iv} {N M : List Nt} : okN i (N ++ M) ↔ okN i N ∧ okN i M := by
 unfold okN
 rw [qfg]
 exact ⟨fun h => ⟨fun p hp => h p (List.mem_append_left _ hp), fun p hp => h p (List.mem_append_right _ hp)⟩, fun h p hp => (List.mem_append.1 hp).elim (h.1 p) (h.2 p)⟩
theorem qqn {i : Iv} : ∀ (l : List Vo) (k : Int) (N : List Nt), (∀ x ∈ l, ∀ y ∈ x.2, y.2.2.length ≠ 0 ∧ (itL [wrap i y.2.2] 1 4095).1 = true) → okN i N → (qbz l k N).1 = 0 →
  (qbz (l.map (upV i)) k (N.map (movN i)) = (0, (qbz l k N).2.map (movN i)) ∧ okN i (qbz l k N).2) ∨ ((qbz (l.map (upV i)) k (N.map (movN i))).1 ≠ 0 ∧ ¬ okN i (qbz l k N).2)
 | [], k, N, _, ho, _ => by rw [List.map_nil, qbz, qbz]; exact .inl ⟨rfl, ho⟩
 | x :: l, k, N, hx, ho, h => by
  rw [qbz] at h
  split at h
  case isFalse c => exact absurd h c
  rename_i c1
  rw [List.map_cons, qbz, qbz, if_pos c1]
  rcases qwk (i := i) (v := k) x.2 ((0, 1), [], 0) ((0, 1), [], 0) (hx x (List.mem_cons_self ..)) ⟨rfl, rfl, rfl, fun p hp => by cases hp⟩ c1 with ⟨h1, h2⟩ | ⟨h1, h2⟩
  ·have h1' : (qcf k (upV i x).2 ((0, 1), [], 0)).1 = 0 := h1
   rw [if_pos h1']
   have e : N.map (movN i) ++ (qcf k (upV i x).2 ((0, 1), [], 0)).2.2.1 = (N ++ (qcf k x.2 ((0, 1), [], 0)).2.2.1).map (movN i) := by
    rw [List.map_append]
    exact congrArg _ h2.n
   rw [e]
   exact qqn l (k + 1) _ (fun q hq => hx q (List.mem_cons_of_mem _ hq)) (okN_app.2 ⟨ho, h2.ok⟩) h
  ·have h1' : ¬ (qcf k (upV i x).2 ((0, 1), [], 0)).1 = 0 := h1
   rw [if_neg h1']
   exact .inr ⟨h1, fun hk => h2 (okN_app.1 (qsg (qnh l _ _ h) hk)).2⟩
/-! ### the notes' pitches are right -/
def rbN (N : List Nt) : Prop := ∀ p ∈ pch N, rb p = true
theorem mvBy_rb : ∀ (g : List Iv) (p : Pt), rb p = true → rb (mvBy p g).1 = true
 | [], p, h => h
 | j :: g, p, h => by
  rw [mvBy]
  split
  ·exact mvBy_rb g _ (Pi.move_right _ _ _ _ _)
  ·exact Pi.move_right _ _ _ _ _
theorem qwc {v : Int} {s g : Int × Int} {ly : Txt} {by_ : List Iv} : ∀ (ps : List Pt) (N : List Nt), (∀ p ∈ ps, rb p = true) → rbN N → rbN (qca v s g ly by_ ps N).1
 | [], N, _, h => h
 | p :: ps, N, hp, h => by
  rw [qca]
  split
  ·refine qwc ps _ (fun q hq => hp q (List.mem_cons_of_mem _ hq)) fun q hq => ?_
   rw [qfg] at hq
   rcases List.mem_append.1 hq with hq | hq
   ·exact h q hq
   ·rw [List.mem_singleton.1 hq]
    exact mvBy_rb by_ p (hp p (List.mem_cons_self ..))
  ·exact h
mutual
def prI : It → Prop
 | .mk _ _ ps _ _ ks => (∀ p ∈ ps, rb p = true) ∧ prL ks
def prL : List It → Prop
 | [] => True
 | x :: l => prI x ∧ prL l
end
theorem nil_pr {ps : List Pt} (h : ps.length = 0) : ∀ p ∈ ps, rb p = true := fun p hp => by rw [List.length_eq_zero_iff.1 h] at hp; cases hp
theorem noteOk_rb {x : It} (h : qdg x = true) : ∀ p ∈ iP x, rb p = true := by
 unfold qdg at h
 split at h
 ·cases h
 split at h
 ·cases h
 split at h
 ·cases h
 split at h
 ·split at h
  ·rename_i c; exact List.all_eq_true.1 c
  ·cases h
 ·cases h
theorem qsq {x : It} (h : qbj x = true) : (iP x).length = 0 := by
 unfold qbj at h
 split at h
 ·cases h
 split at h
 ·cases h
 ·rename_i c; omega
mutual
theorem itS_pr : ∀ (x : It) (lv n : Int), (itS x lv n).1 = true → prI x
 | .mk k s ps b ly ks, lv, n, h => by
  rw [itS] at h
  rw [prI]
  by_cases c0 : n - 1 < 0 ∨ 31 < lv ∨ s < 1 ∨ 65536 < s
  ·rw [if_pos c0] at h; cases h
  rw [if_neg c0] at h
  by_cases c1 : k = 1
  ·rw [if_pos c1] at h
   have hk := (qhj h).1
   simp only [iC] at hk
   rw [List.length_eq_zero_iff.1 hk, prL]
   exact ⟨noteOk_rb h, trivial⟩
  rw [if_neg c1] at h
  by_cases c2 : k = 2 ∨ k = 3
  ·rw [if_pos c2] at h
   have hk := qhg h
   simp only [iC, iP] at hk
   rw [List.length_eq_zero_iff.1 hk.1, prL]
   exact ⟨nil_pr hk.2, trivial⟩
  rw [if_neg c2] at h
  by_cases c4 : k = 4 ∨ k = 5
  ·rw [if_pos c4] at h
   by_cases cg : qbj (.mk k s ps b ly ks) = true
   ·rw [if_pos cg] at h
    exact ⟨nil_pr (qsq cg), itL_pr ks (lv + 1) (n - 1) h⟩
   ·rw [if_neg cg] at h; cases h
  ·rw [if_neg c4] at h; cases h
theorem itL_pr : ∀ (l : List It) (lv n : Int), (itL l lv n).1 = true → prL l
 | [], lv, n, _ => by rw [prL]; trivial
 | x :: l, lv, n, h => by
  rw [itL] at h
  rw [prL]
  by_cases c : (itS x lv n).1 = true
  ·rw [if_pos c] at h
   exact ⟨itS_pr x lv n c, itL_pr l lv _ h⟩
  ·rw [if_neg c] at h; cases h
end
theorem leaf_rb {v a b : Int} {S : List Sp} {x : It} {g : List Iv} {t : TsS} (hx : ∀ p ∈ iP x, rb p = true) (h : rbN t.1) : rbN (qar v a b S x g t).2.1 := by
 unfold qar
 split
 ·split
  ·exact h
  ·split
   ·intro p hp
    dsimp only at hp
    rw [qnv] at hp
    exact h p hp
   ·exact qwc _ _ hx h
 ·exact h
mutual
theorem qyv {v a b : Int} {S : List Sp} : ∀ (x : It) (g : List Iv) (t : TsS), prI x → rbN t.1 → rbN (telI v a b S x g t).2.1
 | .mk k s ps by_ ly ks, g, t, hx, h => by
  rw [prI] at hx
  rw [telI]
  split
  ·exact qnw ks g t hx.2 h
  ·split
   ·exact qnw ks _ t hx.2 h
   ·exact leaf_rb hx.1 h
theorem qnw {v a b : Int} {S : List Sp} : ∀ (l : List It) (g : List Iv) (t : TsS), prL l → rbN t.1 → rbN (telL v a b S l g t).2.1
 | [], g, t, _, h => by rw [telL]; exact h
 | x :: l, g, t, hx, h => by
  rw [prL] at hx
  rw [telL]
  split
  ·exact qnw l g _ hx.2 (qyv x g t hx.1 h)
  ·exact qyv x g t hx.1 h
end
theorem barT_rb {v : Int} {y : Br} {s : (Int × Int) × List Nt × Nat} (hy : prL y.2.2) (h : rbN s.2.1) : rbN (barT v y s).2.2.1 := by
 unfold barT
 split
 ·split
  ·split
   ·exact qnw y.2.2 [] (s.2.1, s.2.2, 0) hy h
   ·exact h
  ·exact h
 ·exact h
theorem qwj {v : Int} : ∀ (l : List Br) (s : (Int × Int) × List Nt × Nat), (∀ y ∈ l, prL y.2.2) → rbN s.2.1 → rbN (qcf v l s).2.2.1
 | [], s, _, h => by rw [qcf]; exact h
 | y :: l, s, hy, h => by
  rw [qcf]
  split
  ·exact qwj l _ (fun q hq => hy q (List.mem_cons_of_mem _ hq)) (barT_rb (hy y (List.mem_cons_self ..)) h)
  ·exact barT_rb (hy y (List.mem_cons_self ..)) h
theorem qqm : ∀ (l : List Vo) (k : Int) (N : List Nt), (∀ x ∈ l, ∀ y ∈ x.2, prL y.2.2) → rbN N → rbN (qbz l k N).2
 | [], k, N, _, h => by rw [qbz]; exact h
 | x :: l, k, N, hx, h => by
  rw [qbz]
  split
  ·refine qqm l _ _ (fun q hq => hx q (List.mem_cons_of_mem _ hq)) fun p hp => ?_
   rw [qfg] at hp
   rcases List.mem_append.1 hp with hp | hp
   ·exact h p hp
   ·exact qwj x.2 _ (hx x (List.mem_cons_self ..)) (fun q hq => by cases hq) p hp
  ·intro p hp; cases hp
theorem qwn {α : Type} {l : List α} {d : α} {P : α → Prop} (h : ∀ k, k < l.length → P (l.getD k d)) : ∀ x ∈ l, P x := fun x hx => by
 obtain ⟨k, hk, e⟩ := List.mem_iff_getElem.1 hx
 have := h k hk
 rw [List.getD_eq_getElem?_getD, List.getElem?_eq_getElem hk, Option.getD_some, e] at this
 exact this
theorem qqq {α β : Type} {l : List α} {f : α → β} {k : Nat} (d : α) (e : β) (h : k < l.length) : (l.map f).getD k e = f (l.getD k d) := by
 rw [List.getD_eq_getElem?_getD, List.getElem?_map, List.getElem?_eq_getElem h, List.getD_eq_getElem?_getD, List.getElem?_eq_getElem h]
 rfl
theorem qlf {l : List Vo} (hn : (qab l).1 = 0) : qbk l = 0 := by
 unfold qab at hn
 split at hn
 ·rename_i c; exact c
 ·exact hn
theorem qur (l : List Vo) : rbN (qab l).2 := by
 unfold qab
 split
 ·rename_i hw
  refine qqm l 0 [] (fun x hx => qwn (d := dBr) fun j hj => ?_) (fun p hp => by cases hp)
  obtain ⟨k, hk, e⟩ := List.mem_iff_getElem.1 hx
  have e' : l.getD k dVo = x := by rw [List.getD_eq_getElem?_getD, List.getElem?_eq_getElem hk, Option.getD_some, e]
  have h3 := ((qdz hw).2 k hk).2 j (by rw [e']; exact hj)
  rw [e'] at h3
  exact itL_pr _ _ _ h3.1
 ·intro p hp; cases hp
theorem pch_at {N : List Nt} {k : Nat} (h : k < N.length) : (N.getD k dNt).2.2.2.1 ∈ pch N := by
 rw [List.getD_eq_getElem?_getD, List.getElem?_eq_getElem h]
 exact List.mem_map.2 ⟨N[k], List.getElem_mem h, rfl⟩
theorem okN_of {i : Iv} {N : List Nt} (h : ∀ k, k < N.length → movE i (N.getD k dNt).2.2.2.1 = 0) : okN i N := fun p hp => by
 obtain ⟨n, hn, rfl⟩ := List.mem_map.1 hp
 exact qwn (d := dNt) (P := fun n => movE i n.2.2.2.1 = 0) h n hn
/-- A PIECE THAT IS MOVED. -/
theorem qlg {i : Iv} {l : List Vo} (hn : (qab l).1 = 0) (hu : qbk (l.map (upV i)) = 0) :
  (qab (l.map (upV i)) = (0, (qab l).2.map (movN i)) ∧ okN i (qab l).2) ∨ ((qab (l.map (upV i))).1 ≠ 0 ∧ ¬ okN i (qab l).2) := by
 have hw := qlf hn
 have h1 := qdz hw
 have h2 := qdz hu
 unfold qab at hn ⊢
 rw [if_pos hw] at hn ⊢
 rw [if_pos hu]
 refine qqn l 0 [] (fun x hx => ?_) (fun p hp => by cases hp) hn
 refine qwn (d := dBr) fun j hj => ?_
 obtain ⟨k, hk, e⟩ := List.mem_iff_getElem.1 hx
 have e' : l.getD k dVo = x := by rw [List.getD_eq_getElem?_getD, List.getElem?_eq_getElem hk, Option.getD_some, e]
 have h3 := (h1.2 k hk).2 j (by rw [e']; exact hj)
 have h4 := (h2.2 k (by rw [List.length_map]; exact hk)).2 j (by rw [qqq dVo dVo hk, e']; show j < (x.2.map (upB i)).length; rw [List.length_map]; exact hj)
 rw [e'] at h3
 rw [qqq dVo dVo hk, e'] at h4
 have e2 : (upV i x).2.getD j dBr = upB i (x.2.getD j dBr) := qqq dBr dBr hj
 rw [e2] at h4
 exact ⟨h3.2, h4.1⟩
end Go.Proofs.YtmlnilkbolcknaaGreatDoor.Pm
namespace Go.Proofs.YtmlnilkbolcknaaGreatDoor.Pm
open Go Fr

theorem brs_mlen (B : List Br) : (brs B).length = B.length * 3 := qcz brC 3 (fun _ => rfl) B
theorem vos_mlen (l : List Vo) : (vos l).length = l.length * 2 := qcz voC 2 (fun _ => rfl) l
theorem quw {α β : Type} (f : α → β) (d : α) {l : List α} {k : Nat} (h : k < l.length) : (l.take (k + 1)).map f = (l.take k).map f ++ [f (l.getD k d)] := by
 rw [List.take_succ_eq_append_getElem h, List.map_append, List.getD_eq_getElem?_getD, List.getElem?_eq_getElem h]
 rfl
theorem brs_mv {i : Iv} {B : List Br} {j : Nat} (h : j < B.length) : brs ((B.take j).map (upB i)) ++ brC (upB i (B.getD j dBr)) = brs ((B.take (j + 1)).map (upB i)) := by
 rw [quw (upB i) dBr h]
 unfold brs
 rw [List.flatMap_append, List.flatMap_cons, List.flatMap_nil, List.append_nil]
theorem vos_mv {i : Iv} {l : List Vo} {k : Nat} (h : k < l.length) : vos ((l.take k).map (upV i)) ++ voC (upV i (l.getD k dVo)) = vos ((l.take (k + 1)).map (upV i)) := by
 rw [quw (upV i) dVo h]
 unfold vos
 rw [List.flatMap_append, List.flatMap_cons, List.flatMap_nil, List.append_nil]
theorem qrs (i : Iv) (v : Vo) : (upV i v).2.length = v.2.length := List.length_map ..
theorem fit_wrap {i : Iv} {l : List It} (hi : i64r i.1 ∧ i64r i.2) (h1 : l.length ≤ 1466015503658) (h2 : fitL l) : fitL [wrap i l] := by
 rw [fitL, fitL, wrap, fitI]
 exact ⟨⟨hi, Nat.zero_le _, Nat.zero_le _, h1, h2⟩, trivial⟩
theorem fit_up {i : Iv} {l : List Vo} (hi : i64r i.1 ∧ i64r i.2) (h : qsv l) : qsv (l.map (upV i)) := by
 refine ⟨by rw [List.length_map]; exact h.1, fun k hk => ?_⟩
 rw [List.length_map] at hk
 rw [qqq dVo dVo hk]
 have h1 := h.2 k hk
 refine ⟨h1.1, by rw [qrs]; exact h1.2.1, fun j hj => ?_⟩
 rw [qrs] at hj
 have e2 : (upV i (l.getD k dVo)).2.getD j dBr = upB i ((l.getD k dVo).2.getD j dBr) := qqq dBr dBr hj
 rw [e2]
 have h2 := h1.2.2 j hj
 exact ⟨h2.1, h2.2.1, by show 1 ≤ _; decide, fit_wrap hi h2.2.2.1 h2.2.2.2⟩
/-- The row of notes, some of them moved. -/
def mvM (i : Iv) (N : List Nt) (k : Nat) : List Nt := (N.take k).map (movN i) ++ N.drop k
theorem qus (i : Iv) (N : List Nt) : mvM i N 0 = N := by unfold mvM; simp
theorem mvM_all (i : Iv) (N : List Nt) : mvM i N N.length = N.map (movN i) := by unfold mvM; simp
theorem qsj (i : Iv) (N : List Nt) {k : Nat} (h : k ≤ N.length) : (mvM i N k).length = N.length := by
 unfold mvM; rw [List.length_append, List.length_map, List.length_take, List.length_drop]; omega
theorem mvM_at {i : Iv} {N : List Nt} {k : Nat} (h : k < N.length) : (mvM i N k).getD k dNt = N.getD k dNt := by
 unfold mvM
 rw [List.getD_eq_getElem?_getD, List.getElem?_append_right (by rw [List.length_map, List.length_take]; omega), List.length_map, List.length_take, List.getElem?_drop, show k + (k - min k N.length) = k by omega, ← List.getD_eq_getElem?_getD]
theorem mvM_next {i : Iv} {N : List Nt} {k : Nat} (h : k < N.length) : (mvM i N k).set k (movN i (N.getD k dNt)) = mvM i N (k + 1) := by
 unfold mvM
 rw [List.set_append_right _ _ (by rw [List.length_map, List.length_take]; omega), List.length_map, List.length_take, show k - min k N.length = 0 by omega, List.drop_eq_getElem_cons h, List.set_cons_zero, List.take_succ_eq_append_getElem h, List.map_append, List.append_assoc]
 have e : N.getD k dNt = N[k] := by rw [List.getD_eq_getElem?_getD, List.getElem?_eq_getElem h]; rfl
 rw [e]; rfl
theorem qqp {i : Iv} {N : List Nt} {k : Nat} (h : k < N.length) {x y z : Int} (he : movP i ((mvM i N k).getD k dNt).2.2.2.1 = (x, y, z)) : k * 9 + 5 + 3 ≤ (nos (mvM i N k)).length ∧ qcj (nos (mvM i N k)) (k * 9 + 5) [iv x, iv y, iv z] = nos (mvM i N (k + 1)) := by
 rw [← mvM_next h, ← mvM_at h (i := i)]
 refine qfd noC 9 (fun _ => rfl) dNt (mvM i N k) k 5 [iv x, iv y, iv z] _ (by rw [qsj i N (by omega)]; exact h) (show 5 + 3 ≤ 9 by decide) ?_
 unfold movN
 rw [he]
 rfl
theorem rb_acc {p : Pt} (h : rb p = true) : Pi.I64 p.2.1 := by
 unfold rb Pi.rightB at h
 have := of_decide_eq_true h
 unfold Pi.I64
 omega
theorem qnp {v : Int} : ∀ (l : List Br) (s : (Int × Int) × List Nt × Nat), (∀ y ∈ l, (itL y.2.2 1 4095).1 = true ∧ y.2.2.length ≠ 0) → okTs (s.2.1, s.2.2, 0) → (qcf v l s).1 = 0 → (qcf v l s).2.2.1.length ≤ s.2.1.length + l.length * 65536
 | [], s, _, _, _ => by rw [qcf]; simp
 | y :: l, ((a, b), N, z), hy, hok, h => by
  rw [qcf] at h ⊢
  split at h
  ·rename_i c
   rw [if_pos c]
   have hk := qpf (hy y (List.mem_cons_self ..)).1 (hy y (List.mem_cons_self ..)).2 hok c
   have := qnp l _ (fun z hz => hy z (List.mem_cons_of_mem _ hz)) hk.1 h
   refine Nat.le_trans this (Nat.le_trans (Nat.add_le_add_right hk.2.1 _) ?_)
   rw [List.length_cons, Nat.add_mul, Nat.one_mul, Nat.add_assoc, Nat.add_comm 65536]
   exact Nat.le_refl _
  ·rename_i c; exact absurd h c
theorem qni : ∀ (l : List Vo) (k : Int) (N : List Nt), (∀ x ∈ l, x.2.length ≤ 1024 ∧ ∀ y ∈ x.2, (itL y.2.2 1 4095).1 = true ∧ y.2.2.length ≠ 0) → (qbz l k N).2.length ≤ N.length + l.length * 67108864
 | [], k, N, _ => by rw [qbz]; simp
 | x :: l, k, N, hx => by
  rw [qbz]
  split
  ·rename_i c
   have h0 := hx x (List.mem_cons_self ..)
   have h1 := qnp x.2 ((0, 1), [], 0) h0.2 ⟨Nat.le_refl _, fun n hn => by cases hn⟩ c
   have h2 := qni l (k + 1) (N ++ (qcf k x.2 ((0, 1), [], 0)).2.2.1) fun q hq => hx q (List.mem_cons_of_mem _ hq)
   rw [List.length_append] at h2
   simp only [List.length_nil, List.length_cons] at h1 ⊢
   have := h0.1
   omega
  ·simp
theorem qxj (l : List Vo) : (qab l).2.length ≤ 4294967296 := by
 unfold qab
 split
 ·rename_i hw
  have h := qdz hw
  have := qni l 0 [] fun x hx => by
   obtain ⟨k, hk, e⟩ := List.mem_iff_getElem.1 hx
   have e' : l.getD k dVo = x := by rw [List.getD_eq_getElem?_getD, List.getElem?_eq_getElem hk, Option.getD_some, e]
   have h3 := h.2 k hk
   rw [e'] at h3
   exact ⟨h3.1, qwn (d := dBr) h3.2⟩
  simp only [List.length_nil] at this
  have := h.1
  omega
 ·simp
end Go.Proofs.YtmlnilkbolcknaaGreatDoor.Pm
namespace Go.Proofs.YtmlnilkbolcknaaGreatDoor.Pm
open Go Go.Proofs.YtmlnilkbolcknaaGreatDoor.Pi

/-- How many spaces and line feeds stand ahead. -/
def qiu : Txt → Nat
 | [] => 0
 | b :: l => if b.toNat = 32 ∨ b.toNat = 10 then qiu l + 1 else 0
def gapF (s : Txt) (a : Nat) : Nat := a + qiu (s.drop a)
theorem qzd : ∀ l : Txt, qiu l ≤ l.length
 | [] => Nat.le_refl _
 | b :: l => by
  have := qzd l
  unfold qiu
  split <;> simp <;> omega
theorem qpv : ∀ l : Txt, qiu (l.drop (qiu l)) = 0
 | [] => rfl
 | b :: l => by
  by_cases h : b.toNat = 32 ∨ b.toNat = 10
  ·have e : qiu (b :: l) = qiu l + 1 := by rw [qiu, if_pos h]
   rw [e, List.drop_succ_cons]; exact qpv l
  ·have e : qiu (b :: l) = 0 := by rw [qiu, if_neg h]
   rw [e, List.drop_zero, e]
theorem qcs {s : Txt} {a : Nat} (h : a ≤ s.length) : gapF s a ≤ s.length := by
 have := qzd (s.drop a)
 rw [List.length_drop] at this
 unfold gapF
 omega
theorem qcy (s : Txt) (a : Nat) : a ≤ gapF s a := Nat.le_add_right _ _
theorem qrh {s : Txt} {a : Nat} (h : a < s.length) : s.drop a = s.getD a 0 :: s.drop (a + 1) := by
 rw [List.drop_eq_getElem_cons h, List.getD_eq_getElem?_getD, List.getElem?_eq_getElem h]; rfl
theorem gap_yes {s : Txt} {a : Nat} (h : a < s.length) (hb : (s.getD a 0).toNat = 32 ∨ (s.getD a 0).toNat = 10) : gapF s a = gapF s (a + 1) := by
 unfold gapF
 rw [qrh h, qiu, if_pos hb]
 omega
theorem gap_no {s : Txt} {a : Nat} (hb : ¬ ((s.getD a 0).toNat = 32 ∨ (s.getD a 0).toNat = 10)) : gapF s a = a := by
 unfold gapF
 by_cases h : a < s.length
 ·rw [qrh h, qiu, if_neg hb]; rfl
 ·rw [List.drop_eq_nil_of_le (by omega)]; rfl
theorem gap_end {s : Txt} {a : Nat} (h : ¬ a < s.length) : gapF s a = a := by
 unfold gapF
 rw [List.drop_eq_nil_of_le (by omega)]; rfl
theorem qlt (s : Txt) (a : Nat) : gapF s (gapF s a) = gapF s a := by
 have h := qpv (s.drop a)
 rw [List.drop_drop] at h
 unfold gapF
 rw [h]; rfl
/-- The signs that end a word. -/
def sgn : Txt := [32, 10, 124, 47, 60, 62, 126, 91, 93, 42, 34]
/-- The word that comes next. -/
def qad (s : Txt) (a : Nat) : Txt := (s.drop (gapF s a)).takeWhile fun b => !sgn.contains b
theorem qtj : ∀ l : Txt, (Lib.indexAny l sgn < 0 → l.takeWhile (fun b => !sgn.contains b) = l) ∧
  (0 ≤ Lib.indexAny l sgn → (Lib.indexAny l sgn).toNat < l.length ∧ l.takeWhile (fun b => !sgn.contains b) = l.take (Lib.indexAny l sgn).toNat)
 | [] => ⟨fun _ => rfl, fun h => by simp [Lib.indexAny] at h⟩
 | b :: l => by
  have ih := qtj l
  have hg := Lib.indexAny_ge sgn l
  unfold Lib.indexAny
  by_cases c : sgn.contains b = true
  ·rw [if_pos c]
   exact ⟨fun h => by omega, fun _ => ⟨by simp, by rw [List.takeWhile_cons]; simp only [c, Bool.not_true, Bool.false_eq_true, if_false]; rfl⟩⟩
  ·rw [if_neg c]
   have c' : sgn.contains b = false := by simpa using c
   have hc : (b :: l).takeWhile (fun b => !sgn.contains b) = b :: l.takeWhile (fun b => !sgn.contains b) := by
    rw [List.takeWhile_cons]; simp only [c', Bool.not_false, if_true]
   rw [hc]
   by_cases e : Lib.indexAny l sgn = -1
   ·have e' : (Lib.indexAny l sgn == -1) = true := by simp [e]
    rw [if_pos e']
    exact ⟨fun _ => by rw [ih.1 (by omega)], fun h => by omega⟩
   ·have e' : ¬ (Lib.indexAny l sgn == -1) = true := by simp [e]
    rw [if_neg e']
    obtain ⟨h1, h2⟩ := ih.2 (by omega)
    refine ⟨fun h => by omega, fun _ => ⟨by simp; omega, ?_⟩⟩
    rw [h2, show (Lib.indexAny l sgn + 1).toNat = (Lib.indexAny l sgn).toNat + 1 by omega, List.take_succ_cons]
theorem qdj {s : Txt} {a : Nat} (h : a ≤ s.length) : gapF s a + (qad s a).length ≤ s.length := by
 have h1 := (List.takeWhile_prefix (fun b => !sgn.contains b) (l := s.drop (gapF s a))).length_le
 have h2 := qcs h
 rw [List.length_drop] at h1
 show gapF s a + (List.takeWhile _ _).length ≤ _
 omega
theorem qyj {s : Txt} {a : Nat} (h : Lib.indexAny (s.drop (gapF s a)) sgn < 0) : qad s a = s.drop (gapF s a) := (qtj _).1 h
theorem word_cut {s : Txt} {a : Nat} {i : Int} (hi : i = Lib.indexAny (s.drop (gapF s a)) sgn) (h : 0 ≤ i) : gapF s a + i.toNat ≤ s.length ∧ (s.drop (gapF s a)).take i.toNat = qad s a := by
 subst hi
 have := (qtj (s.drop (gapF s a))).2 h
 rw [List.length_drop] at this
 exact ⟨by omega, this.2.symm⟩
/-- Does a sign come next? -/
def qap (s : Txt) (a : Nat) (c : Int) : Bool := decide (gapF s a < s.length ∧ (((s.getD (gapF s a) 0).toNat : Nat) : Int) = c)
theorem qda {s : Txt} {a : Nat} {c : Int} (h : qap s a c = true) : gapF s a < s.length := (of_decide_eq_true h).1
/-- What is wrong, the number, where it ends. -/
def numR (s : Txt) (a : Nat) : Int × Int × Nat :=
 if qad s a = [] then (2, 0, gapF s a)
 else if Lib.trimS (qad s a) digs = [] then
  if 1 < (qad s a).length ∧ ((qad s a).getD 0 0).toNat = 48 then (2, 0, gapF s a)
  else if 18 < (qad s a).length then (3, 0, gapF s a)
  else if qbn (qad s a) < 1 ∨ 65536 < qbn (qad s a) then (3, 0, gapF s a)
  else (0, qbn (qad s a), gapF s a + (qad s a).length)
 else (2, 0, gapF s a)
theorem qql {s : Txt} {a : Nat} (h : a ≤ s.length) : gapF s a ≤ (numR s a).2.2 ∧ (numR s a).2.2 ≤ s.length := by
 have h1 := qdj h
 have h2 := qcs h
 unfold numR
 repeat' split
 all_goals first | exact ⟨Nat.le_refl _, h2⟩ | exact ⟨Nat.le_add_right _ _, h1⟩
theorem qzf : ∀ (l : Txt) (a : Int) (n : Nat), n ≤ (qcb l a n).2.2 ∧ (qcb l a n).2.2 ≤ n + l.length := by
 intro l
 induction hl : l.length using Nat.strongRecOn generalizing l with
 | ind m ih =>
  intro a n
  subst hl
  rw [qcb]
  split
  ·rename_i h
   split
   ·exact ⟨Nat.le_refl _, Nat.le_add_right _ _⟩
   ·have hd := qlx l
    have := ih (l.drop (dec2 l)).length (by rw [List.length_drop]; omega) (l.drop (dec2 l)) rfl (a + (qba (dec1 l)).1) (n + dec2 l)
    rw [List.length_drop] at this
    exact ⟨by omega, by omega⟩
  ·exact ⟨Nat.le_refl _, Nat.le_add_right _ _⟩
theorem readS_at (w : Txt) : 0 ≤ (qaz w).2.2 ∧ (qaz w).2.2 ≤ (w.length : Int) + 4 := by
 have hb : (qay w).2.2 ≤ w.length + 4 := by
  unfold qay
  split
  ·show 4 ≤ _; omega
  ·have := (qzf (w.drop 1) 0 1).2
   rw [List.length_drop] at this
   omega
 unfold qaz
 repeat' split
 all_goals first | exact ⟨by show (0 : Int) ≤ 0; omega, by show (0 : Int) ≤ _; omega⟩ | exact ⟨by show (0 : Int) ≤ ((qay w).2.2 : Int); omega, by show ((qay w).2.2 : Int) ≤ _; omega⟩
/-- A pitch: what is wrong, the pitch, where it ends (or where it is wrong). -/
def pitR (s : Txt) (a : Nat) : Int × Pt × Nat :=
 if (qaz (qad s a)).2.1 = 0 then (0, (qaz (qad s a)).1, gapF s a + (qad s a).length) else ((qaz (qad s a)).2.1, (0, 0, 0), gapF s a + (qaz (qad s a)).2.2.toNat)
theorem pit_le {s : Txt} {a : Nat} (h : a ≤ s.length) (h0 : (pitR s a).1 = 0) : gapF s a ≤ (pitR s a).2.2 ∧ (pitR s a).2.2 ≤ s.length := by
 have h1 := qdj h
 unfold pitR at h0 ⊢
 split at h0
 ·rename_i c
  rw [if_pos c]
  exact ⟨Nat.le_add_right _ _, h1⟩
 ·rename_i c
  exact absurd h0 c
/-- A lyric qay its quote, n qku of it qay us: what is wrong, how far ahead it ends (or is wrong). -/
def lyrL (l : Txt) (n : Nat) : Int × Nat :=
 if dec2 l = 1 ∧ dec1 l = 34 ∧ 0 < n then (0, 0)
 else if _h : qdr (dec1 l) (dec2 l) = true ∧ 1 ≤ dec2 l ∧ 1 ≤ l.length then
  if n = 100 then (4, 0) else ((lyrL (l.drop (dec2 l)) (n + 1)).1, dec2 l + (lyrL (l.drop (dec2 l)) (n + 1)).2)
 else (2, 0)
termination_by l.length
decreasing_by all_goals (rw [List.length_drop]; omega)
/-- A lyric, if it comes: what is wrong, the text, where it ends. -/
def lyrR (s : Txt) (a : Nat) : Int × Txt × Nat :=
 if qap s a 34 = true then
  if (lyrL (s.drop (gapF s a + 1)) 0).1 = 0 then (0, (s.drop (gapF s a + 1)).take (lyrL (s.drop (gapF s a + 1)) 0).2, gapF s a + 1 + (lyrL (s.drop (gapF s a + 1)) 0).2 + 1)
  else ((lyrL (s.drop (gapF s a + 1)) 0).1, [], gapF s a + 1 + (lyrL (s.drop (gapF s a + 1)) 0).2)
 else (0, [], gapF s a)
theorem fair_nil : qdr (dec1 []) (dec2 []) = false := rfl
theorem qsy {l : Txt} (h : qdr (dec1 l) (dec2 l) = true) : 1 ≤ dec2 l ∧ 1 ≤ l.length := by
 have hl : l ≠ [] := fun e => by subst e; rw [fair_nil] at h; cases h
 exact ⟨qkh hl, List.length_pos_iff.2 hl⟩
theorem lyrL_end {l : Txt} {n : Nat} (h : dec2 l = 1 ∧ dec1 l = 34 ∧ 0 < n) : lyrL l n = (0, 0) := by rw [lyrL, if_pos h]
theorem lyrL_bad {l : Txt} {n : Nat} (h : ¬ (dec2 l = 1 ∧ dec1 l = 34 ∧ 0 < n)) (hf : ¬ qdr (dec1 l) (dec2 l) = true) : lyrL l n = (2, 0) := by rw [lyrL, if_neg h, dif_neg fun c => hf c.1]
theorem lyrL_much {l : Txt} {n : Nat} (h : ¬ (dec2 l = 1 ∧ dec1 l = 34 ∧ 0 < n)) (hf : qdr (dec1 l) (dec2 l) = true) (hn : n = 100) : lyrL l n = (4, 0) := by rw [lyrL, if_neg h, dif_pos ⟨hf, qsy hf⟩, if_pos hn]
theorem lyrL_next {l : Txt} {n : Nat} (h : ¬ (dec2 l = 1 ∧ dec1 l = 34 ∧ 0 < n)) (hf : qdr (dec1 l) (dec2 l) = true) (hn : ¬ n = 100) : lyrL l n = ((lyrL (l.drop (dec2 l)) (n + 1)).1, dec2 l + (lyrL (l.drop (dec2 l)) (n + 1)).2) := by
 rw [lyrL, if_neg h, dif_pos ⟨hf, qsy hf⟩, if_neg hn]
theorem lyrL_le : ∀ (l : Txt) (n : Nat), (lyrL l n).2 ≤ l.length ∧ ((lyrL l n).1 = 0 → (lyrL l n).2 < l.length) := by
 intro l
 induction hl : l.length using Nat.strongRecOn generalizing l with
 | ind m ih =>
  intro n
  subst hl
  by_cases h : dec2 l = 1 ∧ dec1 l = 34 ∧ 0 < n
  ·rw [lyrL_end h]
   have := qlx l
   exact ⟨Nat.zero_le _, fun _ => by show 0 < l.length; omega⟩
  by_cases hf : qdr (dec1 l) (dec2 l) = true
  ·by_cases hn : n = 100
   ·rw [lyrL_much h hf hn]
    exact ⟨Nat.zero_le _, fun h => by cases h⟩
   ·rw [lyrL_next h hf hn]
    have hd := qlx l
    have hp := qsy hf
    have := ih (l.drop (dec2 l)).length (by rw [List.length_drop]; omega) (l.drop (dec2 l)) rfl (n + 1)
    rw [List.length_drop] at this
    refine ⟨by show dec2 l + _ ≤ _; omega, fun h0 => ?_⟩
    have := this.2 h0
    show dec2 l + _ < _
    omega
  ·rw [lyrL_bad h hf]
   exact ⟨Nat.zero_le _, fun h => by cases h⟩
theorem lyr_le {s : Txt} {a : Nat} (h : a ≤ s.length) : gapF s a ≤ (lyrR s a).2.2 ∧ (lyrR s a).2.2 ≤ s.length := by
 have h2 := qcs h
 have h3 := lyrL_le (s.drop (gapF s a + 1)) 0
 rw [List.length_drop] at h3
 unfold lyrR
 split
 ·rename_i c
  have := qda c
  split
  ·rename_i c0
   have := h3.2 c0
   exact ⟨by show gapF s a ≤ gapF s a + 1 + _ + 1; omega, by show gapF s a + 1 + _ + 1 ≤ s.length; omega⟩
  ·exact ⟨by show gapF s a ≤ gapF s a + 1 + _; omega, by show gapF s a + 1 + _ ≤ s.length; omega⟩
 ·exact ⟨Nat.le_refl _, h2⟩
/-- The pitches of a chord, some of them qay us; m more may come. -/
def chL (s : Txt) : Nat → List Pt → Nat → Int × List Pt × Nat
 | 0, _, a => (5, [], a)
 | m + 1, ps, a =>
  if (pitR s a).1 = 0 then
   if qap s (pitR s a).2.2 62 = true then (0, ps ++ [(pitR s a).2.1], gapF s (pitR s a).2.2 + 1)
   else chL s m (ps ++ [(pitR s a).2.1]) (gapF s (pitR s a).2.2)
  else ((pitR s a).1, [], (pitR s a).2.2)
theorem chL_le {s : Txt} : ∀ (m : Nat) (ps : List Pt) (a : Nat), a ≤ s.length → (chL s m ps a).1 = 0 → a ≤ (chL s m ps a).2.2 ∧ (chL s m ps a).2.2 ≤ s.length ∧ (chL s m ps a).2.1.length ≤ ps.length + m
 | 0, ps, a, _, h0 => by cases h0
 | m + 1, ps, a, h, h0 => by
  rw [chL] at h0 ⊢
  have hga := qcy s a
  split at h0
  ·rename_i c
   rw [if_pos c]
   have hp := pit_le h c
   have hgp := qcy s (pitR s a).2.2
   split at h0
   ·rename_i c2
    rw [if_pos c2]
    have := qda c2
    exact ⟨by show a ≤ gapF s _ + 1; omega, by show gapF s _ + 1 ≤ _; omega, by show (ps ++ [_]).length ≤ _; rw [List.length_append, List.length_singleton]; omega⟩
   ·rename_i c2
    rw [if_neg c2]
    have := chL_le m (ps ++ [(pitR s a).2.1]) (gapF s (pitR s a).2.2) (qcs hp.2) h0
    rw [List.length_append, List.length_singleton] at this
    exact ⟨by omega, this.2.1, by omega⟩
  ·rename_i c
   exact absurd h0 c
def setS (x : It) (n : Int) : It := .mk (iK x) n (iP x) (iB x) (iL x) (iC x)
def setL (x : It) (t : Txt) : It := .mk (iK x) (iS x) (iP x) (iB x) t (iC x)
/-- What comes qay an item: its lyric. -/
def qny (s : Txt) (x : It) (a k : Nat) : Int × It × Nat × Nat :=
 if iK x = 1 then
  if (lyrR s a).1 = 0 then (0, setL x (lyrR s a).2.1, (lyrR s a).2.2, k) else ((lyrR s a).1, dIt, (lyrR s a).2.2, k)
 else (0, x, a, k)
/-- Its share, its lyric. -/
def qeo (s : Txt) (x : It) (a k : Nat) : Int × It × Nat × Nat :=
 if qap s a 42 = true then
  if (numR s (gapF s a + 1)).1 = 0 then qny s (setS x (numR s (gapF s a + 1)).2.1) (numR s (gapF s a + 1)).2.2 k
  else ((numR s (gapF s a + 1)).1, dIt, (numR s (gapF s a + 1)).2.2, k)
 else qny s x (gapF s a) k
theorem qtw {s : Txt} {x : It} {a k : Nat} (h : a ≤ s.length) : a ≤ (qny s x a k).2.2.1 ∧ (qny s x a k).2.2.1 ≤ s.length ∧ (qny s x a k).2.2.2 = k := by
 have h1 := lyr_le h
 have h2 := qcy s a
 unfold qny
 repeat' split
 ·exact ⟨by show a ≤ (lyrR s a).2.2; omega, h1.2, rfl⟩
 ·exact ⟨by show a ≤ (lyrR s a).2.2; omega, h1.2, rfl⟩
 ·exact ⟨Nat.le_refl _, h, rfl⟩
theorem tailR_le {s : Txt} {x : It} {a k : Nat} (h : a ≤ s.length) : a ≤ (qeo s x a k).2.2.1 ∧ (qeo s x a k).2.2.1 ≤ s.length ∧ (qeo s x a k).2.2.2 = k := by
 have h2 := qcy s a
 have h3 := qcy s (gapF s a + 1)
 unfold qeo
 split
 ·rename_i c
  have h4 := qda c
  have h5 := qql (s := s) (a := gapF s a + 1) (by omega)
  split
  ·have := qtw (s := s) (x := setS x (numR s (gapF s a + 1)).2.1) (k := k) h5.2
   exact ⟨by omega, this.2⟩
  ·exact ⟨by show a ≤ (numR s (gapF s a + 1)).2.2; omega, h5.2, rfl⟩
 ·have := qtw (s := s) (x := x) (k := k) (qcs h)
  exact ⟨by omega, this.2⟩
def vow : Txt := [118, 111, 105, 99, 101]
mutual
/-- An item on a level, qay which k may come yet: what is wrong, the item, where it ends, how many may come yet. -/
def itR (s : Txt) (lv : Int) (a : Nat) (k : Nat) : Int × It × Nat × Nat :=
 if _h : k = 0 ∨ 31 < lv then (4, dIt, gapF s a, 0)
 else if qad s a = [45] then qeo s (.mk 2 1 [] (0, 0) [] []) (gapF s a + 1) (k - 1)
 else if qap s a 126 = true then qeo s (.mk 3 1 [] (0, 0) [] []) (gapF s a + 1) (k - 1)
 else if qad s a = [117, 112] then
  if (qlj (qad s (gapF s a + 2))).2 = 0 then
   if (grR s lv (gapF s (gapF s a + 2) + (qad s (gapF s a + 2)).length) (k - 1)).1 = 0 then
    qeo s (.mk 5 1 [] (qlj (qad s (gapF s a + 2))).1 [] (grR s lv (gapF s (gapF s a + 2) + (qad s (gapF s a + 2)).length) (k - 1)).2.1) (grR s lv (gapF s (gapF s a + 2) + (qad s (gapF s a + 2)).length) (k - 1)).2.2.1 (grR s lv (gapF s (gapF s a + 2) + (qad s (gapF s a + 2)).length) (k - 1)).2.2.2
   else ((grR s lv (gapF s (gapF s a + 2) + (qad s (gapF s a + 2)).length) (k - 1)).1, dIt, (grR s lv (gapF s (gapF s a + 2) + (qad s (gapF s a + 2)).length) (k - 1)).2.2.1, 0)
  else ((qlj (qad s (gapF s a + 2))).2, dIt, gapF s (gapF s a + 2), 0)
 else if qap s a 91 = true then
  if (grR s lv (gapF s a) (k - 1)).1 = 0 then qeo s (.mk 4 1 [] (0, 0) [] (grR s lv (gapF s a) (k - 1)).2.1) (grR s lv (gapF s a) (k - 1)).2.2.1 (grR s lv (gapF s a) (k - 1)).2.2.2
  else ((grR s lv (gapF s a) (k - 1)).1, dIt, (grR s lv (gapF s a) (k - 1)).2.2.1, 0)
 else if qap s a 60 = true then
  if (chL s 16 [] (gapF s a + 1)).1 = 0 then qeo s (.mk 1 1 (chL s 16 [] (gapF s a + 1)).2.1 (0, 0) [] []) (chL s 16 [] (gapF s a + 1)).2.2 (k - 1)
  else ((chL s 16 [] (gapF s a + 1)).1, dIt, (chL s 16 [] (gapF s a + 1)).2.2, 0)
 else if (pitR s (gapF s a)).1 = 0 then qeo s (.mk 1 1 [(pitR s (gapF s a)).2.1] (0, 0) [] []) (pitR s (gapF s a)).2.2 (k - 1)
 else ((pitR s (gapF s a)).1, dIt, (pitR s (gapF s a)).2.2, 0)
termination_by (k, 0)
decreasing_by all_goals first | (apply Prod.Lex.right; decide) | (apply Prod.Lex.left; omega)
/-- The items of a group, with its brackets. -/
def grR (s : Txt) (lv : Int) (a : Nat) (k : Nat) : Int × List It × Nat × Nat :=
 if qap s a 91 = true then grL s lv [] (gapF s a + 1) k else (2, [], gapF s a, 0)
termination_by (k, 2)
decreasing_by all_goals first | (apply Prod.Lex.right; decide) | (apply Prod.Lex.left; omega)
def grL (s : Txt) (lv : Int) (l : List It) (a : Nat) (k : Nat) : Int × List It × Nat × Nat :=
 if (itR s (lv + 1) a k).1 = 0 then
  if qap s (itR s (lv + 1) a k).2.2.1 93 = true then (0, l ++ [(itR s (lv + 1) a k).2.1], gapF s (itR s (lv + 1) a k).2.2.1 + 1, (itR s (lv + 1) a k).2.2.2)
  else if _h : (itR s (lv + 1) a k).2.2.2 < k then grL s lv (l ++ [(itR s (lv + 1) a k).2.1]) (gapF s (itR s (lv + 1) a k).2.2.1) (itR s (lv + 1) a k).2.2.2
  else (4, [], 0, 0)
 else ((itR s (lv + 1) a k).1, [], (itR s (lv + 1) a k).2.2.1, 0)
termination_by (k, 1)
decreasing_by all_goals first | (apply Prod.Lex.right; decide) | (apply Prod.Lex.left; omega)
end
end Go.Proofs.YtmlnilkbolcknaaGreatDoor.Pm
namespace Go.Proofs.YtmlnilkbolcknaaGreatDoor.Pm
open Go Go.Proofs.YtmlnilkbolcknaaGreatDoor.Pi

theorem pu_ge : ∀ (l : Txt) (acc : Nat), (∀ b ∈ l, b ∈ digs) → Lib.parseUint10 acc l = .range ∨ ∃ u, Lib.parseUint10 acc l = .ok u ∧ acc * 10 ^ l.length ≤ u
 | [], acc, _ => .inr ⟨acc, rfl, by simp⟩
 | c :: r, acc, h => by
  obtain ⟨d, h1, h2, h3⟩ := qpc (h c (by simp))
  have hc : 48 ≤ c.toNat ∧ c.toNat ≤ 57 := by omega
  unfold Lib.parseUint10
  rw [if_pos hc]
  split
  ·exact .inl rfl
  split
  ·exact .inl rfl
  rcases pu_ge r (acc * 10 + (c.toNat - 48)) (fun b hb => h b (by simp [hb])) with h4 | ⟨u, h4, h5⟩
  ·exact .inl h4
  ·refine .inr ⟨u, h4, Nat.le_trans ?_ h5⟩
   rw [List.length_cons, Nat.pow_succ, Nat.mul_comm (10 ^ r.length) 10, ← Nat.mul_assoc]
   exact Nat.mul_le_mul_right _ (by omega)
/-- The number that a long row of digits is, if it is one. -/
def okV (w : Txt) : Int := match Lib.atoiAll w with | .ok v => v | _ => 0
theorem qqr {w : Txt} (hd : ∀ b ∈ w, b ∈ digs) (hl : 18 < w.length) (h0 : ¬ (w.getD 0 0).toNat = 48) : Lib.atoiAll w = .range ∨ (Lib.atoiAll w = .ok (okV w) ∧ 65536 < okV w ∧ okV w ≤ 9223372036854775807) := by
 cases w with
 | nil => simp at hl
 | cons c r =>
  obtain ⟨d, h1, h2, h3⟩ := qpc (hd c (by simp))
  have h0' : ¬ c.toNat = 48 := by simpa using h0
  have hs : ¬ (c.toNat = 43 ∨ c.toNat = 45) := by omega
  have hm : Lib.parseMag (c :: r) = Lib.parseUint10 0 (c :: r) := if_neg (by simp)
  have e : Lib.atoiAll (c :: r) = match Lib.parseMag (c :: r) with
   | Lib.NumEnd.syntax => Lib.NumEnd.syntax
   | .range => .range
   | .ok u => if ¬ c.toNat = 45 ∧ 9223372036854775808 ≤ u then .range else if c.toNat = 45 ∧ 9223372036854775808 < u then .range else .ok (if c.toNat = 45 then -(u : Int) else u) := by
   unfold Lib.atoiAll
   dsimp only
   rw [if_neg hs]
   cases Lib.parseMag (c :: r) <;> rfl
  have hp : Lib.parseUint10 0 (c :: r) = Lib.parseUint10 (c.toNat - 48) r := by
   unfold Lib.parseUint10
   rw [if_pos (by omega), if_neg (by omega), if_neg (by omega), Nat.zero_mul, Nat.zero_add]
   cases r <;> rfl
  rcases pu_ge r (c.toNat - 48) (fun b hb => hd b (by simp [hb])) with h4 | ⟨u, h4, h5⟩
  ·left
   rw [e, hm, hp, h4]
  ·rw [hm, hp, h4] at e
   by_cases hb : 9223372036854775808 ≤ u
   ·left
    rw [e]
    exact if_pos ⟨by omega, hb⟩
   ·right
    have e2 : Lib.atoiAll (c :: r) = .ok (u : Int) := by
     rw [e]
     show (if _ then _ else _) = _
     rw [if_neg (fun q => hb q.2), if_neg (by omega), if_neg (by omega)]
    have h6 : 10 ^ 18 ≤ 10 ^ r.length := Nat.pow_le_pow_right (by decide) (by simp at hl; omega)
    have h7 : 10 ^ r.length ≤ u := Nat.le_trans (by have := Nat.mul_le_mul_right (10 ^ r.length) (show 1 ≤ c.toNat - 48 by omega); omega) h5
    have e3 : okV (c :: r) = (u : Int) := by unfold okV; rw [e2]
    rw [e3]
    exact ⟨e2, by omega, by omega⟩
theorem qpp {w : Txt} (h : Lib.trimS w digs = []) : ∀ b ∈ w, b ∈ digs := trim_nil.1 h
theorem qmw {w : Txt} (hd : ∀ b ∈ w, b ∈ digs) (h0 : w ≠ []) (hl : ¬ 18 < w.length) : Lib.atoi w = some (qbn w) ∧ 0 ≤ qbn w ∧ qbn w ≤ 1000000000000000000 := by
 obtain ⟨n, h1, h2⟩ := qwa h0 hd
 have h3 : (10 : Nat) ^ w.length ≤ 10 ^ 18 := Nat.pow_le_pow_right (by decide) (by omega)
 unfold qbn
 rw [h1]
 exact ⟨rfl, by show (0 : Int) ≤ n; omega, by show (n : Int) ≤ 1000000000000000000; omega⟩

/-- The items of a bar. -/
def brL (s : Txt) (l : List It) (a : Nat) (k : Nat) : Int × List It × Nat × Nat :=
 if (itR s 1 a k).1 = 0 then
  if gapF s (itR s 1 a k).2.2.1 = s.length ∨ qap s (itR s 1 a k).2.2.1 124 = true ∨ qad s (itR s 1 a k).2.2.1 = vow then (0, l ++ [(itR s 1 a k).2.1], gapF s (itR s 1 a k).2.2.1, (itR s 1 a k).2.2.2)
  else if _h : (itR s 1 a k).2.2.2 < k then brL s (l ++ [(itR s 1 a k).2.1]) (gapF s (itR s 1 a k).2.2.1) (itR s 1 a k).2.2.2
  else (4, [], 0, 0)
 else ((itR s 1 a k).1, [], (itR s 1 a k).2.2.1, 0)
termination_by k
/-- A bar. -/
def brR (s : Txt) (a : Nat) : Int × Br × Nat × Nat :=
 if (numR s a).1 = 0 then
  if qap s (numR s a).2.2 47 = true then
   if (numR s (gapF s (numR s a).2.2 + 1)).1 = 0 then
    if (brL s [] (numR s (gapF s (numR s a).2.2 + 1)).2.2 4095).1 = 0 then
     (0, ((numR s a).2.1, (numR s (gapF s (numR s a).2.2 + 1)).2.1, (brL s [] (numR s (gapF s (numR s a).2.2 + 1)).2.2 4095).2.1), (brL s [] (numR s (gapF s (numR s a).2.2 + 1)).2.2 4095).2.2)
    else ((brL s [] (numR s (gapF s (numR s a).2.2 + 1)).2.2 4095).1, dBr, (brL s [] (numR s (gapF s (numR s a).2.2 + 1)).2.2 4095).2.2)
   else ((numR s (gapF s (numR s a).2.2 + 1)).1, dBr, (numR s (gapF s (numR s a).2.2 + 1)).2.2, 0)
  else (2, dBr, gapF s (numR s a).2.2, 0)
 else ((numR s a).1, dBr, (numR s a).2.2, 0)
/-- The bars of a voice; m more may come; z: what is left. -/
def vcL (s : Txt) : Nat → List Br → Nat → Int → Int × List Br × Nat × Int
 | 0, l, a, z => if qap s a 124 = true then (5, [], gapF s a, 0) else (0, l, gapF s a, z)
 | m + 1, l, a, z => if qap s a 124 = true then
   if (brR s (gapF s a + 1)).1 = 0 then vcL s m (l ++ [(brR s (gapF s a + 1)).2.1]) (brR s (gapF s a + 1)).2.2.1 (((brR s (gapF s a + 1)).2.2.2 : Nat) : Int)
   else ((brR s (gapF s a + 1)).1, [], (brR s (gapF s a + 1)).2.2.1, 0)
  else (0, l, gapF s a, z)
/-- A voice. -/
def vcR (s : Txt) (a : Nat) (z : Int) : Int × Vo × Nat × Int :=
 if qad s a = vow then
  if qec (qad s (gapF s a + 5)) = true then
   if (vcL s 1024 [] (gapF s (gapF s a + 5) + (qad s (gapF s a + 5)).length) z).1 = 0 then
    (0, (qad s (gapF s a + 5), (vcL s 1024 [] (gapF s (gapF s a + 5) + (qad s (gapF s a + 5)).length) z).2.1), (vcL s 1024 [] (gapF s (gapF s a + 5) + (qad s (gapF s a + 5)).length) z).2.2)
   else ((vcL s 1024 [] (gapF s (gapF s a + 5) + (qad s (gapF s a + 5)).length) z).1, dVo, (vcL s 1024 [] (gapF s (gapF s a + 5) + (qad s (gapF s a + 5)).length) z).2.2)
  else (2, dVo, gapF s (gapF s a + 5), 0)
 else (2, dVo, gapF s a, 0)
/-- The voices of a piece; m more may come. -/
def rdL (s : Txt) : Nat → List Vo → Nat → Int → Int × List Vo × Nat
 | 0, l, a, _ => if gapF s a = s.length then (0, l, 0) else (5, [], gapF s a)
 | m + 1, l, a, z => if gapF s a = s.length then (0, l, 0) else
   if (vcR s (gapF s a) z).1 = 0 then rdL s m (l ++ [(vcR s (gapF s a) z).2.1]) (vcR s (gapF s a) z).2.2.1 (vcR s (gapF s a) z).2.2.2
   else ((vcR s (gapF s a) z).1, [], (vcR s (gapF s a) z).2.2.1)
/-- A piece, read: what is wrong, the voices, where. -/
def qoe (s : Txt) : Int × List Vo × Nat := if 65536 < s.length then (4, [], 0) else rdL s 64 [] 0 0

/-! ### where things end -/
theorem vow_len : vow.length = 5 := rfl
theorem qln {s : Txt} {lv : Int} {a k : Nat} : itR s lv a k =
 if k = 0 ∨ 31 < lv then (4, dIt, gapF s a, 0)
 else if qad s a = [45] then qeo s (.mk 2 1 [] (0, 0) [] []) (gapF s a + 1) (k - 1)
 else if qap s a 126 = true then qeo s (.mk 3 1 [] (0, 0) [] []) (gapF s a + 1) (k - 1)
 else if qad s a = [117, 112] then
  if (qlj (qad s (gapF s a + 2))).2 = 0 then
   if (grR s lv (gapF s (gapF s a + 2) + (qad s (gapF s a + 2)).length) (k - 1)).1 = 0 then
    qeo s (.mk 5 1 [] (qlj (qad s (gapF s a + 2))).1 [] (grR s lv (gapF s (gapF s a + 2) + (qad s (gapF s a + 2)).length) (k - 1)).2.1) (grR s lv (gapF s (gapF s a + 2) + (qad s (gapF s a + 2)).length) (k - 1)).2.2.1 (grR s lv (gapF s (gapF s a + 2) + (qad s (gapF s a + 2)).length) (k - 1)).2.2.2
   else ((grR s lv (gapF s (gapF s a + 2) + (qad s (gapF s a + 2)).length) (k - 1)).1, dIt, (grR s lv (gapF s (gapF s a + 2) + (qad s (gapF s a + 2)).length) (k - 1)).2.2.1, 0)
  else ((qlj (qad s (gapF s a + 2))).2, dIt, gapF s (gapF s a + 2), 0)
 else if qap s a 91 = true then
  if (grR s lv (gapF s a) (k - 1)).1 = 0 then qeo s (.mk 4 1 [] (0, 0) [] (grR s lv (gapF s a) (k - 1)).2.1) (grR s lv (gapF s a) (k - 1)).2.2.1 (grR s lv (gapF s a) (k - 1)).2.2.2
  else ((grR s lv (gapF s a) (k - 1)).1, dIt, (grR s lv (gapF s a) (k - 1)).2.2.1, 0)
 else if qap s a 60 = true then
  if (chL s 16 [] (gapF s a + 1)).1 = 0 then qeo s (.mk 1 1 (chL s 16 [] (gapF s a + 1)).2.1 (0, 0) [] []) (chL s 16 [] (gapF s a + 1)).2.2 (k - 1)
  else ((chL s 16 [] (gapF s a + 1)).1, dIt, (chL s 16 [] (gapF s a + 1)).2.2, 0)
 else if (pitR s (gapF s a)).1 = 0 then qeo s (.mk 1 1 [(pitR s (gapF s a)).2.1] (0, 0) [] []) (pitR s (gapF s a)).2.2 (k - 1)
 else ((pitR s (gapF s a)).1, dIt, (pitR s (gapF s a)).2.2, 0) := by
 rw [itR]
 by_cases h : k = 0 ∨ 31 < lv
 ·rw [dif_pos h, if_pos h]
 ·rw [dif_neg h, if_neg h]
theorem grR_eq {s : Txt} {lv : Int} {a k : Nat} : grR s lv a k = if qap s a 91 = true then grL s lv [] (gapF s a + 1) k else (2, [], gapF s a, 0) := by rw [grR]
theorem grL_eq {s : Txt} {lv : Int} {l : List It} {a k : Nat} : grL s lv l a k =
 if (itR s (lv + 1) a k).1 = 0 then
  if qap s (itR s (lv + 1) a k).2.2.1 93 = true then (0, l ++ [(itR s (lv + 1) a k).2.1], gapF s (itR s (lv + 1) a k).2.2.1 + 1, (itR s (lv + 1) a k).2.2.2)
  else if (itR s (lv + 1) a k).2.2.2 < k then grL s lv (l ++ [(itR s (lv + 1) a k).2.1]) (gapF s (itR s (lv + 1) a k).2.2.1) (itR s (lv + 1) a k).2.2.2
  else (4, [], 0, 0)
 else ((itR s (lv + 1) a k).1, [], (itR s (lv + 1) a k).2.2.1, 0) := by
 rw [grL]
 simp only [dite_eq_ite]
/-- Where an item ends, and how many may come qay it. -/
abbrev qlw (s : Txt) (a a' : Nat) : Prop := a ≤ a' ∧ a' ≤ s.length
theorem qet {s : Txt} {x : It} {a a0 k : Nat} (h : qlw s a0 a) : qlw s a0 (qeo s x a k).2.2.1 ∧ (qeo s x a k).2.2.2 = k := by
 have := tailR_le (x := x) (k := k) h.2
 exact ⟨⟨Nat.le_trans h.1 this.1, this.2.1⟩, this.2.2⟩
theorem items_end (s : Txt) : ∀ (m : Nat) (k : Nat), k < m →
  (∀ (lv : Int) (a : Nat), a ≤ s.length → (itR s lv a k).1 = 0 → qlw s a (itR s lv a k).2.2.1 ∧ (itR s lv a k).2.2.2 < k) ∧
  (∀ (lv : Int) (l : List It) (a : Nat), a ≤ s.length → (grL s lv l a k).1 = 0 → qlw s a (grL s lv l a k).2.2.1 ∧ (grL s lv l a k).2.2.2 < k) := by
 intro m
 induction m with
 | zero => intro k h; omega
 | succ m ih =>
  intro k hk
  have hgr : 0 < k → ∀ (lv : Int) (a : Nat), a ≤ s.length → (grR s lv a (k - 1)).1 = 0 → qlw s a (grR s lv a (k - 1)).2.2.1 ∧ (grR s lv a (k - 1)).2.2.2 < k - 1 := by
   intro h1 lv a ha h0
   rw [grR_eq] at h0 ⊢
   split at h0
   ·rename_i c
    rw [if_pos c]
    have := qda c
    have hga := qcy s a
    have h2 := (ih (k - 1) (by omega)).2 lv [] (gapF s a + 1) (by omega) h0
    exact ⟨⟨by have := h2.1.1; omega, h2.1.2⟩, h2.2⟩
   ·cases h0
  have hit : ∀ (lv : Int) (a : Nat), a ≤ s.length → (itR s lv a k).1 = 0 → qlw s a (itR s lv a k).2.2.1 ∧ (itR s lv a k).2.2.2 < k := by
   intro lv a ha h0
   have hga := qcy s a
   have hgl := qcs ha
   have hwl := qdj ha
   have hgg := qlt s a
   rw [qln] at h0 ⊢
   split at h0
   ·cases h0
   rename_i c0
   rw [if_neg c0]
   have hk0 : 0 < k := by omega
   split at h0
   ·rename_i c1
    rw [if_pos c1]
    rw [c1, List.length_singleton] at hwl
    have := qet (s := s) (x := .mk 2 1 [] (0, 0) [] []) (a := gapF s a + 1) (a0 := a) (k := k - 1) ⟨by omega, by omega⟩
    exact ⟨this.1, by rw [this.2]; omega⟩
   rename_i c1
   rw [if_neg c1]
   split at h0
   ·rename_i c2
    rw [if_pos c2]
    have := qda c2
    have := qet (s := s) (x := .mk 3 1 [] (0, 0) [] []) (a := gapF s a + 1) (a0 := a) (k := k - 1) ⟨by omega, by omega⟩
    exact ⟨this.1, by rw [this.2]; omega⟩
   rename_i c2
   rw [if_neg c2]
   split at h0
   ·rename_i c3
    rw [if_pos c3]
    rw [c3, List.length_cons, List.length_singleton] at hwl
    have hga2 := qcy s (gapF s a + 2)
    have hwl2 := qdj (s := s) (a := gapF s a + 2) (by omega)
    split at h0
    ·rename_i c4
     rw [if_pos c4]
     split at h0
     ·rename_i c5
      rw [if_pos c5]
      have h2 := hgr hk0 lv _ hwl2 c5
      have := qet (s := s) (x := .mk 5 1 [] (qlj (qad s (gapF s a + 2))).1 [] (grR s lv (gapF s (gapF s a + 2) + (qad s (gapF s a + 2)).length) (k - 1)).2.1) (a := (grR s lv (gapF s (gapF s a + 2) + (qad s (gapF s a + 2)).length) (k - 1)).2.2.1) (a0 := a) (k := (grR s lv (gapF s (gapF s a + 2) + (qad s (gapF s a + 2)).length) (k - 1)).2.2.2) ⟨by have := h2.1.1; omega, h2.1.2⟩
      exact ⟨this.1, by rw [this.2]; have := h2.2; omega⟩
     ·rename_i c5
      exact absurd h0 c5
    ·rename_i c4
     exact absurd h0 c4
   rename_i c3
   rw [if_neg c3]
   split at h0
   ·rename_i c4
    rw [if_pos c4]
    split at h0
    ·rename_i c5
     rw [if_pos c5]
     have h2 := hgr hk0 lv _ hgl c5
     have := qet (s := s) (x := .mk 4 1 [] (0, 0) [] (grR s lv (gapF s a) (k - 1)).2.1) (a := (grR s lv (gapF s a) (k - 1)).2.2.1) (a0 := a) (k := (grR s lv (gapF s a) (k - 1)).2.2.2) ⟨by have := h2.1.1; omega, h2.1.2⟩
     exact ⟨this.1, by rw [this.2]; have := h2.2; omega⟩
    ·rename_i c5
     exact absurd h0 c5
   rename_i c4
   rw [if_neg c4]
   split at h0
   ·rename_i c5
    rw [if_pos c5]
    have hlt := qda c5
    split at h0
    ·rename_i c6
     rw [if_pos c6]
     have h2 := chL_le 16 [] (gapF s a + 1) (by omega) c6
     have := qet (s := s) (x := .mk 1 1 (chL s 16 [] (gapF s a + 1)).2.1 (0, 0) [] []) (a := (chL s 16 [] (gapF s a + 1)).2.2) (a0 := a) (k := k - 1) ⟨by have := h2.1; omega, h2.2.1⟩
     exact ⟨this.1, by rw [this.2]; omega⟩
    ·rename_i c6
     exact absurd h0 c6
   rename_i c5
   rw [if_neg c5]
   split at h0
   ·rename_i c6
    rw [if_pos c6]
    have h2 := pit_le hgl c6
    have := qet (s := s) (x := .mk 1 1 [(pitR s (gapF s a)).2.1] (0, 0) [] []) (a := (pitR s (gapF s a)).2.2) (a0 := a) (k := k - 1) ⟨by omega, h2.2⟩
    exact ⟨this.1, by rw [this.2]; omega⟩
   ·rename_i c6
    exact absurd h0 c6
  refine ⟨hit, fun lv l a ha h0 => ?_⟩
  rw [grL_eq] at h0 ⊢
  split at h0
  ·rename_i c
   rw [if_pos c]
   have h1 := hit (lv + 1) a ha c
   have hgp := qcy s (itR s (lv + 1) a k).2.2.1
   split at h0
   ·rename_i c2
    rw [if_pos c2]
    have := qda c2
    exact ⟨⟨by have := h1.1.1; show a ≤ gapF s _ + 1; omega, by show gapF s _ + 1 ≤ _; omega⟩, h1.2⟩
   ·rename_i c2
    rw [if_neg c2]
    rw [if_pos h1.2] at h0 ⊢
    have h3 := (ih _ (show (itR s (lv + 1) a k).2.2.2 < m by have := h1.2; omega)).2 lv (l ++ [(itR s (lv + 1) a k).2.1]) (gapF s (itR s (lv + 1) a k).2.2.1) (qcs h1.1.2) h0
    exact ⟨⟨by have := h1.1.1; have := h3.1.1; omega, h3.1.2⟩, by have := h1.2; have := h3.2; omega⟩
  ·rename_i c
   exact absurd h0 c
theorem itR_end {s : Txt} {lv : Int} {a k : Nat} (ha : a ≤ s.length) (h0 : (itR s lv a k).1 = 0) : qlw s a (itR s lv a k).2.2.1 ∧ (itR s lv a k).2.2.2 < k := (items_end s (k + 1) k (by omega)).1 lv a ha h0
theorem qmc {s : Txt} {l : List It} {a k : Nat} : brL s l a k = if (itR s 1 a k).1 = 0 then
  if gapF s (itR s 1 a k).2.2.1 = s.length ∨ qap s (itR s 1 a k).2.2.1 124 = true ∨ qad s (itR s 1 a k).2.2.1 = vow then (0, l ++ [(itR s 1 a k).2.1], gapF s (itR s 1 a k).2.2.1, (itR s 1 a k).2.2.2)
  else if (itR s 1 a k).2.2.2 < k then brL s (l ++ [(itR s 1 a k).2.1]) (gapF s (itR s 1 a k).2.2.1) (itR s 1 a k).2.2.2
  else (4, [], 0, 0)
 else ((itR s 1 a k).1, [], (itR s 1 a k).2.2.1, 0) := by
 rw [brL]
 simp only [dite_eq_ite]
theorem brL_end {s : Txt} : ∀ (m k : Nat), k < m → ∀ (l : List It) (a : Nat), a ≤ s.length → (brL s l a k).1 = 0 → qlw s a (brL s l a k).2.2.1
 | 0, k, h, _, _, _, _ => absurd h (Nat.not_lt_zero k)
 | m + 1, k, hk, l, a, ha, h0 => by
  rw [qmc] at h0 ⊢
  split at h0
  ·rename_i c
   rw [if_pos c]
   have h1 := itR_end ha c
   have hgp := qcy s (itR s 1 a k).2.2.1
   split at h0
   ·rename_i c2
    rw [if_pos c2]
    exact ⟨by have := h1.1.1; show a ≤ gapF s _; omega, qcs h1.1.2⟩
   ·rename_i c2
    rw [if_neg c2]
    rw [if_pos h1.2] at h0 ⊢
    have h3 := brL_end m _ (show (itR s 1 a k).2.2.2 < m by have := h1.2; omega) (l ++ [(itR s 1 a k).2.1]) (gapF s (itR s 1 a k).2.2.1) (qcs h1.1.2) h0
    exact ⟨by have := h1.1.1; have := h3.1; omega, h3.2⟩
  ·rename_i c
   exact absurd h0 c
theorem brR_end {s : Txt} {a : Nat} (ha : a ≤ s.length) (h0 : (brR s a).1 = 0) : qlw s a (brR s a).2.2.1 := by
 unfold brR at h0 ⊢
 have hga := qcy s a
 have hn := qql ha
 split at h0
 ·rename_i c
  rw [if_pos c]
  split at h0
  ·rename_i c2
   rw [if_pos c2]
   have hlt := qda c2
   have hgp := qcy s (numR s a).2.2
   have hn2 := qql (s := s) (a := gapF s (numR s a).2.2 + 1) (by omega)
   have hgq := qcy s (gapF s (numR s a).2.2 + 1)
   split at h0
   ·rename_i c3
    rw [if_pos c3]
    split at h0
    ·rename_i c4
     rw [if_pos c4]
     have := brL_end 4096 4095 (by omega) [] _ hn2.2 c4
     exact ⟨by have := this.1; show a ≤ (brL s [] _ 4095).2.2.1; omega, this.2⟩
    ·rename_i c4
     exact absurd h0 c4
   ·rename_i c3
    exact absurd h0 c3
  ·cases h0
 ·rename_i c
  exact absurd h0 c
theorem qym {s : Txt} : ∀ (m : Nat) (l : List Br) (a : Nat) (z : Int), a ≤ s.length → (vcL s m l a z).1 = 0 → qlw s a (vcL s m l a z).2.2.1
 | 0, l, a, z, ha, h0 => by
  rw [vcL] at h0 ⊢
  split at h0
  ·cases h0
  ·rename_i c
   rw [if_neg c]
   exact ⟨qcy s a, qcs ha⟩
 | m + 1, l, a, z, ha, h0 => by
  rw [vcL] at h0 ⊢
  have hga := qcy s a
  split at h0
  ·rename_i c
   rw [if_pos c]
   have hlt := qda c
   split at h0
   ·rename_i c2
    rw [if_pos c2]
    have h1 := brR_end (s := s) (a := gapF s a + 1) (by omega) c2
    have h2 := qym m _ _ _ h1.2 h0
    exact ⟨by have := h1.1; have := h2.1; omega, h2.2⟩
   ·rename_i c2
    exact absurd h0 c2
  ·rename_i c
   rw [if_neg c]
   exact ⟨hga, qcs ha⟩
theorem vcR_end {s : Txt} {a : Nat} {z : Int} (ha : a ≤ s.length) (h0 : (vcR s a z).1 = 0) : qlw s a (vcR s a z).2.2.1 := by
 unfold vcR at h0 ⊢
 have hga := qcy s a
 have hwl := qdj ha
 split at h0
 ·rename_i c
  rw [if_pos c]
  rw [c, vow_len] at hwl
  have hga2 := qcy s (gapF s a + 5)
  have hwl2 := qdj (s := s) (a := gapF s a + 5) (by omega)
  split at h0
  ·rename_i c2
   rw [if_pos c2]
   split at h0
   ·rename_i c3
    rw [if_pos c3]
    have h2 := qym 1024 [] _ _ hwl2 c3
    exact ⟨by have := h2.1; show a ≤ (vcL s 1024 [] _ z).2.2.1; omega, h2.2⟩
   ·rename_i c3
    exact absurd h0 c3
  ·cases h0
 ·cases h0
theorem qtp {s : Txt} {m : Nat} {l : List Br} {a : Nat} {z : Int} (hl : l.length + m = 1024) : vcL s m l a z = if qap s a 124 = true then
   if l.length = 1024 then (5, [], gapF s a, 0) else
   if (brR s (gapF s a + 1)).1 = 0 then vcL s (1024 - (l.length + 1)) (l ++ [(brR s (gapF s a + 1)).2.1]) (brR s (gapF s a + 1)).2.2.1 (((brR s (gapF s a + 1)).2.2.2 : Nat) : Int)
   else ((brR s (gapF s a + 1)).1, [], (brR s (gapF s a + 1)).2.2.1, 0)
  else (0, l, gapF s a, z) := by
 cases m with
 | zero => rw [vcL, if_pos (show l.length = 1024 by omega)]
 | succ m => rw [vcL, if_neg (show ¬ l.length = 1024 by omega), show 1024 - (l.length + 1) = m by omega]
theorem qud {s : Txt} {m : Nat} {l : List Vo} {a : Nat} {z : Int} (hl : l.length + m = 64) : rdL s m l a z = if gapF s a = s.length then (0, l, 0) else
   if l.length = 64 then (5, [], gapF s a) else
   if (vcR s (gapF s a) z).1 = 0 then rdL s (64 - (l.length + 1)) (l ++ [(vcR s (gapF s a) z).2.1]) (vcR s (gapF s a) z).2.2.1 (vcR s (gapF s a) z).2.2.2
   else ((vcR s (gapF s a) z).1, [], (vcR s (gapF s a) z).2.2.1) := by
 cases m with
 | zero => rw [rdL, if_pos (show l.length = 64 by omega)]
 | succ m => rw [rdL, if_neg (show ¬ l.length = 64 by omega), show 64 - (l.length + 1) = m by omega]
end Go.Proofs.YtmlnilkbolcknaaGreatDoor.Pm
namespace Go.Proofs.YtmlnilkbolcknaaGreatDoor.Pm
open Go

theorem ics_len (l : List It) : (ics l).length = l.length * 7 := by rw [qej]; exact qcz gI 7 (fun _ => rfl) l
theorem ics_snoc (l : List It) (x : It) : ics l ++ gI x = ics (l ++ [x]) := by rw [qej, qej, List.flatMap_append]; simp
theorem brs_len (l : List Br) : (brs l).length = l.length * 3 := qcz brC 3 (fun _ => rfl) l
theorem brs_snoc (l : List Br) (x : Br) : brs l ++ brC x = brs (l ++ [x]) := by unfold brs; rw [List.flatMap_append]; simp
theorem vos_len (l : List Vo) : (vos l).length = l.length * 2 := qcz voC 2 (fun _ => rfl) l
theorem vos_snoc (l : List Vo) (x : Vo) : vos l ++ voC x = vos (l ++ [x]) := by unfold vos; rw [List.flatMap_append]; simp
end Go.Proofs.YtmlnilkbolcknaaGreatDoor.Pm
namespace Go.Proofs.YtmlnilkbolcknaaGreatDoor.Pm
open Go

/-- Called with such arguments, the lent blocks as H tells them, function f panics with v; qay it the lent blocks are as H' tells. -/
def PX (P : Program) (f : FuncId) (args : List PV) (H : Hp) (v : Value) (H' : Hp) : Prop := FnOk P f ∧ H.length ≤ H'.length ∧ ∀ (c : Cx) (vs : Array Value), Heap (cEnv P c H) (· < H.length) c (hSt H) → RL P c args vs →
 Calls P f vs c.w fun e w' => ∃ c', e = .panicked [{ v := v, recovered := false }] ∧ c'.w = w' ∧ Heap (cEnv P c H) (· < H'.length) c' (hSt H')
/-- How a function ends. -/
inductive O where
 | ret (r : PV) (H' : Hp)
 | pan (v : Value) (H' : Hp)
def O.H : O → Hp
 | .ret _ H' => H'
 | .pan _ H' => H'
def PO (P : Program) (f : FuncId) (args : List PV) (H : Hp) : O → Prop
 | .ret r H' => PC P f args H r H'
 | .pan v H' => PX P f args H v H'

/-! ### an operation that panics -/
def callX (P : Program) (f : FuncId) (args : List PV) (id : Nat) (ids : List Nat) (bs : List PV) (H : Hp) (v : Value) (H' : Hp) : Plan :=
 match Nat.ble H'.length (ids.length + 8), qcl ids with
 | true, true => .ob (PX P f bs H v H') (.ob (args = renL (sigi ids id) bs) (qqv (sigi ids id) ids H (.done (.av v) (qef (sigo ids id) 0 H'))))
 | _, _ => .fail
def panP (x : Operand) : Plan := opd x fun p => match p with
 | .av (.iface t v) => .done (.av (.iface t v)) []
 | _ => .fail
def planX (P : Program) (o : Oper) (an : Ans) (id : Nat) : Plan := match o.op with
 | .panic x => panP x
 | .call { callee := .value fx, args, .. } => opd fx fun fv => opdl args.toList fun qs => match fv, an with
  | .av (.func (.func f) fs cs), .call ids bs H (.av v) H' => callX P f (fs.toList.map .av ++ qs.map cz ++ cs.toList.map .av) id ids bs H v H'
  | _, _ => .fail
 | _ => .fail
abbrev chn (v : Value) : Exit := .panic [{ v := v, recovered := false }]
def XOk (E : Env) (o : Oper) (id : Nat) (pl : Plan) : Prop := ∀ (g : St) (v : Value) (wb : L), Res g pl (.av v) wb → ∀ (nx : Nat → Prop) (c : Cx) (a : Act) (K : Act → World → Prop) (Q : Exit → Act → World → Prop), (∀ t, t < 8 → ¬ nx (id + t)) → Inv E nx c g a →
 (∀ c', Inv E (fun j => nx j ∨ (id ≤ j ∧ j < id + 8)) c' (over wb g) a → Q (chn v) a c'.w) → o.wp E.P a c.w K Q
theorem Inv.keeps {E : Env} {nx nx' : Nat → Prop} {c c' : Cx} {g g' : St} {a : Act} (h : Inv E nx c g a) (hk : Keep c c') (hh : Heap E nx' c' g') (hs : ∀ s, g' (ks s) = g (ks s)) : Inv E nx' c' g' a :=
 { hh with tmps := h.tmps, dfr := h.dfr, slot := fun s p hp => (h.slot s p (by rw [← hs]; exact hp)).mono hk, isv := fun s x hx => h.isv s x (by rw [← hs]; exact hx) }
theorem quk {E : Env} {o : Oper} {id : Nat} {an : Ans} : XOk E o id (planX E.P o an id) := by
 intro g v wb h nx c a K Q hn hI hQ
 unfold planX at h
 split at h
 ·rename_i x ho
  unfold panP at h
  obtain ⟨q, hq, h1⟩ := Res.opd hI h
  split at h1
  ·rename_i t u
   obtain ⟨h2, rfl⟩ := Res.done h1
   cases h2
   have hv := qao hq
   have hr : (execOp a.eval o).run E.P c.w = .halt (.panic (.iface t u)) c.w := by
    simp [execOp, ho, hv, Instr.panic, goPanic, Sem.run]
   unfold Oper.wp
   rw [hr, Oper.upon_panic]
   exact hQ c (hI.more fun _ h => .inl h)
  ·exact (Res.fail h1).elim
 ·rename_i fx xs ts ho
  obtain ⟨q, hq, h1⟩ := Res.opd hI h
  obtain ⟨ps, hps, h2⟩ := Res.opdl hI h1
  have hps' : RL E.P c ps (xs.map a.eval) := by
   have e : (xs.toList.map a.eval).toArray = xs.map a.eval := by apply Array.ext'; simp
   rw [← e]; exact hps
  split at h2
  ·rename_i f fs cs ids bs H u H'
   unfold callX at h2
   split at h2
   case h_2 => exact (Res.fail h2).elim
   rename_i hb1 hb2
   obtain ⟨⟨hfn, hHl, hpc⟩, h3⟩ := Res.ob h2
   obtain ⟨he, h4⟩ := Res.ob h3
   obtain ⟨hlen, h5, hlent⟩ := qlk h4
   obtain ⟨h6, rfl⟩ := Res.done h5
   cases h6
   have hrl := ((qel (P := E.P) (c := c) fs).append hps'.czs).append (qel cs)
   rw [he] at hrl
   have hex : (execOp a.eval o).run E.P c.w = .ok (.enter f (fs ++ xs.map a.eval ++ cs)) c.w := by
    obtain ⟨fn, h1, h2, h3⟩ := hfn
    have h4 : (callFunc f (fs ++ xs.map a.eval ++ cs)).run E.P c.w = .ok (.enter f (fs ++ xs.map a.eval ++ cs)) c.w := by
     have h2' : ¬ fn.body = none := fun e => by rw [e] at h2; cases h2
     have h3' : ¬ fn.name = "runtime.NumGoroutine" := by simpa using h3
     simp [callFunc, h1, h3', h2']
    simp only [execOp, ho, resolve, qao hq, Deferred.ofValue, invoke, Sem.run_bind, Sem.run_pure, Result.andThen_ok]
    exact h4
   refine qwg (G := fun e _ => e = .panicked [{ v := v, recovered := false }]) hn hI (Nat.le_of_ble_eq_true hb1) hb2 hHl hlen hlent (fun c vs h1 h2 => (hpc c vs h1 h2).mono ?_) hrl hex ?_
   ·rintro e w' ⟨c', rfl, rfl, h4⟩
    exact ⟨c', rfl, h4, rfl⟩
   ·rintro e c' own2 rfl hk hto hh2
    refine hQ ⟨c'.w, c'.S, own2⟩ (hI.keeps hk hh2 fun s => ?_)
    unfold over
    rw [qdv]
  ·exact (Res.fail h2).elim
 ·exact (Res.fail h).elim
/-- A guarded one. -/
def qqz (P : Program) (ops : List Oper) (o : Oper) (an : Ans) (id : Nat) : Plan := match o.guard with
 | none => planX P o an id
 | some (j, want) => match (ops[j]?).bind (·.dst) with
  | some d => .look (ks d) fun v => match v, an with
   | .pv (.av (.bool t)), .gd b an' => .ob (t = b) (match b == want with | true => planX P o an' id | false => .fail)
   | _, _ => .fail
  | none => .fail
def StepX (E : Env) (ops : Array Oper) (i : Nat) (v : Value) (wb : L) (id : Nat) (g : St) : Prop :=
 ∀ (nx : Nat → Prop) (c : Cx) (a : Act) (K : Act → World → Prop) (Q : Exit → Act → World → Prop), (∀ t, t < 8 → ¬ nx (id + t)) → Inv E nx c g a →
  (∀ c', Inv E (fun j => nx j ∨ (id ≤ j ∧ j < id + 8)) c' (over wb g) a → Q (chn v) a c'.w) → wpOp E.P ops Q i K a c.w
theorem gplanX_ok {E : Env} {l : List Oper} {i : Nat} {o : Oper} {id : Nat} {an : Ans} (ho : l[i]? = some o) {g : St} {out : Out} {v : Value} (hr : run g (qqz E.P l o an id) = some out) (hv : out.pv = .av v) (hob : ∀ p ∈ out.obs, p) :
  StepX E l.toArray i v out.wb id g := by
 intro nx c a K Q hn hI hQ
 have hres : Res g (qqz E.P l o an id) (.av v) out.wb := ⟨out, hr, hv, rfl, hob⟩
 have ho' : l.toArray[i]? = some o := by simpa using ho
 unfold wpOp
 simp only [ho']
 unfold qqz at hres
 split at hres
 ·rename_i hg
  rw [if_pos (by simp [Region.wanted, hg])]
  exact .inl (quk g _ _ hres nx c a K Q hn hI hQ)
 ·rename_i j want hg
  split at hres
  ·rename_i d hj
   obtain ⟨v', hv', h1⟩ := Res.look hres
   split at h1
   ·rename_i t b an'
    obtain ⟨rfl, h2⟩ := Res.ob h1
    have h3 := qao (hI.slot d _ hv')
    have h4 : a.tmps[d]? = some (.bool t) := by
     rw [Array.getD_eq_getD_getElem?] at h3
     cases hx : a.tmps[d]? with
     | none => rw [hx] at h3; cases h3
     | some x => rw [hx] at h3; simp only [Option.getD_some] at h3; rw [h3]
    have hy : yielded l.toArray a.tmps j = some t := by
     unfold yielded
     have hj' : (l.toArray[j]?).bind (·.dst) = some d := by simpa using hj
     rw [hj']
     simp [h4]
    have hw : Region.wanted o (yielded l.toArray a.tmps) = (t == want) := by
     unfold Region.wanted
     simp only [hg, hy]
     cases t <;> cases want <;> rfl
    split at h2
    ·rename_i hbw
     rw [if_pos (by rw [hw]; exact hbw)]
     exact .inl (quk g _ _ h2 nx c a K Q hn hI hQ)
    ·exact (Res.fail h2).elim
   ·exact (Res.fail h1).elim
  ·exact (Res.fail hres).elim

/-! ### a region in which one panics -/
section
variable {E : Env} {n0 : Nat} {g0 : St} {W : Nat → L}
theorem nx_lt {n0 m : Nat} {p : Nat → Bool} (hp : ∀ j, p j = true → j < m) {id : Nat} (h : nxP n0 p id) : id < n0 + 8 * m := by
 rcases h with h | ⟨j, h1, h2, h3⟩
 ·omega
 ·have := hp j h1
  omega
/-- In the order of the text. -/
theorem qua {ops : Array Oper} {j : Nat} (hj : j < ops.size) {v : Value} {wb : L}
  (hs : ∀ i, i < j → ∃ o out, ops[i]? = some o ∧ W i = wr o.dst out ∧ qjr E ops i o out (n0 + 8 * i) (fold g0 W (fun t => decide (t < i)) ops.size))
  (hx : StepX E ops j v wb (n0 + 8 * j) (fold g0 W (fun t => decide (t < j)) ops.size)) {Q : Exit → Act → World → Prop}
  (hQ : ∀ p c a, Inv E (fun id => id < n0 + 8 * ops.size) c (over wb (fold g0 W p ops.size)) a → Q (chn v) a c.w) :
  ∀ (r k : Nat), k + r = j → ∀ c a, Inv E (nxP n0 (fun t => decide (t < k))) c (fold g0 W (fun t => decide (t < k)) ops.size) a →
   wpOps E.P ops Q ((List.range ops.size).drop k) a c.w
 | 0, k, hk, c, a, h => by
  obtain rfl : k = j := by omega
  rw [List.drop_eq_getElem_cons (by simpa using hj), List.getElem_range, wpOps_cons]
  refine hx _ c a _ Q (qng (by simp)) h fun c' h' => hQ _ c' a (h'.more fun id hid => ?_)
  rcases hid with h1 | h1
  ·have := nx_lt (m := k) (fun j hj => by simpa using hj) h1
   omega
  ·omega
 | r + 1, k, hk, c, a, h => by
  have hlt : k < ops.size := by omega
  rw [List.drop_eq_getElem_cons (by simpa using hlt), List.getElem_range, wpOps_cons]
  obtain ⟨o, out, ho, hW, hst⟩ := hs k (by omega)
  refine hst (nxP n0 (fun j => decide (j < k))) c a _ Q (qng (by simp)) h fun c' a' h' => ?_
  refine qua hj hs hx hQ r (k + 1) (by omega) c' a' ?_
  have e : (fun j => decide (j < k + 1)) = addP (fun j => decide (j < k)) k := by
   funext j
   unfold addP
   by_cases e : j = k
   ·subst e; simp
   ·simp [e]; omega
  rw [e, qfl (by simp) hlt fun j x h1 h2 h3 => by simp at h3; omega, hW]
  exact h'.more fun id hid => qup hid
/-- In any order. -/
theorem any_opsX {l : List Oper} {rd : Nat → List Nat} {bf : List (List Nat)} {j : Nat} {dead : Nat → Bool} (hj : j < l.length) (hdj : dead j = true) {v : Value} {wb : L} (hb : befB l bf = true) (hap : qio W rd bf l.length = true)
  (hdead : ∀ i, i < l.length → dead i = true → i = j ∨ j ∈ bf.getD i [])
  (hs : ∀ i o, l[i]? = some o → dead i = false → ∃ out, W i = wr o.dst out ∧ ∀ g, (∀ k ∈ rd i, g k = fold g0 W (fun t => decide (t < i)) l.length k) → qjr E l.toArray i o out (n0 + 8 * i) g)
  (hx : ∀ g, (∀ k ∈ rd j, g k = fold g0 W (fun t => decide (t < j)) l.length k) → StepX E l.toArray j v wb (n0 + 8 * j) g) {Q : Exit → Act → World → Prop}
  (hQ : ∀ p c a, Inv E (fun id => id < n0 + 8 * l.length) c (over wb (fold g0 W p l.length)) a → Q (chn v) a c.w) :
  ∀ (fuel : Nat) (listed : Array Bool) (c : Cx) (a : Act), listed.size = l.length → left (fun i => listed.getD i false) l.length = fuel → Closed l.toArray (fun i => listed.getD i false) → listed.getD j false = false →
   Inv E (nxP n0 (fun j => listed.getD j false)) c (fold g0 W (fun j => listed.getD j false) l.length) a → wpAny E.P .any l.toArray Q fuel listed a c.w := by
 have hnil : ∀ (listed : Array Bool), listed.size = l.length → Region.ready .any l.toArray listed = [] → ∀ i, i < l.length → listed.getD i false = true := by
  intro listed hsz hr i
  induction i using Nat.strongRecOn with
  | ind i ih =>
   intro hi
   by_cases hl : listed.getD i false = true
   ·exact hl
   ·exfalso
    have hm : i ∈ Region.ready .any l.toArray listed := mem_ready.2 ⟨by rw [getD_some (by omega) true false]; simpa using hl, l[i], by simp [hi], fun e he hbd => by
     simp only [befB, List.all_eq_true, List.mem_range] at hb
     have h1 := hb i hi
     rw [List.getElem?_eq_getElem hi] at h1
     simp only [Option.all_some, Bool.and_eq_true, Array.all_eq_true_iff_forall_mem] at h1
     have h2 : e.on < i := by have := h1.1 e he; rw [hbd] at this; simpa using this
     exact ih e.on h2 (by omega)⟩
    rw [hr] at hm
    cases hm
 have hno : ∀ {α : Prop} (listed : Array Bool), listed.getD j false = false → (∀ i, i < l.length → listed.getD i false = true) → α := fun listed h1 h2 => by
  have := h2 j hj
  rw [h1] at this
  cases this
 intro fuel
 induction fuel with
 | zero =>
  intro listed c a hsz hc hcl hlj h
  exact hno listed hlj (qll hc)
 | succ fuel ih =>
  intro listed c a hsz hc hcl hlj h
  refine ⟨fun hr => hno listed hlj (hnil listed hsz hr), fun i hm => ?_⟩
  obtain ⟨h1, o, ho, hdeps⟩ := mem_ready.1 hm
  have ho' : l[i]? = some o := by simpa using ho
  have hi : i < l.length := (List.getElem?_eq_some_iff.1 ho').1
  have hli : listed.getD i false = false := by rw [getD_some (by omega) false true]; exact h1
  have hbef := qkj hb hcl i o ho' hdeps
  have hfar : ∀ j, i < j → j < l.length → listed.getD j false = true → i ∉ bf.getD j [] := fun j hij hj hlj hmem => by
   have := qkj hb hcl j l[j] (by simp [hj]) (hcl j l[j] (by simp [hj]) hlj) i hmem
   rw [hli] at this
   cases this
  have hrd : ∀ k ∈ rd i, fold g0 W (fun j => listed.getD j false) l.length k = fold g0 W (fun t => decide (t < i)) l.length k := fun k hk => by
   refine qdi fun j hj hh => ?_
   rcases Nat.lt_trichotomy j i with h2 | h2 | h2
   ·by_cases hmem : j ∈ bf.getD i []
    ·rw [hbef j hmem]; simp [h2]
    ·exact absurd hk ((qdy hap h2 hi hmem).1 hh).2
   ·subst h2; rw [hli]; simp
   ·have : ¬ j < i := by omega
    simp only [this, decide_false]
    cases hlj : listed.getD j false with
    | false => rfl
    | true => exact absurd hk ((qdy hap h2 hj (hfar j h2 hj hlj)).2 hh)
  have hlt : ∀ t, listed.getD t false = true → t < l.length := fun t ht => by
   rcases Nat.lt_or_ge t l.length with h4 | h4
   ·exact h4
   ·rw [Array.getD_eq_getD_getElem?, Array.getElem?_eq_none (by omega)] at ht
    cases ht
  cases hdi : dead i with
  | true =>
   rcases hdead i hi hdi with rfl | hm2
   ·refine hx _ hrd _ c a _ Q (qng (by exact hli)) h fun c' h' => hQ _ c' a (h'.more fun id hid => ?_)
    rcases hid with h3 | h3
    ·exact nx_lt hlt h3
    ·omega
   ·have := hbef j hm2
    rw [hlj] at this
    cases this
  | false =>
   have hij : i ≠ j := fun e => by rw [e, hdj] at hdi; cases hdi
   obtain ⟨out, hW, hst⟩ := hs i o ho' hdi
   refine hst _ hrd _ c a _ Q (qng (by exact hli)) h fun c' a' h' => ?_
   have e : (fun j => (listed.setIfInBounds i true).getD j false) = addP (fun j => listed.getD j false) i := by
    funext j
    unfold addP
    by_cases e : j = i
    ·subst e
     rw [if_pos rfl, Array.getD_eq_getD_getElem?]
     simp [hsz, hi]
    ·rw [if_neg e, getD_set_ne _ (Ne.symm e)]
   refine ih (listed.setIfInBounds i true) c' a' (by simpa using hsz) ?_ ?_ (by rw [getD_set_ne _ hij]; exact hlj) ?_
   ·have := qos (f := fun i => listed.getD i false) hli hi
    rw [e]
    omega
   ·intro j oj hj hjl e' he' hb'
    by_cases ej : j = i
    ·subst ej
     rw [ho] at hj
     cases hj
     exact getD_set_true (hdeps e' he' hb')
    ·have hjl' : listed.getD j false = true := by
      have h2 : (listed.setIfInBounds i true).getD j false = true := hjl
      rwa [getD_set_ne _ (Ne.symm ej)] at h2
     exact getD_set_true (hcl j oj hj hjl' e' he' hb')
   ·rw [e, qfl (by exact hli) hi fun j x h2 h3 h4 h5 => ((qdy hap h2 h3 (hfar j h2 h3 h4)).1 h5).1, hW]
    exact h'.more fun id hid => qup hid
end

/-! ### such a region reckoned -/
/-- What the operations do that aren't left out (dead); what number j, which panics, does. -/
def evd (P : Program) (n : Nat) (ops : List Oper) (n0 : Nat) (ans : List (Nat × Ans)) (dead : List Nat) (j : Nat) : List Oper → Nat → L → Option (List Prop × List (Option Out) × Option Out)
 | [], _, _ => some ([], [], none)
 | o :: r, i, l => match Nat.beq i j with
  | true => match run (get l) (qqz P ops o (qye ans i) (n0 + 8 * i)), evd P n ops n0 ans dead j r (i + 1) l with
   | some x, some (obs, outs, _) => some (x.obs ++ obs, none :: outs, some x)
   | _, _ => none
  | false => match dead.contains i with
   | true => match evd P n ops n0 ans dead j r (i + 1) l with
    | some (obs, outs, x) => some (obs, none :: outs, x)
    | none => none
   | false => match run (get l) (qsr P ops o (qye ans i) (n0 + 8 * i)), dstOk n o with
    | some out, true => match evd P n ops n0 ans dead j r (i + 1) (wr o.dst out ++ l) with
     | some (obs, outs, x) => some (out.obs ++ obs, some out :: outs, x)
     | none => none
    | _, _ => none
def Wd (ops : List Oper) (outs : List (Option Out)) (i : Nat) : L := match outs.getD i none with | some out => wr ((ops[i]?).bind (·.dst)) out | none => []
theorem fold_none {W : Nat → L} {g0 : St} {k : Nat} (h : W k = []) (m : Nat) : fold g0 W (fun t => decide (t < k + 1)) m = fold g0 W (fun t => decide (t < k)) m := by
 funext x
 refine qdi fun t _ hh => ?_
 by_cases e : t = k
 ·subst e
  rw [h] at hh
  cases hh
 ·have : (t < k + 1) = (t < k) := by rw [eq_iff_iff]; omega
  simp only [this]
theorem qkg {P : Program} {n : Nat} {ops : List Oper} {n0 : Nat} {ans : List (Nat × Ans)} {dead : List Nat} {j : Nat} {g0 : St} {tab : List (Option Out)} : ∀ {r : List Oper} {i : Nat} {l : L} {obs : List Prop} {outs : List (Option Out)} {x : Option Out}, evd P n ops n0 ans dead j r i l = some (obs, outs, x) →
  ops.drop i = r → (∀ t, t < r.length → outs.getD t none = tab.getD (i + t) none) → get l = fold g0 (Wd ops tab) (fun t => decide (t < i)) ops.length →
  outs.length = r.length ∧ (∀ t o, i ≤ t → ops[t]? = some o → t ≠ j → dead.contains t = false → ∃ out, tab.getD t none = some out ∧ run (fold g0 (Wd ops tab) (fun k => decide (k < t)) ops.length) (qsr P ops o (qye ans t) (n0 + 8 * t)) = some out ∧ (∀ p ∈ out.obs, p ∈ obs) ∧ ∀ d, o.dst = some d → d < n) ∧
   (∀ o, i ≤ j → ops[j]? = some o → ∃ out, x = some out ∧ run (fold g0 (Wd ops tab) (fun k => decide (k < j)) ops.length) (qqz P ops o (qye ans j) (n0 + 8 * j)) = some out ∧ ∀ p ∈ out.obs, p ∈ obs)
 | [], i, l, obs, outs, x, h, hd, ht, hg => by
  simp only [evd, Option.some.injEq, Prod.mk.injEq] at h
  obtain ⟨rfl, rfl, rfl⟩ := h
  have hi : ops.length ≤ i := by simpa using hd
  refine ⟨rfl, fun t o hj ho => ?_, fun o hj ho => ?_⟩
  ·rw [List.getElem?_eq_none (by omega)] at ho; cases ho
  ·rw [List.getElem?_eq_none (by omega)] at ho; cases ho
 | o :: r, i, l, obs, outs, x, h, hd, ht, hg => by
  have hlt : i < ops.length := by
   rcases Nat.lt_or_ge i ops.length with h1 | h1
   ·exact h1
   ·rw [List.drop_eq_nil_of_le h1] at hd; cases hd
  have hoi : ops[i]? = some o := by
   have := List.getElem?_drop (xs := ops) (i := i) (j := 0)
   rw [hd] at this
   simpa using this.symm
  have hdr : ops.drop (i + 1) = r := by
   have := List.drop_drop (i := 1) (j := i) (l := ops)
   rw [hd] at this
   simpa [Nat.add_comm] using this.symm
  have htab : outs.getD 0 none = tab.getD i none := by
   have := ht 0 (by simp)
   simpa using this
  have hnext : ∀ (out : Out), outs.getD 0 none = some out → get (wr o.dst out ++ l) = fold g0 (Wd ops tab) (fun t => decide (t < i + 1)) ops.length := fun out ho => by
   rw [qcg, hg]
   have e : (fun j => decide (j < i + 1)) = addP (fun j => decide (j < i)) i := by
    funext j
    unfold addP
    by_cases e : j = i
    ·subst e; simp
    ·simp [e]; omega
   rw [e, qfl (by simp) hlt fun j x h1 h2 h3 => by simp at h3; omega]
   have : Wd ops tab i = wr o.dst out := by unfold Wd; rw [← htab, ho, hoi]; rfl
   rw [this]
  have hskip : outs.getD 0 none = none → get l = fold g0 (Wd ops tab) (fun t => decide (t < i + 1)) ops.length := fun ho => by
   rw [fold_none (by unfold Wd; rw [← htab, ho]), hg]
  simp only [evd] at h
  split at h
  ·rename_i hij
   have hij := Nat.eq_of_beq_eq_true hij
   subst hij
   split at h
   case h_2 => cases h
   rename_i xo ob1 outs1 x1 hrun he
   simp only [Option.some.injEq, Prod.mk.injEq] at h
   obtain ⟨rfl, rfl, rfl⟩ := h
   obtain ⟨h1, h2, _⟩ := qkg he hdr (fun t htt => by
    have := ht (t + 1) (by simp; omega)
    rw [show i + (t + 1) = i + 1 + t by omega] at this
    simpa using this) (hskip rfl)
   refine ⟨by simp [h1], fun t o' hj ho' hne hdd => ?_, fun o' _ ho' => ?_⟩
   ·obtain ⟨out, q1, q2, q3, q4⟩ := h2 t o' (by omega) ho' hne hdd
    exact ⟨out, q1, q2, fun p hp => by simp [q3 p hp], q4⟩
   ·rw [hoi] at ho'
    cases ho'
    exact ⟨xo, rfl, by rw [← hg]; exact hrun, fun p hp => by simp [hp]⟩
  ·rename_i hij
   have hij : i ≠ j := fun e => by rw [e, Nat.beq_refl] at hij; cases hij
   split at h
   ·rename_i hdd0
    split at h
    case h_2 => cases h
    rename_i ob1 outs1 x1 he
    simp only [Option.some.injEq, Prod.mk.injEq] at h
    obtain ⟨rfl, rfl, rfl⟩ := h
    obtain ⟨h1, h2, h3⟩ := qkg he hdr (fun t htt => by
     have := ht (t + 1) (by simp; omega)
     rw [show i + (t + 1) = i + 1 + t by omega] at this
     simpa using this) (hskip rfl)
    refine ⟨by simp [h1], fun t o' hj ho' hne hdd => ?_, fun o' hj ho' => h3 o' (by omega) ho'⟩
    by_cases e : t = i
    ·subst e; rw [hdd0] at hdd; cases hdd
    ·exact h2 t o' (by omega) ho' hne hdd
   ·rename_i hdd0
    split at h
    case h_2 => cases h
    rename_i out hrun hdst
    split at h
    case h_2 => cases h
    rename_i ob1 outs1 x1 he
    simp only [Option.some.injEq, Prod.mk.injEq] at h
    obtain ⟨rfl, rfl, rfl⟩ := h
    obtain ⟨h1, h2, h3⟩ := qkg he hdr (fun t htt => by
     have := ht (t + 1) (by simp; omega)
     rw [show i + (t + 1) = i + 1 + t by omega] at this
     simpa using this) (hnext out rfl)
    refine ⟨by simp [h1], fun t o' hj ho' hne hdd => ?_, fun o' hj ho' => ?_⟩
    ·by_cases e : t = i
     ·subst e
      rw [hoi] at ho'
      cases ho'
      refine ⟨out, by rw [← htab]; rfl, by rw [← hg]; exact hrun, fun p hp => by simp [hp], fun d hx => ?_⟩
      unfold dstOk at hdst
      rw [hx] at hdst
      simpa [Nat.blt_eq] using hdst
     ·obtain ⟨out', q1, q2, q3, q4⟩ := h2 t o' (by omega) ho' hne hdd
      exact ⟨out', q1, q2, fun p hp => by simp [q3 p hp], q4⟩
    ·obtain ⟨out', q1, q2, q3⟩ := h3 o' (by omega) ho'
     exact ⟨out', q1, q2, fun p hp => by simp [q3 p hp]⟩
/-- No operation writes these. -/
def freeB (ops : List Oper) (outs : List (Option Out)) (live : List Nat) : Bool := live.all fun k => (List.range ops.length).all fun i => !hits (Wd ops outs i) k
def rdD (outs : List (Option Out)) (j : Nat) (x : Out) (i : Nat) : List Nat := match Nat.beq i j with | true => x.reads | false => match outs.getD i none with | some out => out.reads | none => []
/-- The panic's value, what is still spoken of qay it, the obligations. -/
def evx (P : Program) (n : Nat) (ops : List Oper) (n0 : Nat) (ans : List (Nat × Ans)) (draw : Bool) (dead : List Nat) (j : Nat) (live : List Nat) (l : L) : Option (Value × L × List Prop) :=
 match evd P n ops n0 ans dead j ops 0 l with
 | some (obs, outs, some x) => match x.pv, freeB ops outs (live.filter fun k => !hits x.wb k), Nat.blt j ops.length with
  | .av v, true, true => match draw with
   | false => match (List.range j).all (fun i => !dead.contains i) with
    | true => some (v, live.map fun k => (k, get (x.wb ++ l) k), obs)
    | false => none
   | true => match befB ops (befs ops), qio (Wd ops outs) (rdD outs j x) (befs ops) ops.length, dead.all (fun i => Nat.beq i j || ((befs ops).getD i []).contains j) with
    | true, true, true => some (v, live.map fun k => (k, get (x.wb ++ l) k), obs)
    | _, _, _ => none
  | _, _, _ => none
 | _ => none
theorem qlu {g0 : St} {W : Nat → L} {p : Nat → Bool} {k : Nat} : ∀ {m : Nat}, (∀ i, i < m → hits (W i) k = false) → fold g0 W p m k = g0 k
 | 0, _ => rfl
 | m + 1, h => by
  simp only [fold]
  split
  ·rw [qdl (h m (by omega))]; exact qlu fun i hi => h i (by omega)
  ·exact qlu fun i hi => h i (by omega)
theorem qxc {E : Env} {n0 : Nat} {l l' : L} {id : Nat} {ops : Array Oper} {draw : Bool} {ans : List (Nat × Ans)} {dead : List Nat} {j : Nat} {live : List Nat} {obs : List Prop} {v : Value} (hm : draw = true → E.P.follows .mixedOrders = true)
  (h : evx E.P E.n ops.toList n0 ans draw dead j live l = some (v, l', obs)) (hob : ∀ p ∈ obs, p)
  {Q : Exit → Act → World → Prop} (hQ : ∀ c a, Inv E (· < n0 + 8 * ops.size) c (get l') a → Q (chn v) a c.w) {c : Cx} {a : Act} (hI : Inv E (· < n0) c (get l) a) : (Code.region id ops draw).wp E.P Q a c.w := by
 unfold evx at h
 split at h
 case h_2 => cases h
 rename_i obs1 outs x he
 split at h
 case h_2 => cases h
 rename_i v1 hpv hfr hjl
 have hjl : j < ops.toList.length := by simpa [Nat.blt_eq] using hjl
 obtain ⟨oj, hoj⟩ : ∃ o, ops.toList[j]? = some o := ⟨_, List.getElem?_eq_getElem hjl⟩
 have hz : ∀ m, fold (get l) (Wd ops.toList outs) (fun t => decide (t < 0)) m = get l := fun m => by
  induction m with
  | zero => rfl
  | succ m ih => simp only [fold, Nat.not_lt_zero, decide_false, Bool.false_eq_true, if_false]; exact ih
 obtain ⟨h1, h2, h3⟩ := qkg (g0 := get l) (tab := outs) he (by simp) (fun j _ => by simp) (hz _).symm
 have hops : ops.toList.toArray = ops := by simp
 have hlen : ops.toList.length = ops.size := by simp
 obtain ⟨x', hx', hxr, hxo⟩ := h3 oj (Nat.zero_le _) hoj
 cases hx'
 have hstep : obs = obs1 → ∀ i o, ops.toList[i]? = some o → i ≠ j → dead.contains i = false → ∃ out, outs.getD i none = some out ∧ Wd ops.toList outs i = wr o.dst out ∧ ∀ g, (∀ k ∈ out.reads, g k = fold (get l) (Wd ops.toList outs) (fun t => decide (t < i)) ops.toList.length k) → qjr E ops.toList.toArray i o out (n0 + 8 * i) g := by
  intro hobs i o ho hne hdd
  obtain ⟨out, q1, q2, q3, q4⟩ := h2 i o (Nat.zero_le _) ho hne hdd
  exact ⟨out, q1, by unfold Wd; rw [q1, ho]; rfl, fun g hg => qox ho q4 (qew q2 hg) fun p hp => hob p (by rw [hobs]; exact q3 p hp)⟩
 have hstepX : obs = obs1 → ∀ g, (∀ k ∈ x.reads, g k = fold (get l) (Wd ops.toList outs) (fun t => decide (t < j)) ops.toList.length k) → StepX E ops.toList.toArray j v1 x.wb (n0 + 8 * j) g := fun hobs g hg =>
  gplanX_ok hoj (qew hxr hg) hpv fun p hp => hob p (by rw [hobs]; exact hxo p hp)
 have hfin : v = v1 → l' = live.map (fun k => (k, get (x.wb ++ l) k)) → ∀ p c a, Inv E (fun id => id < n0 + 8 * ops.toList.length) c (over x.wb (fold (get l) (Wd ops.toList outs) p ops.toList.length)) a → Q (chn v1) a c.w := by
  intro hv hl' p c a h
  rw [hlen] at h
  rw [← hv]
  refine hQ c a (h.less fun k u hk => ?_)
  rw [hl'] at hk
  have hmem : k ∈ live := by
   rcases Classical.em (k ∈ live) with h | h
   ·exact h
   ·exfalso
    have : ∀ (m : List Nat), k ∉ m → get (m.map fun k => (k, get (x.wb ++ l) k)) k = none := by
     intro m
     induction m with
     | nil => intro _; rfl
     | cons a m ih =>
      intro hm
      simp only [get, List.map_cons, lk] at ih ⊢
      rw [if_neg (fun e => hm (by rw [Nat.eq_of_beq_eq_true e]; simp))]
      exact ih (fun h => hm (by simp [h]))
    rw [this live h] at hk
    cases hk
  have hk := qoy k u hk
  rw [qcg] at hk
  by_cases hh : hits x.wb k = true
  ·rw [qka hh _ (get l)]; exact hk
  ·have hh' : hits x.wb k = false := by simpa using hh
   rw [qdl hh'] at hk ⊢
   rw [qlu]
   ·exact hk
   ·intro i hi
    unfold freeB at hfr
    rw [List.all_eq_true] at hfr
    have h5 := hfr k (List.mem_filter.2 ⟨hmem, by simp [hh']⟩)
    rw [List.all_eq_true] at h5
    simpa using h5 i (List.mem_range.2 hi)
 split at h
 ·split at h
  case h_2 => cases h
  rename_i hdd
  simp only [Option.some.injEq, Prod.mk.injEq] at h
  obtain ⟨hv, hl', hobs⟩ := h
  have hs := qua (E := E) (ops := ops.toList.toArray) (g0 := get l) (W := Wd ops.toList outs) (n0 := n0) (j := j) (by simpa using hjl) (v := v1) (wb := x.wb) (fun i hi => by
   obtain ⟨o, ho⟩ : ∃ o, ops.toList[i]? = some o := ⟨_, List.getElem?_eq_getElem (by omega)⟩
   have hd : dead.contains i = false := by
    rw [List.all_eq_true] at hdd
    simpa using hdd i (List.mem_range.2 hi)
   obtain ⟨out, _, q2, q3⟩ := hstep hobs.symm i o ho (by omega) hd
   exact ⟨o, out, by simpa using ho, q2, by
    have := q3 (fold (get l) (Wd ops.toList outs) (fun t => decide (t < i)) ops.toList.length) (fun _ _ => rfl)
    simpa using this⟩) (by
   have := hstepX hobs.symm (fold (get l) (Wd ops.toList outs) (fun t => decide (t < j)) ops.toList.length) (fun _ _ => rfl)
   simpa using this) (Q := Q) (fun p c a h => hfin hv.symm hl'.symm p c a (by simpa using h)) j 0 (by omega) c a (by
    rw [hz]
    exact hI.more fun i hi => .inl hi)
  rw [hops] at hs
  exact wp_region (by simpa using hs)
 ·split at h
  case h_2 => cases h
  rename_i hbf hap hdd
  simp only [Option.some.injEq, Prod.mk.injEq] at h
  obtain ⟨hv, hl', hobs⟩ := h
  have hs := any_opsX (E := E) (l := ops.toList) (g0 := get l) (W := Wd ops.toList outs) (rd := rdD outs j x) (n0 := n0) (j := j) (dead := fun i => Nat.beq i j || dead.contains i) hjl (by simp [Nat.beq_refl]) (v := v1) (wb := x.wb) hbf hap
   (fun i hi hd => by
    rw [Bool.or_eq_true] at hd
    rcases hd with hd | hd
    ·exact .inl (Nat.eq_of_beq_eq_true hd)
    ·rw [List.all_eq_true] at hdd
     have := hdd i (by simpa using hd)
     rw [Bool.or_eq_true] at this
     rcases this with h5 | h5
     ·exact .inl (Nat.eq_of_beq_eq_true h5)
     ·exact .inr (by simpa using h5))
   (fun i o ho hd => by
    rw [Bool.or_eq_false_iff] at hd
    have hne : i ≠ j := fun e => by rw [e, Nat.beq_refl] at hd; cases hd.1
    obtain ⟨out, q1, q2, q3⟩ := hstep hobs.symm i o ho hne hd.2
    refine ⟨out, q2, fun g hg => q3 g fun k hk => hg k ?_⟩
    unfold rdD
    rw [hd.1, q1]
    exact hk)
   (fun g hg => hstepX hobs.symm g fun k hk => hg k (by unfold rdD; rw [Nat.beq_refl]; exact hk)) (Q := Q) (fun p c a h => hfin hv.symm hl'.symm p c a h)
   ops.toList.length (Array.replicate ops.toList.length false) ⟨{ c.w with drawn := c.w.drawn + 1 }, c.S, c.own⟩ a (by simp) (by
    rw [qfa (g := fun _ => false) fun i _ => qct _ _]
    exact qgn _) (fun j o _ hj => by
    have hj' : (Array.replicate ops.toList.length false).getD j false = true := hj
    rw [qct] at hj'
    cases hj') (qct _ _) (by
    have h0 : fold (get l) (Wd ops.toList outs) (fun j => (Array.replicate ops.toList.length false).getD j false) ops.toList.length = get l := by
     have e : (fun j => (Array.replicate ops.toList.length false).getD j false) = fun _ => false := funext fun j => qct _ j
     rw [e]
     have : ∀ m, fold (get l) (Wd ops.toList outs) (fun _ => false) m = get l := fun m => by
      induction m with
      | zero => rfl
      | succ m ih => simp only [fold, Bool.false_eq_true, if_false]; exact ih
     exact this _
    rw [h0]
    exact (hI.drawn _).more fun i hi => .inl hi)
  rw [hops] at hs
  refine wp_region_any (hm rfl) ?_
  rw [hlen] at hs
  exact hs

/-! ### in a walk -/
section
variable {P : Program} {n : Nat} {c0 : Cx} {Bor : BorD} {Q : Post} {n0 : Nat} {l : L} {rs : List Item}
theorem qju {E : Env} {cx : Cx} {a : Act} {ch : List PanicEntry} : ∀ {rs : List Item}, Q (.panic ch) cx a → WS E Q rs (.panic ch) cx a
 | [], k => k
 | .code _ :: rs, k => qju (rs := rs) k
 | .blk _ :: rs, k => qju (rs := rs) k
/-- A region in which operation j panics. -/
theorem T_rx (hm : P.follows .mixedOrders = true) {id : Nat} {ops : Array Oper} {draw : Bool} (ans : List (Nat × Ans)) (dead : List Nat) (j : Nat) (l' : L) {v : Value} {obs : List Prop} (hob : ∀ p ∈ obs, p)
  (hQ : ∀ cx a, Inv ⟨P, n, c0, Bor⟩ (· < n0 + 8 * ops.size) cx (get l') a → Q (chn v) cx a)
  (h : evx P n ops.toList n0 ans draw dead j (l'.map (·.1)) l = some (v, l', obs) := by kernel_rfl) : T P n c0 Bor Q n0 l (.code (.region id ops draw) :: rs) := fun _ _ hI =>
 qxc (E := ⟨P, n, c0, Bor⟩) (fun _ => hm) h hob (fun c a h => ⟨c, rfl, qju (hQ c a h)⟩) hI
theorem qib {α : Type} {I : α → L} {μ : α → Nat} {n1 : Nat} {x : α} {cx : Cx} {a : Act} {ch : List PanicEntry} (h : Q (.panic ch) cx a) : loopQ P n c0 Bor Q rs n1 I μ x (.panic ch) cx a := qju h
/-- What a function must end in. -/
def outQ (P : Program) (fn : Func) (c0 : Cx) (Bor : BorD) : O → Post
 | .ret r H' => retQ P fn c0 Bor r H'
 | .pan v H' => fun e cx a => e = chn v ∧ a.defers = Bor.ds ∧ ∃ cx', cx'.w = cx.w ∧ Heap ⟨P, 0, c0, Bor⟩ (· < H'.length) cx' (hSt H')
theorem qeh {f : FuncId} {fn : Func} {code : Code} {args : List PV} {H : Hp} {o : O} {l0 : L} (hf : P.funcs[f]? = some fn) (hb : fn.body = some code) (hname : (fn.name == "runtime.NumGoroutine") = false) (hlen : H.length ≤ o.H.length)
  (hn : Nat.ble args.length fn.ntmps = true) (hl0 : qjb 0 args ++ qie 0 H = l0) (h : ∀ c0 (Bor : Nat → Prop), (∀ i x, c0.own i = some x → i < H.length) → T P fn.ntmps c0 ⟨Bor, []⟩ (outQ P fn c0 ⟨Bor, []⟩ o) H.length l0 [.code code]) : PO P f args H o := by
 cases o with
 | ret r H' => exact qas hf hb hname hlen hn hl0 h
 | pan v H' =>
  refine ⟨⟨fn, hf, by rw [hb]; rfl, hname⟩, hlen, fun c vs hh hrl => ?_⟩
  refine calls_of_wp hf hb (wp_mono (qjg hn hl0 h c vs hh hrl) ?_)
  rintro e a' w' ⟨cx', rfl, rfl, hd, cx2, h1, h2⟩
  exact ⟨hd, cx2, rfl, h1, h2⟩
theorem qgf {c : Prop} [Decidable c] {n : Nat} {a b : O} (h1 : n ≤ a.H.length) (h2 : n ≤ b.H.length) : n ≤ (if c then a else b).H.length := by split <;> assumption
theorem qqg {f : FuncId} {args : List PV} {H H' H2 : Hp} {c : Prop} [Decidable c] {r : PV} {v : Value} (h : PO P f args H (if c then .ret r H' else .pan v H2)) (hc : c) : PC P f args H r H' := by rw [if_pos hc] at h; exact h
theorem qog {f : FuncId} {args : List PV} {H H' H2 : Hp} {c : Prop} [Decidable c] {r : PV} {v : Value} (h : PO P f args H (if c then .ret r H' else .pan v H2)) (hc : ¬ c) : PX P f args H v H2 := by rw [if_neg hc] at h; exact h
/-- Behind a panic nobody looks at what was lent. -/
theorem qck {fn : Func} {m : Nat} {v : Value} (hc0 : ∀ i x, c0.own i = some x → i < m) {l' : L} {cx : Cx} {a : Act} (hI : Inv ⟨P, n, c0, Bor⟩ (· < n0) cx (get l') a) : outQ P fn c0 Bor (.pan v (List.replicate m none)) (chn v) cx a := by
 have hno : ∀ i T cs, ¬ hSt (List.replicate m none) (kb i) = some (.blk T cs) := fun i T cs h => by
  rw [qgs] at h
  have : (List.replicate m (none : Option (TypeId × List PV))).getD i none = none := by
   rw [List.getD_eq_getElem?_getD, List.getElem?_replicate]
   split <;> rfl
  rw [this] at h
  cases h
 have hnl : ∀ i, ¬ Live (hSt (List.replicate m none)) i := fun i ⟨T, cs, h⟩ => hno i T cs h
 refine ⟨rfl, hI.dfr, ⟨cx.w, cx.S, c0.own⟩, rfl, { ids := fun i x hx => by rw [List.length_replicate]; exact hc0 i x hx, blk := fun i T cs h => (hno i T cs h).elim, inj := fun i j b T T' h => (hnl i h).elim, apart := fun i b T h => (hnl i h).elim, bnd := fun i b T h => hI.bnd i b T (hI.keep.own i _ h), sok := hI.sok, os := hI.os, tape := hI.tape, output := hI.output, size := hI.size, same := hI.same, s0 := hI.s0, s1 := hI.s1, keep := ⟨hI.keep.S, fun _ _ h => h, hI.keep.shape⟩, laid := hI.laid }⟩
end
end Go.Proofs.YtmlnilkbolcknaaGreatDoor.Pm
namespace Go.Proofs.YtmlnilkbolcknaaGreatDoor.Pm
open Go

/-- Called at a frame's end, in mode u, a literal hands back, and leaves the mode as u'. -/
def PD (P : Program) (f : FuncId) (args : List PV) (H : Hp) (u u' : FrameMode) (H' : Hp) : Prop := FnOk P f ∧ H.length ≤ H'.length ∧ ∀ (c : Cx) (vs : Array Value), Heap (cEnv P c H) (· < H.length) c (hSt H) → RL P c args vs →
 CallsD P f vs u c.w fun e u2 w' => ∃ v c', e = .returned v ∧ u2 = u' ∧ c'.w = w' ∧ Heap (cEnv P c H) (· < H'.length) c' (hSt H')
/-- What recover finds. -/
def Recs (u : FrameMode) (x : Value) (u' : FrameMode) : Prop := ∀ (c₀ : Frame) (cs : List Frame), c₀.mode = u → recoverD (c₀ :: cs) = some (x, { c₀ with mode := u' } :: cs) ∨ (recoverD (c₀ :: cs) = none ∧ x = .nilIface ∧ u' = u)
theorem recs_ret : Recs .returning .nilIface .returning := fun c₀ cs h => .inr ⟨by simp only [recoverD, h], rfl, rfl⟩
theorem recs_pan (v : Value) : Recs (.panicking [{ v := v, recovered := false }]) v (.panicking [{ v := v, recovered := true }]) := fun c₀ cs h => .inl (by simp only [recoverD, h])
theorem qul {P : Program} {f : FuncId} {fn : Func} {rest : Code} {id : Nat} {o : Oper} {t : Nat} {ts : Array TypeId} {args : List PV} {H H' : Hp} {x : Value} {u u' : FrameMode} {l0 : L} (hf : P.funcs[f]? = some fn) (hb : fn.body = some (.seq (.region id #[o] false) rest))
  (hname : (fn.name == "runtime.NumGoroutine") = false) (hop : o.op = .call { callee := .builtin .recover, args := #[], argTypes := ts }) (hg : o.guard = none) (hdst : o.dst = some t) (ht : Nat.blt t fn.ntmps = true) (hrec : Recs u x u') (hlen : H.length ≤ H'.length)
  (hn : Nat.ble args.length fn.ntmps = true) (hl0 : qjb 0 args ++ qie 0 H = l0)
  (h : ∀ c0 (Bor : Nat → Prop), (∀ i x, c0.own i = some x → i < H.length) → T P fn.ntmps c0 ⟨Bor, []⟩ (retQ P fn c0 ⟨Bor, []⟩ (.tup []) H') H.length ([(ks t, some (.pv (.av x)))] ++ l0) [.code rest]) : PD P f args H u u' H' := by
 refine ⟨⟨fn, hf, by rw [hb]; rfl, hname⟩, hlen, fun c vs hh hrl => ?_⟩
 have hI := qvj (Nat.le_of_ble_eq_true hn) hl0 c vs hh hrl
 have ht' : t < fn.ntmps := by simpa [Nat.blt_eq] using ht
 have hI2 := hI.pure (nx' := fun i => i < H.length) (fun _ h => h) (some t) (fun y hy => by cases hy; exact ht') (p := .av x) (v := x) fun _ => .sh (.av _)
 have key := h c (cEnv P c H).Bor.bor (fun i x hx => hh.ids i x hx) c _ (by rw [qcg]; exact hI2)
 refine callsD_of_wpS hf hb fun c₀ cs hu => wpS_seq (wpS_region ?_)
 have hrun : ∀ a : Act, (execOp a.eval o).run P c.w = .ok .recover c.w := fun a => by simp [execOp, hop, resolve, invoke, builtin]
 show wpOpsS P #[o] _ [0] _ _ _
 have hw : ∀ y, Region.wanted o y = true := fun y => by simp [Region.wanted, hg]
 have hrest : ∀ cs' : List Frame, cs' = { c₀ with mode := u' } :: cs → rest.wpS P (bodyPostS P fn c₀ cs fun e u2 w' => ∃ v c', e = .returned v ∧ u2 = u' ∧ c'.w = w' ∧ Heap (cEnv P c H) (· < H'.length) c' (hSt H'))
   (Act.put { tmps := vs ++ Array.replicate (fn.ntmps - vs.size) undef, defers := [] } (some t) x) cs' c.w := by
  intro cs' hcs
  refine wpS_of_wp (wp_mono key ?_)
  rintro e a' w' ⟨cx', rfl, he, hd, v, cx2, h1, h2, h3, h4⟩
  rcases he with rfl | rfl
  ·exact ⟨hd, u', hcs, v, h2, v, cx2, rfl, rfl, h1, h4⟩
  ·exact ⟨hd, u', hcs, v, h2, v, cx2, rfl, rfl, h1, h4⟩
 simp only [wpOpsS, List.getElem?_toArray, List.getElem?_cons_zero, hw, if_true, hrun, hdst]
 rcases hrec c₀ cs hu with h1 | ⟨h1, rfl, rfl⟩
 ·rw [h1]
  exact hrest _ rfl
 ·rw [h1]
  exact hrest _ (by subst hu; rfl)
theorem Heap.envD {P : Program} {n m : Nat} {c0 c : Cx} {B : Nat → Prop} {d e : List Deferred} {nx : Nat → Prop} {g : St} (h : Heap ⟨P, n, c0, ⟨B, d⟩⟩ nx c g) : Heap ⟨P, m, c0, ⟨B, e⟩⟩ nx c g :=
 { ids := h.ids, blk := h.blk, inj := h.inj, apart := h.apart, bnd := h.bnd, sok := h.sok, os := h.os, tape := h.tape, output := h.output, size := h.size, same := h.same, laid := h.laid, s0 := h.s0, s1 := h.s1, keep := h.keep }
/-- Nothing of what is own is spoken of any more. -/
theorem Heap.bare {E : Env} {nx : Nat → Prop} {c : Cx} {g : St} (h : Heap E nx c g) {k : Nat} (hk : ∀ i x, E.c0.own i = some x → i < k) : Heap E (· < k) ⟨c.w, c.S, E.c0.own⟩ (fun _ => none) :=
 { ids := hk, blk := fun i T cs h => (by cases h), inj := fun i j b T T' ⟨_, _, h⟩ => (by cases h), apart := fun i b T ⟨_, _, h⟩ => (by cases h), bnd := fun i b T hx => h.bnd i b T (h.keep.own i _ hx), sok := h.sok, os := h.os, tape := h.tape, output := h.output, size := h.size, same := h.same, laid := h.laid, s0 := h.s0, s1 := h.s1, keep := ⟨h.keep.S, fun _ _ h => h, h.keep.shape⟩ }
theorem qvn {H : Hp} (h : ∀ i, H.getD i none = none) : ∀ i T cs, ¬ hSt H (kb i) = some (.blk T cs) := fun i T cs hx => by
 rw [qgs, h i] at hx
 cases hx
theorem Heap.bareH {E : Env} {nx : Nat → Prop} {c : Cx} {g : St} (h : Heap E nx c g) {H : Hp} (hH : ∀ i, H.getD i none = none) (hk : ∀ i x, E.c0.own i = some x → i < H.length) : Heap E (· < H.length) ⟨c.w, c.S, E.c0.own⟩ (hSt H) :=
 (h.bare hk).less fun i T cs hx => absurd hx (qvn hH i T cs)

theorem wp_one {P : Program} {ops : Array Oper} {Q : Exit → Act → World → Prop} {i : Nat} {rest : List Nat} {o : Oper} {a : Act} {w : World} (ho : ops[i]? = some o) (hg : o.guard = none) (h : o.wp P a w (wpOps P ops Q rest) Q) : wpOps P ops Q (i :: rest) a w := by
 rw [wpOps_cons]
 unfold wpOp
 simp only [ho]
 rw [if_pos (by simp [Region.wanted, hg])]
 exact .inl h
section
variable {P : Program} {n : Nat} {c0 : Cx} {B : Nat → Prop} {m : Nat} {l : L} {cx : Cx} {a : Act} {d : Deferred} {fn : Func} {fl : FuncId} {t0 t1 : Nat} {T0 T1 : TypeId} {X0 X1 Y0 Y1 : List PV} {u u' : FrameMode} {r : PV}
/-- A frame's end, with the put-off call of the literal to which the two result cells are lent. -/
theorem qqw {v0 v1 : Value} (hI : Inv ⟨P, n, c0, ⟨B, [d]⟩⟩ (· < m) cx (get l) a) (hdd : d = { target := .fn (.func fl) #[v0, v1], args := #[] }) (hv0 : a.tmps.getD t0 undef = v0) (hv1 : a.tmps.getD t1 undef = v1)
  (h0 : get l (ks t0) = some (.pv (.opt 0 0))) (h1 : get l (ks t1) = some (.pv (.opt 1 0))) (hb0 : get l (kb 0) = some (.blk T0 X0)) (hb1 : get l (kb 1) = some (.blk T1 X1)) (hX0 : ∀ σ, renL σ X0 = X0) (hX1 : ∀ σ, renL σ X1 = X1) (hY0 : ∀ σ, renL σ Y0 = Y0) (hY1 : ∀ σ, renL σ Y1 = Y1)
  (hpd : PD P fl [.opt 0 0, .opt 1 0] [some (T0, X0), some (T1, X1)] u u' [some (T0, Y0), some (T1, Y1)]) (hu : u ≠ .run) (hs : settle u' = .returning)
  (hr : runv (get [(ks t0, some (.pv (.opt 0 0))), (ks t1, some (.pv (.opt 1 0))), (kb 0, some (.blk T0 Y0)), (kb 1, some (.blk T1 Y1))]) (resP P fn.results.toList fun ps => .done (qzo ps) []) = some (r, []))
  {R : Ending → World → Prop} (hR : ∀ v own2 (c' : Cx), Heap ⟨P, n, c0, ⟨B, [d]⟩⟩ (· < m + 8) ⟨c'.w, c'.S, own2⟩ (fun _ => none) → Rep P ⟨c'.w, c'.S, own2⟩ r v → R (.returned v) c'.w) : Leaves P fn a.tmps R a.defers u cx.w := by
 have hdf : a.defers = [d] := hI.dfr
 rw [hdf, hdd]
 obtain ⟨hfn, hHl, hpd⟩ := hpd
 have hinv : (invoke (.fn (.func fl) #[v0, v1]) #[]).run P cx.w = .ok (.enter fl #[v0, v1]) cx.w := by
  obtain ⟨fn, h1, h2, h3⟩ := hfn
  have h2' : ¬ fn.body = none := fun e => by rw [e] at h2; cases h2
  have h3' : ¬ fn.name = "runtime.NumGoroutine" := by simpa using h3
  simp [invoke, callFunc, h1, h3', h2']
 have hfr : ∀ t, t < 8 → ¬ (m + t < m) := fun t _ => by omega
 have hlent : ∀ i, i < [0, 1].length → ∃ T cs, ([some (T0, X0), some (T1, X1)] : Hp).getD i none = some (T, cs) ∧ get l (kb ([0, 1].getD i 0)) = some (.blk T (renL (sigi [0, 1] m) cs)) := fun i hi => by
  match i, hi with
  | 0, _ => exact ⟨T0, X0, rfl, by rw [hX0]; exact hb0⟩
  | 1, _ => exact ⟨T1, X1, rfl, by rw [hX1]; exact hb1⟩
 have hh := qic (id := m) (ids := [0, 1]) (H := [some (T0, X0), some (T1, X1)]) hfr hI.toHeap rfl rfl hlent
 have hra : RL P (cx.via (sigi [0, 1] m)) [.opt 0 0, .opt 1 0] #[v0, v1] := ⟨rfl, fun i hi => by
  match i, hi with
  | 0, _ => exact qeb (hv0 ▸ hI.slot t0 _ h0) (.opt 0 0) rfl
  | 1, _ => exact qeb (hv1 ▸ hI.slot t1 _ h1) (.opt 1 0) rfl⟩
 refine leaves_cons hu hinv ((hpd _ _ hh hra).mono ?_)
 rintro e u2 w' ⟨v, c', rfl, rfl, rfl, hh'⟩
 obtain ⟨own2, hk, hto, hh2⟩ := qmf (E := ⟨P, n, c0, ⟨B, [d]⟩⟩) (id := m) (ids := [0, 1]) (H := [some (T0, X0), some (T1, X1)]) (H' := [some (T0, Y0), some (T1, Y1)]) (Nat.le_of_ble_eq_true rfl) hHl hfr hI.toHeap rfl rfl hlent hh'
 have hI2 : Inv ⟨P, n, c0, ⟨B, [d]⟩⟩ (· < m + 8) ⟨c'.w, c'.S, own2⟩ (over (qef (sigo [0, 1] m) 0 [some (T0, Y0), some (T1, Y1)]) (get l)) a := (hI.keeps hk hh2 fun s => by unfold over; rw [qdv]).more fun i hi => by
  rcases hi with h | h
  ·omega
  ·omega
 have hI3 : Inv ⟨P, n, c0, ⟨B, [d]⟩⟩ (· < m + 8) ⟨c'.w, c'.S, own2⟩ (get [(ks t0, some (.pv (.opt 0 0))), (ks t1, some (.pv (.opt 1 0))), (kb 0, some (.blk T0 Y0)), (kb 1, some (.blk T1 Y1))]) a := hI2.less fun k v hx => by
  simp only [get, lk] at hx
  split at hx
  ·rename_i e
   rw [Nat.eq_of_beq_eq_true e]
   unfold over
   rw [qdv, h0]
   simpa using hx
  split at hx
  ·rename_i e
   rw [Nat.eq_of_beq_eq_true e]
   unfold over
   rw [qdv, h1]
   simpa using hx
  split at hx
  ·rename_i e
   rw [Nat.eq_of_beq_eq_true e]
   show (match lk (kb 0) (qef (sigo [0, 1] m) 0 [some (T0, Y0), some (T1, Y1)]) with | some x => x | none => get l (kb 0)) = some v
   rw [show lk (kb 0) (qef (sigo [0, 1] m) 0 [some (T0, Y0), some (T1, Y1)]) = some (some (.blk T0 (renL (sigo [0, 1] m) Y0))) from rfl, hY0]
   simpa using hx
  split at hx
  ·rename_i e
   rw [Nat.eq_of_beq_eq_true e]
   show (match lk (kb 1) (qef (sigo [0, 1] m) 0 [some (T0, Y0), some (T1, Y1)]) with | some x => x | none => get l (kb 1)) = some v
   rw [show lk (kb 1) (qef (sigo [0, 1] m) 0 [some (T0, Y0), some (T1, Y1)]) = some (some (.blk T1 (renL (sigo [0, 1] m) Y1))) from rfl, hY1]
   simpa using hx
  ·simp at hx
 obtain ⟨v', h2, h3⟩ := qbc hr _ a hI3
 show Leaves P fn a.tmps R [] (settle u2) c'.w
 rw [hs]
 exact ⟨v', h2, hR v' own2 c' (hI3.toHeap.less fun i T cs hx => by cases hx) h3⟩
/-- Lend two cells to what is still to run. -/
theorem lend_two {d0 : List Deferred} {c0 : Cx} {B : Nat → Prop} {n0 : Nat} {l : L} {cx : Cx} {a a2 : Act} {i1 t0 t1 : Nat} {rest : List (Nat × PV)} (hI : Inv ⟨P, n, c0, ⟨B, d0⟩⟩ (· < n0) cx (get l) a) (hn : Nat.blt 0 i1 = true) (hb0 : get l (kb 0) = some (.blk T0 X0)) (hb1 : get l (kb i1) = some (.blk T1 X1)) (hX0 : ∀ σ, renL σ X0 = X0) (hX1 : ∀ σ, renL σ X1 = X1)
  (h0 : get l (ks t0) = some (.pv (.opt 0 0))) (h1 : get l (ks t1) = some (.pv (.opt i1 0))) (hts : a2.tmps.size = a.tmps.size) (hsame : ∀ s p, get l (ks s) = some (.pv p) → a2.tmps.getD s undef = a.tmps.getD s undef)
  (hrest : ∀ x ∈ rest, get l (ks x.1) = some (.pv x.2) ∧ ∀ σ, ren σ x.2 = x.2) :
  Inv ⟨P, n, cx.via (sigi [0, i1] n0), ⟨(cEnv P (cx.via (sigi [0, i1] n0)) [some (T0, X0), some (T1, X1)]).Bor.bor, a2.defers⟩⟩ (· < 2) (cx.via (sigi [0, i1] n0))
   (get ([(ks t0, some (.pv (.opt 0 0))), (ks t1, some (.pv (.opt 1 0))), (kb 0, some (.blk T0 X0)), (kb 1, some (.blk T1 X1))] ++ rest.map fun x => (ks x.1, some (.pv x.2)))) a2 := by
 have hi1 : 0 < i1 := by simpa [Nat.blt_eq] using hn
 have hnd : qcl [0, i1] = true := by
  have : Nat.beq 0 i1 = false := by rw [Bool.eq_false_iff]; intro h; have := Nat.eq_of_beq_eq_true h; omega
  simp [qcl, this]
 have hlent : ∀ i, i < [0, i1].length → ∃ T cs, ([some (T0, X0), some (T1, X1)] : Hp).getD i none = some (T, cs) ∧ get l (kb ([0, i1].getD i 0)) = some (.blk T (renL (sigi [0, i1] n0) cs)) := fun i hi => by
  match i, hi with
  | 0, _ => exact ⟨T0, X0, rfl, by rw [hX0]; exact hb0⟩
  | 1, _ => exact ⟨T1, X1, rfl, by rw [hX1]; exact hb1⟩
 have hh := qic (E := ⟨P, n, c0, ⟨B, d0⟩⟩) (id := n0) (ids := [0, i1]) (H := [some (T0, X0), some (T1, X1)]) (fun t _ => by omega) hI.toHeap hnd rfl hlent
 have hsl : ∀ s p, get ([(ks t0, some (.pv (.opt 0 0))), (ks t1, some (.pv (.opt 1 0))), (kb 0, some (.blk T0 X0)), (kb 1, some (.blk T1 X1))] ++ rest.map fun x => (ks x.1, some (.pv x.2))) (ks s) = some p → ∃ q, p = .pv q ∧ Rep P (cx.via (sigi [0, i1] n0)) q (a2.tmps.getD s undef) := by
  intro s p hx
  simp only [get, List.cons_append, List.nil_append, lk, qgy, qee] at hx
  by_cases e0 : s = t0
  ·subst e0
   simp only [decide_true, if_true, Option.join_some, Option.some.injEq] at hx
   exact ⟨_, hx.symm, by rw [hsame s _ h0]; exact qeb (hI.slot s _ h0) (.opt 0 0) rfl⟩
  by_cases e1 : s = t1
  ·subst e1
   simp only [e0, decide_false, decide_true, Bool.false_eq_true, if_true, if_false, Option.join_some, Option.some.injEq] at hx
   exact ⟨_, hx.symm, by rw [hsame s _ h1]; exact qeb (hI.slot s _ h1) (.opt 1 0) rfl⟩
  simp only [e0, e1, decide_false, Bool.false_eq_true, if_false] at hx
  have key : ∀ rs : List (Nat × PV), (∀ x ∈ rs, x ∈ rest) → (lk (ks s) (rs.map fun x => (ks x.1, some (Val.pv x.2)))).join = some p → ∃ x ∈ rs, x.1 = s ∧ p = .pv x.2 := by
   intro rs
   induction rs with
   | nil => intro _ h; simp [lk] at h
   | cons y rs ih =>
    intro hy h
    simp only [List.map_cons, lk, qgy] at h
    by_cases e : s = y.1
    ·simp only [e, decide_true, if_true, Option.join_some, Option.some.injEq] at h
     exact ⟨y, by simp, e.symm, h.symm⟩
    ·simp only [e, decide_false, Bool.false_eq_true, if_false] at h
     obtain ⟨x, h1, h2, h3⟩ := ih (fun x hx => hy x (by simp [hx])) h
     exact ⟨x, by simp [h1], h2, h3⟩
  obtain ⟨x, h2, h3, h4⟩ := key rest (fun x hx => hx) hx
  obtain ⟨h5, h6⟩ := hrest x h2
  subst h3
  exact ⟨x.2, h4, by rw [hsame x.1 _ h5]; exact qeb (hI.slot x.1 _ h5) x.2 (h6 _).symm⟩
 have hbk : ∀ i T cs, get ([(ks t0, some (.pv (.opt 0 0))), (ks t1, some (.pv (.opt 1 0))), (kb 0, some (.blk T0 X0)), (kb 1, some (.blk T1 X1))] ++ rest.map fun x => (ks x.1, some (.pv x.2))) (kb i) = some (.blk T cs) → hSt [some (T0, X0), some (T1, X1)] (kb i) = some (.blk T cs) := by
  intro i T cs hx
  simp only [get, List.cons_append, List.nil_append, lk, qmd, qin] at hx
  rw [qgs]
  match i, hx with
  | 0, hx => simpa using hx
  | 1, hx => simpa using hx
  | i + 2, hx =>
   exfalso
   have e0 : ¬ i + 2 = 0 := by omega
   have e1 : ¬ i + 2 = 1 := by omega
   simp only [e0, e1, decide_false, Bool.false_eq_true, if_false] at hx
   have : ∀ rs : List (Nat × PV), lk (kb (i + 2)) (rs.map fun x => (ks x.1, some (Val.pv x.2))) = none := by
    intro rs
    induction rs with
    | nil => rfl
    | cons y rs ih => simp only [List.map_cons, lk, qmd]; exact ih
   rw [this rest] at hx
   cases hx
 have hh2 : Heap ⟨P, n, cx.via (sigi [0, i1] n0), ⟨(cEnv P (cx.via (sigi [0, i1] n0)) [some (T0, X0), some (T1, X1)]).Bor.bor, a2.defers⟩⟩ (· < 2) (cx.via (sigi [0, i1] n0)) (hSt [some (T0, X0), some (T1, X1)]) := Heap.envD (n := 0) (d := []) hh
 exact { hh2.less hbk with
   tmps := by rw [hts]; exact hI.tmps
   dfr := rfl
   slot := fun s p hp => by
     obtain ⟨q, h2, h3⟩ := hsl s _ hp
     cases h2
     exact h3
   isv := fun s x hx => by
     obtain ⟨q, h2, _⟩ := hsl s _ hx
     exact ⟨q, h2⟩ }
/-- What two lent cells were lent to has ended: nothing own is spoken of. -/
theorem back_two {d0 ds : List Deferred} {c0 : Cx} {B : Nat → Prop} {n0 : Nat} {l : L} {cx : Cx} {a : Act} {i1 : Nat} (hI : Inv ⟨P, n, c0, ⟨B, d0⟩⟩ (· < n0) cx (get l) a) (hn : Nat.blt 0 i1 = true) (hb0 : get l (kb 0) = some (.blk T0 X0)) (hb1 : get l (kb i1) = some (.blk T1 X1)) (hX0 : ∀ σ, renL σ X0 = X0) (hX1 : ∀ σ, renL σ X1 = X1)
  (hc0 : ∀ i x, c0.own i = some x → i < 0) {nx : Nat → Prop} {c' : Cx} {g' : St} (h : Heap ⟨P, n, cx.via (sigi [0, i1] n0), ⟨(cEnv P (cx.via (sigi [0, i1] n0)) [some (T0, X0), some (T1, X1)]).Bor.bor, ds⟩⟩ nx c' g') :
  Heap ⟨P, 0, c0, ⟨B, []⟩⟩ (· < 0) ⟨c'.w, c'.S, c0.own⟩ (fun _ => none) := by
 have hi1 : 0 < i1 := by simpa [Nat.blt_eq] using hn
 have hnd : qcl [0, i1] = true := by
  have : Nat.beq 0 i1 = false := by rw [Bool.eq_false_iff]; intro h; have := Nat.eq_of_beq_eq_true h; omega
  simp [qcl, this]
 have hlent : ∀ i, i < [0, i1].length → ∃ T cs, ([some (T0, X0), some (T1, X1)] : Hp).getD i none = some (T, cs) ∧ get l (kb ([0, i1].getD i 0)) = some (.blk T (renL (sigi [0, i1] n0) cs)) := fun i hi => by
  match i, hi with
  | 0, _ => exact ⟨T0, X0, rfl, by rw [hX0]; exact hb0⟩
  | 1, _ => exact ⟨T1, X1, rfl, by rw [hX1]; exact hb1⟩
 have hh := qic (E := ⟨P, n, c0, ⟨B, d0⟩⟩) (id := n0) (ids := [0, i1]) (H := [some (T0, X0), some (T1, X1)]) (fun t _ => by omega) hI.toHeap hnd rfl hlent
 have h2 := (h.bareH (H := [none, none]) (fun i => by rcases i with _ | _ | i <;> rfl) (fun i x hx => hh.ids i x hx)).envD (m := 0) (e := [])
 obtain ⟨own3, _, _, hh3⟩ := qmf (E := ⟨P, n, c0, ⟨B, d0⟩⟩) (id := n0) (ids := [0, i1]) (H := [some (T0, X0), some (T1, X1)]) (H' := [none, none]) (show 2 ≤ 2 + 8 by omega) (Nat.le_refl 2) (fun t _ => by omega) hI.toHeap hnd rfl hlent h2
 exact (hh3.bare hc0).envD
mutual
/-- Nothing own is in it. -/
def dsh : PV → Bool
 | .agg cs => dshL cs
 | .tup cs => dshL cs
 | .fn _ cs ds => dshL cs && dshL ds
 | .osl _ _ _ => false
 | .opt _ _ => false
 | .av _ => true
 | .ssl _ _ _ => true
 | .spt _ _ => true
 | .err => true
def dshL : List PV → Bool
 | [] => true
 | p :: l => dsh p && dshL l
end
theorem qik : ∀ {l : List PV} {i : Nat}, dshL l = true → i < l.length → dsh (l.getD i P0) = true
 | [], i, _, h => absurd h (Nat.not_lt_zero i)
 | p :: l, 0, h, _ => by
  simp only [dshL, Bool.and_eq_true] at h
  exact h.1
 | p :: l, i + 1, h, hi => by
  simp only [dshL, Bool.and_eq_true] at h
  simpa using qik (i := i) h.2 (by simpa using hi)
theorem qzs {c : Cx} {p : PV} {v : Value} (h : Rep P c p v) (hd : dsh p = true) : SRep c.w c.S p v := by
 induction h with
 | sh h => exact h
 | agg hn _ ih =>
  simp only [dsh] at hd
  exact .agg hn fun i hi => ih i hi (qik hd hi)
 | tup hn _ ih =>
  simp only [dsh] at hd
  exact .tup hn fun i hi => ih i hi (qik hd hi)
 | osl => cases hd
 | opt => cases hd
 | fn hn _ hm _ ih ik =>
  simp only [dsh, Bool.and_eq_true] at hd
  exact .fn hn (fun i hi => ih i hi (qik hd.1 hi)) hm fun i hi => ik i hi (qik hd.2 hi)
/-- A cell's value told as it is. -/
theorem cell_av {g : St} {nx : Nat → Prop} {E : Env} {c : Cx} (h : Heap E nx c g) {i : Nat} {T : TypeId} {p : PV} (hg : g (kb i) = some (.blk T [p])) : ∃ v : Value, v.oneCell' = true ∧ Heap E nx c (over [(kb i, some (.blk T [.av v]))] g) := by
 obtain ⟨ob, h1, h2, h3⟩ := h.blk i T _ hg
 have hp : p.one = true := h2 p (by simp)
 rcases h3 with ⟨_, h4⟩ | ⟨b, cs, h4, h5, h6, h7⟩
 ·cases h4
 have hr := h7 0 (by simp)
 refine ⟨cs.getD 0 undef, Rep.one hr hp, ?_⟩
 have hl : ∀ j, Live (over [(kb i, some (.blk T [.av (cs.getD 0 undef)]))] g) j → Live g j := fun j ⟨T', cs', hx⟩ => by
  rw [qei] at hx
  by_cases e : j = i
  ·subst e; exact ⟨T, _, hg⟩
  ·rw [if_neg e] at hx; exact ⟨T', cs', hx⟩
 exact { h with
   blk := fun j T' cs' hx => by
     rw [qei] at hx
     by_cases e : j = i
     · subst e
       rw [if_pos rfl] at hx
       simp only [Option.some.injEq, Val.blk.injEq] at hx
       obtain ⟨rfl, rfl⟩ := hx
       refine ⟨ob, h1, fun q hq => ?_, .inr ⟨b, cs, h4, h5, h6, fun k hk => ?_⟩⟩
       · rw [List.mem_singleton.1 hq]; exact Rep.one hr hp
       · obtain rfl : k = 0 := by simpa using hk
         exact .sh (.av _)
     · rw [if_neg e] at hx
       exact h.blk j T' cs' hx
   inj := fun j j' b T T' l1 l2 => h.inj j j' b T T' (hl j l1) (hl j' l2)
   apart := fun j b T l1 => h.apart j b T (hl j l1) }
end
end Go.Proofs.YtmlnilkbolcknaaGreatDoor.Pm
namespace Go.Proofs.YtmlnilkbolcknaaGreatDoor.Pm
open Go

theorem qzy {s : Txt} : ∀ (m : Nat) (l : List Vo) (a : Nat) (z : Int), (rdL s m l a z).1 = 0 → (rdL s m l a z).2.2 = 0
 | 0, l, a, z, h => by
  rw [rdL] at h ⊢
  split at h
  ·rename_i c; rw [if_pos c]
  ·cases h
 | m + 1, l, a, z, h => by
  rw [rdL] at h ⊢
  split at h
  ·rename_i c; rw [if_pos c]
  ·rename_i c
   rw [if_neg c]
   split at h
   ·rename_i c2; rw [if_pos c2]; exact qzy m _ _ _ h
   ·rename_i c2; exact absurd h c2
theorem qzz {s : Txt} : ∀ (m : Nat) (l : List Vo) (a : Nat) (z : Int), ¬ (rdL s m l a z).1 = 0 → (rdL s m l a z).2.1 = []
 | 0, l, a, z, h => by
  rw [rdL] at h ⊢
  split at h
  ·exact absurd rfl h
  ·rename_i c; rw [if_neg c]
 | m + 1, l, a, z, h => by
  rw [rdL] at h ⊢
  split at h
  ·exact absurd rfl h
  ·rename_i c
   rw [if_neg c]
   split at h
   ·rename_i c2; rw [if_pos c2]; exact qzz m _ _ _ h
   ·rename_i c2; rw [if_neg c2]
theorem rdL_ok {s : Txt} (h : (rdL s 64 [] 0 0).1 = 0) : (rdL s 64 [] 0 0).2.2 = 0 := qzy _ _ _ _ h
theorem rdL_no {s : Txt} (h : ¬ (rdL s 64 [] 0 0).1 = 0) : (rdL s 64 [] 0 0).2.1 = [] := qzz _ _ _ _ h
theorem qzl {P : Program} {w : World} {ρ : Operand → Value} {o : Oper} {x : Operand} {f : Fn} {fs cs : Array Value} (ho : o.op = .defer { callee := .value x, args := #[], argTypes := #[] }) (hv : ρ x = .func f fs cs) : (execOp ρ o).run P w = .ok (.defer { target := .fn f cs, args := fs }) w := by
 simp [execOp, ho, resolve, hv, Deferred.ofValue]
theorem qed {P : Program} {fn : Func} {tmps : Array Value} {R R' : Ending → World → Prop} (hR : ∀ e w, R e w → R' e w) : ∀ {ds : List Deferred} {u : FrameMode} {w : World}, Leaves P fn tmps R ds u w → Leaves P fn tmps R' ds u w
 | [], .returning, w, h => let ⟨v, h1, h2⟩ := h; ⟨v, h1, hR _ _ h2⟩
 | [], .panicking _, w, h => hR _ _ h
 | [], .run, w, h => h.elim
 | d :: ds, u, w, h => by
  obtain ⟨h0, fv, cap, f, args, h1, h2, h3⟩ := h
  refine ⟨h0, fv, cap, f, args, h1, h2, h3.mono fun e u' w' h4 => ?_⟩
  cases e with
  | returned v => exact qed hR h4
  | panicked ch => exact qed hR h4
  | outgrown => exact hR _ _ h4
end Go.Proofs.YtmlnilkbolcknaaGreatDoor.Pm
namespace Go.Proofs.YtmlnilkbolcknaaGreatDoor.Pm
open Go Go.Lib

theorem qmh {P : Program} {W : World} {name : String} {k : IntKind} {zs : List Int} {g : Nat} {t e : TypeId} {n : Nat}
  (hg : P.globalNamed name = some g) (hty : (P.globals[g]?).map (·.type) = some t) (ht : P.underlying t = some (.array n e)) (he : P.underlying e = some (.int k)) (hce : P.cellsOf e = 1) (hct : P.cellsOf t = n)
  (h : VarReads P W name (tabData k zs)) : TabIs P W name k zs := by
 obtain ⟨g', t', cs, fuel, p, hg', ht', hvar, hd⟩ := h
 obtain rfl := Option.some.inj (hg.symm.trans hg')
 obtain rfl := Option.some.inj (hty.symm.trans ht')
 unfold TabIs
 rw [hvar, ← cells_of_tab ht he hce hct hd]
theorem qfv {w : World} {b o : Nat} {v : Value} (h : w.cell? ⟨b, o, none⟩ = some v) : b < w.heap.size := by
 by_cases hb : b < w.heap.size
 ·exact hb
 ·unfold World.cell? at h
  rw [Array.getElem?_eq_none (show w.heap.size ≤ b from by omega)] at h
  cases h
theorem laid_of {W : World} (hL : laidMet Tryz.prog Rows.scoreBarsRow.laid W) : Laid W (fun b => b < W.heap.size) := by
 have hT : TabIs Tryz.prog W "internal/strconv.uint64pow10" .u64 pow10Tab :=
  qmh (g := 0) (t := 197) (e := 178) (n := 20) (by kernel_rfl) (by kernel_rfl) Tryz.underlying197 Tryz.underlying178 (by kernel_rfl) (by kernel_rfl)
   ((show Rows.laid_internal_strconv_uint64pow10 = tabData .u64 pow10Tab from by kernel_rfl) ▸ laidMet.reads hL (.tail _ (.tail _ (.head _))))
 have hU : Utf8Tabs 1 2 W :=
  utf8Tabs_of_readsT (ρ := Tryz.lays197_ren) { Tryz.lays197 with } ⟨by kernel_rfl, by kernel_rfl, by kernel_rfl, by kernel_rfl, by kernel_rfl, by kernel_rfl, by kernel_rfl⟩
   ((show Rows.laid_unicode_utf8_first = firstData from Pinned.utf8First_eq) ▸ laidMet.reads hL (.tail _ (.tail _ (.tail _ (.tail _ (.tail _ (.tail _ (.head _)))))))) ((show Rows.laid_unicode_utf8_acceptRanges = acceptData from by kernel_rfl) ▸ laidMet.reads hL (.tail _ (.tail _ (.tail _ (.head _)))))
 have z1 := qfv (hU.1 0 (by decide))
 have z2 := qfv (hU.2 0 (by decide)).1
 have z3 := qfv (hT.cell (g := 0) (by kernel_rfl) 0 (by decide))
 refine ⟨fun b hb => ?_, hT, hU⟩
 simp only [LB, List.mem_cons, List.not_mem_nil, or_false] at hb
 rcases hb with rfl | rfl | rfl
 ·exact z1
 ·exact z2
 ·exact z3
end Go.Proofs.YtmlnilkbolcknaaGreatDoor.Pm
namespace Go.Proofs.YtmlnilkbolcknaaGreatDoor
open Go.ChangeShapes Go.WideShapes Go.ChangeAt Go.RowKit

theorem Tryz.own : ownKnob Tryz.prog.godebug = none := by kernel_rfl
theorem Tryz.laidOut : laidOutB Tryz.prog = true := by kernel_rfl

section
variable {H : Type} {enc : TypeId × Value → H} {P : Program}
/-- All arguments at once. -/
theorem qhq (hl : laidOutB P = true) {W W' : World} {sp : Nat → Bool} (hb : Below W.heap.size W W') :
  ∀ {ts : List TypeId} {vs : List Value} {ds : List (DataW H)} {ps : List MemPlace}, (ts.all fun t => P.readableRec t && decide (t < P.types.size)) = true →
   DataW.TrodAll enc P W 0 (fun _ => true) true ts vs ds ps → (∀ x ∈ ps, x.block < W.heap.size) → (∀ x ∈ ps, sp x.block = true) → DataW.TrodAll enc P W' 0 sp true ts vs ds ps
 | [], _, _, _, _, h, _, _ => by obtain ⟨rfl, rfl, rfl⟩ := trodAll_nil h; exact trodAll_mk0
 | t :: ts, _, _, _, hr, h, hlt, hsp => by
  obtain ⟨v, vs, d, ds, p, q, rfl, rfl, rfl, h0, h1⟩ := trodAll_cons h
  simp only [List.all_cons, Bool.and_eq_true, decide_eq_true_eq] at hr
  exact trodAll_cons_mk (WideElems.Trod_stays hl hr.1.1 hr.1.2 h0 (fun x hx => hb.same (hlt x (by simp [hx]))) (fun x hx => hsp x (by simp [hx])))
   (qhq hl hb hr.2 h1 (fun x hx => hlt x (by simp [hx])) (fun x hx => hsp x (by simp [hx])))

/-- A law's post: true, and each argument reads as it did. -/
theorem law_post {f : Func} {s : ChangeSpec} {apart fresh handsOn again : Bool} {W W' : World} {args : Array Value} {ds : List (DataW H)} {before : List MemPlace} {tb : TypeId}
  (hW : DataW.Whole enc P f.params.toList s.vars apart W args.toList ds [] before) (hl : laidOutB P = true)
  (hv : s.vars = []) (hr : (f.params.toList.all fun t => P.readableRec t && decide (t < P.types.size)) = true) (hrt : f.resultTypes = #[tb]) (htb : P.underlying tb = some .bool)
  (hs : s.fn H (ds ++ []) = { results := [.lit (.bool true)], args := ds }) (hb : Below W.heap.size W W') :
  s.post enc P f apart fresh handsOn again W args (.bool true) W' := by
 have hlt : ∀ p ∈ before, p.block < W.heap.size := fun p hp => hW.lt p hp
 have hold : ∀ p ∈ before, (fun b => decide (b < W.heap.size)) p.block = true := fun p hp => by simpa using hlt p hp
 have hW0 := hW
 obtain ⟨p, q, hA, hV, hpq, hz, hn⟩ := hW
 have hq : q = [] := by rw [hv] at hV; exact (trodVars_none hV).2
 have hpq' : before = p := by rw [hpq, hq, List.append_nil]
 subst hpq'
 have hargs : ∀ sp : Nat → Bool, (∀ x ∈ before, sp x.block = true) → DataW.TrodAll enc P W' 0 sp true f.params.toList args.toList (s.fn H (ds ++ [])).args before := fun sp hsp => by
  rw [hs]; exact qhq hl hb hr hA hlt hsp
 have hvars : ∀ sp : Nat → Bool, DataW.TrodVars enc P W' sp s.vars (s.fn H (ds ++ [])).vars [] := fun sp => by rw [hs, hv]; rfl
 have hres : ∀ (b : Nat) (sp : Nat → Bool) (hd : Bool), DataW.TrodAll enc P W' b sp hd f.resultTypes.toList (Value.resultList f.resultTypes.size (.bool true)) (s.fn H (ds ++ [])).results [] := fun b sp hd => by
  rw [hrt, hs]; exact trodAll_mk1 (shut_bool htb true)
 have hok : ∀ (j : Nat) (t : TypeId) (r : Value), f.resultTypes[j]? = some t → (Value.resultList f.resultTypes.size (.bool true))[j]? = some r → Value.okWide P W' .any 0 t r := by
  exact ok_one (t := tb) hrt rfl (okWide_bool_mk htb true)
 refine ⟨ds, [], before, [], before, [], hW0, hres _ _ _, hargs _ hold, hvars _, World.keptBut_mono (fun p hp => ⟨hp, ?_⟩) (hb.frame (· ∈ before)), fun _ => ?_⟩
 ·exact Or.inr (Or.inl hp)
 ·refine ⟨hok, _, _, ([] ++ before) ++ [], ⟨[] ++ before, [], trodAll_append (hargs _ (fun _ _ => rfl)) (hres _ _ _), hvars _, rfl, ?_, ?_⟩, ?_⟩
  ·intro b off hp
   have hin : MemPlace.cell b off ∈ before := by simpa using hp
   rw [hb.frozen (hlt _ hin)]
   exact hz b off hin
  ·intro ha
   have := hn ha
   simpa using this
  ·intro p hp _
   simpa using hp
end
end Go.Proofs.YtmlnilkbolcknaaGreatDoor
namespace Go.Proofs.YtmlnilkbolcknaaGreatDoor.Pm
open Go Go.Deep Go.ChangeShapes Go.WideShapes Go.ChangeAt Go.RowKit

theorem qya {w : World} {a : Addr} {n : Nat} {f : Nat → Value} (h : ∀ c, c < n → w.cell? (a.add c) = some (f c)) (hn : 0 < n) : ∃ b o, a = ⟨b, o, none⟩ ∧ b < w.heap.size ∧ ∀ c, c < n → w.cell? ⟨b, o + c, none⟩ = some (f c) := by
 obtain ⟨b, o, s⟩ := a
 have h0 := h 0 hn
 have hs : s = none := by
  simp only [Addr.add, if_true, World.cell?] at h0
  cases s with
  | none => rfl
  | some s =>
   exfalso
   split at h0
   ·simp at h0
   ·cases h0
 subst hs
 refine ⟨b, o, rfl, ?_, fun c hc => ?_⟩
 ·simp only [Addr.add, if_true, World.cell?] at h0
  rcases Nat.lt_or_ge b w.heap.size with hb | hb
  ·exact hb
  ·rw [Array.getElem?_eq_none hb] at h0; cases h0
 ·rw [← h c hc]
  unfold Addr.add
  by_cases e : c = 0
  ·subst e; rfl
  ·rw [if_neg e]
theorem qfr {H : Type} {P : Program} {e : TypeId} : ∀ {l : List (DataW H)} {d : DataW H}, d ∈ l → ∀ n ∈ d.weights P e, n ∈ DataW.weightsAll P e l
 | d' :: r, d, hd, n, hn => by
  simp only [DataW.weightsAll, List.mem_append]
  rcases List.mem_cons.1 hd with rfl | h
  ·exact Or.inl hn
  ·exact Or.inr (qfr h n hn)
end Go.Proofs.YtmlnilkbolcknaaGreatDoor.Pm
namespace Go.Proofs.YtmlnilkbolcknaaGreatDoor.Pm
open Go Go.Proofs.YtmlnilkbolcknaaGreatDoor.Pi

/-- What is thrown. -/
abbrev oops (e a : Int) : Value := .iface 95 (.agg #[.int .i64 e, .int .i64 a])
set_option maxRecDepth 100000 in
set_option maxHeartbeats 4000000 in
theorem fail_po (s : Txt) (a : Nat) (k e : Int) : PO Tryz.prog 39 [(.opt 0 0), (iv e)] [some (98, [(sv (st s)), (nv a), (iv k)])] (if False then .ret (.tup []) [some (98, [(sv (st s)), (nv a), (iv k)])] else .pan (oops e ((a : Nat) : Int)) [none]) := by
 refine qeh Tryz.func39 rfl (by kernel_rfl) (qgf (Nat.le_of_ble_eq_true rfl) (Nat.le_of_ble_eq_true rfl)) (by kernel_rfl) (l0 := [ps 0 (.opt 0 0), ps 1 (iv e), pb 0 98 [(sv (st s)), (nv a), (iv k)]]) rfl (fun c0 Bor hc0 => ?_)
 rw [if_neg (fun c => c)]
 exact T_rx mixed [] [] 7 [] (oz) (fun cx_ a_ hI_ => qck hc0 hI_)
theorem qci (s : Txt) (a : Nat) (k e : Int) : PX Tryz.prog 39 [.opt 0 0, iv e] [some (98, [sv (st s), nv a, iv k])] (oops e ((a : Nat) : Int)) [none] := qog (fail_po s a k e) (fun c => c)
set_option maxRecDepth 100000 in
set_option maxHeartbeats 4000000 in
theorem qvq (s : Txt) (a : Nat) (k : Int) (hs : s.length ≤ 65536) (ha : a ≤ s.length) : PC Tryz.prog 72 [(.opt 0 0)] [some (98, [(sv (st s)), (nv a), (iv k)])] (.tup []) [some (98, [(sv (st s)), (nv (gapF s a)), (iv k)])] := by
 refine qas Tryz.func72 rfl (by kernel_rfl) (Nat.le_of_ble_eq_true rfl) (by kernel_rfl) (l0 := [ps 0 (.opt 0 0), pb 0 98 [(sv (st s)), (nv a), (iv k)]]) rfl (fun c0 Bor hc0 => ?_)
 refine qan ?_
 refine qcm (α := {x : Nat // x ≤ s.length ∧ gapF s x = gapF s a}) (fun x => [ps 0 (.opt 0 0), pb 0 98 [(sv (st s)), (nv x.1), (iv k)]]) (fun x => s.length - x.1) 1 ⟨a, ⟨ha, rfl⟩⟩ (Wk.ren2 [ps 0 (.opt 0 0), pb 0 98 [(sv (st s)), (nv a), (iv k)]] 1 hc0 [0] rfl rfl (by kernel_rfl) (by kernel_rfl)) ?_
 rintro ⟨b, ⟨hb, hg⟩⟩
 refine qaa <| qaa ?_
 by_cases h1 : ((b : Nat) : Int) < ((s.length : Nat) : Int)
 ·by_cases h2 : (((s.getD b 0).toNat : Nat) : Int) = 32
  ·refine T_rd mixed [(11, .gd true (.no)), (12, .gd true (.no)), (13, .gd true (.no)), (14, .gd true (.no)), (15, .gd true (.no)), (16, .gd true (.no)), (17, .gd true (.no)), (18, .gd true (.no)), (19, .gd true (.no)), (20, .gd true (.no)), (21, .gd true (.no)), (22, .gd true .no), (23, .gd true .no), (24, .gd true .no), (25, .gd true .no), (26, .gd true .no), (27, .gd true .no), (28, .gd true .no), (29, .gd true .no), (30, .gd true .no), (31, .gd true .no), (32, .gd true (.yes true)), (33, .yes true)] [[], [0], [0, 1], [0, 1, 2], [], [4], [4, 5], [4, 5, 6], [4, 5, 6, 7], [0, 1, 2, 3, 4, 5, 6, 7, 8], [0, 1, 2, 3, 4, 5, 6, 7, 8, 9], [0, 1, 2, 3, 4, 5, 6, 7, 8, 9, 10], [0, 1, 2, 3, 4, 5, 6, 7, 8, 9, 10, 11], [0, 1, 2, 3, 4, 5, 6, 7, 8, 9, 10, 11, 12], [0, 1, 2, 3, 4, 5, 6, 7, 8, 9, 10, 11, 12, 13], [0, 1, 2, 3, 4, 5, 6, 7, 8, 9, 10], [0, 1, 2, 3, 4, 5, 6, 7, 8, 9, 10, 15], [0, 1, 2, 3, 4, 5, 6, 7, 8, 9, 10, 15, 16], [0, 1, 2, 3, 4, 5, 6, 7, 8, 9, 10, 15, 16, 17], [0, 1, 2, 3, 4, 5, 6, 7, 8, 9, 10, 11, 12, 13, 14, 15, 16, 17, 18], [0, 1, 2, 3, 4, 5, 6, 7, 8, 9, 10, 11, 12, 13, 14, 15, 16, 17, 18, 19], [0, 1, 2, 3, 4, 5, 6, 7, 8, 9, 10, 11, 12, 13, 14, 15, 16, 17, 18, 19, 20], [0, 1, 2, 3, 4, 5, 6, 7, 8, 9, 10, 11, 12, 13, 14, 15, 16, 17, 18, 19, 20, 21], [0, 1, 2, 3, 4, 5, 6, 7, 8, 9, 10, 11, 12, 13, 14, 15, 16, 17, 18, 19, 20, 21, 22], [0, 1, 2, 3, 4, 5, 6, 7, 8, 9, 10, 11, 12, 13, 14, 15, 16, 17, 18, 19, 20, 21, 22, 23], [0, 1, 2, 3, 4, 5, 6, 7, 8, 9, 10, 11, 12, 13, 14, 15, 16, 17, 18, 19, 20, 21, 22, 23, 24], [0, 1, 2, 3, 4, 5, 6, 7, 8, 9, 10, 11, 12, 13, 14, 15, 16, 17, 18, 19, 20, 21], [0, 1, 2, 3, 4, 5, 6, 7, 8, 9, 10, 11, 12, 13, 14, 15, 16, 17, 18, 19, 20, 21, 26], [0, 1, 2, 3, 4, 5, 6, 7, 8, 9, 10, 11, 12, 13, 14, 15, 16, 17, 18, 19, 20, 21, 26, 27], [0, 1, 2, 3, 4, 5, 6, 7, 8, 9, 10, 11, 12, 13, 14, 15, 16, 17, 18, 19, 20, 21, 26, 27, 28], [0, 1, 2, 3, 4, 5, 6, 7, 8, 9, 10, 11, 12, 13, 14, 15, 16, 17, 18, 19, 20, 21, 22, 23, 24, 25, 26, 27, 28, 29], [0, 1, 2, 3, 4, 5, 6, 7, 8, 9, 10, 11, 12, 13, 14, 15, 16, 17, 18, 19, 20, 21, 22, 23, 24, 25, 26, 27, 28, 29, 30], [0, 1, 2, 3, 4, 5, 6, 7, 8, 9, 10, 11, 12, 13, 14, 15, 16, 17, 18, 19, 20, 21, 22, 23, 24, 25, 26, 27, 28, 29, 30, 31], [0, 1, 2, 3, 4, 5, 6, 7, 8, 9, 10, 11, 12, 13, 14, 15, 16, 17, 18, 19, 20, 21, 22, 23, 24, 25, 26, 27, 28, 29, 30, 31, 32]] [([4], [0]), ([6], [4]), ([8], [6]), ([10], [1, 8]), ([12], [0]), ([14], [12]), ([16], [14]), ([18], [1, 16]), ([20], [18]), ([22], [10, 20]), ([24], [22]), ([26], [0, 24]), ([28], [24, 26]), ([30], [24, 28]), ([32], [1, 24, 30]), ([34], [0, 24]), ([36], [24, 34]), ([38], [24, 36]), ([40], [1, 24, 38]), ([42], [24, 32, 40]), ([44], [24, 42]), ([46], [24, 44]), ([48], [46]), ([50], [46]), ([52], [46]), ([54], [46]), ([56], [46]), ([58], [46]), ([60], [46]), ([62], [46]), ([64], [46]), ([66], [46]), ([68], [24, 46, 66]), ([70], [24, 68])] [ps 0 (.opt 0 0), ps 35 (bv true), pb 0 98 [(sv (st s)), (nv b), (iv k)]] (oc (dty h1) (oc (dty h1) (oc (dty h1) (oc (dty h1) (oc (dty h1) (oc (dty h1) (oc (dty h1) (oc (dty h1) (oc (dty h1) (oc (by first | omega | (simp only [List.length_cons, List.length_nil, List.length_drop, List.length_append, List.length_take]; omega) : (0 : Int) ≤ ((b : Nat) : Int) ∧ ((b : Nat) : Int) < ((s.length : Nat) : Int)) (oc (dty h1) (oc (dty h1) (oc (dty h2) (oc (dty h2) (oc (dty h2) (oc (dty h2) (oc (dty h2) (oc (dty h2) (oc (dty h2) (oc (dty h2) (oc (dty h2) (oc (dty h2) (oc (dty h1) (oc (dty h2) (oc (dty h1) oz))))))))))))))))))))))))) ?_
   refine qau (b := true) rfl rfl ?_
   refine qag <| qan ?_
   refine T_r mixed [] [ps 0 (.opt 0 0), pb 0 98 [(sv (st s)), (iv (((b : Nat) : Int) + 1)), (iv k)]] (oc (by simp only [InK]; omega : InK .i64 (((b : Nat) : Int) + 1)) oz) ?_
   refine qbg ?_
   have hy : gapF s b = gapF s (b + 1) := gap_yes (by omega) (by omega)
   exact qce ⟨b + 1, ⟨by show b + 1 ≤ s.length; omega, by rw [← hy]; exact hg⟩⟩ (Wk.trans (Wk.eq (show _ = [ps 0 (.opt 0 0), pb 0 98 [(sv (st s)), (nv (b + 1)), (iv k)]] from by rfl)) (Wk.ren2 [ps 0 (.opt 0 0), pb 0 98 [(sv (st s)), (nv (b + 1)), (iv k)]] 1 hc0 [0] rfl rfl (by kernel_rfl) (by kernel_rfl))) (show s.length - (b + 1) < s.length - b from by show s.length - (b + 1) < s.length - b; omega)
  refine T_rd mixed [(11, .gd true (.no)), (12, .gd true (.no)), (13, .gd true (.no)), (14, .gd true (.no)), (15, .gd true (.no)), (16, .gd true (.no)), (17, .gd true (.no)), (18, .gd true (.no)), (19, .gd true (.no)), (20, .gd true (.no)), (21, .gd true (.no)), (22, .gd false (.no)), (23, .gd false (.no)), (24, .gd false (.no)), (25, .gd false (.no)), (26, .gd false (.no)), (27, .gd false (.no)), (28, .gd false (.no)), (29, .gd false (.no)), (30, .gd false (.no)), (31, .gd false (.no)), (32, .gd true (.yes false)), (33, .yes true)] [[], [0], [0, 1], [0, 1, 2], [], [4], [4, 5], [4, 5, 6], [4, 5, 6, 7], [0, 1, 2, 3, 4, 5, 6, 7, 8], [0, 1, 2, 3, 4, 5, 6, 7, 8, 9], [0, 1, 2, 3, 4, 5, 6, 7, 8, 9, 10], [0, 1, 2, 3, 4, 5, 6, 7, 8, 9, 10, 11], [0, 1, 2, 3, 4, 5, 6, 7, 8, 9, 10, 11, 12], [0, 1, 2, 3, 4, 5, 6, 7, 8, 9, 10, 11, 12, 13], [0, 1, 2, 3, 4, 5, 6, 7, 8, 9, 10], [0, 1, 2, 3, 4, 5, 6, 7, 8, 9, 10, 15], [0, 1, 2, 3, 4, 5, 6, 7, 8, 9, 10, 15, 16], [0, 1, 2, 3, 4, 5, 6, 7, 8, 9, 10, 15, 16, 17], [0, 1, 2, 3, 4, 5, 6, 7, 8, 9, 10, 11, 12, 13, 14, 15, 16, 17, 18], [0, 1, 2, 3, 4, 5, 6, 7, 8, 9, 10, 11, 12, 13, 14, 15, 16, 17, 18, 19], [0, 1, 2, 3, 4, 5, 6, 7, 8, 9, 10, 11, 12, 13, 14, 15, 16, 17, 18, 19, 20], [0, 1, 2, 3, 4, 5, 6, 7, 8, 9, 10, 11, 12, 13, 14, 15, 16, 17, 18, 19, 20, 21], [0, 1, 2, 3, 4, 5, 6, 7, 8, 9, 10, 11, 12, 13, 14, 15, 16, 17, 18, 19, 20, 21, 22], [0, 1, 2, 3, 4, 5, 6, 7, 8, 9, 10, 11, 12, 13, 14, 15, 16, 17, 18, 19, 20, 21, 22, 23], [0, 1, 2, 3, 4, 5, 6, 7, 8, 9, 10, 11, 12, 13, 14, 15, 16, 17, 18, 19, 20, 21, 22, 23, 24], [0, 1, 2, 3, 4, 5, 6, 7, 8, 9, 10, 11, 12, 13, 14, 15, 16, 17, 18, 19, 20, 21], [0, 1, 2, 3, 4, 5, 6, 7, 8, 9, 10, 11, 12, 13, 14, 15, 16, 17, 18, 19, 20, 21, 26], [0, 1, 2, 3, 4, 5, 6, 7, 8, 9, 10, 11, 12, 13, 14, 15, 16, 17, 18, 19, 20, 21, 26, 27], [0, 1, 2, 3, 4, 5, 6, 7, 8, 9, 10, 11, 12, 13, 14, 15, 16, 17, 18, 19, 20, 21, 26, 27, 28], [0, 1, 2, 3, 4, 5, 6, 7, 8, 9, 10, 11, 12, 13, 14, 15, 16, 17, 18, 19, 20, 21, 22, 23, 24, 25, 26, 27, 28, 29], [0, 1, 2, 3, 4, 5, 6, 7, 8, 9, 10, 11, 12, 13, 14, 15, 16, 17, 18, 19, 20, 21, 22, 23, 24, 25, 26, 27, 28, 29, 30], [0, 1, 2, 3, 4, 5, 6, 7, 8, 9, 10, 11, 12, 13, 14, 15, 16, 17, 18, 19, 20, 21, 22, 23, 24, 25, 26, 27, 28, 29, 30, 31], [0, 1, 2, 3, 4, 5, 6, 7, 8, 9, 10, 11, 12, 13, 14, 15, 16, 17, 18, 19, 20, 21, 22, 23, 24, 25, 26, 27, 28, 29, 30, 31, 32]] [([4], [0]), ([6], [4]), ([8], [6]), ([10], [1, 8]), ([12], [0]), ([14], [12]), ([16], [14]), ([18], [1, 16]), ([20], [18]), ([22], [10, 20]), ([24], [22]), ([26], [0, 24]), ([28], [24, 26]), ([30], [24, 28]), ([32], [1, 24, 30]), ([34], [0, 24]), ([36], [24, 34]), ([38], [24, 36]), ([40], [1, 24, 38]), ([42], [24, 32, 40]), ([44], [24, 42]), ([46], [24, 44]), ([48], [0, 46]), ([50], [46, 48]), ([52], [46, 50]), ([54], [1, 46, 52]), ([56], [0, 46]), ([58], [46, 56]), ([60], [46, 58]), ([62], [1, 46, 60]), ([64], [46, 54, 62]), ([66], [46, 64]), ([68], [24, 46, 66]), ([70], [24, 68])] [ps 0 (.opt 0 0), ps 35 (bv (decide ((((s.getD b 0).toNat : Nat) : Int) = 10))), pb 0 98 [(sv (st s)), (nv b), (iv k)]] (oc (dty h1) (oc (dty h1) (oc (dty h1) (oc (dty h1) (oc (dty h1) (oc (dty h1) (oc (dty h1) (oc (dty h1) (oc (dty h1) (oc (by first | omega | (simp only [List.length_cons, List.length_nil, List.length_drop, List.length_append, List.length_take]; omega) : (0 : Int) ≤ ((b : Nat) : Int) ∧ ((b : Nat) : Int) < ((s.length : Nat) : Int)) (oc (dty h1) (oc (dty h1) (oc (dtn h2) (oc (dtn h2) (oc (dtn h2) (oc (dtn h2) (oc (dtn h2) (oc (dtn h2) (oc (dtn h2) (oc (dtn h2) (oc (dtn h2) (oc (by first | omega | (simp only [List.length_cons, List.length_nil, List.length_drop, List.length_append, List.length_take]; omega) : (0 : Int) ≤ ((b : Nat) : Int) ∧ ((b : Nat) : Int) < ((s.length : Nat) : Int)) (oc (dtn h2) (oc (dty h1) (oc (dtn h2) (oc (dty h1) oz)))))))))))))))))))))))))) ?_
  by_cases h3 : (((s.getD b 0).toNat : Nat) : Int) = 10
  ·refine T_th (dty h3) ?_
   refine qag <| qan ?_
   refine T_r mixed [] [ps 0 (.opt 0 0), pb 0 98 [(sv (st s)), (iv (((b : Nat) : Int) + 1)), (iv k)]] (oc (by simp only [InK]; omega : InK .i64 (((b : Nat) : Int) + 1)) oz) ?_
   refine qbg ?_
   have hy : gapF s b = gapF s (b + 1) := gap_yes (by omega) (by omega)
   exact qce ⟨b + 1, ⟨by show b + 1 ≤ s.length; omega, by rw [← hy]; exact hg⟩⟩ (Wk.trans (Wk.eq (show _ = [ps 0 (.opt 0 0), pb 0 98 [(sv (st s)), (nv (b + 1)), (iv k)]] from by rfl)) (Wk.ren2 [ps 0 (.opt 0 0), pb 0 98 [(sv (st s)), (nv (b + 1)), (iv k)]] 1 hc0 [0] rfl rfl (by kernel_rfl) (by kernel_rfl))) (show s.length - (b + 1) < s.length - b from by show s.length - (b + 1) < s.length - b; omega)
  refine T_el (dtn h3) ?_
  refine qbu rfl rfl ?_
  have he : gapF s a = b := by rw [← hg]; exact gap_no (by omega)
  rw [he]
  exact fun cx_ a_ hI_ => qby (H' := [some (98, [(sv (st s)), (nv b), (iv k)])]) (.inl rfl) (Wk.ren2 [pb 0 98 [(sv (st s)), (nv b), (iv k)]] 1 hc0 [0] rfl rfl (by kernel_rfl) (by kernel_rfl)) rfl (oc rfl (oz)) (fun cx_ a_ hI_ => qbc (l' := [pb 0 98 [(sv (st s)), (nv b), (iv k)]]) (by kernel_rfl) cx_ a_ hI_) hI_
 refine T_rd mixed [(11, .gd false .no), (12, .gd false .no), (13, .gd false .no), (14, .gd false .no), (15, .gd false .no), (16, .gd false .no), (17, .gd false .no), (18, .gd false .no), (19, .gd false .no), (20, .gd false .no), (21, .gd false .no), (32, .gd false .no), (33, .yes false)] [[], [0], [0, 1], [0, 1, 2], [], [4], [4, 5], [4, 5, 6], [4, 5, 6, 7], [0, 1, 2, 3, 4, 5, 6, 7, 8], [0, 1, 2, 3, 4, 5, 6, 7, 8, 9], [0, 1, 2, 3, 4, 5, 6, 7, 8, 9, 10], [0, 1, 2, 3, 4, 5, 6, 7, 8, 9, 10, 11], [0, 1, 2, 3, 4, 5, 6, 7, 8, 9, 10, 11, 12], [0, 1, 2, 3, 4, 5, 6, 7, 8, 9, 10, 11, 12, 13], [0, 1, 2, 3, 4, 5, 6, 7, 8, 9, 10], [0, 1, 2, 3, 4, 5, 6, 7, 8, 9, 10, 15], [0, 1, 2, 3, 4, 5, 6, 7, 8, 9, 10, 15, 16], [0, 1, 2, 3, 4, 5, 6, 7, 8, 9, 10, 15, 16, 17], [0, 1, 2, 3, 4, 5, 6, 7, 8, 9, 10, 11, 12, 13, 14, 15, 16, 17, 18], [0, 1, 2, 3, 4, 5, 6, 7, 8, 9, 10, 11, 12, 13, 14, 15, 16, 17, 18, 19], [0, 1, 2, 3, 4, 5, 6, 7, 8, 9, 10, 11, 12, 13, 14, 15, 16, 17, 18, 19, 20], [0, 1, 2, 3, 4, 5, 6, 7, 8, 9, 10, 11, 12, 13, 14, 15, 16, 17, 18, 19, 20, 21], [0, 1, 2, 3, 4, 5, 6, 7, 8, 9, 10, 11, 12, 13, 14, 15, 16, 17, 18, 19, 20, 21, 22], [0, 1, 2, 3, 4, 5, 6, 7, 8, 9, 10, 11, 12, 13, 14, 15, 16, 17, 18, 19, 20, 21, 22, 23], [0, 1, 2, 3, 4, 5, 6, 7, 8, 9, 10, 11, 12, 13, 14, 15, 16, 17, 18, 19, 20, 21, 22, 23, 24], [0, 1, 2, 3, 4, 5, 6, 7, 8, 9, 10, 11, 12, 13, 14, 15, 16, 17, 18, 19, 20, 21], [0, 1, 2, 3, 4, 5, 6, 7, 8, 9, 10, 11, 12, 13, 14, 15, 16, 17, 18, 19, 20, 21, 26], [0, 1, 2, 3, 4, 5, 6, 7, 8, 9, 10, 11, 12, 13, 14, 15, 16, 17, 18, 19, 20, 21, 26, 27], [0, 1, 2, 3, 4, 5, 6, 7, 8, 9, 10, 11, 12, 13, 14, 15, 16, 17, 18, 19, 20, 21, 26, 27, 28], [0, 1, 2, 3, 4, 5, 6, 7, 8, 9, 10, 11, 12, 13, 14, 15, 16, 17, 18, 19, 20, 21, 22, 23, 24, 25, 26, 27, 28, 29], [0, 1, 2, 3, 4, 5, 6, 7, 8, 9, 10, 11, 12, 13, 14, 15, 16, 17, 18, 19, 20, 21, 22, 23, 24, 25, 26, 27, 28, 29, 30], [0, 1, 2, 3, 4, 5, 6, 7, 8, 9, 10, 11, 12, 13, 14, 15, 16, 17, 18, 19, 20, 21, 22, 23, 24, 25, 26, 27, 28, 29, 30, 31], [0, 1, 2, 3, 4, 5, 6, 7, 8, 9, 10, 11, 12, 13, 14, 15, 16, 17, 18, 19, 20, 21, 22, 23, 24, 25, 26, 27, 28, 29, 30, 31, 32]] [([4], [0]), ([6], [4]), ([8], [6]), ([10], [1, 8]), ([12], [0]), ([14], [12]), ([16], [14]), ([18], [1, 16]), ([20], [18]), ([22], [10, 20]), ([24], [22]), ([26], [24]), ([28], [24]), ([30], [24]), ([32], [24]), ([34], [24]), ([36], [24]), ([38], [24]), ([40], [24]), ([42], [24]), ([44], [24]), ([46], [24]), ([48], [46]), ([50], [46]), ([52], [46]), ([54], [46]), ([56], [46]), ([58], [46]), ([60], [46]), ([62], [46]), ([64], [46]), ([66], [46]), ([68], [24]), ([70], [24, 68])] [ps 0 (.opt 0 0), ps 35 (bv false), pb 0 98 [(sv (st s)), (nv b), (iv k)]] (oc (dtn h1) (oc (dtn h1) (oc (dtn h1) (oc (dtn h1) (oc (dtn h1) (oc (dtn h1) (oc (dtn h1) (oc (dtn h1) (oc (dtn h1) (oc (dtn h1) (oc (dtn h1) (oc (dtn h1) (oc (dtn h1) oz))))))))))))) ?_
 refine qbf (b := false) rfl rfl ?_
 refine qbu rfl rfl ?_
 have he : gapF s a = b := by rw [← hg]; exact gap_end (by omega)
 rw [he]
 exact fun cx_ a_ hI_ => qby (H' := [some (98, [(sv (st s)), (nv b), (iv k)])]) (.inl rfl) (Wk.ren2 [pb 0 98 [(sv (st s)), (nv b), (iv k)]] 1 hc0 [0] rfl rfl (by kernel_rfl) (by kernel_rfl)) rfl (oc rfl (oz)) (fun cx_ a_ hI_ => qbc (l' := [pb 0 98 [(sv (st s)), (nv b), (iv k)]]) (by kernel_rfl) cx_ a_ hI_) hI_
set_option maxRecDepth 100000 in
set_option maxHeartbeats 4000000 in
theorem qjd (s : Txt) (a : Nat) (k : Int) (hs : s.length ≤ 65536) (ha : a ≤ s.length) : PC Tryz.prog 38 [(.opt 0 0)] [some (98, [(sv (st s)), (nv a), (iv k)])] (bv (decide (((gapF s a : Nat) : Int) = ((s.length : Nat) : Int)))) [some (98, [(sv (st s)), (nv (gapF s a)), (iv k)])] := by
 refine qas Tryz.func38 rfl (by kernel_rfl) (Nat.le_of_ble_eq_true rfl) (by kernel_rfl) (l0 := [ps 0 (.opt 0 0), pb 0 98 [(sv (st s)), (nv a), (iv k)]]) rfl (fun c0 Bor hc0 => ?_)
 refine qaa ?_
 refine T_k mixed [] [.r] [] (oz) ?_
 refine qaa ?_
 refine T_k mixed [(1, .call [0] [(.opt 0 0)] [some (98, [(sv (st s)), (nv a), (iv k)])] (.tup []) [some (98, [(sv (st s)), (nv (gapF s a)), (iv k)])])] [.k1, .d, .n] [pb 0 98 [(sv (st s)), (nv (gapF s a)), (iv k)]] (oc (qvq s a k hs (by omega)) (oc (rfl : [(.opt 0 0)] = renL (sigi [0] 17) [(.opt 0 0)]) (oc (rfl : [(sv (st s)), (nv a), (iv k)] = renL (sigi [0] 17) [(sv (st s)), (nv a), (iv k)]) oz))) ?_
 refine qaa ?_
 have hg := qcs ha
 refine T_kd mixed [] [[], [0], [0, 1], [0, 1, 2], [], [4], [4, 5], [4, 5, 6], [4, 5, 6, 7], [0, 1, 2, 3, 4, 5, 6, 7, 8], [0, 1, 2, 3, 4, 5, 6, 7, 8, 9]] [([10], [0]), ([12], [10]), ([14], [12]), ([16], [1, 14]), ([18], [0]), ([20], [18]), ([22], [20]), ([24], [1, 22]), ([26], [24]), ([28], [16, 26]), ([4], [28])] [.d, .n, .r] [ps 2 (bv (decide (((gapF s a : Nat) : Int) = ((s.length : Nat) : Int))))] (oz) ?_
 exact qai fun cx_ a_ hI_ => rt hc0 [ps 2 (bv (decide (((gapF s a : Nat) : Int) = ((s.length : Nat) : Int)))), pb 0 98 [(sv (st s)), (nv (gapF s a)), (iv k)]] [0] hI_ (hbk := by exact oc rfl (oz))
set_option maxRecDepth 100000 in
set_option maxHeartbeats 4000000 in
theorem qpd (s : Txt) (a : Nat) (k c : Int) (hs : s.length ≤ 65536) (ha : a ≤ s.length) : PC Tryz.prog 74 [(.opt 0 0), (.av (.int .u8 c))] [some (98, [(sv (st s)), (nv a), (iv k)])] (bv (qap s a c)) [some (98, [(sv (st s)), (nv (gapF s a)), (iv k)])] := by
 refine qas Tryz.func74 rfl (by kernel_rfl) (Nat.le_of_ble_eq_true rfl) (by kernel_rfl) (l0 := [ps 0 (.opt 0 0), ps 1 (.av (.int .u8 c)), pb 0 98 [(sv (st s)), (nv a), (iv k)]]) rfl (fun c0 Bor hc0 => ?_)
 refine qaa ?_
 refine T_k mixed [] [.r] [] (oz) ?_
 refine qaa ?_
 have hg := qcs ha
 by_cases h1 : ((gapF s a : Nat) : Int) = ((s.length : Nat) : Int)
 ·refine T_rd mixed [(1, .call [0] [(.opt 0 0)] [some (98, [(sv (st s)), (nv a), (iv k)])] (bv (decide (((gapF s a : Nat) : Int) = ((s.length : Nat) : Int)))) [some (98, [(sv (st s)), (nv (gapF s a)), (iv k)])]), (4, .gd false .no), (5, .gd false .no), (6, .gd false .no), (7, .gd false .no), (8, .gd false .no), (9, .gd false .no), (10, .gd false .no), (11, .gd false .no), (12, .gd false .no), (13, .gd false .no), (14, .gd false .no), (15, .yes false)] [[], [0], [0, 1], [0, 1, 2], [0, 1, 2, 3], [0, 1, 2, 3, 4], [0, 1, 2, 3, 4, 5], [0, 1, 2, 3, 4, 5, 6], [0, 1, 2, 3], [0, 1, 2, 3, 8], [0, 1, 2, 3, 8, 9], [0, 1, 2, 3, 8, 9, 10], [0, 1, 2, 3, 4, 5, 6, 7, 8, 9, 10, 11], [0, 1, 2, 3], [0, 1, 2, 3, 4, 5, 6, 7, 8, 9, 10, 11, 12, 13], [0, 1, 2, 3, 4, 5, 6, 7, 8, 9, 10, 11, 12, 13, 14], [0, 1, 2, 3, 4, 5, 6, 7, 8, 9, 10, 11, 12, 13, 14, 15]] [([10], [0]), ([12, 1], [1, 10]), ([14], [12]), ([16], [14]), ([18], [16]), ([20], [16]), ([22], [16]), ([24], [16]), ([26], [16]), ([28], [16]), ([30], [16]), ([32], [16]), ([34], [16]), ([36], [16]), ([38], [16]), ([40], [16, 38]), ([8], [40])] [ps 4 (bv false), pb 0 98 [(sv (st s)), (nv (gapF s a)), (iv k)]] (oc (qjd s a k hs (by omega)) (oc (rfl : [(.opt 0 0)] = renL (sigi [0] 17) [(.opt 0 0)]) (oc (rfl : [(sv (st s)), (nv a), (iv k)] = renL (sigi [0] 17) [(sv (st s)), (nv a), (iv k)]) (oc (bt h1) (oc (bt h1) (oc (bt h1) (oc (bt h1) (oc (bt h1) (oc (bt h1) (oc (bt h1) (oc (bt h1) (oc (bt h1) (oc (bt h1) (oc (bt h1) (oc (bt h1) oz))))))))))))))) ?_
  rw [show qap s a c = false from dtn fun q => by omega]
  exact qai fun cx_ a_ hI_ => rt hc0 [ps 4 (bv false), pb 0 98 [(sv (st s)), (nv (gapF s a)), (iv k)]] [0] hI_ (hbk := by exact oc rfl (oz))
 refine T_rd mixed [(1, .call [0] [(.opt 0 0)] [some (98, [(sv (st s)), (nv a), (iv k)])] (bv (decide (((gapF s a : Nat) : Int) = ((s.length : Nat) : Int)))) [some (98, [(sv (st s)), (nv (gapF s a)), (iv k)])]), (4, .gd true (.no)), (5, .gd true (.no)), (6, .gd true (.no)), (7, .gd true (.no)), (8, .gd true (.no)), (9, .gd true (.no)), (10, .gd true (.no)), (11, .gd true (.no)), (12, .gd true (.no)), (13, .gd true (.no)), (14, .gd true (.no)), (15, .yes true)] [[], [0], [0, 1], [0, 1, 2], [0, 1, 2, 3], [0, 1, 2, 3, 4], [0, 1, 2, 3, 4, 5], [0, 1, 2, 3, 4, 5, 6], [0, 1, 2, 3], [0, 1, 2, 3, 8], [0, 1, 2, 3, 8, 9], [0, 1, 2, 3, 8, 9, 10], [0, 1, 2, 3, 4, 5, 6, 7, 8, 9, 10, 11], [0, 1, 2, 3], [0, 1, 2, 3, 4, 5, 6, 7, 8, 9, 10, 11, 12, 13], [0, 1, 2, 3, 4, 5, 6, 7, 8, 9, 10, 11, 12, 13, 14], [0, 1, 2, 3, 4, 5, 6, 7, 8, 9, 10, 11, 12, 13, 14, 15]] [([10], [0]), ([12, 1], [1, 10]), ([14], [12]), ([16], [14]), ([18], [0, 16]), ([20], [16, 18]), ([22], [16, 20]), ([24], [1, 16, 22]), ([26], [0, 16]), ([28], [16, 26]), ([30], [16, 28]), ([32], [1, 16, 30]), ([34], [16, 24, 32]), ([36], [2, 16]), ([38], [16, 34, 36]), ([40], [16, 38]), ([8], [40])] [ps 4 (bv (decide ((((s.getD (gapF s a) 0).toNat : Nat) : Int) = c))), pb 0 98 [(sv (st s)), (nv (gapF s a)), (iv k)]] (oc (qjd s a k hs (by omega)) (oc (rfl : [(.opt 0 0)] = renL (sigi [0] 17) [(.opt 0 0)]) (oc (rfl : [(sv (st s)), (nv a), (iv k)] = renL (sigi [0] 17) [(sv (st s)), (nv a), (iv k)]) (oc (bf h1) (oc (bf h1) (oc (bf h1) (oc (bf h1) (oc (bf h1) (oc (bf h1) (oc (bf h1) (oc (bf h1) (oc (bf h1) (oc (by first | omega | (simp only [List.length_cons, List.length_nil, List.length_drop, List.length_append, List.length_take]; omega) : (0 : Int) ≤ ((gapF s a : Nat) : Int) ∧ ((gapF s a : Nat) : Int) < ((s.length : Nat) : Int)) (oc (bf h1) (oc (bf h1) (oc (bf h1) oz)))))))))))))))) ?_
 rw [show qap s a c = (decide ((((s.getD (gapF s a) 0).toNat : Nat) : Int) = c)) from by unfold qap; rw [Bool.eq_iff_iff]; simp only [decide_eq_true_eq]; constructor <;> intro hh <;> first | exact hh.2 | exact ⟨by omega, hh⟩]
 exact qai fun cx_ a_ hI_ => rt hc0 [ps 4 (bv (decide ((((s.getD (gapF s a) 0).toNat : Nat) : Int) = c))), pb 0 98 [(sv (st s)), (nv (gapF s a)), (iv k)]] [0] hI_ (hbk := by exact oc rfl (oz))
def isT (s : Txt) (a : Nat) (c : Int) : Nat := if qap s a c = true then gapF s a + 1 else gapF s a
set_option maxRecDepth 100000 in
set_option maxHeartbeats 4000000 in
theorem is_pc (s : Txt) (a : Nat) (k c : Int) (hs : s.length ≤ 65536) (ha : a ≤ s.length) : PC Tryz.prog 138 [(.opt 0 0), (.av (.int .u8 c))] [some (98, [(sv (st s)), (nv a), (iv k)])] (bv (qap s a c)) [some (98, [(sv (st s)), (nv (isT s a c)), (iv k)])] := by
 refine qas Tryz.func138 rfl (by kernel_rfl) (Nat.le_of_ble_eq_true rfl) (by kernel_rfl) (l0 := [ps 0 (.opt 0 0), ps 1 (.av (.int .u8 c)), pb 0 98 [(sv (st s)), (nv a), (iv k)]]) rfl (fun c0 Bor hc0 => ?_)
 refine qaa ?_
 refine T_k mixed [] [.r] [] (oz) ?_
 refine qaa <| qaa ?_
 refine T_r mixed [(2, .call [0] [(.opt 0 0), (.av (.int .u8 c))] [some (98, [(sv (st s)), (nv a), (iv k)])] (bv (qap s a c)) [some (98, [(sv (st s)), (nv (gapF s a)), (iv k)])])] [ps 0 (.opt 0 0), ps 8 (bv (!(qap s a c))), pb 0 98 [(sv (st s)), (nv (gapF s a)), (iv k)]] (oc (qpd s a k c hs (by omega)) (oc (rfl : [(.opt 0 0), (.av (.int .u8 c))] = renL (sigi [0] 25) [(.opt 0 0), (.av (.int .u8 c))]) (oc (rfl : [(sv (st s)), (nv a), (iv k)] = renL (sigi [0] 25) [(sv (st s)), (nv a), (iv k)]) oz))) ?_
 by_cases h1 : (qap s a c) = true
 ·refine T_el (congrArg Bool.not h1) ?_
  refine qag <| qaa ?_
  have hg := qda h1
  refine T_r mixed [] [pb 0 98 [(sv (st s)), (iv (((gapF s a : Nat) : Int) + 1)), (iv k)]] (oc (by simp only [InK]; omega : InK .i64 (((gapF s a : Nat) : Int) + 1)) oz) ?_
  refine qaa ?_
  refine T_k mixed [] [.n, .r] [ps 4 (bv true)] (oz) ?_
  rw [show isT s a c = gapF s a + 1 from if_pos h1, h1]
  exact qai fun cx_ a_ hI_ => rt hc0 [ps 4 (bv true), pb 0 98 [(sv (st s)), (iv (((gapF s a : Nat) : Int) + 1)), (iv k)]] [0] hI_ (hbk := by exact oc rfl (oz))
 refine T_th (congrArg Bool.not (Bool.eq_false_iff.2 h1)) ?_
 refine qaa ?_
 refine T_k mixed [] [.d, .n, .d, .r] [ps 4 (bv false)] (oz) ?_
 rw [show isT s a c = gapF s a from if_neg h1, eq_false_of_ne_true h1]
 exact qai fun cx_ a_ hI_ => rt hc0 [ps 4 (bv false), pb 0 98 [(sv (st s)), (nv (gapF s a)), (iv k)]] [0] hI_ (hbk := by exact oc rfl (oz))
theorem isT_yes {s : Txt} {a : Nat} {c : Int} (h : qap s a c = true) : isT s a c = gapF s a + 1 := if_pos h
theorem isT_no {s : Txt} {a : Nat} {c : Int} (h : ¬ qap s a c = true) : isT s a c = gapF s a := if_neg h
end Go.Proofs.YtmlnilkbolcknaaGreatDoor.Pm
namespace Go.Proofs.YtmlnilkbolcknaaGreatDoor.Pm
open Go Go.Proofs.YtmlnilkbolcknaaGreatDoor.Pi

/-- What is asked of the library's texts: strings.IndexAny at this text's ends, strconv.Atoi at long rows of digits. -/
structure Rdy (s : Txt) : Prop where
 any : ∀ a, a ≤ s.length → PC Tryz.prog 106 [sv (st (s.drop a)), sv (st sgn)] [] (iv (Lib.indexAny (s.drop a) sgn)) []
 ato : ∀ w : Txt, w.length ≤ s.length → 18 < w.length → Lib.atoiAll w = .ok (okV w) → PC Tryz.prog 137 [sv (st w)] [] (.tup [iv (okV w), .av .nilIface]) []
 atr : ∀ w : Txt, w.length ≤ s.length → 18 < w.length → Lib.atoiAll w = .range → PC Tryz.prog 137 [sv (st w)] [] (.tup [iv (Lib.atoiSat w), .err]) []
theorem comes_gap (s : Txt) (a : Nat) (c : Int) : qap s (gapF s a) c = qap s a c := by unfold qap; rw [qlt]
theorem word_gap (s : Txt) (a : Nat) : qad s (gapF s a) = qad s a := by unfold qad; rw [qlt]
theorem qgh (s : Txt) (a : Nat) (k c : Int) (hs : s.length ≤ 65536) (ha : a ≤ s.length) : PC Tryz.prog 74 [.opt 0 0, .av (.int .u8 c)] [some (98, [sv (st s), nv (gapF s a), iv k])] (bv (qap s a c)) [some (98, [sv (st s), nv (gapF s a), iv k])] := by
 have := qpd s (gapF s a) k c hs (qcs ha)
 rwa [qlt, comes_gap] at this
theorem is_yes {s : Txt} {a : Nat} {c k : Int} {H : Hp} (h : PC Tryz.prog 138 [.opt 0 0, .av (.int .u8 c)] H (bv (qap s a c)) [some (98, [sv (st s), nv (isT s a c), iv k])]) (hc : qap s a c = true) : PC Tryz.prog 138 [.opt 0 0, .av (.int .u8 c)] H (bv true) [some (98, [sv (st s), nv (gapF s a + 1), iv k])] := by
 rwa [isT_yes hc, hc] at h
theorem is_no {s : Txt} {a : Nat} {c k : Int} {H : Hp} (h : PC Tryz.prog 138 [.opt 0 0, .av (.int .u8 c)] H (bv (qap s a c)) [some (98, [sv (st s), nv (isT s a c), iv k])]) (hc : ¬ qap s a c = true) : PC Tryz.prog 138 [.opt 0 0, .av (.int .u8 c)] H (bv false) [some (98, [sv (st s), nv (gapF s a), iv k])] := by
 rwa [isT_no hc, eq_false_of_ne_true hc] at h
set_option maxRecDepth 100000 in
set_option maxHeartbeats 4000000 in
theorem need_po (s : Txt) (a : Nat) (k c : Int) (hs : s.length ≤ 65536) (ha : a ≤ s.length) : PO Tryz.prog 108 [(.opt 0 0), (.av (.int .u8 c))] [some (98, [(sv (st s)), (nv a), (iv k)])] (if qap s a c = true then .ret (.tup []) [some (98, [(sv (st s)), (nv (gapF s a + 1)), (iv k)])] else .pan (oops 2 ((gapF s a : Nat) : Int)) [none]) := by
 refine qeh Tryz.func108 rfl (by kernel_rfl) (qgf (Nat.le_of_ble_eq_true rfl) (Nat.le_of_ble_eq_true rfl)) (by kernel_rfl) (l0 := [ps 0 (.opt 0 0), ps 1 (.av (.int .u8 c)), pb 0 98 [(sv (st s)), (nv a), (iv k)]]) rfl (fun c0 Bor hc0 => ?_)
 refine qaa ?_
 by_cases h1 : (qap s a c) = true
 ·refine T_r mixed [(2, .call [0] [(.opt 0 0), (.av (.int .u8 c))] [some (98, [(sv (st s)), (nv a), (iv k)])] (bv true) [some (98, [(sv (st s)), (nv (gapF s a + 1)), (iv k)])])] [ps 0 (.opt 0 0), ps 7 (bv false), pb 0 98 [(sv (st s)), (nv (gapF s a + 1)), (iv k)]] (oc (is_yes (is_pc s a k c hs (by omega)) h1) (oc (rfl : [(.opt 0 0), (.av (.int .u8 c))] = renL (sigi [0] 17) [(.opt 0 0), (.av (.int .u8 c))]) (oc (rfl : [(sv (st s)), (nv a), (iv k)] = renL (sigi [0] 17) [(sv (st s)), (nv a), (iv k)]) oz))) ?_
  refine qbf (b := false) rfl rfl ?_
  refine qag ?_
  rw [if_pos h1]
  exact fun cx_ a_ hI_ => qby (H' := [some (98, [(sv (st s)), (nv (gapF s a + 1)), (iv k)])]) (.inl rfl) (Wk.ren2 [pb 0 98 [(sv (st s)), (nv (gapF s a + 1)), (iv k)]] 1 hc0 [0] rfl rfl (by kernel_rfl) (by kernel_rfl)) rfl (oc rfl (oz)) (fun cx_ a_ hI_ => qbc (l' := [pb 0 98 [(sv (st s)), (nv (gapF s a + 1)), (iv k)]]) (by kernel_rfl) cx_ a_ hI_) hI_
 refine T_r mixed [(2, .call [0] [(.opt 0 0), (.av (.int .u8 c))] [some (98, [(sv (st s)), (nv a), (iv k)])] (bv false) [some (98, [(sv (st s)), (nv (gapF s a)), (iv k)])])] [ps 0 (.opt 0 0), ps 7 (bv true), pb 0 98 [(sv (st s)), (nv (gapF s a)), (iv k)]] (oc (is_no (is_pc s a k c hs (by omega)) h1) (oc (rfl : [(.opt 0 0), (.av (.int .u8 c))] = renL (sigi [0] 17) [(.opt 0 0), (.av (.int .u8 c))]) (oc (rfl : [(sv (st s)), (nv a), (iv k)] = renL (sigi [0] 17) [(sv (st s)), (nv a), (iv k)]) oz))) ?_
 refine qau (b := true) rfl rfl ?_
 rw [if_neg h1]
 exact T_rx mixed [(1, .call [0] [(.opt 0 0), (iv 2)] [some (98, [(sv (st s)), (nv (gapF s a)), (iv k)])] (.av (oops 2 ((gapF s a : Nat) : Int))) [none])] [] 1 [] (oc (qci s (gapF s a) k 2 : PX Tryz.prog 39 [(.opt 0 0), (iv 2)] [some (98, [(sv (st s)), (nv (gapF s a)), (iv k)])] (oops 2 ((gapF s a : Nat) : Int)) [none]) (oc (rfl : [(.opt 0 0), (iv 2)] = renL (sigi [0] 41) [(.opt 0 0), (iv 2)]) (oc (rfl : [(sv (st s)), (nv (gapF s a)), (iv k)] = renL (sigi [0] 41) [(sv (st s)), (nv (gapF s a)), (iv k)]) oz))) (fun cx_ a_ hI_ => qck hc0 hI_)
set_option maxRecDepth 100000 in
set_option maxHeartbeats 4000000 in
theorem qoi (s : Txt) (a : Nat) (k : Int) (hs : s.length ≤ 65536) (hr : Rdy s) (ha : a ≤ s.length) : PC Tryz.prog 73 [(.opt 0 0)] [some (98, [(sv (st s)), (nv a), (iv k)])] (sv (st (qad s a))) [some (98, [(sv (st s)), (nv (gapF s a)), (iv k)])] := by
 refine qas Tryz.func73 rfl (by kernel_rfl) (Nat.le_of_ble_eq_true rfl) (by kernel_rfl) (l0 := [ps 0 (.opt 0 0), pb 0 98 [(sv (st s)), (nv a), (iv k)]]) rfl (fun c0 Bor hc0 => ?_)
 refine qaa ?_
 refine T_k mixed [] [.r] [] (oz) ?_
 refine qaa ?_
 refine T_k mixed [(1, .call [0] [(.opt 0 0)] [some (98, [(sv (st s)), (nv a), (iv k)])] (.tup []) [some (98, [(sv (st s)), (nv (gapF s a)), (iv k)])])] [.k1, .d, .n] [pb 0 98 [(sv (st s)), (nv (gapF s a)), (iv k)]] (oc (qvq s a k hs (by omega)) (oc (rfl : [(.opt 0 0)] = renL (sigi [0] 17) [(.opt 0 0)]) (oc (rfl : [(sv (st s)), (nv a), (iv k)] = renL (sigi [0] 17) [(sv (st s)), (nv a), (iv k)]) oz))) ?_
 refine qaa ?_
 have hg := qcs ha
 refine T_kd mixed [(8, .val (.av (.string (st (s.drop (gapF s a)))))), (9, .call [] [(sv (st (s.drop (gapF s a)))), (sv (st sgn))] [] (iv (Lib.indexAny (s.drop (gapF s a)) sgn)) [])] [[], [0], [0, 1], [0, 1, 2], [], [4], [4, 5], [4, 5, 6], [0, 1, 2, 3, 4, 5, 6, 7], [0, 1, 2, 3, 4, 5, 6, 7, 8], [0, 1, 2, 3, 4, 5, 6, 7, 8, 9]] [([12], [0]), ([14], [12]), ([16], [14]), ([18], [1, 16]), ([20], [0]), ([22], [20]), ([24], [22]), ([26], [1, 24]), ([28], [18, 26]), ([30], [28]), ([6], [30])] [.k1, .n, .r] [ps 3 (iv (Lib.indexAny (s.drop (gapF s a)) sgn))] (oc (by first | omega | (simp only [List.length_cons, List.length_nil, List.length_drop, List.length_append, List.length_take]; omega) : (0 : Int) ≤ ((gapF s a : Nat) : Int) ∧ ((gapF s a : Nat) : Int) ≤ ((s.length : Nat) : Int) ∧ ((s.length : Nat) : Int) ≤ ((s.length : Nat) : Int)) (oc (qft _ _ _ rfl : (st s).extract (((gapF s a : Nat) : Int) : Int).toNat (((s.length : Nat) : Int) : Int).toNat = st (s.drop (gapF s a))) (oc (hr.any (gapF s a) (qcs ha)) (oc (rfl : [(sv (st (s.drop (gapF s a)))), (sv (st ([32, 10, 124, 47, 60, 62, 126, 91, 93, 42, 34] : List UInt8)))] = renL (sigi [] 97) [(sv (st (s.drop (gapF s a)))), (sv (st sgn))]) oz)))) ?_
 refine qaa <| qaa ?_
 refine T_k mixed [] [.k2, .n, .r] [ps 17 (bv (decide ((Lib.indexAny (s.drop (gapF s a)) sgn) < 0)))] (oz) ?_
 by_cases h1 : (Lib.indexAny (s.drop (gapF s a)) sgn) < 0
 ·refine T_th (dty h1) ?_
  refine qaa ?_
  refine T_kd mixed [(8, .val (.av (.string (st (qad s a)))))] [[], [0], [0, 1], [0, 1, 2], [], [4], [4, 5], [4, 5, 6], [0, 1, 2, 3, 4, 5, 6, 7], [0, 1, 2, 3, 4, 5, 6, 7, 8]] [([36], [0]), ([38], [36]), ([40], [38]), ([42], [1, 40]), ([44], [0]), ([46], [44]), ([48], [46]), ([50], [1, 48]), ([52], [42, 50]), ([4], [52])] [.d, .n, .d, .d, .r] [ps 2 (sv (st (qad s a)))] (oc (by first | omega | (simp only [List.length_cons, List.length_nil, List.length_drop, List.length_append, List.length_take]; omega) : (0 : Int) ≤ ((gapF s a : Nat) : Int) ∧ ((gapF s a : Nat) : Int) ≤ ((s.length : Nat) : Int) ∧ ((s.length : Nat) : Int) ≤ ((s.length : Nat) : Int)) (oc (by rw [qyj (by omega)]; exact qft _ _ _ rfl : (st s).extract (((gapF s a : Nat) : Int) : Int).toNat (((s.length : Nat) : Int) : Int).toNat = st (qad s a)) oz)) ?_
  exact qai fun cx_ a_ hI_ => rt hc0 [ps 2 (sv (st (qad s a))), pb 0 98 [(sv (st s)), (nv (gapF s a)), (iv k)]] [0] hI_ (hbk := by exact oc rfl (oz))
 refine T_el (dtn h1) ?_
 refine qag <| qaa ?_
 have hc := word_cut (s := s) (a := a) (i := (Lib.indexAny (s.drop (gapF s a)) sgn)) rfl (by omega)
 refine T_kd mixed [(14, .val (.av (.string (st (qad s a)))))] [[], [0], [0, 1], [0, 1, 2], [], [4], [4, 5], [4, 5, 6], [], [8], [8, 9], [8, 9, 10], [], [8, 9, 10, 11, 12], [0, 1, 2, 3, 4, 5, 6, 7, 8, 9, 10, 11, 12, 13], [0, 1, 2, 3, 4, 5, 6, 7, 8, 9, 10, 11, 12, 13, 14]] [([54], [0]), ([56], [54]), ([58], [56]), ([60], [1, 58]), ([62], [0]), ([64], [62]), ([66], [64]), ([68], [1, 66]), ([70], [0]), ([72], [70]), ([74], [72]), ([76], [1, 74]), ([78], [6]), ([80], [76, 78]), ([82], [60, 68, 80]), ([4], [82])] [.d, .n, .d, .d, .r] [ps 2 (sv (st (qad s a)))] (oc (by simp only [InK]; omega : InK .i64 (((gapF s a : Nat) : Int) + (Lib.indexAny (s.drop (gapF s a)) sgn))) (oc (by first | omega | (simp only [List.length_cons, List.length_nil, List.length_drop, List.length_append, List.length_take]; omega) : (0 : Int) ≤ ((gapF s a : Nat) : Int) ∧ ((gapF s a : Nat) : Int) ≤ (((gapF s a : Nat) : Int) + (Lib.indexAny (s.drop (gapF s a)) sgn)) ∧ (((gapF s a : Nat) : Int) + (Lib.indexAny (s.drop (gapF s a)) sgn)) ≤ ((s.length : Nat) : Int)) (oc (by rw [qyy, show ((gapF s a : Nat) : Int).toNat = gapF s a from rfl, show (((gapF s a : Nat) : Int) + (Lib.indexAny (s.drop (gapF s a)) sgn)).toNat - gapF s a = (Lib.indexAny (s.drop (gapF s a)) sgn).toNat by omega, hc.2] : (st s).extract (((gapF s a : Nat) : Int) : Int).toNat ((((gapF s a : Nat) : Int) + (Lib.indexAny (s.drop (gapF s a)) sgn)) : Int).toNat = st (qad s a)) oz))) ?_
 exact qai fun cx_ a_ hI_ => rt hc0 [ps 2 (sv (st (qad s a))), pb 0 98 [(sv (st s)), (nv (gapF s a)), (iv k)]] [0] hI_ (hbk := by exact oc rfl (oz))
theorem qoh (s : Txt) (a : Nat) (k : Int) (hs : s.length ≤ 65536) (hr : Rdy s) (ha : a ≤ s.length) : PC Tryz.prog 73 [.opt 0 0] [some (98, [sv (st s), nv (gapF s a), iv k])] (sv (st (qad s a))) [some (98, [sv (st s), nv (gapF s a), iv k])] := by
 have := qoi s (gapF s a) k hs hr (qcs ha)
 rwa [qlt, word_gap] at this
end Go.Proofs.YtmlnilkbolcknaaGreatDoor.Pm
namespace Go.Proofs.YtmlnilkbolcknaaGreatDoor.Pm
open Go Go.Proofs.YtmlnilkbolcknaaGreatDoor.Pi

set_option maxRecDepth 100000 in
set_option maxHeartbeats 4000000 in
theorem qhy (s : Txt) (a : Nat) (k : Int) (hs : s.length ≤ 65536) (hr : Rdy s) (ha : a ≤ s.length) : PO Tryz.prog 107 [(.opt 0 0)] [some (98, [(sv (st s)), (nv a), (iv k)])] (if (numR s a).1 = 0 then .ret (iv ((numR s a).2.1)) [some (98, [(sv (st s)), (nv ((numR s a).2.2)), (iv k)])] else .pan (oops (numR s a).1 (((numR s a).2.2 : Nat) : Int)) [none]) := by
 refine qeh Tryz.func107 rfl (by kernel_rfl) (qgf (Nat.le_of_ble_eq_true rfl) (Nat.le_of_ble_eq_true rfl)) (by kernel_rfl) (l0 := [ps 0 (.opt 0 0), pb 0 98 [(sv (st s)), (nv a), (iv k)]]) rfl (fun c0 Bor hc0 => ?_)
 refine qaa ?_
 refine T_k mixed [] [.r] [] (oz) ?_
 refine qaa ?_
 refine T_r mixed [(1, .call [0] [(.opt 0 0)] [some (98, [(sv (st s)), (nv a), (iv k)])] (sv (st (qad s a))) [some (98, [(sv (st s)), (nv (gapF s a)), (iv k)])])] [ps 0 (.opt 0 0), ps 3 (sv (st (qad s a))), pb 0 98 [(sv (st s)), (nv (gapF s a)), (iv k)]] (oc (qoi s a k hs hr (by omega)) (oc (rfl : [(.opt 0 0)] = renL (sigi [0] 17) [(.opt 0 0)]) (oc (rfl : [(sv (st s)), (nv a), (iv k)] = renL (sigi [0] 17) [(sv (st s)), (nv a), (iv k)]) oz))) ?_
 refine qaa <| qaa ?_
 have hwl := qdj ha
 have hga := qcs ha
 by_cases h1 : (qad s a) = ([] : List UInt8)
 ·refine T_k mixed [(1, .val (.av (.bool (decide ((qad s a) = ([] : List UInt8)))))), (3, .gd true .no), (4, .gd true .no), (5, .gd true .no), (6, .yes true), (8, .gd true .no), (9, .gd true .no), (10, .gd true .no), (11, .gd true .no), (15, .gd true .no)] [.k2, .n, .r] [ps 24 (bv true)] (oc (qdm _ _ : ((st (qad s a)).toList == (st ([] : List UInt8)).toList) = decide ((qad s a) = ([] : List UInt8))) (oc (dty h1) (oc (dty h1) (oc (dty h1) (oc (dty h1) (oc (rfl : true = true) (oc (rfl : true = true) (oc (rfl : true = true) (oc (rfl : true = true) (oc (rfl : true = true) oz)))))))))) ?_
  refine qau (b := true) rfl rfl ?_
  rw [show numR s a = (2, 0, gapF s a) from by unfold numR; rw [if_pos h1], if_neg (by show ¬ ((2 : Int) = 0); decide)]
  exact T_rx mixed [(1, .call [0] [(.opt 0 0), (iv 2)] [some (98, [(sv (st s)), (nv (gapF s a)), (iv k)])] (.av (oops 2 ((gapF s a : Nat) : Int))) [none])] [] 1 [] (oc (qci s (gapF s a) k 2 : PX Tryz.prog 39 [(.opt 0 0), (iv 2)] [some (98, [(sv (st s)), (nv (gapF s a)), (iv k)])] (oops 2 ((gapF s a : Nat) : Int)) [none]) (oc (rfl : [(.opt 0 0), (iv 2)] = renL (sigi [0] 177) [(.opt 0 0), (iv 2)]) (oc (rfl : [(sv (st s)), (nv (gapF s a)), (iv k)] = renL (sigi [0] 177) [(sv (st s)), (nv (gapF s a)), (iv k)]) oz))) (fun cx_ a_ hI_ => qck hc0 hI_)
 by_cases h2 : (Lib.trimS (qad s a) digs) = ([] : List UInt8)
 ·by_cases h3 : 1 < (((qad s a).length : Nat) : Int)
  ·refine T_k mixed [(1, .val (.av (.bool (decide ((qad s a) = ([] : List UInt8)))))), (3, .gd false (.no)), (4, .gd false (.call [] [(sv (st (qad s a))), (sv (st digs))] [] (sv (st (Lib.trimS (qad s a) digs))) [])), (5, .gd false (.val (.av (.bool (!decide ((Lib.trimS (qad s a) digs) = ([] : List UInt8))))))), (6, .yes false), (8, .gd false (.no)), (9, .gd false (.no)), (10, .gd false (.no)), (11, .gd false (.no)), (12, .gd true (.no)), (13, .gd true (.no)), (14, .gd true (.no)), (15, .gd false (.yes true)), (16, .yes false)] [.k2, .n, .r] [ps 24 (bv (decide (((((qad s a).getD 0 0).toNat : Nat) : Int) = 48)))] (oc (qdm _ _ : ((st (qad s a)).toList == (st ([] : List UInt8)).toList) = decide ((qad s a) = ([] : List UInt8))) (oc (dtn h1) (oc (dtn h1) (oc (qhc (qad s a) digs (by omega) (by decide) qdw) (oc (rfl : [(sv (st (qad s a))), (sv (st ([48, 49, 50, 51, 52, 53, 54, 55, 56, 57] : List UInt8)))] = renL (sigi [] 65) [(sv (st (qad s a))), (sv (st digs))]) (oc (dtn h1) (oc (qhe _ _ : (!((st (Lib.trimS (qad s a) digs)).toList == (st ([] : List UInt8)).toList)) = !decide ((Lib.trimS (qad s a) digs) = ([] : List UInt8))) (oc (dtn h1) (oc (bt h2) (oc (bt h2) (oc (bt h2) (oc (bt h2) (oc (dty h3) (oc (dty h3) (oc (by have := List.length_pos_iff.2 h1; omega : (0 : Int) ≤ 0 ∧ 0 < (((qad s a).length : Nat) : Int)) (oc (dty h3) (oc (bt h2) (oc (dty h3) (oc (bt h2) oz))))))))))))))))))) ?_
   by_cases h4 : ((((qad s a).getD 0 0).toNat : Nat) : Int) = 48
   ·refine T_th (dty h4) ?_
    rw [show numR s a = (2, 0, gapF s a) from by unfold numR; rw [if_neg h1, if_pos h2, if_pos (by omega)], if_neg (by show ¬ ((2 : Int) = 0); decide)]
    exact T_rx mixed [(1, .call [0] [(.opt 0 0), (iv 2)] [some (98, [(sv (st s)), (nv (gapF s a)), (iv k)])] (.av (oops 2 ((gapF s a : Nat) : Int))) [none])] [] 1 [] (oc (qci s (gapF s a) k 2 : PX Tryz.prog 39 [(.opt 0 0), (iv 2)] [some (98, [(sv (st s)), (nv (gapF s a)), (iv k)])] (oops 2 ((gapF s a : Nat) : Int)) [none]) (oc (rfl : [(.opt 0 0), (iv 2)] = renL (sigi [0] 177) [(.opt 0 0), (iv 2)]) (oc (rfl : [(sv (st s)), (nv (gapF s a)), (iv k)] = renL (sigi [0] 177) [(sv (st s)), (nv (gapF s a)), (iv k)]) oz))) (fun cx_ a_ hI_ => qck hc0 hI_)
   refine T_el (dtn h4) ?_
   refine qag <| qaa ?_
   have hdg := qpp h2
   have hno : ¬ (1 < (qad s a).length ∧ ((qad s a).getD 0 0).toNat = 48) := by omega
   have hv0 : ¬ 18 < (qad s a).length → Lib.atoi (qad s a) = some (qbn (qad s a)) ∧ 0 ≤ qbn (qad s a) ∧ qbn (qad s a) ≤ 1000000000000000000 := fun hl => qmw hdg h1 hl
   have hw0 : 18 < (qad s a).length → ¬ Lib.atoiAll (qad s a) = .range → Lib.atoiAll (qad s a) = .ok (okV (qad s a)) ∧ 65536 < okV (qad s a) ∧ okV (qad s a) ≤ 9223372036854775807 := fun hl hq => (qqr hdg hl (by omega)).resolve_left hq
   by_cases h5 : 18 < (qad s a).length
   ·by_cases h6 : Lib.atoiAll (qad s a) = .range
    ·refine T_k mixed [(1, .call [] [(sv (st (qad s a)))] [] (.tup [(iv (Lib.atoiSat (qad s a))), .err]) [])] [.k2, .n, .n, .d, .r] [ps 4 (iv (Lib.atoiSat (qad s a))), ps 5 .err] (oc (hr.atr (qad s a) (by omega) (by omega) h6) (oc (rfl : Ren0 177 [(sv (st (qad s a)))]) oz)) ?_
     refine qaa <| qaa ?_
     refine T_k mixed [(3, .gd true .no), (4, .gd true .no), (7, .gd true .no), (8, .gd true .no)] [.k3, .d, .n, .r] [ps 41 (bv true)] (oc (rfl : true = true) (oc (rfl : true = true) (oc (rfl : true = true) (oc (rfl : true = true) oz)))) ?_
     refine qau (b := true) rfl rfl ?_
     rw [show numR s a = (3, 0, gapF s a) from by unfold numR; rw [if_neg h1, if_pos h2, if_neg hno, if_pos h5], if_neg (by show ¬ ((3 : Int) = 0); decide)]
     exact T_rx mixed [(1, .call [0] [(.opt 0 0), (iv 3)] [some (98, [(sv (st s)), (nv (gapF s a)), (iv k)])] (.av (oops 3 ((gapF s a : Nat) : Int))) [none])] [] 1 [] (oc (qci s (gapF s a) k 3 : PX Tryz.prog 39 [(.opt 0 0), (iv 3)] [some (98, [(sv (st s)), (nv (gapF s a)), (iv k)])] (oops 3 ((gapF s a : Nat) : Int)) [none]) (oc (rfl : [(.opt 0 0), (iv 3)] = renL (sigi [0] 313) [(.opt 0 0), (iv 3)]) (oc (rfl : [(sv (st s)), (nv (gapF s a)), (iv k)] = renL (sigi [0] 313) [(sv (st s)), (nv (gapF s a)), (iv k)]) oz))) (fun cx_ a_ hI_ => qck hc0 hI_)
    have hw := hw0 h5 h6
    refine T_k mixed [(1, .call [] [(sv (st (qad s a)))] [] (.tup [(iv (okV (qad s a))), (.av .nilIface)]) [])] [.k2, .n, .n, .d, .r] [ps 4 (iv (okV (qad s a))), ps 5 (.av .nilIface)] (oc (hr.ato (qad s a) (by omega) (by omega) hw.1) (oc (rfl : Ren0 177 [(sv (st (qad s a)))]) oz)) ?_
    refine qaa <| qaa ?_
    by_cases h7 : (okV (qad s a)) < 1
    ·refine T_k mixed [(3, .gd false (.no)), (4, .gd false (.no)), (7, .gd true .no), (8, .gd true .no), (9, .yes true)] [.k3, .d, .n, .r] [ps 41 (bv true)] (oc (rfl : false = false) (oc (rfl : false = false) (oc (dty h7) (oc (dty h7) (oc (dty h7) oz))))) ?_
     refine qau (b := true) rfl rfl ?_
     rw [show numR s a = (3, 0, gapF s a) from by unfold numR; rw [if_neg h1, if_pos h2, if_neg hno, if_pos h5], if_neg (by show ¬ ((3 : Int) = 0); decide)]
     exact T_rx mixed [(1, .call [0] [(.opt 0 0), (iv 3)] [some (98, [(sv (st s)), (nv (gapF s a)), (iv k)])] (.av (oops 3 ((gapF s a : Nat) : Int))) [none])] [] 1 [] (oc (qci s (gapF s a) k 3 : PX Tryz.prog 39 [(.opt 0 0), (iv 3)] [some (98, [(sv (st s)), (nv (gapF s a)), (iv k)])] (oops 3 ((gapF s a : Nat) : Int)) [none]) (oc (rfl : [(.opt 0 0), (iv 3)] = renL (sigi [0] 313) [(.opt 0 0), (iv 3)]) (oc (rfl : [(sv (st s)), (nv (gapF s a)), (iv k)] = renL (sigi [0] 313) [(sv (st s)), (nv (gapF s a)), (iv k)]) oz))) (fun cx_ a_ hI_ => qck hc0 hI_)
    refine T_k mixed [(3, .gd false (.no)), (4, .gd false (.no)), (7, .gd false (.no)), (8, .gd false (.no)), (9, .yes false)] [.k3, .d, .n, .r] [ps 41 (bv (decide (65536 < (okV (qad s a)))))] (oc (rfl : false = false) (oc (rfl : false = false) (oc (dtn h7) (oc (dtn h7) (oc (dtn h7) oz))))) ?_
    by_cases h8 : 65536 < (okV (qad s a))
    ·refine T_th (dty h8) ?_
     rw [show numR s a = (3, 0, gapF s a) from by unfold numR; rw [if_neg h1, if_pos h2, if_neg hno, if_pos h5], if_neg (by show ¬ ((3 : Int) = 0); decide)]
     exact T_rx mixed [(1, .call [0] [(.opt 0 0), (iv 3)] [some (98, [(sv (st s)), (nv (gapF s a)), (iv k)])] (.av (oops 3 ((gapF s a : Nat) : Int))) [none])] [] 1 [] (oc (qci s (gapF s a) k 3 : PX Tryz.prog 39 [(.opt 0 0), (iv 3)] [some (98, [(sv (st s)), (nv (gapF s a)), (iv k)])] (oops 3 ((gapF s a : Nat) : Int)) [none]) (oc (rfl : [(.opt 0 0), (iv 3)] = renL (sigi [0] 313) [(.opt 0 0), (iv 3)]) (oc (rfl : [(sv (st s)), (nv (gapF s a)), (iv k)] = renL (sigi [0] 313) [(sv (st s)), (nv (gapF s a)), (iv k)]) oz))) (fun cx_ a_ hI_ => qck hc0 hI_)
    refine T_el (dtn h8) ?_
    refine qag <| qaa ?_
    refine T_k mixed [] [.d, .d, .k1, .d, .d, .n] [pb 0 98 [(sv (st s)), (iv (((gapF s a : Nat) : Int) + (((qad s a).length : Nat) : Int))), (iv k)]] (oc (by simp only [InK]; omega : InK .i64 (((gapF s a : Nat) : Int) + (((qad s a).length : Nat) : Int))) oz) ?_
    refine T_wk (Wk.eq (show _ = [ps 4 (iv (okV (qad s a))), pb 0 98 [(sv (st s)), (nv (gapF s a + (qad s a).length)), (iv k)]] from by rfl)) ?_
    refine qaa ?_
    refine T_k mixed [] [.n, .d, .r] [ps 2 (iv (okV (qad s a)))] (oz) ?_
    exfalso; omega
   have hv := hv0 h5
   refine T_k mixed [(1, .call [] [(sv (st (qad s a)))] [] (.tup [(iv (qbn (qad s a))), (.av .nilIface)]) [])] [.k2, .n, .n, .d, .r] [ps 4 (iv (qbn (qad s a))), ps 5 (.av .nilIface)] (oc (qmg (qad s a) _ (by omega) hv.1 : PC Tryz.prog 137 [(sv (st (qad s a)))] [] (.tup [(iv (qbn (qad s a))), (.av .nilIface)]) []) (oc (rfl : Ren0 177 [(sv (st (qad s a)))]) oz)) ?_
   refine qaa <| qaa ?_
   by_cases h9 : (qbn (qad s a)) < 1
   ·refine T_k mixed [(3, .gd false (.no)), (4, .gd false (.no)), (7, .gd true .no), (8, .gd true .no), (9, .yes true)] [.k3, .d, .n, .r] [ps 41 (bv true)] (oc (rfl : false = false) (oc (rfl : false = false) (oc (dty h9) (oc (dty h9) (oc (dty h9) oz))))) ?_
    refine qau (b := true) rfl rfl ?_
    rw [show numR s a = (3, 0, gapF s a) from by unfold numR; rw [if_neg h1, if_pos h2, if_neg hno, if_neg h5, if_pos (by omega)], if_neg (by show ¬ ((3 : Int) = 0); decide)]
    exact T_rx mixed [(1, .call [0] [(.opt 0 0), (iv 3)] [some (98, [(sv (st s)), (nv (gapF s a)), (iv k)])] (.av (oops 3 ((gapF s a : Nat) : Int))) [none])] [] 1 [] (oc (qci s (gapF s a) k 3 : PX Tryz.prog 39 [(.opt 0 0), (iv 3)] [some (98, [(sv (st s)), (nv (gapF s a)), (iv k)])] (oops 3 ((gapF s a : Nat) : Int)) [none]) (oc (rfl : [(.opt 0 0), (iv 3)] = renL (sigi [0] 313) [(.opt 0 0), (iv 3)]) (oc (rfl : [(sv (st s)), (nv (gapF s a)), (iv k)] = renL (sigi [0] 313) [(sv (st s)), (nv (gapF s a)), (iv k)]) oz))) (fun cx_ a_ hI_ => qck hc0 hI_)
   refine T_k mixed [(3, .gd false (.no)), (4, .gd false (.no)), (7, .gd false (.no)), (8, .gd false (.no)), (9, .yes false)] [.k3, .d, .n, .r] [ps 41 (bv (decide (65536 < (qbn (qad s a)))))] (oc (rfl : false = false) (oc (rfl : false = false) (oc (dtn h9) (oc (dtn h9) (oc (dtn h9) oz))))) ?_
   by_cases h10 : 65536 < (qbn (qad s a))
   ·refine T_th (dty h10) ?_
    rw [show numR s a = (3, 0, gapF s a) from by unfold numR; rw [if_neg h1, if_pos h2, if_neg hno, if_neg h5, if_pos (by omega)], if_neg (by show ¬ ((3 : Int) = 0); decide)]
    exact T_rx mixed [(1, .call [0] [(.opt 0 0), (iv 3)] [some (98, [(sv (st s)), (nv (gapF s a)), (iv k)])] (.av (oops 3 ((gapF s a : Nat) : Int))) [none])] [] 1 [] (oc (qci s (gapF s a) k 3 : PX Tryz.prog 39 [(.opt 0 0), (iv 3)] [some (98, [(sv (st s)), (nv (gapF s a)), (iv k)])] (oops 3 ((gapF s a : Nat) : Int)) [none]) (oc (rfl : [(.opt 0 0), (iv 3)] = renL (sigi [0] 313) [(.opt 0 0), (iv 3)]) (oc (rfl : [(sv (st s)), (nv (gapF s a)), (iv k)] = renL (sigi [0] 313) [(sv (st s)), (nv (gapF s a)), (iv k)]) oz))) (fun cx_ a_ hI_ => qck hc0 hI_)
   refine T_el (dtn h10) ?_
   refine qag <| qaa ?_
   refine T_k mixed [] [.d, .d, .k1, .d, .d, .n] [pb 0 98 [(sv (st s)), (iv (((gapF s a : Nat) : Int) + (((qad s a).length : Nat) : Int))), (iv k)]] (oc (by simp only [InK]; omega : InK .i64 (((gapF s a : Nat) : Int) + (((qad s a).length : Nat) : Int))) oz) ?_
   refine T_wk (Wk.eq (show _ = [ps 4 (iv (qbn (qad s a))), pb 0 98 [(sv (st s)), (nv (gapF s a + (qad s a).length)), (iv k)]] from by rfl)) ?_
   refine qaa ?_
   refine T_k mixed [] [.n, .d, .r] [ps 2 (iv (qbn (qad s a)))] (oz) ?_
   have hR : numR s a = (0, qbn (qad s a), gapF s a + (qad s a).length) := by unfold numR; rw [if_neg h1, if_pos h2, if_neg hno, if_neg h5, if_neg (by omega)]
   rw [hR, if_pos rfl]
   exact qai fun cx_ a_ hI_ => rt hc0 [ps 2 (iv (qbn (qad s a))), pb 0 98 [(sv (st s)), (nv (gapF s a + (qad s a).length)), (iv k)]] [0] hI_ (hbk := by exact oc rfl (oz))
  refine T_k mixed [(1, .val (.av (.bool (decide ((qad s a) = ([] : List UInt8)))))), (3, .gd false (.no)), (4, .gd false (.call [] [(sv (st (qad s a))), (sv (st digs))] [] (sv (st (Lib.trimS (qad s a) digs))) [])), (5, .gd false (.val (.av (.bool (!decide ((Lib.trimS (qad s a) digs) = ([] : List UInt8))))))), (6, .yes false), (8, .gd false (.no)), (9, .gd false (.no)), (10, .gd false (.no)), (11, .gd false (.no)), (12, .gd false .no), (13, .gd false .no), (14, .gd false .no), (15, .gd false (.yes false)), (16, .yes false)] [.k2, .n, .r] [ps 24 (bv false)] (oc (qdm _ _ : ((st (qad s a)).toList == (st ([] : List UInt8)).toList) = decide ((qad s a) = ([] : List UInt8))) (oc (dtn h1) (oc (dtn h1) (oc (qhc (qad s a) digs (by omega) (by decide) qdw) (oc (rfl : [(sv (st (qad s a))), (sv (st ([48, 49, 50, 51, 52, 53, 54, 55, 56, 57] : List UInt8)))] = renL (sigi [] 65) [(sv (st (qad s a))), (sv (st digs))]) (oc (dtn h1) (oc (qhe _ _ : (!((st (Lib.trimS (qad s a) digs)).toList == (st ([] : List UInt8)).toList)) = !decide ((Lib.trimS (qad s a) digs) = ([] : List UInt8))) (oc (dtn h1) (oc (bt h2) (oc (bt h2) (oc (bt h2) (oc (bt h2) (oc (dtn h3) (oc (dtn h3) (oc (dtn h3) (oc (bt h2) (oc (dtn h3) (oc (bt h2) oz)))))))))))))))))) ?_
  refine qbf (b := false) rfl rfl ?_
  refine qag <| qaa ?_
  have hdg := qpp h2
  have hno : ¬ (1 < (qad s a).length ∧ ((qad s a).getD 0 0).toNat = 48) := by omega
  have hv0 : ¬ 18 < (qad s a).length → Lib.atoi (qad s a) = some (qbn (qad s a)) ∧ 0 ≤ qbn (qad s a) ∧ qbn (qad s a) ≤ 1000000000000000000 := fun hl => qmw hdg h1 hl
  have hw0 : 18 < (qad s a).length → ¬ Lib.atoiAll (qad s a) = .range → Lib.atoiAll (qad s a) = .ok (okV (qad s a)) ∧ 65536 < okV (qad s a) ∧ okV (qad s a) ≤ 9223372036854775807 := fun hl hq => (qqr hdg hl (by omega)).resolve_left hq
  by_cases h11 : 18 < (qad s a).length
  ·by_cases h12 : Lib.atoiAll (qad s a) = .range
   ·refine T_k mixed [(1, .call [] [(sv (st (qad s a)))] [] (.tup [(iv (Lib.atoiSat (qad s a))), .err]) [])] [.k2, .n, .n, .d, .r] [ps 4 (iv (Lib.atoiSat (qad s a))), ps 5 .err] (oc (hr.atr (qad s a) (by omega) (by omega) h12) (oc (rfl : Ren0 177 [(sv (st (qad s a)))]) oz)) ?_
    refine qaa <| qaa ?_
    refine T_k mixed [(3, .gd true .no), (4, .gd true .no), (7, .gd true .no), (8, .gd true .no)] [.k3, .d, .n, .r] [ps 41 (bv true)] (oc (rfl : true = true) (oc (rfl : true = true) (oc (rfl : true = true) (oc (rfl : true = true) oz)))) ?_
    refine qau (b := true) rfl rfl ?_
    rw [show numR s a = (3, 0, gapF s a) from by unfold numR; rw [if_neg h1, if_pos h2, if_neg hno, if_pos h11], if_neg (by show ¬ ((3 : Int) = 0); decide)]
    exact T_rx mixed [(1, .call [0] [(.opt 0 0), (iv 3)] [some (98, [(sv (st s)), (nv (gapF s a)), (iv k)])] (.av (oops 3 ((gapF s a : Nat) : Int))) [none])] [] 1 [] (oc (qci s (gapF s a) k 3 : PX Tryz.prog 39 [(.opt 0 0), (iv 3)] [some (98, [(sv (st s)), (nv (gapF s a)), (iv k)])] (oops 3 ((gapF s a : Nat) : Int)) [none]) (oc (rfl : [(.opt 0 0), (iv 3)] = renL (sigi [0] 313) [(.opt 0 0), (iv 3)]) (oc (rfl : [(sv (st s)), (nv (gapF s a)), (iv k)] = renL (sigi [0] 313) [(sv (st s)), (nv (gapF s a)), (iv k)]) oz))) (fun cx_ a_ hI_ => qck hc0 hI_)
   have hw := hw0 h11 h12
   refine T_k mixed [(1, .call [] [(sv (st (qad s a)))] [] (.tup [(iv (okV (qad s a))), (.av .nilIface)]) [])] [.k2, .n, .n, .d, .r] [ps 4 (iv (okV (qad s a))), ps 5 (.av .nilIface)] (oc (hr.ato (qad s a) (by omega) (by omega) hw.1) (oc (rfl : Ren0 177 [(sv (st (qad s a)))]) oz)) ?_
   refine qaa <| qaa ?_
   by_cases h13 : (okV (qad s a)) < 1
   ·refine T_k mixed [(3, .gd false (.no)), (4, .gd false (.no)), (7, .gd true .no), (8, .gd true .no), (9, .yes true)] [.k3, .d, .n, .r] [ps 41 (bv true)] (oc (rfl : false = false) (oc (rfl : false = false) (oc (dty h13) (oc (dty h13) (oc (dty h13) oz))))) ?_
    refine qau (b := true) rfl rfl ?_
    rw [show numR s a = (3, 0, gapF s a) from by unfold numR; rw [if_neg h1, if_pos h2, if_neg hno, if_pos h11], if_neg (by show ¬ ((3 : Int) = 0); decide)]
    exact T_rx mixed [(1, .call [0] [(.opt 0 0), (iv 3)] [some (98, [(sv (st s)), (nv (gapF s a)), (iv k)])] (.av (oops 3 ((gapF s a : Nat) : Int))) [none])] [] 1 [] (oc (qci s (gapF s a) k 3 : PX Tryz.prog 39 [(.opt 0 0), (iv 3)] [some (98, [(sv (st s)), (nv (gapF s a)), (iv k)])] (oops 3 ((gapF s a : Nat) : Int)) [none]) (oc (rfl : [(.opt 0 0), (iv 3)] = renL (sigi [0] 313) [(.opt 0 0), (iv 3)]) (oc (rfl : [(sv (st s)), (nv (gapF s a)), (iv k)] = renL (sigi [0] 313) [(sv (st s)), (nv (gapF s a)), (iv k)]) oz))) (fun cx_ a_ hI_ => qck hc0 hI_)
   refine T_k mixed [(3, .gd false (.no)), (4, .gd false (.no)), (7, .gd false (.no)), (8, .gd false (.no)), (9, .yes false)] [.k3, .d, .n, .r] [ps 41 (bv (decide (65536 < (okV (qad s a)))))] (oc (rfl : false = false) (oc (rfl : false = false) (oc (dtn h13) (oc (dtn h13) (oc (dtn h13) oz))))) ?_
   by_cases h14 : 65536 < (okV (qad s a))
   ·refine T_th (dty h14) ?_
    rw [show numR s a = (3, 0, gapF s a) from by unfold numR; rw [if_neg h1, if_pos h2, if_neg hno, if_pos h11], if_neg (by show ¬ ((3 : Int) = 0); decide)]
    exact T_rx mixed [(1, .call [0] [(.opt 0 0), (iv 3)] [some (98, [(sv (st s)), (nv (gapF s a)), (iv k)])] (.av (oops 3 ((gapF s a : Nat) : Int))) [none])] [] 1 [] (oc (qci s (gapF s a) k 3 : PX Tryz.prog 39 [(.opt 0 0), (iv 3)] [some (98, [(sv (st s)), (nv (gapF s a)), (iv k)])] (oops 3 ((gapF s a : Nat) : Int)) [none]) (oc (rfl : [(.opt 0 0), (iv 3)] = renL (sigi [0] 313) [(.opt 0 0), (iv 3)]) (oc (rfl : [(sv (st s)), (nv (gapF s a)), (iv k)] = renL (sigi [0] 313) [(sv (st s)), (nv (gapF s a)), (iv k)]) oz))) (fun cx_ a_ hI_ => qck hc0 hI_)
   refine T_el (dtn h14) ?_
   refine qag <| qaa ?_
   refine T_k mixed [] [.d, .d, .k1, .d, .d, .n] [pb 0 98 [(sv (st s)), (iv (((gapF s a : Nat) : Int) + (((qad s a).length : Nat) : Int))), (iv k)]] (oc (by simp only [InK]; omega : InK .i64 (((gapF s a : Nat) : Int) + (((qad s a).length : Nat) : Int))) oz) ?_
   refine T_wk (Wk.eq (show _ = [ps 4 (iv (okV (qad s a))), pb 0 98 [(sv (st s)), (nv (gapF s a + (qad s a).length)), (iv k)]] from by rfl)) ?_
   refine qaa ?_
   refine T_k mixed [] [.n, .d, .r] [ps 2 (iv (okV (qad s a)))] (oz) ?_
   exfalso; omega
  have hv := hv0 h11
  refine T_k mixed [(1, .call [] [(sv (st (qad s a)))] [] (.tup [(iv (qbn (qad s a))), (.av .nilIface)]) [])] [.k2, .n, .n, .d, .r] [ps 4 (iv (qbn (qad s a))), ps 5 (.av .nilIface)] (oc (qmg (qad s a) _ (by omega) hv.1 : PC Tryz.prog 137 [(sv (st (qad s a)))] [] (.tup [(iv (qbn (qad s a))), (.av .nilIface)]) []) (oc (rfl : Ren0 177 [(sv (st (qad s a)))]) oz)) ?_
  refine qaa <| qaa ?_
  by_cases h15 : (qbn (qad s a)) < 1
  ·refine T_k mixed [(3, .gd false (.no)), (4, .gd false (.no)), (7, .gd true .no), (8, .gd true .no), (9, .yes true)] [.k3, .d, .n, .r] [ps 41 (bv true)] (oc (rfl : false = false) (oc (rfl : false = false) (oc (dty h15) (oc (dty h15) (oc (dty h15) oz))))) ?_
   refine qau (b := true) rfl rfl ?_
   rw [show numR s a = (3, 0, gapF s a) from by unfold numR; rw [if_neg h1, if_pos h2, if_neg hno, if_neg h11, if_pos (by omega)], if_neg (by show ¬ ((3 : Int) = 0); decide)]
   exact T_rx mixed [(1, .call [0] [(.opt 0 0), (iv 3)] [some (98, [(sv (st s)), (nv (gapF s a)), (iv k)])] (.av (oops 3 ((gapF s a : Nat) : Int))) [none])] [] 1 [] (oc (qci s (gapF s a) k 3 : PX Tryz.prog 39 [(.opt 0 0), (iv 3)] [some (98, [(sv (st s)), (nv (gapF s a)), (iv k)])] (oops 3 ((gapF s a : Nat) : Int)) [none]) (oc (rfl : [(.opt 0 0), (iv 3)] = renL (sigi [0] 313) [(.opt 0 0), (iv 3)]) (oc (rfl : [(sv (st s)), (nv (gapF s a)), (iv k)] = renL (sigi [0] 313) [(sv (st s)), (nv (gapF s a)), (iv k)]) oz))) (fun cx_ a_ hI_ => qck hc0 hI_)
  refine T_k mixed [(3, .gd false (.no)), (4, .gd false (.no)), (7, .gd false (.no)), (8, .gd false (.no)), (9, .yes false)] [.k3, .d, .n, .r] [ps 41 (bv (decide (65536 < (qbn (qad s a)))))] (oc (rfl : false = false) (oc (rfl : false = false) (oc (dtn h15) (oc (dtn h15) (oc (dtn h15) oz))))) ?_
  by_cases h16 : 65536 < (qbn (qad s a))
  ·refine T_th (dty h16) ?_
   rw [show numR s a = (3, 0, gapF s a) from by unfold numR; rw [if_neg h1, if_pos h2, if_neg hno, if_neg h11, if_pos (by omega)], if_neg (by show ¬ ((3 : Int) = 0); decide)]
   exact T_rx mixed [(1, .call [0] [(.opt 0 0), (iv 3)] [some (98, [(sv (st s)), (nv (gapF s a)), (iv k)])] (.av (oops 3 ((gapF s a : Nat) : Int))) [none])] [] 1 [] (oc (qci s (gapF s a) k 3 : PX Tryz.prog 39 [(.opt 0 0), (iv 3)] [some (98, [(sv (st s)), (nv (gapF s a)), (iv k)])] (oops 3 ((gapF s a : Nat) : Int)) [none]) (oc (rfl : [(.opt 0 0), (iv 3)] = renL (sigi [0] 313) [(.opt 0 0), (iv 3)]) (oc (rfl : [(sv (st s)), (nv (gapF s a)), (iv k)] = renL (sigi [0] 313) [(sv (st s)), (nv (gapF s a)), (iv k)]) oz))) (fun cx_ a_ hI_ => qck hc0 hI_)
  refine T_el (dtn h16) ?_
  refine qag <| qaa ?_
  refine T_k mixed [] [.d, .d, .k1, .d, .d, .n] [pb 0 98 [(sv (st s)), (iv (((gapF s a : Nat) : Int) + (((qad s a).length : Nat) : Int))), (iv k)]] (oc (by simp only [InK]; omega : InK .i64 (((gapF s a : Nat) : Int) + (((qad s a).length : Nat) : Int))) oz) ?_
  refine T_wk (Wk.eq (show _ = [ps 4 (iv (qbn (qad s a))), pb 0 98 [(sv (st s)), (nv (gapF s a + (qad s a).length)), (iv k)]] from by rfl)) ?_
  refine qaa ?_
  refine T_k mixed [] [.n, .d, .r] [ps 2 (iv (qbn (qad s a)))] (oz) ?_
  have hR : numR s a = (0, qbn (qad s a), gapF s a + (qad s a).length) := by unfold numR; rw [if_neg h1, if_pos h2, if_neg hno, if_neg h11, if_neg (by omega)]
  rw [hR, if_pos rfl]
  exact qai fun cx_ a_ hI_ => rt hc0 [ps 2 (iv (qbn (qad s a))), pb 0 98 [(sv (st s)), (nv (gapF s a + (qad s a).length)), (iv k)]] [0] hI_ (hbk := by exact oc rfl (oz))
 refine T_k mixed [(1, .val (.av (.bool (decide ((qad s a) = ([] : List UInt8)))))), (3, .gd false (.no)), (4, .gd false (.call [] [(sv (st (qad s a))), (sv (st digs))] [] (sv (st (Lib.trimS (qad s a) digs))) [])), (5, .gd false (.val (.av (.bool (!decide ((Lib.trimS (qad s a) digs) = ([] : List UInt8))))))), (6, .yes false), (8, .gd true .no), (9, .gd true .no), (10, .gd true .no), (11, .gd true .no), (15, .gd true .no), (16, .yes true)] [.k2, .n, .r] [ps 24 (bv true)] (oc (qdm _ _ : ((st (qad s a)).toList == (st ([] : List UInt8)).toList) = decide ((qad s a) = ([] : List UInt8))) (oc (dtn h1) (oc (dtn h1) (oc (qhc (qad s a) digs (by omega) (by decide) qdw) (oc (rfl : [(sv (st (qad s a))), (sv (st ([48, 49, 50, 51, 52, 53, 54, 55, 56, 57] : List UInt8)))] = renL (sigi [] 65) [(sv (st (qad s a))), (sv (st digs))]) (oc (dtn h1) (oc (qhe _ _ : (!((st (Lib.trimS (qad s a) digs)).toList == (st ([] : List UInt8)).toList)) = !decide ((Lib.trimS (qad s a) digs) = ([] : List UInt8))) (oc (dtn h1) (oc (bf h2) (oc (bf h2) (oc (bf h2) (oc (bf h2) (oc (bf h2) (oc (bf h2) oz)))))))))))))) ?_
 refine qau (b := true) rfl rfl ?_
 rw [show numR s a = (2, 0, gapF s a) from by unfold numR; rw [if_neg h1, if_neg h2], if_neg (by show ¬ ((2 : Int) = 0); decide)]
 exact T_rx mixed [(1, .call [0] [(.opt 0 0), (iv 2)] [some (98, [(sv (st s)), (nv (gapF s a)), (iv k)])] (.av (oops 2 ((gapF s a : Nat) : Int))) [none])] [] 1 [] (oc (qci s (gapF s a) k 2 : PX Tryz.prog 39 [(.opt 0 0), (iv 2)] [some (98, [(sv (st s)), (nv (gapF s a)), (iv k)])] (oops 2 ((gapF s a : Nat) : Int)) [none]) (oc (rfl : [(.opt 0 0), (iv 2)] = renL (sigi [0] 177) [(.opt 0 0), (iv 2)]) (oc (rfl : [(sv (st s)), (nv (gapF s a)), (iv k)] = renL (sigi [0] 177) [(sv (st s)), (nv (gapF s a)), (iv k)]) oz))) (fun cx_ a_ hI_ => qck hc0 hI_)
set_option maxRecDepth 100000 in
set_option maxHeartbeats 4000000 in
theorem qqa (s : Txt) (a : Nat) (k : Int) (hs : s.length ≤ 65536) (hr : Rdy s) (ha : a ≤ s.length) : PO Tryz.prog 141 [(.opt 0 0)] [some (98, [(sv (st s)), (nv a), (iv k)])] (if (pitR s a).1 = 0 then .ret (.agg [(iv ((pitR s a).2.1.1)), (iv ((pitR s a).2.1.2.1)), (iv ((pitR s a).2.1.2.2))]) [some (98, [(sv (st s)), (nv ((pitR s a).2.2)), (iv k)]), none] else .pan (oops (pitR s a).1 (((pitR s a).2.2 : Nat) : Int)) [none]) := by
 refine qeh Tryz.func141 rfl (by kernel_rfl) (qgf (Nat.le_of_ble_eq_true rfl) (Nat.le_of_ble_eq_true rfl)) (by kernel_rfl) (l0 := [ps 0 (.opt 0 0), pb 0 98 [(sv (st s)), (nv a), (iv k)]]) rfl (fun c0 Bor hc0 => ?_)
 refine qaa ?_
 refine T_k mixed [] [.k1, .n, .k1, .n] [ps 2 (.opt 1 0), pb 1 52 [(iv 0), (iv 0), (iv 0)]] (oz) ?_
 refine qaa ?_
 refine T_k mixed [(1, .call [0] [(.opt 0 0)] [some (98, [(sv (st s)), (nv a), (iv k)])] (sv (st (qad s a))) [some (98, [(sv (st s)), (nv (gapF s a)), (iv k)])])] [.k2, .n, .d, .n, .r] [ps 3 (sv (st (qad s a))), pb 0 98 [(sv (st s)), (nv (gapF s a)), (iv k)]] (oc (qoi s a k hs hr (by omega)) (oc (rfl : [(.opt 0 0)] = renL (sigi [0] 17) [(.opt 0 0)]) (oc (rfl : [(sv (st s)), (nv a), (iv k)] = renL (sigi [0] 17) [(sv (st s)), (nv a), (iv k)]) oz))) ?_
 refine qaa ?_
 have hwl := qdj ha
 have hga := qcs ha
 have hat := readS_at (qad s a)
 refine T_k mixed [(1, .call [] [(sv (st (qad s a)))] [] (.tup [(.agg [(iv ((qaz (qad s a)).1.1)), (iv ((qaz (qad s a)).1.2.1)), (iv ((qaz (qad s a)).1.2.2))]), (.agg [(iv ((qaz (qad s a)).2.1)), (iv ((qaz (qad s a)).2.2))])]) [])] [.k3, .n, .n, .k2, .n, .n] [ps 4 (.opt 73 0), ps 5 (.opt 81 0), pb 73 52 [(iv ((qaz (qad s a)).1.1)), (iv ((qaz (qad s a)).1.2.1)), (iv ((qaz (qad s a)).1.2.2))], pb 81 33 [(iv ((qaz (qad s a)).2.1)), (iv ((qaz (qad s a)).2.2))]] (oc (read_pc (qad s a) (by omega)) (oc (rfl : Ren0 41 [(sv (st (qad s a)))]) oz)) ?_
 refine qaa <| qaa ?_
 refine T_k mixed [] [.k5, .n, .r] [ps 15 (bv (!(decide (((qaz (qad s a)).2.1) = 0))))] (oz) ?_
 by_cases h1 : ((qaz (qad s a)).2.1) = 0
 ·refine T_el (bt h1) ?_
  refine qag <| qaa ?_
  refine T_k mixed [] [.d, .k1, .d, .k1, .d, .d, .d, .n, .k2, .d] [pb 0 98 [(sv (st s)), (iv (((gapF s a : Nat) : Int) + (((qad s a).length : Nat) : Int))), (iv k)]] (oc (by simp only [InK]; omega : InK .i64 (((gapF s a : Nat) : Int) + (((qad s a).length : Nat) : Int))) oz) ?_
  refine T_wk (Wk.eq (show _ = [ps 2 (.opt 1 0), ps 4 (.opt 73 0), pb 0 98 [(sv (st s)), (nv (gapF s a + (qad s a).length)), (iv k)], pb 1 52 [(iv 0), (iv 0), (iv 0)], pb 73 52 [(iv ((qaz (qad s a)).1.1)), (iv ((qaz (qad s a)).1.2.1)), (iv ((qaz (qad s a)).1.2.2))]] from by rfl)) ?_
  refine qaa ?_
  refine T_k mixed [] [.k1, .d, .k1, .d, .n, .d] [pb 1 52 [(iv ((qaz (qad s a)).1.1)), (iv ((qaz (qad s a)).1.2.1)), (iv ((qaz (qad s a)).1.2.2))]] (oz) ?_
  rw [show pitR s a = (0, (qaz (qad s a)).1, gapF s a + (qad s a).length) from if_pos h1, if_pos rfl]
  exact qai fun cx_ a_ hI_ => rt hc0 [ps 2 (.opt 1 0), pb 0 98 [(sv (st s)), (nv (gapF s a + (qad s a).length)), (iv k)], pb 1 52 [(iv ((qaz (qad s a)).1.1)), (iv ((qaz (qad s a)).1.2.1)), (iv ((qaz (qad s a)).1.2.2))]] [0, 1] hI_ (hbk := by exact oc rfl (oz))
 refine T_th (bf h1) ?_
 refine qaa ?_
 refine T_kd mixed [] [[], [0], [0, 1], [0, 1, 2], [], [4], [0, 1, 2, 3, 4, 5], [0, 1, 2, 3, 4, 5, 6], [0, 1, 2, 3, 4, 5, 6, 7], [0, 1, 2, 3, 4, 5, 6, 7, 8]] [([32], [0]), ([34], [32]), ([36], [34]), ([38], [1, 36]), ([40], [10]), ([42], [40, 163]), ([44], [38, 42]), ([46], [32]), ([48], [46]), ([1], [1, 44, 48])] [.k5, .d, .d, .n, .r] [pb 0 98 [(sv (st s)), (iv (((gapF s a : Nat) : Int) + ((qaz (qad s a)).2.2))), (iv k)]] (oc (by simp only [InK]; omega : InK .i64 (((gapF s a : Nat) : Int) + ((qaz (qad s a)).2.2))) oz) ?_
 have hcs : ((gapF s a : Nat) : Int) + (qaz (qad s a)).2.2 = ((gapF s a + (qaz (qad s a)).2.2.toNat : Nat) : Int) := by omega
 refine T_wk (Wk.eq (show _ = [ps 0 (.opt 0 0), ps 2 (.opt 1 0), ps 3 (sv (st (qad s a))), ps 4 (.opt 73 0), ps 5 (.opt 81 0), pb 0 98 [(sv (st s)), (nv (gapF s a + (qaz (qad s a)).2.2.toNat)), (iv k)], pb 1 52 [(iv 0), (iv 0), (iv 0)], pb 73 52 [(iv ((qaz (qad s a)).1.1)), (iv ((qaz (qad s a)).1.2.1)), (iv ((qaz (qad s a)).1.2.2))], pb 81 33 [(iv ((qaz (qad s a)).2.1)), (iv ((qaz (qad s a)).2.2))]] from by rw [hcs])) ?_
 rw [show pitR s a = ((qaz (qad s a)).2.1, (0, 0, 0), gapF s a + (qaz (qad s a)).2.2.toNat) from if_neg h1, if_neg h1]
 exact T_rx mixed [(3, .call [0] [(.opt 0 0), (iv ((qaz (qad s a)).2.1))] [some (98, [(sv (st s)), (nv (gapF s a + (qaz (qad s a)).2.2.toNat)), (iv k)])] (.av (oops ((qaz (qad s a)).2.1) ((gapF s a + (qaz (qad s a)).2.2.toNat : Nat) : Int))) [none])] [] 3 [] (oc (qci s (gapF s a + (qaz (qad s a)).2.2.toNat) k ((qaz (qad s a)).2.1) : PX Tryz.prog 39 [(.opt 0 0), (iv ((qaz (qad s a)).2.1))] [some (98, [(sv (st s)), (nv (gapF s a + (qaz (qad s a)).2.2.toNat)), (iv k)])] (oops ((qaz (qad s a)).2.1) ((gapF s a + (qaz (qad s a)).2.2.toNat : Nat) : Int)) [none]) (oc (rfl : [(.opt 0 0), (iv ((qaz (qad s a)).2.1))] = renL (sigi [0] 233) [(.opt 0 0), (iv ((qaz (qad s a)).2.1))]) (oc (rfl : [(sv (st s)), (nv (gapF s a + (qaz (qad s a)).2.2.toNat)), (iv k)] = renL (sigi [0] 233) [(sv (st s)), (nv (gapF s a + (qaz (qad s a)).2.2.toNat)), (iv k)]) oz))) (fun cx_ a_ hI_ => qck hc0 hI_)
end Go.Proofs.YtmlnilkbolcknaaGreatDoor.Pm
namespace Go.Proofs.YtmlnilkbolcknaaGreatDoor.Pm
open Go

/-- The signs that it has not. -/
def plN : List Int := [34, 126, 91, 60, 42]
structure RdyP (s : Txt) : Prop where
 rdy : Rdy s
 pl : ∀ {c : Int}, c ∈ plN → ∀ a : Nat, ¬ (qap s a c = true)
 w1 : ∀ a : Nat, ¬ ((qad s a) = ([45] : List UInt8))
 w2 : ∀ a : Nat, ¬ ((qad s a) = ([117, 112] : List UInt8))
instance {s : Txt} : CoeOut (RdyP s) (Rdy s) := ⟨RdyP.rdy⟩
theorem rdyP_of {s : Txt} (h : Rdy s) (hl : s.all (fun b => !([34, 126, 91, 60, 42, 45, 117] : List UInt8).contains b) = true) : RdyP s := by
 have no : ∀ b ∈ s, ¬ b ∈ ([34, 126, 91, 60, 42, 45, 117] : List UInt8) := fun b hb => by
  have := List.all_eq_true.1 hl b hb
  simpa using this
 have wd : ∀ (a : Nat) (b : UInt8), b ∈ qad s a → b ∈ s := fun a b hb => List.mem_of_mem_drop ((List.takeWhile_prefix _).subset hb)
 refine ⟨h, fun {c} hc a hk => ?_, fun a e => no 45 (wd a 45 (by rw [e]; simp)) (by decide), fun a e => no 117 (wd a 117 (by rw [e]; simp)) (by decide)⟩
 obtain ⟨h1, h2⟩ := of_decide_eq_true hk
 have hm : s.getD (gapF s a) 0 ∈ s := by rw [List.getD_eq_getElem?_getD, List.getElem?_eq_getElem h1]; exact List.getElem_mem h1
 refine no _ hm ?_
 generalize s.getD (gapF s a) 0 = b at h2
 subst h2
 simp only [plN, List.mem_cons, List.not_mem_nil, or_false] at hc
 have e : ∀ n : Nat, b.toNat = n → n < 256 → b = UInt8.ofNat n := fun n h h2 => UInt8.toNat_inj.1 (by rw [h]; simp; omega)
 rcases hc with hc | hc | hc | hc | hc
 ·rw [e 34 (by omega) (by decide)]; decide
 ·rw [e 126 (by omega) (by decide)]; decide
 ·rw [e 91 (by omega) (by decide)]; decide
 ·rw [e 60 (by omega) (by decide)]; decide
 ·rw [e 42 (by omega) (by decide)]; decide
end Go.Proofs.YtmlnilkbolcknaaGreatDoor.Pm
namespace Go.Proofs.YtmlnilkbolcknaaGreatDoor.Pm
open Go Go.Proofs.YtmlnilkbolcknaaGreatDoor.Pi

set_option maxRecDepth 100000 in
set_option maxHeartbeats 4000000 in
theorem quy (s : Txt) (a : Nat) (k : Int) (hs : s.length ≤ 65536) (hr : RdyP s) (ha : a ≤ s.length) : PO Tryz.prog 142 [(.opt 0 0)] [some (98, [(sv (st s)), (nv a), (iv k)])] (if (lyrR s a).1 = 0 then .ret (sv (st ((lyrR s a).2.1))) [some (98, [(sv (st s)), (nv ((lyrR s a).2.2)), (iv k)])] else .pan (oops (lyrR s a).1 (((lyrR s a).2.2 : Nat) : Int)) [none]) := by
 refine qeh Tryz.func142 rfl (by kernel_rfl) (qgf (Nat.le_of_ble_eq_true rfl) (Nat.le_of_ble_eq_true rfl)) (by kernel_rfl) (l0 := [ps 0 (.opt 0 0), pb 0 98 [(sv (st s)), (nv a), (iv k)]]) rfl (fun c0 Bor hc0 => ?_)
 refine qaa ?_
 refine T_k mixed [] [.r] [] (oz) ?_
 refine qaa <| qaa ?_
 have h1 : ¬ ((qap s a 34) = true) := hr.pl (by decide) _
 refine T_r mixed [(1, .call [0] [(.opt 0 0), (.av (.int .u8 34))] [some (98, [(sv (st s)), (nv a), (iv k)])] (bv false) [some (98, [(sv (st s)), (nv (gapF s a)), (iv k)])])] [ps 0 (.opt 0 0), ps 9 (bv true), pb 0 98 [(sv (st s)), (nv (gapF s a)), (iv k)]] (oc (is_no (is_pc s a k 34 hs (by omega)) h1) (oc (rfl : [(.opt 0 0), (.av (.int .u8 34))] = renL (sigi [0] 17) [(.opt 0 0), (.av (.int .u8 34))]) (oc (rfl : [(sv (st s)), (nv a), (iv k)] = renL (sigi [0] 17) [(sv (st s)), (nv a), (iv k)]) oz))) ?_
 refine qau (b := true) rfl rfl ?_
 refine qaa ?_
 refine T_k mixed [] [.d, .n, .d, .r] [ps 2 (sv (st ([] : List UInt8)))] (oz) ?_
 rw [show lyrR s a = (0, [], gapF s a) from if_neg h1, if_pos rfl]
 exact qai fun cx_ a_ hI_ => rt hc0 [ps 2 (sv (st ([] : List UInt8))), pb 0 98 [(sv (st s)), (nv (gapF s a)), (iv k)]] [0] hI_ (hbk := by exact oc rfl (oz))
end Go.Proofs.YtmlnilkbolcknaaGreatDoor.Pm
namespace Go.Proofs.YtmlnilkbolcknaaGreatDoor.Pm
open Go Go.Proofs.YtmlnilkbolcknaaGreatDoor.Pi

set_option maxRecDepth 100000 in
set_option maxHeartbeats 4000000 in
theorem qxb (s : Txt) (hs : s.length ≤ 65536) (hr : RdyP s) (lv : Int) (hlv : 0 ≤ lv ∧ lv ≤ 32) (a k : Nat) (ha : a ≤ s.length) (hk : k ≤ 4095) : PO Tryz.prog 109 [(.opt 0 0), (iv lv)] [some (98, [(sv (st s)), (nv a), (nv k)])] (if (itR s lv a k).1 = 0 then .ret (.agg (gI (itR s lv a k).2.1)) [some (98, [(sv (st s)), (nv ((itR s lv a k).2.2.1)), (nv ((itR s lv a k).2.2.2))]), none] else .pan (oops ((itR s lv a k).1) (((itR s lv a k).2.2.1 : Nat) : Int)) [none]) := by
 refine qeh Tryz.func109 rfl (by kernel_rfl) (qgf (Nat.le_of_ble_eq_true rfl) (Nat.le_of_ble_eq_true rfl)) (by kernel_rfl) (l0 := [ps 0 (.opt 0 0), ps 1 (iv lv), pb 0 98 [(sv (st s)), (nv a), (nv k)]]) rfl (fun c0 Bor hc0 => ?_)
 refine qaa ?_
 refine T_k mixed [] [.k2, .n, .k1, .n] [ps 4 (.opt 1 0), pb 1 50 [(iv 0), (iv 0), (.av (.slice none 0 0)), (iv 0), (iv 0), (sv (st ([] : List UInt8))), (.av (.slice none 0 0))]] (oz) ?_
 refine qaa ?_
 refine T_k mixed [(1, .call [0] [(.opt 0 0)] [some (98, [(sv (st s)), (nv a), (nv k)])] (.tup []) [some (98, [(sv (st s)), (nv (gapF s a)), (nv k)])])] [.k3, .d, .n, .r] [pb 0 98 [(sv (st s)), (nv (gapF s a)), (nv k)]] (oc (qvq s a ((k : Nat) : Int) hs (by omega)) (oc (rfl : [(.opt 0 0)] = renL (sigi [0] 17) [(.opt 0 0)]) (oc (rfl : [(sv (st s)), (nv a), (nv k)] = renL (sigi [0] 17) [(sv (st s)), (nv a), (nv k)]) oz))) ?_
 refine qaa <| qaa ?_
 refine T_k mixed [] [.k3, .d, .n, .r] [pb 0 98 [(sv (st s)), (nv (gapF s a)), (iv (((k : Nat) : Int) - 1))]] (oc (by simp only [InK]; omega : InK .i64 (((k : Nat) : Int) - 1)) oz) ?_
 refine qaa ?_
 have hga := qcs ha
 have hgg := qcy s a
 have hwl := qdj ha
 by_cases h1 : (((k : Nat) : Int) - 1) < 0
 ·refine T_k mixed [(6, .gd true .no), (7, .gd true .no), (8, .yes true)] [.k3, .n, .r] [ps 27 (bv true)] (oc (dty h1) (oc (dty h1) (oc (dty h1) oz))) ?_
  refine qau (b := true) rfl rfl ?_
  rw [show (itR s lv a k) = (4, dIt, gapF s a, 0) from by rw [qln, if_pos (by omega)], if_neg (by show ¬ ((4 : Int) = 0); decide)]
  exact T_rx mixed [(1, .call [0] [(.opt 0 0), (iv 4)] [some (98, [(sv (st s)), (nv (gapF s a)), (iv (((k : Nat) : Int) - 1))])] (.av (oops 4 ((gapF s a : Nat) : Int))) [none])] [] 1 [] (oc (qci s (gapF s a) (((k : Nat) : Int) - 1) 4 : PX Tryz.prog 39 [(.opt 0 0), (iv 4)] [some (98, [(sv (st s)), (nv (gapF s a)), (iv (((k : Nat) : Int) - 1))])] (oops 4 ((gapF s a : Nat) : Int)) [none]) (oc (rfl : [(.opt 0 0), (iv 4)] = renL (sigi [0] 169) [(.opt 0 0), (iv 4)]) (oc (rfl : [(sv (st s)), (nv (gapF s a)), (iv (((k : Nat) : Int) - 1))] = renL (sigi [0] 169) [(sv (st s)), (nv (gapF s a)), (iv (((k : Nat) : Int) - 1))]) oz))) (fun cx_ a_ hI_ => qck hc0 hI_)
 refine T_k mixed [(6, .gd false (.no)), (7, .gd false (.no)), (8, .yes false)] [.k3, .n, .r] [ps 27 (bv (decide (31 < lv)))] (oc (dtn h1) (oc (dtn h1) (oc (dtn h1) oz))) ?_
 by_cases h2 : 31 < lv
 ·refine T_th (dty h2) ?_
  rw [show (itR s lv a k) = (4, dIt, gapF s a, 0) from by rw [qln, if_pos (by omega)], if_neg (by show ¬ ((4 : Int) = 0); decide)]
  exact T_rx mixed [(1, .call [0] [(.opt 0 0), (iv 4)] [some (98, [(sv (st s)), (nv (gapF s a)), (iv (((k : Nat) : Int) - 1))])] (.av (oops 4 ((gapF s a : Nat) : Int))) [none])] [] 1 [] (oc (qci s (gapF s a) (((k : Nat) : Int) - 1) 4 : PX Tryz.prog 39 [(.opt 0 0), (iv 4)] [some (98, [(sv (st s)), (nv (gapF s a)), (iv (((k : Nat) : Int) - 1))])] (oops 4 ((gapF s a : Nat) : Int)) [none]) (oc (rfl : [(.opt 0 0), (iv 4)] = renL (sigi [0] 169) [(.opt 0 0), (iv 4)]) (oc (rfl : [(sv (st s)), (nv (gapF s a)), (iv (((k : Nat) : Int) - 1))] = renL (sigi [0] 169) [(sv (st s)), (nv (gapF s a)), (iv (((k : Nat) : Int) - 1))]) oz))) (fun cx_ a_ hI_ => qck hc0 hI_)
 refine T_el (dtn h2) ?_
 refine qag <| qaa ?_
 have hk0 : ¬ (k = 0 ∨ 31 < lv) := by omega
 have hk1 : ((k : Nat) : Int) - 1 = ((k - 1 : Nat) : Int) := by omega
 refine T_wk (Wk.eq (show _ = [ps 0 (.opt 0 0), ps 1 (iv lv), ps 4 (.opt 1 0), ps 27 (bv (decide (31 < lv))), pb 0 98 [(sv (st s)), (nv (gapF s a)), (nv (k - 1))], pb 1 50 [(iv 0), (iv 0), (.av (.slice none 0 0)), (iv 0), (iv 0), (sv (st ([] : List UInt8))), (.av (.slice none 0 0))]] from by rw [hk1])) ?_
 refine T_k mixed [] [.k3, .n, .d, .k2, .n] [ps 5 (.opt 169 0), pb 169 50 [(iv 0), (iv 1), (.av (.slice none 0 0)), (iv 0), (iv 0), (sv (st ([] : List UInt8))), (.av (.slice none 0 0))]] (oz) ?_
 refine qaa <| qaa ?_
 refine T_k mixed [(1, .call [0] [(.opt 0 0)] [some (98, [(sv (st s)), (nv (gapF s a)), (nv (k - 1))])] (sv (st (qad s a))) [some (98, [(sv (st s)), (nv (gapF s a)), (nv (k - 1))])])] [.k4, .n, .r] [ps 6 (sv (st (qad s a)))] (oc (qoh s a ((k - 1 : Nat) : Int) hs hr (by omega)) (oc (rfl : [(.opt 0 0)] = renL (sigi [0] 193) [(.opt 0 0)]) (oc (rfl : [(sv (st s)), (nv (gapF s a)), (nv (k - 1))] = renL (sigi [0] 193) [(sv (st s)), (nv (gapF s a)), (nv (k - 1))]) oz))) ?_
 refine qan <| qaa ?_
 refine T_k mixed [(1, .val (.av (.bool (decide ((qad s a) = ([45] : List UInt8))))))] [.k5, .n, .r] [ps 38 (bv (decide ((qad s a) = ([45] : List UInt8))))] (oc (qdm _ _ : ((st (qad s a)).toList == (st ([45] : List UInt8)).toList) = decide ((qad s a) = ([45] : List UInt8))) oz) ?_
 have h3 : ¬ ((qad s a) = ([45] : List UInt8)) := hr.w1 _
 refine T_el (dtn h3) ?_
 refine qaa ?_
 refine T_k mixed [(1, .call [0] [(.opt 0 0), (.av (.int .u8 126))] [some (98, [(sv (st s)), (nv (gapF s a)), (nv (k - 1))])] (bv (qap s a 126)) [some (98, [(sv (st s)), (nv (gapF s a)), (nv (k - 1))])])] [.k5, .d, .n, .r] [ps 49 (bv (qap s a 126))] (oc (qgh s a ((k - 1 : Nat) : Int) 126 hs (by omega)) (oc (rfl : [(.opt 0 0), (.av (.int .u8 126))] = renL (sigi [0] 241) [(.opt 0 0), (.av (.int .u8 126))]) (oc (rfl : [(sv (st s)), (nv (gapF s a)), (nv (k - 1))] = renL (sigi [0] 241) [(sv (st s)), (nv (gapF s a)), (nv (k - 1))]) oz))) ?_
 have h4 : ¬ ((qap s a 126) = true) := hr.pl (by decide) _
 refine qbf (b := (qap s a 126)) rfl (Bool.eq_false_iff.2 h4) ?_
 refine qaa ?_
 refine T_k mixed [(1, .val (.av (.bool (decide ((qad s a) = ([117, 112] : List UInt8))))))] [.k4, .d, .d, .n, .r] [ps 60 (bv (decide ((qad s a) = ([117, 112] : List UInt8))))] (oc (qdm _ _ : ((st (qad s a)).toList == (st ([117, 112] : List UInt8)).toList) = decide ((qad s a) = ([117, 112] : List UInt8))) oz) ?_
 have h5 : ¬ ((qad s a) = ([117, 112] : List UInt8)) := hr.w2 _
 refine T_el (dtn h5) ?_
 refine qaa ?_
 refine T_k mixed [(1, .call [0] [(.opt 0 0), (.av (.int .u8 91))] [some (98, [(sv (st s)), (nv (gapF s a)), (nv (k - 1))])] (bv (qap s a 91)) [some (98, [(sv (st s)), (nv (gapF s a)), (nv (k - 1))])])] [.k4, .d, .n, .r] [ps 98 (bv (qap s a 91))] (oc (qgh s a ((k - 1 : Nat) : Int) 91 hs (by omega)) (oc (rfl : [(.opt 0 0), (.av (.int .u8 91))] = renL (sigi [0] 289) [(.opt 0 0), (.av (.int .u8 91))]) (oc (rfl : [(sv (st s)), (nv (gapF s a)), (nv (k - 1))] = renL (sigi [0] 289) [(sv (st s)), (nv (gapF s a)), (nv (k - 1))]) oz))) ?_
 have h6 : ¬ ((qap s a 91) = true) := hr.pl (by decide) _
 refine qbf (b := (qap s a 91)) rfl (Bool.eq_false_iff.2 h6) ?_
 refine qaa ?_
 refine T_k mixed [(1, .call [0] [(.opt 0 0), (.av (.int .u8 60))] [some (98, [(sv (st s)), (nv (gapF s a)), (nv (k - 1))])] (bv (qap s a 60)) [some (98, [(sv (st s)), (nv (gapF s a)), (nv (k - 1))])])] [.k1, .d, .k2, .d, .n, .r] [ps 106 (bv (qap s a 60))] (oc (qgh s a ((k - 1 : Nat) : Int) 60 hs (by omega)) (oc (rfl : [(.opt 0 0), (.av (.int .u8 60))] = renL (sigi [0] 313) [(.opt 0 0), (.av (.int .u8 60))]) (oc (rfl : [(sv (st s)), (nv (gapF s a)), (nv (k - 1))] = renL (sigi [0] 313) [(sv (st s)), (nv (gapF s a)), (nv (k - 1))]) oz))) ?_
 have h7 : ¬ ((qap s a 60) = true) := hr.pl (by decide) _
 refine qbf (b := (qap s a 60)) rfl (Bool.eq_false_iff.2 h7) ?_
 refine qaa ?_
 refine T_k mixed [] [.k3, .d, .k2, .d, .n] [pb 169 50 [(iv 1), (iv 1), (.av (.slice none 0 0)), (iv 0), (iv 0), (sv (st ([] : List UInt8))), (.av (.slice none 0 0))]] (oz) ?_
 by_cases h8 : (pitR s (gapF s a)).1 = 0
 ·refine T_k mixed [(1, .call [0] [(.opt 0 0)] [some (98, [(sv (st s)), (nv (gapF s a)), (nv (k - 1))])] (.agg [(iv ((pitR s (gapF s a)).2.1.1)), (iv ((pitR s (gapF s a)).2.1.2.1)), (iv ((pitR s (gapF s a)).2.1.2.2))]) [some (98, [(sv (st s)), (nv ((pitR s (gapF s a)).2.2)), (nv (k - 1))]), none])] [.k3, .d, .n, .k1, .d, .n, .n] [pb 0 98 [(sv (st s)), (nv ((pitR s (gapF s a)).2.2)), (nv (k - 1))], pb 169 50 [(iv 1), (iv 1), (.osl 361 0 1), (iv 0), (iv 0), (sv (st ([] : List UInt8))), (.av (.slice none 0 0))], pb 361 52 [(iv ((pitR s (gapF s a)).2.1.1)), (iv ((pitR s (gapF s a)).2.1.2.1)), (iv ((pitR s (gapF s a)).2.1.2.2))]] (oc (qqg (qqa s (gapF s a) ((k - 1 : Nat) : Int) hs hr (by omega)) h8) (oc (rfl : [(.opt 0 0)] = renL (sigi [0] 353) [(.opt 0 0)]) (oc (rfl : [(sv (st s)), (nv (gapF s a)), (nv (k - 1))] = renL (sigi [0] 353) [(sv (st s)), (nv (gapF s a)), (nv (k - 1))]) oz))) ?_
  refine qbg <| qaa <| qaa ?_
  have hin := (pit_le (by omega) h8).2
  have hgi := qcs hin
  have h9 : ¬ ((qap s ((pitR s (gapF s a)).2.2) 42) = true) := hr.pl (by decide) _
  refine T_k mixed [(1, .call [0] [(.opt 0 0), (.av (.int .u8 42))] [some (98, [(sv (st s)), (nv ((pitR s (gapF s a)).2.2)), (nv (k - 1))])] (bv false) [some (98, [(sv (st s)), (nv (gapF s ((pitR s (gapF s a)).2.2))), (nv (k - 1))])])] [.k3, .n, .d, .n, .r] [ps 133 (bv false), pb 0 98 [(sv (st s)), (nv (gapF s ((pitR s (gapF s a)).2.2))), (nv (k - 1))]] (oc (is_no (is_pc s ((pitR s (gapF s a)).2.2) ((k - 1 : Nat) : Int) 42 hs (by omega)) h9) (oc (rfl : [(.opt 0 0), (.av (.int .u8 42))] = renL (sigi [0] 393) [(.opt 0 0), (.av (.int .u8 42))]) (oc (rfl : [(sv (st s)), (nv ((pitR s (gapF s a)).2.2)), (nv (k - 1))] = renL (sigi [0] 393) [(sv (st s)), (nv ((pitR s (gapF s a)).2.2)), (nv (k - 1))]) oz))) ?_
  refine qbf (b := false) rfl rfl ?_
  refine qag <| qaa <| qaa ?_
  refine T_k mixed [] [.k3, .d, .n, .r] [ps 139 (bv true)] (oz) ?_
  refine qau (b := true) rfl rfl ?_
  by_cases h10 : (lyrR s (gapF s ((pitR s (gapF s a)).2.2))).1 = 0
  ·refine T_k mixed [(1, .call [0] [(.opt 0 0)] [some (98, [(sv (st s)), (nv (gapF s ((pitR s (gapF s a)).2.2))), (nv (k - 1))])] (sv (st ((lyrR s (gapF s ((pitR s (gapF s a)).2.2))).2.1))) [some (98, [(sv (st s)), (nv ((lyrR s (gapF s ((pitR s (gapF s a)).2.2))).2.2)), (nv (k - 1))])])] [.d, .k2, .d, .d, .n, .k1, .d, .n, .r] [pb 0 98 [(sv (st s)), (nv ((lyrR s (gapF s ((pitR s (gapF s a)).2.2))).2.2)), (nv (k - 1))], pb 169 50 [(iv 1), (iv 1), (.osl 361 0 1), (iv 0), (iv 0), (sv (st ((lyrR s (gapF s ((pitR s (gapF s a)).2.2))).2.1))), (.av (.slice none 0 0))]] (oc (qqg (quy s (gapF s ((pitR s (gapF s a)).2.2)) ((k - 1 : Nat) : Int) hs hr (by omega)) h10) (oc (rfl : [(.opt 0 0)] = renL (sigi [0] 433) [(.opt 0 0)]) (oc (rfl : [(sv (st s)), (nv (gapF s ((pitR s (gapF s a)).2.2))), (nv (k - 1))] = renL (sigi [0] 433) [(sv (st s)), (nv (gapF s ((pitR s (gapF s a)).2.2))), (nv (k - 1))]) oz))) ?_
   refine qaa ?_
   refine T_k mixed [] [.k1, .d, .k1, .d, .n, .d, .r] [pb 1 50 [(iv 1), (iv 1), (.osl 361 0 1), (iv 0), (iv 0), (sv (st ((lyrR s (gapF s ((pitR s (gapF s a)).2.2))).2.1))), (.av (.slice none 0 0))]] (oz) ?_
   rw [show (itR s lv a k) = (0, (setL (.mk 1 1 [(pitR s (gapF s a)).2.1] (0, 0) [] []) (lyrR s (gapF s ((pitR s (gapF s a)).2.2))).2.1), (lyrR s (gapF s ((pitR s (gapF s a)).2.2))).2.2, (k - 1)) from by rw [qln, if_neg hk0, if_neg h3, if_neg h4, if_neg h5, if_neg h6, if_neg h7, if_pos h8, qeo, if_neg h9, qny, if_pos (by rfl), if_pos h10], if_pos rfl]
   refine T_wk (Wk.frz (l' := [ps 4 (.opt 1 0), pb 0 98 [(sv (st s)), (nv ((lyrR s (gapF s ((pitR s (gapF s a)).2.2))).2.2)), (nv (k - 1))], pb 1 50 [(iv 1), (iv 1), (.ssl [(iv ((pitR s (gapF s a)).2.1.1)), (iv ((pitR s (gapF s a)).2.1.2.1)), (iv ((pitR s (gapF s a)).2.1.2.2))] 0 1), (iv 0), (iv 0), (sv (st ((lyrR s (gapF s ((pitR s (gapF s a)).2.2))).2.1))), (.av (.slice none 0 0))], (kb 361, none)]) 361 (T := 52) (cs := [(iv ((pitR s (gapF s a)).2.1.1)), (iv ((pitR s (gapF s a)).2.1.2.1)), (iv ((pitR s (gapF s a)).2.1.2.2))]) (by kernel_rfl) (fun p hp => List.all_eq_true.1 (show [(iv ((pitR s (gapF s a)).2.1.1)), (iv ((pitR s (gapF s a)).2.1.2.1)), (iv ((pitR s (gapF s a)).2.1.2.2))].all PV.shd = true from rfl) p hp) (by kernel_rfl)) ?_
   refine T_wk (Wk.less (l' := [ps 4 (.opt 1 0), pb 0 98 [(sv (st s)), (nv ((lyrR s (gapF s ((pitR s (gapF s a)).2.2))).2.2)), (nv (k - 1))], pb 1 50 [(iv 1), (iv 1), (.ssl [(iv ((pitR s (gapF s a)).2.1.1)), (iv ((pitR s (gapF s a)).2.1.2.1)), (iv ((pitR s (gapF s a)).2.1.2.2))] 0 1), (iv 0), (iv 0), (sv (st ((lyrR s (gapF s ((pitR s (gapF s a)).2.2))).2.1))), (.av (.slice none 0 0))]]) 473 (by kernel_rfl) (by kernel_rfl)) ?_
   exact qai fun cx_ a_ hI_ => rt hc0 [ps 4 (.opt 1 0), pb 0 98 [(sv (st s)), (nv ((lyrR s (gapF s ((pitR s (gapF s a)).2.2))).2.2)), (nv (k - 1))], pb 1 50 [(iv 1), (iv 1), (.ssl [(iv ((pitR s (gapF s a)).2.1.1)), (iv ((pitR s (gapF s a)).2.1.2.1)), (iv ((pitR s (gapF s a)).2.1.2.2))] 0 1), (iv 0), (iv 0), (sv (st ((lyrR s (gapF s ((pitR s (gapF s a)).2.2))).2.1))), (.av (.slice none 0 0))]] [0, 1] hI_ (hbk := by exact oc rfl (oz))
  rw [show (itR s lv a k) = ((lyrR s (gapF s ((pitR s (gapF s a)).2.2))).1, dIt, (lyrR s (gapF s ((pitR s (gapF s a)).2.2))).2.2, (k - 1)) from by rw [qln, if_neg hk0, if_neg h3, if_neg h4, if_neg h5, if_neg h6, if_neg h7, if_pos h8, qeo, if_neg h9, qny, if_pos (by rfl), if_neg h10], if_neg h10]
  exact T_rx mixed [(1, .call [0] [(.opt 0 0)] [some (98, [(sv (st s)), (nv (gapF s ((pitR s (gapF s a)).2.2))), (nv (k - 1))])] (.av (oops ((lyrR s (gapF s ((pitR s (gapF s a)).2.2))).1) (((lyrR s (gapF s ((pitR s (gapF s a)).2.2))).2.2 : Nat) : Int))) [none])] [2, 3] 1 [] (oc (qog (quy s (gapF s ((pitR s (gapF s a)).2.2)) ((k - 1 : Nat) : Int) hs hr (by omega)) h10 : PX Tryz.prog 142 [(.opt 0 0)] [some (98, [(sv (st s)), (nv (gapF s ((pitR s (gapF s a)).2.2))), (nv (k - 1))])] (oops ((lyrR s (gapF s ((pitR s (gapF s a)).2.2))).1) (((lyrR s (gapF s ((pitR s (gapF s a)).2.2))).2.2 : Nat) : Int)) [none]) (oc (rfl : [(.opt 0 0)] = renL (sigi [0] 433) [(.opt 0 0)]) (oc (rfl : [(sv (st s)), (nv (gapF s ((pitR s (gapF s a)).2.2))), (nv (k - 1))] = renL (sigi [0] 433) [(sv (st s)), (nv (gapF s ((pitR s (gapF s a)).2.2))), (nv (k - 1))]) oz))) (fun cx_ a_ hI_ => qck hc0 hI_)
 rw [show (itR s lv a k) = ((pitR s (gapF s a)).1, dIt, (pitR s (gapF s a)).2.2, 0) from by rw [qln, if_neg hk0, if_neg h3, if_neg h4, if_neg h5, if_neg h6, if_neg h7, if_neg h8], if_neg h8]
 exact T_rx mixed [(1, .call [0] [(.opt 0 0)] [some (98, [(sv (st s)), (nv (gapF s a)), (nv (k - 1))])] (.av (oops ((pitR s (gapF s a)).1) (((pitR s (gapF s a)).2.2 : Nat) : Int))) [none])] [2, 3, 4] 1 [] (oc (qog (qqa s (gapF s a) ((k - 1 : Nat) : Int) hs hr (by omega)) h8 : PX Tryz.prog 141 [(.opt 0 0)] [some (98, [(sv (st s)), (nv (gapF s a)), (nv (k - 1))])] (oops ((pitR s (gapF s a)).1) (((pitR s (gapF s a)).2.2 : Nat) : Int)) [none]) (oc (rfl : [(.opt 0 0)] = renL (sigi [0] 353) [(.opt 0 0)]) (oc (rfl : [(sv (st s)), (nv (gapF s a)), (nv (k - 1))] = renL (sigi [0] 353) [(sv (st s)), (nv (gapF s a)), (nv (k - 1))]) oz))) (fun cx_ a_ hI_ => qck hc0 hI_)
end Go.Proofs.YtmlnilkbolcknaaGreatDoor.Pm
namespace Go.Proofs.YtmlnilkbolcknaaGreatDoor.Pm
open Go Go.Proofs.YtmlnilkbolcknaaGreatDoor.Pi

theorem item_po {s : Txt} (hs : s.length ≤ 65536) (hr : RdyP s) {k : Nat} (hk : k ≤ 4095) {lv : Int} (hlv : 0 ≤ lv ∧ lv ≤ 32) {a : Nat} (ha : a ≤ s.length) : PO Tryz.prog 109 [.opt 0 0, iv lv] [some (98, [sv (st s), nv a, nv k])] (if (itR s lv a k).1 = 0 then .ret (.agg (gI (itR s lv a k).2.1)) [some (98, [sv (st s), nv (itR s lv a k).2.2.1, nv (itR s lv a k).2.2.2]), none] else .pan (oops (itR s lv a k).1 (((itR s lv a k).2.2.1 : Nat) : Int)) [none]) := qxb s hs hr lv hlv a k ha hk
set_option maxRecDepth 100000 in
set_option maxHeartbeats 4000000 in
theorem bar_po (s : Txt) (hs : s.length ≤ 65536) (hr : RdyP s) (a : Nat) (k : Int) (ha : a ≤ s.length) : PO Tryz.prog 75 [(.opt 0 0)] [some (98, [(sv (st s)), (nv a), (iv k)])] (if (brR s a).1 = 0 then .ret (.agg (brC (brR s a).2.1)) [some (98, [(sv (st s)), (nv ((brR s a).2.2.1)), (nv ((brR s a).2.2.2))]), none] else .pan (oops ((brR s a).1) (((brR s a).2.2.1 : Nat) : Int)) [none]) := by
 refine qeh Tryz.func75 rfl (by kernel_rfl) (qgf (Nat.le_of_ble_eq_true rfl) (Nat.le_of_ble_eq_true rfl)) (by kernel_rfl) (l0 := [ps 0 (.opt 0 0), pb 0 98 [(sv (st s)), (nv a), (iv k)]]) rfl (fun c0 Bor hc0 => ?_)
 refine qaa ?_
 refine T_k mixed [] [.k1, .n, .k1, .n] [ps 2 (.opt 1 0), pb 1 47 [(iv 0), (iv 0), (.av (.slice none 0 0))]] (oz) ?_
 refine qaa ?_
 by_cases h1 : (numR s a).1 = 0
 ·refine T_k mixed [(1, .call [0] [(.opt 0 0)] [some (98, [(sv (st s)), (nv a), (iv k)])] (iv ((numR s a).2.1)) [some (98, [(sv (st s)), (nv ((numR s a).2.2)), (iv k)])])] [.k2, .n, .d, .n, .k1, .n] [ps 3 (.opt 33 0), pb 0 98 [(sv (st s)), (nv ((numR s a).2.2)), (iv k)], pb 33 47 [(iv ((numR s a).2.1)), (iv 0), (.av (.slice none 0 0))]] (oc (qqg (qhy s a k hs hr (by omega)) h1) (oc (rfl : [(.opt 0 0)] = renL (sigi [0] 17) [(.opt 0 0)]) (oc (rfl : [(sv (st s)), (nv a), (iv k)] = renL (sigi [0] 17) [(sv (st s)), (nv a), (iv k)]) oz))) ?_
  refine qaa ?_
  have hn1 := qql ha
  have hga := qcy s a
  by_cases h2 : (qap s ((numR s a).2.2) 47) = true
  ·refine T_k mixed [(1, .call [0] [(.opt 0 0), (.av (.int .u8 47))] [some (98, [(sv (st s)), (nv ((numR s a).2.2)), (iv k)])] (.tup []) [some (98, [(sv (st s)), (nv (gapF s ((numR s a).2.2) + 1)), (iv k)])])] [.k3, .d, .n, .r] [pb 0 98 [(sv (st s)), (nv (gapF s ((numR s a).2.2) + 1)), (iv k)]] (oc (qqg (need_po s ((numR s a).2.2) k 47 hs (by omega)) h2) (oc (rfl : [(.opt 0 0), (.av (.int .u8 47))] = renL (sigi [0] 57) [(.opt 0 0), (.av (.int .u8 47))]) (oc (rfl : [(sv (st s)), (nv ((numR s a).2.2)), (iv k)] = renL (sigi [0] 57) [(sv (st s)), (nv ((numR s a).2.2)), (iv k)]) oz))) ?_
   refine qaa ?_
   have hlt := qda h2
   have hn2 := qql (s := s) (a := gapF s (numR s a).2.2 + 1) hlt
   by_cases h3 : (numR s (gapF s ((numR s a).2.2) + 1)).1 = 0
   ·refine T_k mixed [(1, .call [0] [(.opt 0 0)] [some (98, [(sv (st s)), (nv (gapF s ((numR s a).2.2) + 1)), (iv k)])] (iv ((numR s (gapF s ((numR s a).2.2) + 1)).2.1)) [some (98, [(sv (st s)), (nv ((numR s (gapF s ((numR s a).2.2) + 1)).2.2)), (iv k)])])] [.k3, .d, .n, .k1, .d, .n] [pb 0 98 [(sv (st s)), (nv ((numR s (gapF s ((numR s a).2.2) + 1)).2.2)), (iv k)], pb 33 47 [(iv ((numR s a).2.1)), (iv ((numR s (gapF s ((numR s a).2.2) + 1)).2.1)), (.av (.slice none 0 0))]] (oc (qqg (qhy s (gapF s ((numR s a).2.2) + 1) k hs hr (by omega)) h3) (oc (rfl : [(.opt 0 0)] = renL (sigi [0] 73) [(.opt 0 0)]) (oc (rfl : [(sv (st s)), (nv (gapF s ((numR s a).2.2) + 1)), (iv k)] = renL (sigi [0] 73) [(sv (st s)), (nv (gapF s ((numR s a).2.2) + 1)), (iv k)]) oz))) ?_
    refine qaa ?_
    refine T_k mixed [] [.k3, .d, .n, .r] [pb 0 98 [(sv (st s)), (nv ((numR s (gapF s ((numR s a).2.2) + 1)).2.2)), (iv 4095)]] (oz) ?_
    refine T_wk (Wk.eq (show _ = [ps 0 (.opt 0 0), ps 2 (.opt 1 0), ps 3 (.opt 33 0), pb 0 98 [(sv (st s)), (nv ((numR s (gapF s ((numR s a).2.2) + 1)).2.2)), (nv 4095)], pb 1 47 [(iv 0), (iv 0), (.av (.slice none 0 0))], pb 33 47 [(iv ((numR s a).2.1)), (iv ((numR s (gapF s ((numR s a).2.2) + 1)).2.1)), (.av (.slice none 0 0))]] from by rfl)) ?_
    refine qan ?_
    refine T_wk (Wk.nilc (B := 47) (cells := [(iv ((numR s a).2.1)), (iv ((numR s (gapF s ((numR s a).2.2) + 1)).2.1)), (.av (.slice none 0 0))]) 33 2 50 (by kernel_rfl) rfl) ?_
    refine T_wk (Wk.less (l' := [ps 0 (.opt 0 0), ps 2 (.opt 1 0), ps 3 (.opt 33 0), pb 0 98 [(sv (st s)), (nv ((numR s (gapF s ((numR s a).2.2) + 1)).2.2)), (nv 4095)], pb 1 47 [(iv 0), (iv 0), (.av (.slice none 0 0))], pb 33 47 [(iv ((numR s a).2.1)), (iv ((numR s (gapF s ((numR s a).2.2) + 1)).2.1)), (.osl 129 0 0)], pb 129 50 []]) 130 (by kernel_rfl) (by kernel_rfl)) ?_
    refine T_wk (Wk.eq (show _ = [ps 0 (.opt 0 0), ps 2 (.opt 1 0), ps 3 (.opt 33 0), pb 0 98 [(sv (st s)), (nv ((numR s (gapF s ((numR s a).2.2) + 1)).2.2)), (nv 4095)], pb 1 47 [(iv 0), (iv 0), (.av (.slice none 0 0))], pb 33 47 [(iv ((numR s a).2.1)), (iv ((numR s (gapF s ((numR s a).2.2) + 1)).2.1)), (.osl 129 0 (([] : List It).length))], pb 129 50 (ics ([] : List It))] from by rfl)) ?_
    refine qcm (α := {x : List It × Nat × Nat // x.2.1 ≤ s.length ∧ x.1.length + x.2.2 ≤ 4095 ∧ brL s x.1 x.2.1 x.2.2 = brL s [] (numR s (gapF s (numR s a).2.2 + 1)).2.2 4095}) (fun x => [ps 0 (.opt 0 0), ps 2 (.opt 1 0), ps 3 (.opt 2 0), pb 0 98 [(sv (st s)), (nv x.1.2.1), (nv x.1.2.2)], pb 1 47 [(iv 0), (iv 0), (.av (.slice none 0 0))], pb 2 47 [(iv ((numR s a).2.1)), (iv ((numR s (gapF s ((numR s a).2.2) + 1)).2.1)), (.osl 3 0 x.1.1.length)], pb 3 50 (ics x.1.1)]) (fun x => x.1.2.2) 4 ⟨([], (numR s (gapF s ((numR s a).2.2) + 1)).2.2, 4095), ⟨hn2.2, Nat.le_of_eq (Nat.zero_add _), rfl⟩⟩ (Wk.ren3 [ps 0 (.opt 0 0), ps 2 (.opt 1 0), ps 3 (.opt 2 0), pb 0 98 [(sv (st s)), (nv ((numR s (gapF s ((numR s a).2.2) + 1)).2.2)), (nv 4095)], pb 1 47 [(iv 0), (iv 0), (.av (.slice none 0 0))], pb 2 47 [(iv ((numR s a).2.1)), (iv ((numR s (gapF s ((numR s a).2.2) + 1)).2.1)), (.osl 3 0 ([] : List It).length)], pb 3 50 (ics ([] : List It))] 1 hc0 [0, 1, 33, 129] [(kb 3, (ics ([] : List It)))] (oc (qlp _) (oz)) (by kernel_rfl) rfl rfl (by kernel_rfl) (by kernel_rfl)) ?_
    rintro ⟨⟨l, b, q⟩, ⟨hb, hq, hg⟩⟩
    dsimp only at hb hq hg
    refine qan <| qaa ?_
    by_cases h4 : (itR s 1 b q).1 = 0
    ·refine T_rd mixed [(3, .call [0] [(.opt 0 0), (iv 1)] [some (98, [(sv (st s)), (nv b), (nv q)])] (.agg [(iv (iK ((itR s 1 b q).2.1))), (iv (iS ((itR s 1 b q).2.1))), (.ssl (pts (iP ((itR s 1 b q).2.1))) 0 ((iP ((itR s 1 b q).2.1)).length)), (iv ((iB ((itR s 1 b q).2.1)).1)), (iv ((iB ((itR s 1 b q).2.1)).2)), (sv (st (iL ((itR s 1 b q).2.1)))), (.ssl (ics (iC ((itR s 1 b q).2.1))) 0 ((iC ((itR s 1 b q).2.1)).length))]) [some (98, [(sv (st s)), (nv ((itR s 1 b q).2.2.1)), (nv ((itR s 1 b q).2.2.2))]), none]), (5, .app none (some (ics (l ++ [(itR s 1 b q).2.1]))))] [[], [0], [], [2], [2, 3], [0, 1, 2, 3, 4], [0, 1, 2, 3, 4, 5], [0, 1, 2, 3, 4, 5, 6]] [([30], [6]), ([32], [5, 30]), ([34], [0]), ([36, 1, 57], [1, 34]), ([38, 73], [36]), ([40, 7, 89], [7, 32, 38, 73]), ([42], [6]), ([5], [5, 40, 42])] [ps 0 (.opt 0 0), ps 2 (.opt 1 0), ps 3 (.opt 2 0), pb 0 98 [(sv (st s)), (nv ((itR s 1 b q).2.2.1)), (nv ((itR s 1 b q).2.2.2))], pb 1 47 [(iv 0), (iv 0), (.av (.slice none 0 0))], pb 2 47 [(iv ((numR s a).2.1)), (iv ((numR s (gapF s ((numR s a).2.2) + 1)).2.1)), (.osl 44 0 (l.length + 1))], pb 44 50 (ics (l ++ [(itR s 1 b q).2.1]))] (oc (qqg (item_po hs hr (k := q) (by omega) (lv := 1) (by decide) (a := b) (by omega)) h4) (oc (rfl : [(.opt 0 0), (iv 1)] = renL (sigi [0] 28) [(.opt 0 0), (iv 1)]) (oc (rfl : [(sv (st s)), (nv b), (nv q)] = renL (sigi [0] 28) [(sv (st s)), (nv b), (nv q)]) (oc (ics_len _ : ((ics l)).length = l.length * 7) (oc (by omega : (l.length + 1) * 96 ≤ 140737488355328 ∧ l.length + 1 ≤ 9223372036854775807) (oc (ics_snoc l _ : (ics l) ++ [(iv (iK ((itR s 1 b q).2.1))), (iv (iS ((itR s 1 b q).2.1))), (.ssl (pts (iP ((itR s 1 b q).2.1))) 0 ((iP ((itR s 1 b q).2.1)).length)), (iv ((iB ((itR s 1 b q).2.1)).1)), (iv ((iB ((itR s 1 b q).2.1)).2)), (sv (st (iL ((itR s 1 b q).2.1)))), (.ssl (ics (iC ((itR s 1 b q).2.1))) 0 ((iC ((itR s 1 b q).2.1)).length))] = (ics (l ++ [(itR s 1 b q).2.1]))) oz)))))) ?_
     refine qaa ?_
     have hie := itR_end (lv := 1) (k := q) hb h4
     by_cases h5 : ((gapF s ((itR s 1 b q).2.2.1) : Nat) : Int) = ((s.length : Nat) : Int)
     ·refine T_k mixed [(1, .call [0] [(.opt 0 0)] [some (98, [(sv (st s)), (nv ((itR s 1 b q).2.2.1)), (nv ((itR s 1 b q).2.2.2))])] (bv (decide (((gapF s ((itR s 1 b q).2.2.1) : Nat) : Int) = ((s.length : Nat) : Int)))) [some (98, [(sv (st s)), (nv (gapF s ((itR s 1 b q).2.2.1))), (nv ((itR s 1 b q).2.2.2))])]), (3, .gd true .no), (4, .gd true .no), (5, .yes true), (7, .gd true .no), (8, .gd true .no), (9, .gd true .no)] [.k3, .n, .d, .n, .r] [ps 32 (bv true), pb 0 98 [(sv (st s)), (nv (gapF s ((itR s 1 b q).2.2.1))), (nv ((itR s 1 b q).2.2.2))]] (oc (qjd s ((itR s 1 b q).2.2.1) (((itR s 1 b q).2.2.2 : Nat) : Int) hs (by omega)) (oc (rfl : [(.opt 0 0)] = renL (sigi [0] 76) [(.opt 0 0)]) (oc (rfl : [(sv (st s)), (nv ((itR s 1 b q).2.2.1)), (nv ((itR s 1 b q).2.2.2))] = renL (sigi [0] 76) [(sv (st s)), (nv ((itR s 1 b q).2.2.1)), (nv ((itR s 1 b q).2.2.2))]) (oc (dty h5) (oc (dty h5) (oc (dty h5) (oc (rfl : true = true) (oc (rfl : true = true) (oc (rfl : true = true) oz))))))))) ?_
      refine qau (b := true) rfl rfl ?_
      refine qaa ?_
      refine T_k mixed [] [.d, .k1, .d, .d, .k1, .d, .n, .d, .r] [pb 1 47 [(iv ((numR s a).2.1)), (iv ((numR s (gapF s ((numR s a).2.2) + 1)).2.1)), (.osl 44 0 (l.length + 1))]] (oz) ?_
      have hbl : brL s [] (numR s (gapF s (numR s a).2.2 + 1)).2.2 4095 = (0, l ++ [(itR s 1 b q).2.1], gapF s (itR s 1 b q).2.2.1, (itR s 1 b q).2.2.2) := by rw [← hg, qmc, if_pos h4, if_pos (.inl (by omega))]
      rw [show (brR s a) = (0, ((numR s a).2.1, (numR s (gapF s ((numR s a).2.2) + 1)).2.1, l ++ [(itR s 1 b q).2.1]), gapF s (itR s 1 b q).2.2.1, (itR s 1 b q).2.2.2) from by rw [brR, if_pos h1, if_pos h2, if_pos h3, hbl, if_pos rfl], if_pos rfl]
      refine T_wk (Wk.eq (show _ = [ps 2 (.opt 1 0), pb 0 98 [(sv (st s)), (nv (gapF s ((itR s 1 b q).2.2.1))), (nv ((itR s 1 b q).2.2.2))], pb 1 47 [(iv ((numR s a).2.1)), (iv ((numR s (gapF s ((numR s a).2.2) + 1)).2.1)), (.osl 44 0 ((l ++ [(itR s 1 b q).2.1]).length))], pb 44 50 (ics (l ++ [(itR s 1 b q).2.1]))] from by rw [List.length_append]; rfl)) ?_
      refine T_wk (Wk.frz (l' := [ps 2 (.opt 1 0), pb 0 98 [(sv (st s)), (nv (gapF s ((itR s 1 b q).2.2.1))), (nv ((itR s 1 b q).2.2.2))], pb 1 47 [(iv ((numR s a).2.1)), (iv ((numR s (gapF s ((numR s a).2.2) + 1)).2.1)), (.ssl (ics (l ++ [(itR s 1 b q).2.1])) 0 ((l ++ [(itR s 1 b q).2.1]).length))], (kb 44, none)]) 44 (T := 50) (cs := (ics (l ++ [(itR s 1 b q).2.1]))) (by kernel_rfl) (qlp _) (by kernel_rfl)) ?_
      refine T_wk (Wk.less (l' := [ps 2 (.opt 1 0), pb 0 98 [(sv (st s)), (nv (gapF s ((itR s 1 b q).2.2.1))), (nv ((itR s 1 b q).2.2.2))], pb 1 47 [(iv ((numR s a).2.1)), (iv ((numR s (gapF s ((numR s a).2.2) + 1)).2.1)), (.ssl (ics (l ++ [(itR s 1 b q).2.1])) 0 ((l ++ [(itR s 1 b q).2.1]).length))]]) 172 (by kernel_rfl) (by kernel_rfl)) ?_
      exact qai fun cx_ a_ hI_ => qav (rt hc0 [ps 2 (.opt 1 0), pb 0 98 [(sv (st s)), (nv (gapF s ((itR s 1 b q).2.2.1))), (nv ((itR s 1 b q).2.2.2))], pb 1 47 [(iv ((numR s a).2.1)), (iv ((numR s (gapF s ((numR s a).2.2) + 1)).2.1)), (.ssl (ics (l ++ [(itR s 1 b q).2.1])) 0 ((l ++ [(itR s 1 b q).2.1]).length))]] [0, 1] hI_ (hbk := by exact oc rfl (oz)))
     by_cases h6 : (qap s ((itR s 1 b q).2.2.1) 124) = true
     ·refine T_k mixed [(1, .call [0] [(.opt 0 0)] [some (98, [(sv (st s)), (nv ((itR s 1 b q).2.2.1)), (nv ((itR s 1 b q).2.2.2))])] (bv (decide (((gapF s ((itR s 1 b q).2.2.1) : Nat) : Int) = ((s.length : Nat) : Int)))) [some (98, [(sv (st s)), (nv (gapF s ((itR s 1 b q).2.2.1))), (nv ((itR s 1 b q).2.2.2))])]), (3, .gd false (.no)), (4, .gd false (.call [0] [(.opt 0 0), (.av (.int .u8 124))] [some (98, [(sv (st s)), (nv (gapF s ((itR s 1 b q).2.2.1))), (nv ((itR s 1 b q).2.2.2))])] (bv (qap s ((itR s 1 b q).2.2.1) 124)) [some (98, [(sv (st s)), (nv (gapF s ((itR s 1 b q).2.2.1))), (nv ((itR s 1 b q).2.2.2))])])), (5, .yes false), (7, .gd true .no), (8, .gd true .no), (9, .gd true .no), (10, .yes true)] [.k3, .n, .d, .n, .r] [ps 32 (bv true), pb 0 98 [(sv (st s)), (nv (gapF s ((itR s 1 b q).2.2.1))), (nv ((itR s 1 b q).2.2.2))]] (oc (qjd s ((itR s 1 b q).2.2.1) (((itR s 1 b q).2.2.2 : Nat) : Int) hs (by omega)) (oc (rfl : [(.opt 0 0)] = renL (sigi [0] 76) [(.opt 0 0)]) (oc (rfl : [(sv (st s)), (nv ((itR s 1 b q).2.2.1)), (nv ((itR s 1 b q).2.2.2))] = renL (sigi [0] 76) [(sv (st s)), (nv ((itR s 1 b q).2.2.1)), (nv ((itR s 1 b q).2.2.2))]) (oc (dtn h5) (oc (dtn h5) (oc (qgh s ((itR s 1 b q).2.2.1) (((itR s 1 b q).2.2.2 : Nat) : Int) 124 hs (by omega)) (oc (rfl : [(.opt 0 0), (.av (.int .u8 124))] = renL (sigi [0] 100) [(.opt 0 0), (.av (.int .u8 124))]) (oc (rfl : [(sv (st s)), (nv (gapF s ((itR s 1 b q).2.2.1))), (nv ((itR s 1 b q).2.2.2))] = renL (sigi [0] 100) [(sv (st s)), (nv (gapF s ((itR s 1 b q).2.2.1))), (nv ((itR s 1 b q).2.2.2))]) (oc (dtn h5) (oc (h6 : (qap s ((itR s 1 b q).2.2.1) 124) = true) (oc (h6 : (qap s ((itR s 1 b q).2.2.1) 124) = true) (oc (h6 : (qap s ((itR s 1 b q).2.2.1) 124) = true) (oc (h6 : (qap s ((itR s 1 b q).2.2.1) 124) = true) oz))))))))))))) ?_
      refine qau (b := true) rfl rfl ?_
      refine qaa ?_
      refine T_k mixed [] [.d, .k1, .d, .d, .k1, .d, .n, .d, .r] [pb 1 47 [(iv ((numR s a).2.1)), (iv ((numR s (gapF s ((numR s a).2.2) + 1)).2.1)), (.osl 44 0 (l.length + 1))]] (oz) ?_
      have hbl : brL s [] (numR s (gapF s (numR s a).2.2 + 1)).2.2 4095 = (0, l ++ [(itR s 1 b q).2.1], gapF s (itR s 1 b q).2.2.1, (itR s 1 b q).2.2.2) := by rw [← hg, qmc, if_pos h4, if_pos (.inr (.inl h6))]
      rw [show (brR s a) = (0, ((numR s a).2.1, (numR s (gapF s ((numR s a).2.2) + 1)).2.1, l ++ [(itR s 1 b q).2.1]), gapF s (itR s 1 b q).2.2.1, (itR s 1 b q).2.2.2) from by rw [brR, if_pos h1, if_pos h2, if_pos h3, hbl, if_pos rfl], if_pos rfl]
      refine T_wk (Wk.eq (show _ = [ps 2 (.opt 1 0), pb 0 98 [(sv (st s)), (nv (gapF s ((itR s 1 b q).2.2.1))), (nv ((itR s 1 b q).2.2.2))], pb 1 47 [(iv ((numR s a).2.1)), (iv ((numR s (gapF s ((numR s a).2.2) + 1)).2.1)), (.osl 44 0 ((l ++ [(itR s 1 b q).2.1]).length))], pb 44 50 (ics (l ++ [(itR s 1 b q).2.1]))] from by rw [List.length_append]; rfl)) ?_
      refine T_wk (Wk.frz (l' := [ps 2 (.opt 1 0), pb 0 98 [(sv (st s)), (nv (gapF s ((itR s 1 b q).2.2.1))), (nv ((itR s 1 b q).2.2.2))], pb 1 47 [(iv ((numR s a).2.1)), (iv ((numR s (gapF s ((numR s a).2.2) + 1)).2.1)), (.ssl (ics (l ++ [(itR s 1 b q).2.1])) 0 ((l ++ [(itR s 1 b q).2.1]).length))], (kb 44, none)]) 44 (T := 50) (cs := (ics (l ++ [(itR s 1 b q).2.1]))) (by kernel_rfl) (qlp _) (by kernel_rfl)) ?_
      refine T_wk (Wk.less (l' := [ps 2 (.opt 1 0), pb 0 98 [(sv (st s)), (nv (gapF s ((itR s 1 b q).2.2.1))), (nv ((itR s 1 b q).2.2.2))], pb 1 47 [(iv ((numR s a).2.1)), (iv ((numR s (gapF s ((numR s a).2.2) + 1)).2.1)), (.ssl (ics (l ++ [(itR s 1 b q).2.1])) 0 ((l ++ [(itR s 1 b q).2.1]).length))]]) 172 (by kernel_rfl) (by kernel_rfl)) ?_
      exact qai fun cx_ a_ hI_ => qav (rt hc0 [ps 2 (.opt 1 0), pb 0 98 [(sv (st s)), (nv (gapF s ((itR s 1 b q).2.2.1))), (nv ((itR s 1 b q).2.2.2))], pb 1 47 [(iv ((numR s a).2.1)), (iv ((numR s (gapF s ((numR s a).2.2) + 1)).2.1)), (.ssl (ics (l ++ [(itR s 1 b q).2.1])) 0 ((l ++ [(itR s 1 b q).2.1]).length))]] [0, 1] hI_ (hbk := by exact oc rfl (oz)))
     refine T_k mixed [(1, .call [0] [(.opt 0 0)] [some (98, [(sv (st s)), (nv ((itR s 1 b q).2.2.1)), (nv ((itR s 1 b q).2.2.2))])] (bv (decide (((gapF s ((itR s 1 b q).2.2.1) : Nat) : Int) = ((s.length : Nat) : Int)))) [some (98, [(sv (st s)), (nv (gapF s ((itR s 1 b q).2.2.1))), (nv ((itR s 1 b q).2.2.2))])]), (3, .gd false (.no)), (4, .gd false (.call [0] [(.opt 0 0), (.av (.int .u8 124))] [some (98, [(sv (st s)), (nv (gapF s ((itR s 1 b q).2.2.1))), (nv ((itR s 1 b q).2.2.2))])] (bv (qap s ((itR s 1 b q).2.2.1) 124)) [some (98, [(sv (st s)), (nv (gapF s ((itR s 1 b q).2.2.1))), (nv ((itR s 1 b q).2.2.2))])])), (5, .yes false), (7, .gd false (.no)), (8, .gd false (.call [0] [(.opt 0 0)] [some (98, [(sv (st s)), (nv (gapF s ((itR s 1 b q).2.2.1))), (nv ((itR s 1 b q).2.2.2))])] (sv (st (qad s ((itR s 1 b q).2.2.1)))) [some (98, [(sv (st s)), (nv (gapF s ((itR s 1 b q).2.2.1))), (nv ((itR s 1 b q).2.2.2))])])), (9, .gd false (.val (.av (.bool (decide ((qad s ((itR s 1 b q).2.2.1)) = ([118, 111, 105, 99, 101] : List UInt8))))))), (10, .yes false)] [.k3, .n, .d, .n, .r] [ps 32 (bv (decide ((qad s ((itR s 1 b q).2.2.1)) = ([118, 111, 105, 99, 101] : List UInt8)))), pb 0 98 [(sv (st s)), (nv (gapF s ((itR s 1 b q).2.2.1))), (nv ((itR s 1 b q).2.2.2))]] (oc (qjd s ((itR s 1 b q).2.2.1) (((itR s 1 b q).2.2.2 : Nat) : Int) hs (by omega)) (oc (rfl : [(.opt 0 0)] = renL (sigi [0] 76) [(.opt 0 0)]) (oc (rfl : [(sv (st s)), (nv ((itR s 1 b q).2.2.1)), (nv ((itR s 1 b q).2.2.2))] = renL (sigi [0] 76) [(sv (st s)), (nv ((itR s 1 b q).2.2.1)), (nv ((itR s 1 b q).2.2.2))]) (oc (dtn h5) (oc (dtn h5) (oc (qgh s ((itR s 1 b q).2.2.1) (((itR s 1 b q).2.2.2 : Nat) : Int) 124 hs (by omega)) (oc (rfl : [(.opt 0 0), (.av (.int .u8 124))] = renL (sigi [0] 100) [(.opt 0 0), (.av (.int .u8 124))]) (oc (rfl : [(sv (st s)), (nv (gapF s ((itR s 1 b q).2.2.1))), (nv ((itR s 1 b q).2.2.2))] = renL (sigi [0] 100) [(sv (st s)), (nv (gapF s ((itR s 1 b q).2.2.1))), (nv ((itR s 1 b q).2.2.2))]) (oc (dtn h5) (oc (Bool.eq_false_iff.2 h6 : (qap s ((itR s 1 b q).2.2.1) 124) = false) (oc (Bool.eq_false_iff.2 h6 : (qap s ((itR s 1 b q).2.2.1) 124) = false) (oc (qoh s ((itR s 1 b q).2.2.1) (((itR s 1 b q).2.2.2 : Nat) : Int) hs hr (by omega)) (oc (rfl : [(.opt 0 0)] = renL (sigi [0] 132) [(.opt 0 0)]) (oc (rfl : [(sv (st s)), (nv (gapF s ((itR s 1 b q).2.2.1))), (nv ((itR s 1 b q).2.2.2))] = renL (sigi [0] 132) [(sv (st s)), (nv (gapF s ((itR s 1 b q).2.2.1))), (nv ((itR s 1 b q).2.2.2))]) (oc (Bool.eq_false_iff.2 h6 : (qap s ((itR s 1 b q).2.2.1) 124) = false) (oc (qdm _ _ : ((st (qad s ((itR s 1 b q).2.2.1))).toList == (st ([118, 111, 105, 99, 101] : List UInt8)).toList) = decide ((qad s ((itR s 1 b q).2.2.1)) = ([118, 111, 105, 99, 101] : List UInt8))) (oc (Bool.eq_false_iff.2 h6 : (qap s ((itR s 1 b q).2.2.1) 124) = false) oz))))))))))))))))) ?_
     by_cases h7 : (qad s ((itR s 1 b q).2.2.1)) = ([118, 111, 105, 99, 101] : List UInt8)
     ·refine T_th (dty h7) ?_
      refine qaa ?_
      refine T_k mixed [] [.d, .k1, .d, .d, .k1, .d, .n, .d, .r] [pb 1 47 [(iv ((numR s a).2.1)), (iv ((numR s (gapF s ((numR s a).2.2) + 1)).2.1)), (.osl 44 0 (l.length + 1))]] (oz) ?_
      have hbl : brL s [] (numR s (gapF s (numR s a).2.2 + 1)).2.2 4095 = (0, l ++ [(itR s 1 b q).2.1], gapF s (itR s 1 b q).2.2.1, (itR s 1 b q).2.2.2) := by rw [← hg, qmc, if_pos h4, if_pos (.inr (.inr h7))]
      rw [show (brR s a) = (0, ((numR s a).2.1, (numR s (gapF s ((numR s a).2.2) + 1)).2.1, l ++ [(itR s 1 b q).2.1]), gapF s (itR s 1 b q).2.2.1, (itR s 1 b q).2.2.2) from by rw [brR, if_pos h1, if_pos h2, if_pos h3, hbl, if_pos rfl], if_pos rfl]
      refine T_wk (Wk.eq (show _ = [ps 2 (.opt 1 0), pb 0 98 [(sv (st s)), (nv (gapF s ((itR s 1 b q).2.2.1))), (nv ((itR s 1 b q).2.2.2))], pb 1 47 [(iv ((numR s a).2.1)), (iv ((numR s (gapF s ((numR s a).2.2) + 1)).2.1)), (.osl 44 0 ((l ++ [(itR s 1 b q).2.1]).length))], pb 44 50 (ics (l ++ [(itR s 1 b q).2.1]))] from by rw [List.length_append]; rfl)) ?_
      refine T_wk (Wk.frz (l' := [ps 2 (.opt 1 0), pb 0 98 [(sv (st s)), (nv (gapF s ((itR s 1 b q).2.2.1))), (nv ((itR s 1 b q).2.2.2))], pb 1 47 [(iv ((numR s a).2.1)), (iv ((numR s (gapF s ((numR s a).2.2) + 1)).2.1)), (.ssl (ics (l ++ [(itR s 1 b q).2.1])) 0 ((l ++ [(itR s 1 b q).2.1]).length))], (kb 44, none)]) 44 (T := 50) (cs := (ics (l ++ [(itR s 1 b q).2.1]))) (by kernel_rfl) (qlp _) (by kernel_rfl)) ?_
      refine T_wk (Wk.less (l' := [ps 2 (.opt 1 0), pb 0 98 [(sv (st s)), (nv (gapF s ((itR s 1 b q).2.2.1))), (nv ((itR s 1 b q).2.2.2))], pb 1 47 [(iv ((numR s a).2.1)), (iv ((numR s (gapF s ((numR s a).2.2) + 1)).2.1)), (.ssl (ics (l ++ [(itR s 1 b q).2.1])) 0 ((l ++ [(itR s 1 b q).2.1]).length))]]) 172 (by kernel_rfl) (by kernel_rfl)) ?_
      exact qai fun cx_ a_ hI_ => qav (rt hc0 [ps 2 (.opt 1 0), pb 0 98 [(sv (st s)), (nv (gapF s ((itR s 1 b q).2.2.1))), (nv ((itR s 1 b q).2.2.2))], pb 1 47 [(iv ((numR s a).2.1)), (iv ((numR s (gapF s ((numR s a).2.2) + 1)).2.1)), (.ssl (ics (l ++ [(itR s 1 b q).2.1])) 0 ((l ++ [(itR s 1 b q).2.1]).length))]] [0, 1] hI_ (hbk := by exact oc rfl (oz)))
     refine T_el (dtn h7) ?_
     refine qag <| qbg ?_
     have hno : ¬ (gapF s (itR s 1 b q).2.2.1 = s.length ∨ qap s (itR s 1 b q).2.2.1 124 = true ∨ qad s (itR s 1 b q).2.2.1 = vow) := fun hh => hh.elim (fun hh => by omega) fun hh => hh.elim (fun hh => h6 hh) (fun hh => h7 hh)
     exact qce ⟨(l ++ [(itR s 1 b q).2.1], gapF s (itR s 1 b q).2.2.1, (itR s 1 b q).2.2.2), ⟨qcs hie.1.2, by have := hie.2; simp only [List.length_append, List.length_singleton]; omega, by rw [qmc, if_pos h4, if_neg hno, if_pos hie.2] at hg; exact hg⟩⟩ (Wk.trans (Wk.eq (show _ = [ps 0 (.opt 0 0), ps 2 (.opt 1 0), ps 3 (.opt 2 0), ps 32 (bv (decide ((qad s ((itR s 1 b q).2.2.1)) = ([118, 111, 105, 99, 101] : List UInt8)))), pb 0 98 [(sv (st s)), (nv (gapF s ((itR s 1 b q).2.2.1))), (nv ((itR s 1 b q).2.2.2))], pb 1 47 [(iv 0), (iv 0), (.av (.slice none 0 0))], pb 2 47 [(iv ((numR s a).2.1)), (iv ((numR s (gapF s ((numR s a).2.2) + 1)).2.1)), (.osl 44 0 ((l ++ [(itR s 1 b q).2.1]).length))], pb 44 50 (ics (l ++ [(itR s 1 b q).2.1]))] from by rw [List.length_append]; rfl)) (Wk.ren3 [ps 0 (.opt 0 0), ps 2 (.opt 1 0), ps 3 (.opt 2 0), pb 0 98 [(sv (st s)), (nv (gapF s (itR s 1 b q).2.2.1)), (nv ((itR s 1 b q).2.2.2))], pb 1 47 [(iv 0), (iv 0), (.av (.slice none 0 0))], pb 2 47 [(iv ((numR s a).2.1)), (iv ((numR s (gapF s ((numR s a).2.2) + 1)).2.1)), (.osl 3 0 (l ++ [(itR s 1 b q).2.1]).length)], pb 3 50 (ics (l ++ [(itR s 1 b q).2.1]))] 1 hc0 [0, 1, 2, 44] [(kb 3, (ics (l ++ [(itR s 1 b q).2.1])))] (oc (qlp _) (oz)) (by kernel_rfl) rfl rfl (by kernel_rfl) (by kernel_rfl))) (show ((itR s 1 b q).2.2.2) < q from hie.2)
    rw [show (brR s a) = ((itR s 1 b q).1, dBr, (itR s 1 b q).2.2.1, 0) from by rw [brR, if_pos h1, if_pos h2, if_pos h3, ← hg, qmc, if_neg h4, if_neg h4], if_neg h4]
    exact T_rx mixed [(3, .call [0] [(.opt 0 0), (iv 1)] [some (98, [(sv (st s)), (nv b), (nv q)])] (.av (oops ((itR s 1 b q).1) (((itR s 1 b q).2.2.1 : Nat) : Int))) [none])] [4, 5, 6, 7] 3 [] (oc (qog (item_po hs hr (k := q) (by omega) (lv := 1) (by decide) (a := b) (by omega)) h4 : PX Tryz.prog 109 [(.opt 0 0), (iv 1)] [some (98, [(sv (st s)), (nv b), (nv q)])] (oops ((itR s 1 b q).1) (((itR s 1 b q).2.2.1 : Nat) : Int)) [none]) (oc (rfl : [(.opt 0 0), (iv 1)] = renL (sigi [0] 28) [(.opt 0 0), (iv 1)]) (oc (rfl : [(sv (st s)), (nv b), (nv q)] = renL (sigi [0] 28) [(sv (st s)), (nv b), (nv q)]) oz))) (fun cx_ a_ hI_ => qib (qck hc0 hI_))
   rw [show (brR s a) = ((numR s (gapF s ((numR s a).2.2) + 1)).1, dBr, (numR s (gapF s ((numR s a).2.2) + 1)).2.2, 0) from by rw [brR, if_pos h1, if_pos h2, if_neg h3], if_neg h3]
   exact T_rx mixed [(1, .call [0] [(.opt 0 0)] [some (98, [(sv (st s)), (nv (gapF s ((numR s a).2.2) + 1)), (iv k)])] (.av (oops ((numR s (gapF s ((numR s a).2.2) + 1)).1) (((numR s (gapF s ((numR s a).2.2) + 1)).2.2 : Nat) : Int))) [none])] [2, 3] 1 [] (oc (qog (qhy s (gapF s ((numR s a).2.2) + 1) k hs hr (by omega)) h3 : PX Tryz.prog 107 [(.opt 0 0)] [some (98, [(sv (st s)), (nv (gapF s ((numR s a).2.2) + 1)), (iv k)])] (oops ((numR s (gapF s ((numR s a).2.2) + 1)).1) (((numR s (gapF s ((numR s a).2.2) + 1)).2.2 : Nat) : Int)) [none]) (oc (rfl : [(.opt 0 0)] = renL (sigi [0] 73) [(.opt 0 0)]) (oc (rfl : [(sv (st s)), (nv (gapF s ((numR s a).2.2) + 1)), (iv k)] = renL (sigi [0] 73) [(sv (st s)), (nv (gapF s ((numR s a).2.2) + 1)), (iv k)]) oz))) (fun cx_ a_ hI_ => qck hc0 hI_)
  rw [show (brR s a) = (2, dBr, gapF s (numR s a).2.2, 0) from by rw [brR, if_pos h1, if_neg h2], if_neg (by show ¬ ((2 : Int) = 0); decide)]
  exact T_rx mixed [(1, .call [0] [(.opt 0 0), (.av (.int .u8 47))] [some (98, [(sv (st s)), (nv ((numR s a).2.2)), (iv k)])] (.av (oops 2 ((gapF s ((numR s a).2.2) : Nat) : Int))) [none])] [] 1 [] (oc (qog (need_po s ((numR s a).2.2) k 47 hs (by omega)) h2 : PX Tryz.prog 108 [(.opt 0 0), (.av (.int .u8 47))] [some (98, [(sv (st s)), (nv ((numR s a).2.2)), (iv k)])] (oops 2 ((gapF s ((numR s a).2.2) : Nat) : Int)) [none]) (oc (rfl : [(.opt 0 0), (.av (.int .u8 47))] = renL (sigi [0] 57) [(.opt 0 0), (.av (.int .u8 47))]) (oc (rfl : [(sv (st s)), (nv ((numR s a).2.2)), (iv k)] = renL (sigi [0] 57) [(sv (st s)), (nv ((numR s a).2.2)), (iv k)]) oz))) (fun cx_ a_ hI_ => qck hc0 hI_)
 rw [show (brR s a) = ((numR s a).1, dBr, (numR s a).2.2, 0) from by rw [brR, if_neg h1], if_neg h1]
 exact T_rx mixed [(1, .call [0] [(.opt 0 0)] [some (98, [(sv (st s)), (nv a), (iv k)])] (.av (oops ((numR s a).1) (((numR s a).2.2 : Nat) : Int))) [none])] [2, 3, 4] 1 [] (oc (qog (qhy s a k hs hr (by omega)) h1 : PX Tryz.prog 107 [(.opt 0 0)] [some (98, [(sv (st s)), (nv a), (iv k)])] (oops ((numR s a).1) (((numR s a).2.2 : Nat) : Int)) [none]) (oc (rfl : [(.opt 0 0)] = renL (sigi [0] 17) [(.opt 0 0)]) (oc (rfl : [(sv (st s)), (nv a), (iv k)] = renL (sigi [0] 17) [(sv (st s)), (nv a), (iv k)]) oz))) (fun cx_ a_ hI_ => qck hc0 hI_)
set_option maxRecDepth 100000 in
set_option maxHeartbeats 4000000 in
theorem qtn (s : Txt) (hs : s.length ≤ 65536) (hr : RdyP s) (a : Nat) (k : Int) (ha : a ≤ s.length) : PO Tryz.prog 40 [(.opt 0 0)] [some (98, [(sv (st s)), (nv a), (iv k)])] (if (vcR s a k).1 = 0 then .ret (.agg (voC (vcR s a k).2.1)) [some (98, [(sv (st s)), (nv ((vcR s a k).2.2.1)), (iv ((vcR s a k).2.2.2))]), none] else .pan (oops ((vcR s a k).1) (((vcR s a k).2.2.1 : Nat) : Int)) [none]) := by
 refine qeh Tryz.func40 rfl (by kernel_rfl) (qgf (Nat.le_of_ble_eq_true rfl) (Nat.le_of_ble_eq_true rfl)) (by kernel_rfl) (l0 := [ps 0 (.opt 0 0), pb 0 98 [(sv (st s)), (nv a), (iv k)]]) rfl (fun c0 Bor hc0 => ?_)
 refine qaa ?_
 refine T_k mixed [] [.k1, .n, .k1, .n] [ps 2 (.opt 1 0), pb 1 44 [(sv (st ([] : List UInt8))), (.av (.slice none 0 0))]] (oz) ?_
 refine qaa ?_
 refine T_k mixed [(1, .call [0] [(.opt 0 0)] [some (98, [(sv (st s)), (nv a), (iv k)])] (.tup []) [some (98, [(sv (st s)), (nv (gapF s a)), (iv k)])])] [.k2, .d, .n, .r] [pb 0 98 [(sv (st s)), (nv (gapF s a)), (iv k)]] (oc (qvq s a k hs (by omega)) (oc (rfl : [(.opt 0 0)] = renL (sigi [0] 17) [(.opt 0 0)]) (oc (rfl : [(sv (st s)), (nv a), (iv k)] = renL (sigi [0] 17) [(sv (st s)), (nv a), (iv k)]) oz))) ?_
 refine qaa <| qaa ?_
 have hga := qcs ha
 have hgg := qcy s a
 have hwl := qdj ha
 refine T_k mixed [(1, .call [0] [(.opt 0 0)] [some (98, [(sv (st s)), (nv (gapF s a)), (iv k)])] (sv (st (qad s a))) [some (98, [(sv (st s)), (nv (gapF s a)), (iv k)])]), (2, .val (.av (.bool (!decide ((qad s a) = ([118, 111, 105, 99, 101] : List UInt8))))))] [.k2, .n, .r] [ps 9 (bv (!(decide ((qad s a) = ([118, 111, 105, 99, 101] : List UInt8)))))] (oc (qoh s a k hs hr (by omega)) (oc (rfl : [(.opt 0 0)] = renL (sigi [0] 33) [(.opt 0 0)]) (oc (rfl : [(sv (st s)), (nv (gapF s a)), (iv k)] = renL (sigi [0] 33) [(sv (st s)), (nv (gapF s a)), (iv k)]) (oc (qhe _ _ : (!((st (qad s a)).toList == (st ([118, 111, 105, 99, 101] : List UInt8)).toList)) = !decide ((qad s a) = ([118, 111, 105, 99, 101] : List UInt8))) oz)))) ?_
 by_cases h1 : (qad s a) = ([118, 111, 105, 99, 101] : List UInt8)
 ·refine T_el (bt h1) ?_
  refine qag <| qaa ?_
  have hw5 : (qad s a).length = 5 := by rw [h1]; rfl
  refine T_k mixed [] [.k2, .d, .d, .n, .r] [pb 0 98 [(sv (st s)), (iv (((gapF s a : Nat) : Int) + 5)), (iv k)]] (oc (by simp only [InK]; omega : InK .i64 (((gapF s a : Nat) : Int) + 5)) oz) ?_
  refine T_wk (Wk.eq (show _ = [ps 0 (.opt 0 0), ps 2 (.opt 1 0), pb 0 98 [(sv (st s)), (nv (gapF s a + 5)), (iv k)], pb 1 44 [(sv (st ([] : List UInt8))), (.av (.slice none 0 0))]] from by rfl)) ?_
  refine qaa ?_
  have hwl2 := qdj (s := s) (a := gapF s a + 5) (by omega)
  have hgg2 := qcy s (gapF s a + 5)
  refine T_k mixed [(1, .call [0] [(.opt 0 0)] [some (98, [(sv (st s)), (nv (gapF s a + 5)), (iv k)])] (sv (st (qad s (gapF s a + 5)))) [some (98, [(sv (st s)), (nv (gapF s (gapF s a + 5))), (iv k)])])] [.k2, .n, .d, .n, .r] [ps 3 (sv (st (qad s (gapF s a + 5)))), pb 0 98 [(sv (st s)), (nv (gapF s (gapF s a + 5))), (iv k)]] (oc (qoi s (gapF s a + 5) k hs hr (by omega)) (oc (rfl : [(.opt 0 0)] = renL (sigi [0] 121) [(.opt 0 0)]) (oc (rfl : [(sv (st s)), (nv (gapF s a + 5)), (iv k)] = renL (sigi [0] 121) [(sv (st s)), (nv (gapF s a + 5)), (iv k)]) oz))) ?_
  refine qaa <| qaa ?_
  refine T_k mixed [(1, .call [] [(sv (st (qad s (gapF s a + 5))))] [] (bv (qec (qad s (gapF s a + 5)))) [])] [.k3, .n, .r] [ps 23 (bv (!(qec (qad s (gapF s a + 5)))))] (oc (qto (qad s (gapF s a + 5)) (by omega)) (oc (rfl : Ren0 145 [(sv (st (qad s (gapF s a + 5))))]) oz)) ?_
  by_cases h2 : (qec (qad s (gapF s a + 5))) = true
  ·refine T_el (congrArg Bool.not h2) ?_
   refine qag <| qaa ?_
   refine T_k mixed [] [.k3, .n, .d, .k2, .n] [ps 4 (.opt 177 0), pb 177 44 [(sv (st (qad s (gapF s a + 5)))), (.av (.slice none 0 0))]] (oz) ?_
   refine qaa ?_
   refine T_k mixed [] [.k2, .d, .k1, .d, .n, .r] [pb 0 98 [(sv (st s)), (iv (((gapF s (gapF s a + 5) : Nat) : Int) + (((qad s (gapF s a + 5)).length : Nat) : Int))), (iv k)]] (oc (by simp only [InK]; omega : InK .i64 (((gapF s (gapF s a + 5) : Nat) : Int) + (((qad s (gapF s a + 5)).length : Nat) : Int))) oz) ?_
   refine T_wk (Wk.eq (show _ = [ps 0 (.opt 0 0), ps 2 (.opt 1 0), ps 4 (.opt 177 0), pb 0 98 [(sv (st s)), (nv (gapF s (gapF s a + 5) + (qad s (gapF s a + 5)).length)), (iv k)], pb 1 44 [(sv (st ([] : List UInt8))), (.av (.slice none 0 0))], pb 177 44 [(sv (st (qad s (gapF s a + 5)))), (.av (.slice none 0 0))]] from by rfl)) ?_
   refine qaa <| qan ?_
   refine T_wk (Wk.nilc (B := 44) (cells := [(sv (st (qad s (gapF s a + 5)))), (.av (.slice none 0 0))]) 177 1 47 (by kernel_rfl) rfl) ?_
   refine T_wk (Wk.less (l' := [ps 0 (.opt 0 0), ps 2 (.opt 1 0), ps 4 (.opt 177 0), pb 0 98 [(sv (st s)), (nv (gapF s (gapF s a + 5) + (qad s (gapF s a + 5)).length)), (iv k)], pb 1 44 [(sv (st ([] : List UInt8))), (.av (.slice none 0 0))], pb 177 44 [(sv (st (qad s (gapF s a + 5)))), (.osl 273 0 0)], pb 273 47 []]) 274 (by kernel_rfl) (by kernel_rfl)) ?_
   refine T_wk (Wk.eq (show _ = [ps 0 (.opt 0 0), ps 2 (.opt 1 0), ps 4 (.opt 177 0), pb 0 98 [(sv (st s)), (nv (gapF s (gapF s a + 5) + (qad s (gapF s a + 5)).length)), (iv k)], pb 1 44 [(sv (st ([] : List UInt8))), (.av (.slice none 0 0))], pb 177 44 [(sv (st (qad s (gapF s a + 5)))), (.osl 273 0 (([] : List Br).length))], pb 273 47 (brs ([] : List Br))] from by rfl)) ?_
   refine qcm (α := {x : List Br × Nat × Int // x.2.1 ≤ s.length ∧ x.1.length ≤ 1024 ∧ vcL s (1024 - x.1.length) x.1 x.2.1 x.2.2 = vcL s 1024 [] (gapF s (gapF s a + 5) + (qad s (gapF s a + 5)).length) k}) (fun x => [ps 0 (.opt 0 0), ps 2 (.opt 1 0), ps 4 (.opt 2 0), pb 0 98 [(sv (st s)), (nv x.1.2.1), (iv x.1.2.2)], pb 1 44 [(sv (st ([] : List UInt8))), (.av (.slice none 0 0))], pb 2 44 [(sv (st (qad s (gapF s a + 5)))), (.osl 3 0 x.1.1.length)], pb 3 47 (brs x.1.1)]) (fun x => 1024 - x.1.1.length) 4 ⟨([], (gapF s (gapF s a + 5) + (qad s (gapF s a + 5)).length), k), ⟨hwl2, Nat.zero_le _, rfl⟩⟩ (Wk.ren3 [ps 0 (.opt 0 0), ps 2 (.opt 1 0), ps 4 (.opt 2 0), pb 0 98 [(sv (st s)), (nv (gapF s (gapF s a + 5) + (qad s (gapF s a + 5)).length)), (iv k)], pb 1 44 [(sv (st ([] : List UInt8))), (.av (.slice none 0 0))], pb 2 44 [(sv (st (qad s (gapF s a + 5)))), (.osl 3 0 ([] : List Br).length)], pb 3 47 (brs ([] : List Br))] 1 hc0 [0, 1, 177, 273] [(kb 3, (brs ([] : List Br)))] (oc (qjf _) (oz)) (by kernel_rfl) rfl rfl (by kernel_rfl) (by kernel_rfl)) ?_
   rintro ⟨⟨l, b, z⟩, ⟨hb, hl1, hg⟩⟩
   dsimp only at hb hl1 hg
   refine qaa <| qaa ?_
   refine T_r mixed [(1, .call [0] [(.opt 0 0), (.av (.int .u8 124))] [some (98, [(sv (st s)), (nv b), (iv z)])] (bv (qap s b 124)) [some (98, [(sv (st s)), (nv (gapF s b)), (iv z)])])] [ps 0 (.opt 0 0), ps 2 (.opt 1 0), ps 4 (.opt 2 0), ps 38 (bv (qap s b 124)), pb 0 98 [(sv (st s)), (nv (gapF s b)), (iv z)], pb 1 44 [(sv (st ([] : List UInt8))), (.av (.slice none 0 0))], pb 2 44 [(sv (st (qad s (gapF s a + 5)))), (.osl 3 0 l.length)], pb 3 47 (brs l)] (oc (qpd s b z 124 hs (by omega)) (oc (rfl : [(.opt 0 0), (.av (.int .u8 124))] = renL (sigi [0] 12) [(.opt 0 0), (.av (.int .u8 124))]) (oc (rfl : [(sv (st s)), (nv b), (iv z)] = renL (sigi [0] 12) [(sv (st s)), (nv b), (iv z)]) oz))) ?_
   by_cases h3 : (qap s b 124) = true
   ·refine qau (b := (qap s b 124)) rfl h3 ?_
    refine qag <| qan <| qaa <| qaa ?_
    have hlt := qda h3
    refine T_k mixed [] [.k3, .d, .n, .r] [ps 42 (bv (decide (((l.length : Nat) : Int) = 1024)))] (oz) ?_
    by_cases h4 : ((l.length : Nat) : Int) = 1024
    ·refine T_th (dty h4) ?_
     have hvl : vcL s 1024 [] (gapF s (gapF s a + 5) + (qad s (gapF s a + 5)).length) k = (5, [], gapF s b, 0) := by rw [← hg, qtp (by omega), if_pos h3, if_pos (by omega)]
     rw [show (vcR s a k) = (5, dVo, gapF s b, 0) from by rw [vcR, if_pos (show qad s a = vow from h1), if_pos h2, hvl, if_neg (by show ¬ ((5 : Int) = 0); decide)], if_neg (by show ¬ ((5 : Int) = 0); decide)]
     exact T_rx mixed [(1, .call [0] [(.opt 0 0), (iv 5)] [some (98, [(sv (st s)), (nv (gapF s b)), (iv z)])] (.av (oops 5 ((gapF s b : Nat) : Int))) [none])] [] 1 [] (oc (qci s (gapF s b) z 5 : PX Tryz.prog 39 [(.opt 0 0), (iv 5)] [some (98, [(sv (st s)), (nv (gapF s b)), (iv z)])] (oops 5 ((gapF s b : Nat) : Int)) [none]) (oc (rfl : [(.opt 0 0), (iv 5)] = renL (sigi [0] 60) [(.opt 0 0), (iv 5)]) (oc (rfl : [(sv (st s)), (nv (gapF s b)), (iv z)] = renL (sigi [0] 60) [(sv (st s)), (nv (gapF s b)), (iv z)]) oz))) (fun cx_ a_ hI_ => qib (qck hc0 hI_))
    refine T_el (dtn h4) ?_
    refine qag <| qaa ?_
    refine T_k mixed [] [.k3, .d, .d, .n, .r] [pb 0 98 [(sv (st s)), (iv (((gapF s b : Nat) : Int) + 1)), (iv z)]] (oc (by simp only [InK]; omega : InK .i64 (((gapF s b : Nat) : Int) + 1)) oz) ?_
    refine T_wk (Wk.eq (show _ = [ps 0 (.opt 0 0), ps 2 (.opt 1 0), ps 4 (.opt 2 0), pb 0 98 [(sv (st s)), (nv (gapF s b + 1)), (iv z)], pb 1 44 [(sv (st ([] : List UInt8))), (.av (.slice none 0 0))], pb 2 44 [(sv (st (qad s (gapF s a + 5)))), (.osl 3 0 l.length)], pb 3 47 (brs l)] from by rfl)) ?_
    by_cases h5 : (brR s (gapF s b + 1)).1 = 0
    ·refine T_kd mixed [(3, .call [0] [(.opt 0 0)] [some (98, [(sv (st s)), (nv (gapF s b + 1)), (iv z)])] (.agg [(iv (((brR s (gapF s b + 1)).2.1).1)), (iv (((brR s (gapF s b + 1)).2.1).2.1)), (.ssl (ics (((brR s (gapF s b + 1)).2.1).2.2)) 0 ((((brR s (gapF s b + 1)).2.1).2.2).length))]) [some (98, [(sv (st s)), (nv ((brR s (gapF s b + 1)).2.2.1)), (nv ((brR s (gapF s b + 1)).2.2.2))]), none]), (5, .app none (some (brs (l ++ [(brR s (gapF s b + 1)).2.1]))))] [[], [0], [], [2], [2, 3], [0, 1, 2, 3, 4], [0, 1, 2, 3, 4, 5], [0, 1, 2, 3, 4, 5, 6]] [([104], [8]), ([106], [5, 104]), ([108], [0]), ([110, 1, 281], [1, 108]), ([112, 297], [110]), ([114, 7, 313], [7, 106, 112, 297]), ([116], [8]), ([5], [5, 114, 116])] [.k3, .d, .n, .k1, .d, .n, .d, .n] [pb 0 98 [(sv (st s)), (nv ((brR s (gapF s b + 1)).2.2.1)), (nv ((brR s (gapF s b + 1)).2.2.2))], pb 2 44 [(sv (st (qad s (gapF s a + 5)))), (.osl 156 0 (l.length + 1))], pb 156 47 (brs (l ++ [(brR s (gapF s b + 1)).2.1]))] (oc (qqg (bar_po s hs hr (gapF s b + 1) z (by omega)) h5) (oc (rfl : [(.opt 0 0)] = renL (sigi [0] 140) [(.opt 0 0)]) (oc (rfl : [(sv (st s)), (nv (gapF s b + 1)), (iv z)] = renL (sigi [0] 140) [(sv (st s)), (nv (gapF s b + 1)), (iv z)]) (oc (brs_len _ : ((brs l)).length = l.length * 3) (oc (by omega : (l.length + 1) * 40 ≤ 140737488355328 ∧ l.length + 1 ≤ 9223372036854775807) (oc (brs_snoc l _ : (brs l) ++ [(iv (((brR s (gapF s b + 1)).2.1).1)), (iv (((brR s (gapF s b + 1)).2.1).2.1)), (.ssl (ics (((brR s (gapF s b + 1)).2.1).2.2)) 0 ((((brR s (gapF s b + 1)).2.1).2.2).length))] = (brs (l ++ [(brR s (gapF s b + 1)).2.1]))) oz)))))) ?_
     refine qbg ?_
     exact qce ⟨(l ++ [(brR s (gapF s b + 1)).2.1], (brR s (gapF s b + 1)).2.2.1, (((brR s (gapF s b + 1)).2.2.2 : Nat) : Int)), ⟨(brR_end (s := s) (a := gapF s b + 1) hlt h5).2, by simp only [List.length_append, List.length_singleton]; omega, by rw [qtp (by omega), if_pos h3, if_neg (by omega), if_pos h5] at hg; rw [List.length_append]; exact hg⟩⟩ (Wk.trans (Wk.eq (show _ = [ps 0 (.opt 0 0), ps 2 (.opt 1 0), ps 4 (.opt 2 0), pb 0 98 [(sv (st s)), (nv ((brR s (gapF s b + 1)).2.2.1)), (nv ((brR s (gapF s b + 1)).2.2.2))], pb 1 44 [(sv (st ([] : List UInt8))), (.av (.slice none 0 0))], pb 2 44 [(sv (st (qad s (gapF s a + 5)))), (.osl 156 0 ((l ++ [(brR s (gapF s b + 1)).2.1]).length))], pb 156 47 (brs (l ++ [(brR s (gapF s b + 1)).2.1]))] from by rw [List.length_append]; rfl)) (Wk.ren3 [ps 0 (.opt 0 0), ps 2 (.opt 1 0), ps 4 (.opt 2 0), pb 0 98 [(sv (st s)), (nv ((brR s (gapF s b + 1)).2.2.1)), (iv (((brR s (gapF s b + 1)).2.2.2 : Nat) : Int))], pb 1 44 [(sv (st ([] : List UInt8))), (.av (.slice none 0 0))], pb 2 44 [(sv (st (qad s (gapF s a + 5)))), (.osl 3 0 (l ++ [(brR s (gapF s b + 1)).2.1]).length)], pb 3 47 (brs (l ++ [(brR s (gapF s b + 1)).2.1]))] 1 hc0 [0, 1, 2, 156] [(kb 3, (brs (l ++ [(brR s (gapF s b + 1)).2.1])))] (oc (qjf _) (oz)) (by kernel_rfl) rfl rfl (by kernel_rfl) (by kernel_rfl))) (show 1024 - (l ++ [(brR s (gapF s b + 1)).2.1]).length < 1024 - l.length from by simp only [List.length_append, List.length_singleton]; omega)
    have hvl : vcL s 1024 [] (gapF s (gapF s a + 5) + (qad s (gapF s a + 5)).length) k = ((brR s (gapF s b + 1)).1, [], (brR s (gapF s b + 1)).2.2.1, 0) := by rw [← hg, qtp (by omega), if_pos h3, if_neg (by omega), if_neg h5]
    rw [show (vcR s a k) = ((brR s (gapF s b + 1)).1, dVo, (brR s (gapF s b + 1)).2.2.1, 0) from by rw [vcR, if_pos (show qad s a = vow from h1), if_pos h2, hvl, if_neg h5], if_neg h5]
    exact T_rx mixed [(3, .call [0] [(.opt 0 0)] [some (98, [(sv (st s)), (nv (gapF s b + 1)), (iv z)])] (.av (oops ((brR s (gapF s b + 1)).1) (((brR s (gapF s b + 1)).2.2.1 : Nat) : Int))) [none])] [4, 5, 6, 7] 3 [] (oc (qog (bar_po s hs hr (gapF s b + 1) z (by omega)) h5 : PX Tryz.prog 75 [(.opt 0 0)] [some (98, [(sv (st s)), (nv (gapF s b + 1)), (iv z)])] (oops ((brR s (gapF s b + 1)).1) (((brR s (gapF s b + 1)).2.2.1 : Nat) : Int)) [none]) (oc (rfl : [(.opt 0 0)] = renL (sigi [0] 140) [(.opt 0 0)]) (oc (rfl : [(sv (st s)), (nv (gapF s b + 1)), (iv z)] = renL (sigi [0] 140) [(sv (st s)), (nv (gapF s b + 1)), (iv z)]) oz))) (fun cx_ a_ hI_ => qib (qck hc0 hI_))
   refine qbf (b := (qap s b 124)) rfl (Bool.eq_false_iff.2 h3) ?_
   refine qbu rfl rfl ?_
   refine qaa ?_
   refine T_k mixed [] [.d, .k1, .d, .d, .k1, .d, .n, .d, .r] [pb 1 44 [(sv (st (qad s (gapF s a + 5)))), (.osl 3 0 l.length)]] (oz) ?_
   have hvl : vcL s 1024 [] (gapF s (gapF s a + 5) + (qad s (gapF s a + 5)).length) k = (0, l, gapF s b, z) := by rw [← hg, qtp (by omega), if_neg h3]
   rw [show (vcR s a k) = (0, ((qad s (gapF s a + 5)), l), gapF s b, z) from by rw [vcR, if_pos (show qad s a = vow from h1), if_pos h2, hvl, if_pos rfl], if_pos rfl]
   refine T_wk (Wk.frz (l' := [ps 2 (.opt 1 0), pb 0 98 [(sv (st s)), (nv (gapF s b)), (iv z)], pb 1 44 [(sv (st (qad s (gapF s a + 5)))), (.ssl (brs l) 0 l.length)], (kb 3, none)]) 3 (T := 47) (cs := (brs l)) (by kernel_rfl) (qjf _) (by kernel_rfl)) ?_
   refine T_wk (Wk.less (l' := [ps 2 (.opt 1 0), pb 0 98 [(sv (st s)), (nv (gapF s b)), (iv z)], pb 1 44 [(sv (st (qad s (gapF s a + 5)))), (.ssl (brs l) 0 l.length)]]) 36 (by kernel_rfl) (by kernel_rfl)) ?_
   exact qai fun cx_ a_ hI_ => rt hc0 [ps 2 (.opt 1 0), pb 0 98 [(sv (st s)), (nv (gapF s b)), (iv z)], pb 1 44 [(sv (st (qad s (gapF s a + 5)))), (.ssl (brs l) 0 l.length)]] [0, 1] hI_ (hbk := by exact oc rfl (oz))
  refine T_th (congrArg Bool.not (Bool.eq_false_iff.2 h2)) ?_
  rw [show (vcR s a k) = (2, dVo, gapF s (gapF s a + 5), 0) from by rw [vcR, if_pos (show qad s a = vow from h1), if_neg h2], if_neg (by show ¬ ((2 : Int) = 0); decide)]
  exact T_rx mixed [(1, .call [0] [(.opt 0 0), (iv 2)] [some (98, [(sv (st s)), (nv (gapF s (gapF s a + 5))), (iv k)])] (.av (oops 2 ((gapF s (gapF s a + 5) : Nat) : Int))) [none])] [] 1 [] (oc (qci s (gapF s (gapF s a + 5)) k 2 : PX Tryz.prog 39 [(.opt 0 0), (iv 2)] [some (98, [(sv (st s)), (nv (gapF s (gapF s a + 5))), (iv k)])] (oops 2 ((gapF s (gapF s a + 5) : Nat) : Int)) [none]) (oc (rfl : [(.opt 0 0), (iv 2)] = renL (sigi [0] 169) [(.opt 0 0), (iv 2)]) (oc (rfl : [(sv (st s)), (nv (gapF s (gapF s a + 5))), (iv k)] = renL (sigi [0] 169) [(sv (st s)), (nv (gapF s (gapF s a + 5))), (iv k)]) oz))) (fun cx_ a_ hI_ => qck hc0 hI_)
 refine T_th (bf h1) ?_
 rw [show (vcR s a k) = (2, dVo, gapF s a, 0) from by rw [vcR, if_neg (show ¬ qad s a = vow from h1)], if_neg (by show ¬ ((2 : Int) = 0); decide)]
 exact T_rx mixed [(1, .call [0] [(.opt 0 0), (iv 2)] [some (98, [(sv (st s)), (nv (gapF s a)), (iv k)])] (.av (oops 2 ((gapF s a : Nat) : Int))) [none])] [] 1 [] (oc (qci s (gapF s a) k 2 : PX Tryz.prog 39 [(.opt 0 0), (iv 2)] [some (98, [(sv (st s)), (nv (gapF s a)), (iv k)])] (oops 2 ((gapF s a : Nat) : Int)) [none]) (oc (rfl : [(.opt 0 0), (iv 2)] = renL (sigi [0] 57) [(.opt 0 0), (iv 2)]) (oc (rfl : [(sv (st s)), (nv (gapF s a)), (iv k)] = renL (sigi [0] 57) [(sv (st s)), (nv (gapF s a)), (iv k)]) oz))) (fun cx_ a_ hI_ => qck hc0 hI_)
end Go.Proofs.YtmlnilkbolcknaaGreatDoor.Pm
namespace Go.Proofs.YtmlnilkbolcknaaGreatDoor.Pm
open Go Go.Proofs.YtmlnilkbolcknaaGreatDoor.Pi

set_option maxRecDepth 100000 in
set_option maxHeartbeats 4000000 in
theorem lit_nil (l : List Vo) : PD Tryz.prog 37 [.opt 0 0, .opt 1 0] [some (22, [(.ssl (vos l) 0 l.length)]), some (33, [(iv 0), (iv 0)])] (.returning) (.returning) [some (22, [(.ssl (vos l) 0 l.length)]), some (33, [(iv 0), (iv 0)])] := by
 refine qul (x := .nilIface) Tryz.func37 rfl (by kernel_rfl) rfl rfl rfl (by kernel_rfl) recs_ret (Nat.le_of_ble_eq_true rfl) (by kernel_rfl) rfl (fun c0 Bor hc0 => ?_)
 refine qan <| qaa ?_
 refine T_r mixed [] [ps 0 (.opt 0 0), ps 1 (.opt 1 0), ps 5 (.av .nilIface), ps 7 (bv true), pb 0 22 [(.ssl (vos l) 0 l.length)], pb 1 33 [(iv 0), (iv 0)]] (oz) ?_
 refine qau (b := true) rfl rfl ?_
 refine T_k mixed [] [.d, .d, .d, .d, .r] [] (oz) ?_
 refine qbg ?_
 exact fun cx_ a_ hI_ => qby (H' := [some (22, [(.ssl (vos l) 0 l.length)]), some (33, [(iv 0), (iv 0)])]) (.inl rfl) (Wk.ren2 [pb 0 22 [(.ssl (vos l) 0 l.length)], pb 1 33 [(iv 0), (iv 0)]] 2 hc0 [0, 1] rfl rfl (by kernel_rfl) (by kernel_rfl)) rfl (oc rfl (oc rfl (oz))) (fun cx_ a_ hI_ => qbc (l' := [pb 0 22 [(.ssl (vos l) 0 l.length)], pb 1 33 [(iv 0), (iv 0)]]) (by kernel_rfl) cx_ a_ hI_) hI_
set_option maxRecDepth 100000 in
set_option maxHeartbeats 4000000 in
theorem lit_pan (v : Value) (e a : Int) : PD Tryz.prog 37 [.opt 0 0, .opt 1 0] [some (22, [(.av v)]), some (33, [(iv 0), (iv 0)])] (.panicking [{ v := oops e a, recovered := false }]) (.panicking [{ v := oops e a, recovered := true }]) [some (22, [(.av (.slice none 0 0))]), some (33, [(iv e), (iv a)])] := by
 refine qul (x := (oops e a)) Tryz.func37 rfl (by kernel_rfl) rfl rfl rfl (by kernel_rfl) (recs_pan _) (Nat.le_of_ble_eq_true rfl) (by kernel_rfl) rfl (fun c0 Bor hc0 => ?_)
 refine qan <| qaa ?_
 refine T_r mixed [] [ps 0 (.opt 0 0), ps 1 (.opt 1 0), ps 5 (.av (oops e a)), ps 7 (bv false), pb 0 22 [(.av v)], pb 1 33 [(iv 0), (iv 0)]] (oz) ?_
 refine qbf (b := false) rfl rfl ?_
 refine qaa ?_
 refine T_k mixed [] [.k3, .d, .n, .n, .r] [ps 9 (bv true), ps 10 (.av (.agg #[.int .i64 e, .int .i64 a]))] (oz) ?_
 refine qau (b := true) rfl rfl ?_
 refine qaa ?_
 refine T_k mixed [] [.k2, .n, .d, .d, .d, .k2, .n] [ps 3 (.opt 34 0), pb 34 95 [(iv e), (iv a)]] (oz) ?_
 refine T_rd mixed [] [[], [], [0, 1]] [([22], [6, 69]), ([1], [0, 1]), ([3], [2, 3, 22])] [pb 0 22 [(.av (.slice none 0 0))], pb 1 33 [(iv e), (iv a)]] (oz) ?_
 refine qbg ?_
 exact fun cx_ a_ hI_ => qby (H' := [some (22, [(.av (.slice none 0 0))]), some (33, [(iv e), (iv a)])]) (.inl rfl) (Wk.ren2 [pb 0 22 [(.av (.slice none 0 0))], pb 1 33 [(iv e), (iv a)]] 2 hc0 [0, 1] rfl rfl (by kernel_rfl) (by kernel_rfl)) rfl (oc rfl (oc rfl (oz))) (fun cx_ a_ hI_ => qbc (l' := [pb 0 22 [(.av (.slice none 0 0))], pb 1 33 [(iv e), (iv a)]]) (by kernel_rfl) cx_ a_ hI_) hI_
/-- What is read of a piece that is not too long. -/
abbrev rdP (s : Txt) : Int × List Vo × Nat := rdL s 64 [] 0 0
/-- How the reading ends ahead of the literal. -/
def RQ (s : Txt) (c0 : Cx) (Bor : BorD) : Post := fun e cx a => ∃ m l, Inv ⟨Tryz.prog, Tryz.f15.ntmps, c0, Bor⟩ (· < m) cx (get l) a ∧ get l (ks 2) = some (.pv (.opt 0 0)) ∧ get l (ks 3) = some (.pv (.opt 1 0)) ∧ get l (kb 1) = some (.blk 33 [iv 0, iv 0]) ∧
 ((e = .ret ∧ (rdP s).1 = 0 ∧ get l (kb 0) = some (.blk 22 [.ssl (vos (rdP s).2.1) 0 (rdP s).2.1.length])) ∨ (e = chn (oops (rdP s).1 (((rdP s).2.2 : Nat) : Int)) ∧ ¬ (rdP s).1 = 0 ∧ ∃ p, get l (kb 0) = some (.blk 22 [p])))
set_option maxRecDepth 100000 in
set_option maxHeartbeats 4000000 in
theorem qzw (s : Txt) (hs : s.length ≤ 65536) (hr : RdyP s) {o0 o1 o3 : Array Oper} {c2 rest : Code} (hb : Tryz.f15.body = some (.seq (.region 0 o0 false) (.seq (.seq (.region 1 o1 false) c2) (.seq (.region 3 o3 false) rest)))) (c0 : Cx) (Bor : BorD) (hc0 : ∀ i x, c0.own i = some x → i < 2) :
  T Tryz.prog Tryz.f15.ntmps c0 Bor (RQ s c0 Bor) 2 ([(ks 2, some (.pv (.opt 0 0))), (ks 3, some (.pv (.opt 1 0))), (kb 0, some (.blk 22 [.av (.slice none 0 0)])), (kb 1, some (.blk 33 [iv 0, iv 0]))] ++ [((0 : Nat), (sv (st s)))].map fun x => (ks x.1, some (.pv x.2))) [.code rest] := by
 cases hb
 refine qaa ?_
 refine T_r mixed [] [ps 2 (.opt 0 0), ps 3 (.opt 1 0), ps 4 (.opt 18 0), pb 0 22 [(.av (.slice none 0 0))], pb 1 33 [(iv 0), (iv 0)], pb 18 98 [(sv (st s)), (iv 0), (iv 0)]] (oz) ?_
 refine T_wk (Wk.eq (show _ = [ps 2 (.opt 0 0), ps 3 (.opt 1 0), ps 4 (.opt 18 0), pb 0 22 [(.av (.slice none 0 0))], pb 1 33 [(iv 0), (iv 0)], pb 18 98 [(sv (st s)), (nv 0), (iv 0)]] from by rfl)) ?_
 refine qaa <| qan ?_
 refine T_wk (Wk.nilc (B := 22) (cells := [(.av (.slice none 0 0))]) 0 0 44 (by kernel_rfl) rfl) ?_
 refine T_wk (Wk.less (l' := [ps 2 (.opt 0 0), ps 3 (.opt 1 0), ps 4 (.opt 18 0), pb 0 22 [(.osl 34 0 0)], pb 1 33 [(iv 0), (iv 0)], pb 18 98 [(sv (st s)), (nv 0), (iv 0)], pb 34 44 []]) 35 (by kernel_rfl) (by kernel_rfl)) ?_
 refine T_wk (Wk.eq (show _ = [ps 2 (.opt 0 0), ps 3 (.opt 1 0), ps 4 (.opt 18 0), pb 0 22 [(.osl 34 0 (([] : List Vo).length))], pb 1 33 [(iv 0), (iv 0)], pb 18 98 [(sv (st s)), (nv 0), (iv 0)], pb 34 44 (vos ([] : List Vo))] from by rfl)) ?_
 refine qcm (α := {x : List Vo × Nat × Int // x.2.1 ≤ s.length ∧ x.1.length ≤ 64 ∧ rdL s (64 - x.1.length) x.1 x.2.1 x.2.2 = rdP s}) (fun x => [ps 2 (.opt 0 0), ps 3 (.opt 1 0), ps 4 (.opt 2 0), pb 0 22 [(.osl 3 0 x.1.1.length)], pb 1 33 [(iv 0), (iv 0)], pb 2 98 [(sv (st s)), (nv x.1.2.1), (iv x.1.2.2)], pb 3 44 (vos x.1.1)]) (fun x => 64 - x.1.1.length) 4 ⟨([], 0, 0), ⟨Nat.zero_le _, Nat.zero_le _, rfl⟩⟩ (Wk.ren3 [ps 2 (.opt 0 0), ps 3 (.opt 1 0), ps 4 (.opt 2 0), pb 0 22 [(.osl 3 0 ([] : List Vo).length)], pb 1 33 [(iv 0), (iv 0)], pb 2 98 [(sv (st s)), (nv 0), (iv (0 : Int))], pb 3 44 (vos ([] : List Vo))] 2 hc0 [0, 1, 18, 34] [(kb 3, (vos ([] : List Vo)))] (oc (qfb _) (oz)) (by kernel_rfl) rfl rfl (by kernel_rfl) (by kernel_rfl)) ?_
 rintro ⟨⟨l, b, z⟩, ⟨hb, hl1, hg⟩⟩
 dsimp only at hb hl1 hg
 refine qaa <| qaa ?_
 refine T_r mixed [(1, .call [2] [(.opt 0 0)] [some (98, [(sv (st s)), (nv b), (iv z)])] (bv (decide (((gapF s b : Nat) : Int) = ((s.length : Nat) : Int)))) [some (98, [(sv (st s)), (nv (gapF s b)), (iv z)])])] [ps 2 (.opt 0 0), ps 3 (.opt 1 0), ps 4 (.opt 2 0), ps 15 (bv (!(decide (((gapF s b : Nat) : Int) = ((s.length : Nat) : Int))))), pb 0 22 [(.osl 3 0 l.length)], pb 1 33 [(iv 0), (iv 0)], pb 2 98 [(sv (st s)), (nv (gapF s b)), (iv z)], pb 3 44 (vos l)] (oc (qjd s b z hs (by omega)) (oc (rfl : [(.opt 2 0)] = renL (sigi [2] 12) [(.opt 0 0)]) (oc (rfl : [(sv (st s)), (nv b), (iv z)] = renL (sigi [2] 12) [(sv (st s)), (nv b), (iv z)]) oz))) ?_
 by_cases h1 : ((gapF s b : Nat) : Int) = ((s.length : Nat) : Int)
 ·refine T_el (bt h1) ?_
  refine qbu rfl rfl ?_
  refine qaa ?_
  refine T_k mixed [] [.k2, .d, .d, .k2, .d, .r] [] (oz) ?_
  have hR : rdP s = (0, l, 0) := by rw [← hg, qud (by omega), if_pos (by omega)]
  refine T_wk (Wk.frz (l' := [ps 2 (.opt 0 0), ps 3 (.opt 1 0), pb 0 22 [(.ssl (vos l) 0 l.length)], pb 1 33 [(iv 0), (iv 0)], (kb 3, none)]) 3 (T := 44) (cs := (vos l)) (by kernel_rfl) (qfb _) (by kernel_rfl)) ?_
  refine T_wk (Wk.less (l' := [ps 2 (.opt 0 0), ps 3 (.opt 1 0), pb 0 22 [(.ssl (vos l) 0 l.length)], pb 1 33 [(iv 0), (iv 0)]]) 60 (by kernel_rfl) (by kernel_rfl)) ?_
  exact qai fun cx_ a_ hI_ => ⟨_, _, hI_, rfl, rfl, rfl, .inl ⟨rfl, by rw [hR], by rw [hR]; rfl⟩⟩
 refine T_th (bf h1) ?_
 refine qag <| qan <| qaa <| qaa ?_
 have hgl := qcs hb
 refine T_k mixed [] [.k3, .d, .n, .r] [ps 18 (bv (decide (((l.length : Nat) : Int) = 64)))] (oz) ?_
 by_cases h2 : ((l.length : Nat) : Int) = 64
 ·refine T_th (dty h2) ?_
  have hR : rdP s = (5, [], gapF s b) := by rw [← hg, qud (by omega), if_neg (by omega), if_pos (by omega)]
  exact T_rx mixed [(1, .call [2] [(.opt 0 0), (iv 5)] [some (98, [(sv (st s)), (nv (gapF s b)), (iv z)])] (.av (oops 5 ((gapF s b : Nat) : Int))) [none])] [] 1 [ps 2 (.opt 0 0), ps 3 (.opt 1 0), pb 0 22 [(.osl 3 0 l.length)], pb 1 33 [(iv 0), (iv 0)]] (oc (qci s (gapF s b) z 5 : PX Tryz.prog 39 [(.opt 0 0), (iv 5)] [some (98, [(sv (st s)), (nv (gapF s b)), (iv z)])] (oops 5 ((gapF s b : Nat) : Int)) [none]) (oc (rfl : [(.opt 2 0), (iv 5)] = renL (sigi [2] 60) [(.opt 0 0), (iv 5)]) (oc (rfl : [(sv (st s)), (nv (gapF s b)), (iv z)] = renL (sigi [2] 60) [(sv (st s)), (nv (gapF s b)), (iv z)]) oz))) (fun cx_ a_ hI_ => qib (⟨_, _, hI_, rfl, rfl, rfl, .inr ⟨by rw [hR], by rw [hR]; exact (by show ¬ ((5 : Int) = 0); decide), _, rfl⟩⟩))
 refine T_el (dtn h2) ?_
 refine qag ?_
 by_cases h3 : (vcR s (gapF s b) z).1 = 0
 ·refine T_kd mixed [(2, .call [2] [(.opt 0 0)] [some (98, [(sv (st s)), (nv (gapF s b)), (iv z)])] (.agg [(sv (st (((vcR s (gapF s b) z).2.1).1))), (.ssl (brs (((vcR s (gapF s b) z).2.1).2)) 0 ((((vcR s (gapF s b) z).2.1).2).length))]) [some (98, [(sv (st s)), (nv ((vcR s (gapF s b) z).2.2.1)), (iv ((vcR s (gapF s b) z).2.2.2))]), none]), (4, .app none (some (vos (l ++ [(vcR s (gapF s b) z).2.1]))))] [[], [], [1], [1, 2], [0, 1, 2, 3], [0, 1, 2, 3, 4]] [([42], [1, 4]), ([44], [8]), ([46, 5, 137], [5, 44]), ([48, 153], [46]), ([50, 7, 169], [7, 42, 48, 153]), ([1], [1, 4, 50])] [.k3, .d, .d, .n, .k1, .d, .n, .d, .n] [pb 0 22 [(.osl 84 0 (l.length + 1))], pb 2 98 [(sv (st s)), (nv ((vcR s (gapF s b) z).2.2.1)), (iv ((vcR s (gapF s b) z).2.2.2))], pb 84 44 (vos (l ++ [(vcR s (gapF s b) z).2.1]))] (oc (qqg (qtn s hs hr (gapF s b) z (by omega)) h3) (oc (rfl : [(.opt 2 0)] = renL (sigi [2] 68) [(.opt 0 0)]) (oc (rfl : [(sv (st s)), (nv (gapF s b)), (iv z)] = renL (sigi [2] 68) [(sv (st s)), (nv (gapF s b)), (iv z)]) (oc (vos_len _ : ((vos l)).length = l.length * 2) (oc (by omega : (l.length + 1) * 40 ≤ 140737488355328 ∧ l.length + 1 ≤ 9223372036854775807) (oc (vos_snoc l _ : (vos l) ++ [(sv (st (((vcR s (gapF s b) z).2.1).1))), (.ssl (brs (((vcR s (gapF s b) z).2.1).2)) 0 ((((vcR s (gapF s b) z).2.1).2).length))] = (vos (l ++ [(vcR s (gapF s b) z).2.1]))) oz)))))) ?_
  refine qbg ?_
  exact qce ⟨(l ++ [(vcR s (gapF s b) z).2.1], (vcR s (gapF s b) z).2.2.1, (vcR s (gapF s b) z).2.2.2), ⟨(vcR_end (s := s) (a := gapF s b) (qcs hb) h3).2, by simp only [List.length_append, List.length_singleton]; omega, by rw [qud (by omega), if_neg (by omega), if_neg (by omega), if_pos h3] at hg; rw [List.length_append]; exact hg⟩⟩ (Wk.trans (Wk.eq (show _ = [ps 2 (.opt 0 0), ps 3 (.opt 1 0), ps 4 (.opt 2 0), pb 0 22 [(.osl 84 0 ((l ++ [(vcR s (gapF s b) z).2.1]).length))], pb 1 33 [(iv 0), (iv 0)], pb 2 98 [(sv (st s)), (nv ((vcR s (gapF s b) z).2.2.1)), (iv ((vcR s (gapF s b) z).2.2.2))], pb 84 44 (vos (l ++ [(vcR s (gapF s b) z).2.1]))] from by rw [List.length_append]; rfl)) (Wk.ren3 [ps 2 (.opt 0 0), ps 3 (.opt 1 0), ps 4 (.opt 2 0), pb 0 22 [(.osl 3 0 (l ++ [(vcR s (gapF s b) z).2.1]).length)], pb 1 33 [(iv 0), (iv 0)], pb 2 98 [(sv (st s)), (nv ((vcR s (gapF s b) z).2.2.1)), (iv ((vcR s (gapF s b) z).2.2.2))], pb 3 44 (vos (l ++ [(vcR s (gapF s b) z).2.1]))] 2 hc0 [0, 1, 2, 84] [(kb 3, (vos (l ++ [(vcR s (gapF s b) z).2.1])))] (oc (qfb _) (oz)) (by kernel_rfl) rfl rfl (by kernel_rfl) (by kernel_rfl))) (show 64 - (l ++ [(vcR s (gapF s b) z).2.1]).length < 64 - l.length from by simp only [List.length_append, List.length_singleton]; omega)
 have hR : rdP s = ((vcR s (gapF s b) z).1, [], (vcR s (gapF s b) z).2.2.1) := by rw [← hg, qud (by omega), if_neg (by omega), if_neg (by omega), if_neg h3]
 exact T_rx mixed [(2, .call [2] [(.opt 0 0)] [some (98, [(sv (st s)), (nv (gapF s b)), (iv z)])] (.av (oops ((vcR s (gapF s b) z).1) (((vcR s (gapF s b) z).2.2.1 : Nat) : Int))) [none])] [3, 4, 5] 2 [ps 2 (.opt 0 0), ps 3 (.opt 1 0), pb 0 22 [(.osl 3 0 l.length)], pb 1 33 [(iv 0), (iv 0)]] (oc (qog (qtn s hs hr (gapF s b) z (by omega)) h3 : PX Tryz.prog 40 [(.opt 0 0)] [some (98, [(sv (st s)), (nv (gapF s b)), (iv z)])] (oops ((vcR s (gapF s b) z).1) (((vcR s (gapF s b) z).2.2.1 : Nat) : Int)) [none]) (oc (rfl : [(.opt 2 0)] = renL (sigi [2] 68) [(.opt 0 0)]) (oc (rfl : [(sv (st s)), (nv (gapF s b)), (iv z)] = renL (sigi [2] 68) [(sv (st s)), (nv (gapF s b)), (iv z)]) oz))) (fun cx_ a_ hI_ => qib (⟨_, _, hI_, rfl, rfl, rfl, .inr ⟨by rw [hR], by rw [hR]; exact h3, _, rfl⟩⟩))
end Go.Proofs.YtmlnilkbolcknaaGreatDoor.Pm
