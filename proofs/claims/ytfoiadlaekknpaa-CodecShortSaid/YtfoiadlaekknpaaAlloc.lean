/-
  REGIONS THAT DRAW THEIR ORDER, call functions that make memory, and make ONE new variable themselves (an alloc that nothing forces), behind which a forced tail stands: 'x, ok := F(g(a), h(b))' with x in memory. No program in sight.
-/
import Derived.Test.YtfoiadlaekknpaaTail
namespace Go.Proofs.Ytfoiadlaekknpaa
open Go RowKit

section
variable {P : Program} {ops : Array Oper} {md : Region.Mode} {w : World}

/-- Strongly quiet: one value in every world with more in it, and a call leaves more in the very world that it got. -/
def sq (P : Program) (w : World) (o : Oper) (a : Act) (next : Act → Prop) : Prop :=
  ∃ v, (∀ d : Ext w, o.quietAt P a (fun w'' => ∃ d' : Ext d.u, w'' = d'.u) d.u v) ∧ next (a.put o.dst v)
def wpSq (P : Program) (ops : Array Oper) (w : World) (Q : Act → Prop) : List Oper → Act → Prop
  | [], a => Q a
  | o :: rest, a => if Region.wanted o (yielded ops a.tmps) then sq P w o a (wpSq P ops w Q rest) else wpSq P ops w Q rest (a.put o.dst undef)
theorem wpSq_nil {Q : Act → Prop} {a : Act} (h : Q a) : wpSq P ops w Q [] a := h
theorem wpSq_step {Q : Act → Prop} {a : Act} {o : Oper} {rest : List Oper}
    (h : ∀ K : Act → Prop, (∀ a, wpSq P ops w Q rest a → K a) → if Region.wanted o (yielded ops a.tmps) then sq P w o a K else K (a.put o.dst undef)) : wpSq P ops w Q (o :: rest) a :=
  h _ (fun _ h => h)

def sOp (P : Program) (ops : Array Oper) (w : World) (i : Nat) (K : Act → Prop) (a : Act) : Prop :=
  match ops[i]? with
  | none => K a
  | some o => if Region.wanted o (yielded ops a.tmps) then sq P w o a K else K (a.put o.dst undef)

theorem quietAt_mono {o : Oper} {a : Act} {C C' : World → Prop} {w0 : World} {v : Value} (h : ∀ x, C x → C' x) (hq : o.quietAt P a C w0 v) : o.quietAt P a C' w0 v := by
  unfold Oper.quietAt at *
  generalize (execOp a.eval o).run P w0 = r at *
  cases r with
  | ok n w' =>
    cases n <;> simp only [Oper.quietUpon] at hq ⊢
    case value u => exact hq
    case skip => exact hq
    case enter f args => exact ⟨hq.1, hq.2.mono fun _ _ ⟨he, hc⟩ => ⟨he, h _ hc⟩⟩
  | halt x w' => simp only [Oper.quietUpon] at hq

/-- A class that lies among the worlds with more in them and is kept by more. -/
structure Kept (w : World) (C : World → Prop) : Prop where
  sub : ∀ w', C w' → Below w.heap.size w w'
  more : ∀ w' w'', C w' → Below w'.heap.size w' w'' → C w''

theorem sq_quiet {C : World → Prop} (hC : Kept w C) {o : Oper} {a : Act} {K : Act → Prop} (h : sq P w o a K) : o.quiet P a C K := by
  obtain ⟨v, h1, h2⟩ := h
  refine ⟨v, fun w' hw' => ?_, h2⟩
  exact quietAt_mono (fun x ⟨d, hx⟩ => by subst hx; exact hC.more _ _ hw' d.h) (h1 ⟨w', hC.sub _ hw'⟩)

/-- In state 'a' operation 'o' leaves v, whatever more there is. -/
def YieldsS (P : Program) (ops : Array Oper) (w : World) (o : Oper) (v : Value) (a : Act) : Prop :=
  (Region.wanted o (yielded ops a.tmps) = true ∧ ∀ d : Ext w, o.quietAt P a (fun w'' => ∃ d' : Ext d.u, w'' = d'.u) d.u v) ∨
  (Region.wanted o (yielded ops a.tmps) = false ∧ v = undef)
theorem YieldsS.inClass {C : World → Prop} (hC : Kept w C) {o : Oper} {v : Value} {a : Act} (h : YieldsS P ops w o v a) : YieldsIn P ops C o v a :=
  h.imp (fun ⟨hw, h1⟩ => ⟨hw, fun w' hw' => quietAt_mono (fun x ⟨d, hx⟩ => by subst hx; exact hC.more _ _ hw' d.h) (h1 ⟨w', hC.sub _ hw'⟩)⟩) id
theorem YieldsS.of_same {o : Oper} {v : Value} {a a' : Act} (hy : YieldsS P ops w o v a) (he : execOp a'.eval o = execOp a.eval o)
    (hw : Region.wanted o (yielded ops a'.tmps) = Region.wanted o (yielded ops a.tmps)) : YieldsS P ops w o v a' := by
  unfold YieldsS Oper.quietAt at *
  rw [he, hw]
  exact hy
theorem YieldsS.sOp {i : Nat} {o : Oper} {v : Value} {a : Act} (hi : ops[i]? = some o) (hy : YieldsS P ops w o v a) {K : Act → Prop} (h : K (a.put o.dst v)) : sOp P ops w i K a := by
  unfold Go.Proofs.Ytfoiadlaekknpaa.sOp
  simp only [hi]
  rcases hy with ⟨hw, hv⟩ | ⟨hw, rfl⟩
  · simp only [hw, if_true]; exact ⟨v, hv, h⟩
  · simp only [hw, Bool.false_eq_true, if_false]; exact h
theorem yieldsS_of_sOp {i : Nat} {o : Oper} {a : Act} {K : Act → Prop} (hi : ops[i]? = some o) (h : sOp P ops w i K a) : ∃ v, YieldsS P ops w o v a ∧ K (a.put o.dst v) := by
  unfold sOp at h
  simp only [hi] at h
  by_cases hw : Region.wanted o (yielded ops a.tmps) = true
  · simp only [hw, if_true] at h
    obtain ⟨v, h1, h2⟩ := h
    exact ⟨v, .inl ⟨hw, h1⟩, h2⟩
  · simp only [hw] at h
    exact ⟨undef, .inr ⟨by simpa using hw, rfl⟩, h⟩
theorem sOp_mono {i : Nat} {a : Act} {K K' : Act → Prop} (h : ∀ a, K a → K' a) (hh : sOp P ops w i K a) : sOp P ops w i K' a := by
  unfold sOp at *
  split
  · exact h _ (by simpa [*] using hh)
  · rename_i o ho
    simp only [ho] at hh
    split
    · rename_i hw; simp only [hw, if_true] at hh; obtain ⟨v, h1, h2⟩ := hh; exact ⟨v, h1, h _ h2⟩
    · rename_i hw; simp only [hw] at hh; exact h _ hh
theorem sOp_put {j : Nat} {oi oj : Oper} {v : Value} (hj : ops[j]? = some oj) (hap : oi.apart ops oj = true)
    (hsi : ∀ cs b, oi.op ≠ .select cs b) (hsj : ∀ cs b, oj.op ≠ .select cs b) {K : Act → Prop} {a : Act}
    (hy : YieldsS P ops w oi v a) (h : sOp P ops w j K (a.put oi.dst v)) :
    sOp P ops w j (fun a' => YieldsS P ops w oi v a' ∧ K (a'.put oi.dst v)) a := by
  obtain ⟨h1, h2, h3⟩ := Oper.apart_spec hap
  have keep : ∀ (a : Act), YieldsS P ops w oi v a → ∀ u, YieldsS P ops w oi v (a.put oj.dst u) := fun a hy u =>
    hy.of_same (execOp_put oi hsi a oj.dst u h3) (wanted_put oi a oj.dst u h3)
  unfold sOp at *
  simp only [hj] at *
  rw [wanted_put oj a oi.dst v h1] at h
  split
  · rename_i hw
    simp only [hw, if_true] at h
    obtain ⟨u, hu, hn⟩ := h
    refine ⟨u, fun d => ?_, keep a hy u, by rw [← Act.put_comm a v u h2]; exact hn⟩
    have := hu d
    unfold Oper.quietAt at *
    rwa [execOp_put oj hsj a oi.dst v h1] at this
  · rename_i hw
    simp only [hw] at h
    exact ⟨keep a hy _, by rw [← Act.put_comm a v undef h2]; exact h⟩

/-- More than w, and v points to a new variable that holds z. -/
def NewAt (w : World) (z : Array Value) (t : TypeId) (v : Value) (w' : World) : Prop :=
  Below w.heap.size w w' ∧ ∃ b, v = .pointer (some ⟨b, 0, none⟩) ∧ w.heap.size ≤ b ∧ w'.heap[b]? = some (.cells z t (0, 0))
theorem kept_new (z : Array Value) (t : TypeId) (v : Value) : Kept w (NewAt w z t v) :=
  ⟨fun _ h => h.1, fun w' w'' ⟨h1, b, hv, hb, hh⟩ hb' => ⟨h1.trans (hb'.mono h1.size), b, hv, hb, by
    have hlt : b < w'.heap.size := by
      rcases Nat.lt_or_ge b w'.heap.size with h | h
      · exact h
      · rw [Array.getElem?_eq_none h] at hh; cases hh
    rw [hb'.block b hlt]; exact hh⟩⟩

/-- Whatever order is picked; operation ia makes the variable: v. -/
def wpAnyA (P : Program) (md : Region.Mode) (ops : Array Oper) (w : World) (z : Array Value) (t : TypeId) (n ia : Nat) (dst : Option Tmp) (L : Value → Array Bool → Act → Prop) : Nat → Array Bool → Act → Prop
  | 0, _, _ => False
  | f + 1, listed, a => Region.ready md ops listed ≠ [] ∧ ∀ i ∈ Region.ready md ops listed, i < n ∧
      ((i = ia → ∀ v, wpAnyC P md ops (NewAt w z t v) n (L v) f (listed.setIfInBounds ia true) (a.put dst v)) ∧
       (i ≠ ia → sOp P ops w i (wpAnyA P md ops w z t n ia dst L f (listed.setIfInBounds i true)) a))

theorem wpAnyA_first {z : Array Value} {t : TypeId} {n i ia : Nat} {oi oa : Oper} {v : Value} {L : Value → Array Bool → Act → Prop} (hi : ops[i]? = some oi) (hoa : ops[ia]? = some oa) (hsel : ∀ (j : Nat) (o : Oper) cs b, ops[j]? = some o → o.op ≠ .select cs b)
    (hs : Region.sinkB md ops n = true) (hc : Region.chainB md ops n = true) (hn : n < ops.size) (hin : i < n) (hia : i ≠ ia)
    (hdone : ∀ v listed a, L v listed a → ∀ j ∈ Region.ready md ops listed, n ≤ j) :
    ∀ (f : Nat) (listed : Array Bool) (a : Act), HeadInv md ops n listed →
      (∀ j oj, ops[j]? = some oj → j ≠ i → listed.getD j true = false → (∀ e ∈ oj.after, Region.binds md e = true → e.on ≠ i) → oi.apart ops oj = true) →
      i ∈ Region.ready md ops listed → YieldsS P ops w oi v a →
      wpAnyA P md ops w z t n ia oa.dst L f (listed.setIfInBounds i true) (a.put oi.dst v) → wpAnyA P md ops w z t n ia oa.dst L (f + 1) listed a := by
  intro f
  induction f with
  | zero => intro listed a _ _ _ _ H; exact H.elim
  | succ f ih =>
    intro listed a inv hfree hr hy H
    have hun := (mem_ready.1 hr).1
    refine ⟨fun h => (by rw [h] at hr; cases hr), fun j hj => ?_⟩
    have hjn : j < n := by
      rcases Nat.lt_or_ge j n with h | h
      · exact h
      · exact absurd hj (tail_waits hs hc hn inv _ i rfl hin hun j h)
    refine ⟨hjn, fun hja => ?_, fun hja => ?_⟩
    · subst hja
      have hji : j ≠ i := fun h => hia h.symm
      have h1 := (H.2 j (ready_mono hj hji)).2.1 rfl
      obtain ⟨hjun, oj, hoj, hall⟩ := mem_ready.1 hj
      have hnot : ∀ e ∈ oj.after, Region.binds md e = true → e.on ≠ i := fun e he hb heq => by
        have h1 := hall e he hb
        rw [heq, getD_both hun] at h1
        cases h1
      have hap := hfree j oj hoj hji hjun hnot
      have hooj : oj = oa := Option.some.inj (hoj.symm.trans hoa)
      subst hooj
      obtain ⟨h1a, h2a, h3a⟩ := Oper.apart_spec hap
      intro u
      have hfree' : ∀ k ok, ops[k]? = some ok → k ≠ i → (listed.setIfInBounds j true).getD k true = false →
          (∀ e ∈ ok.after, Region.binds md e = true → e.on ≠ i) → oi.apart ops ok = true := fun k ok hk hki hun hno => by
        refine hfree k ok hk hki ?_ hno
        by_cases hjk : j = k
        · subst hjk; exact hjun
        · rw [getD_set_ne true hjk] at hun; exact hun
      have hy' : YieldsS P ops w oi v (a.put oj.dst u) := hy.of_same (execOp_put oi (fun cs b => hsel i oi cs b hi) a oj.dst u h3a) (wanted_put oi a oj.dst u h3a)
      refine wpAnyC_first hi hsel hs hc hn hin (hdone u) f (listed.setIfInBounds j true) (a.put oj.dst u) (inv.set hj hjn) hfree' (ready_mono hr (Ne.symm hji)) (hy'.inClass (kept_new z t u)) ?_
      have h4 := h1 u
      rw [Array.setIfInBounds_comm _ _ hji, ← Act.put_comm a v u h2a]
      exact h4
    · by_cases hji : j = i
      · subst hji; exact hy.sOp hi H
      · have h1 := (H.2 j (ready_mono hj hji)).2.2 hja
        obtain ⟨hjun, oj, hoj, hall⟩ := mem_ready.1 hj
        have hnot : ∀ e ∈ oj.after, Region.binds md e = true → e.on ≠ i := fun e he hb heq => by
          have h1 := hall e he hb
          rw [heq, getD_both hun] at h1
          cases h1
        have h2 := sOp_put hoj (hfree j oj hoj hji hjun hnot) (fun cs b => hsel i oi cs b hi) (fun cs b => hsel j oj cs b hoj) hy h1
        have hfree' : ∀ k ok, ops[k]? = some ok → k ≠ i → (listed.setIfInBounds j true).getD k true = false →
            (∀ e ∈ ok.after, Region.binds md e = true → e.on ≠ i) → oi.apart ops ok = true := fun k ok hk hki hun hno => by
          refine hfree k ok hk hki ?_ hno
          by_cases hjk : j = k
          · subst hjk; exact hjun
          · rw [getD_set_ne true hjk] at hun; exact hun
        refine sOp_mono (fun a' h3 => ih (listed.setIfInBounds j true) a' (inv.set hj hjn) hfree' (ready_mono hr (Ne.symm hji)) h3.1 ?_) h2
        rw [Array.setIfInBounds_comm _ _ hji]
        exact h3.2

theorem kept_below (w : World) : Kept w (fun w' => Below w.heap.size w w') := ⟨fun _ h => h, fun _ _ h1 h2 => h1.trans (h2.mono h1.size)⟩
theorem sOp_qOp {C : World → Prop} (hC : Kept w C) {i : Nat} {a : Act} {K : Act → Prop} (h : sOp P ops w i K a) : qOp P ops C i K a := by
  unfold sOp at h
  unfold qOp
  split
  · rename_i ho; simp only [ho] at h; exact h
  · rename_i o ho
    simp only [ho] at h
    split
    · rename_i hw; simp only [hw, if_true] at h; exact sq_quiet hC h
    · rename_i hw; simp only [hw] at h; exact h

theorem wpAny_of_headA {z : Array Value} {t : TypeId} {n ia g : Nat} {oa : Oper} (hoa : ops[ia]? = some oa) (hgd : oa.guard = none) {L : Value → Array Bool → Act → Prop} {Q' : Exit → Act → World → Prop}
    (hal : ∀ (a : Act) (w' : World), (execOp a.eval oa).run P w' = .ok (.value (.pointer (some ⟨w'.heap.size, 0, none⟩))) (w'.alloc (.cells z t)))
    (hL : ∀ v listed a w', NewAt w z t v w' → L v listed a → wpAny P md ops Q' g listed a w') :
    ∀ (f : Nat) (listed : Array Bool) (a : Act) (w' : World), Below w.heap.size w w' → wpAnyA P md ops w z t n ia oa.dst L f listed a → wpAny P md ops Q' (f + g) listed a w'
  | 0, _, _, _, _, h => h.elim
  | f + 1, listed, a, w', hw, h => by
    rw [show f + 1 + g = (f + g) + 1 by omega]
    refine ⟨fun h0 => absurd h0 h.1, fun i hi => ?_⟩
    obtain ⟨_, h1, h2⟩ := h.2 i hi
    by_cases hia : i = ia
    · subst hia
      have h3 := h1 rfl (.pointer (some ⟨w'.heap.size, 0, none⟩))
      have hnew : NewAt w z t (.pointer (some ⟨w'.heap.size, 0, none⟩)) (w'.alloc (.cells z t)) :=
        ⟨hw.alloc hw.size _, w'.heap.size, rfl, hw.size, by show (w'.heap.push _)[w'.heap.size]? = _; simp⟩
      unfold wpOp
      simp only [hoa]
      rw [if_pos (by simp [Region.wanted, hgd])]
      left
      unfold Oper.wp
      rw [hal a w']
      exact wpAny_of_headC (fun listed' a' w'' hw'' hL' => hL _ listed' a' w'' hw'' hL') f _ _ _ hnew h3
    · exact wpOp_of_qOp hw (fun a' w'' hw'' h' => wpAny_of_headA hoa hgd hal hL f _ a' w'' hw'' h') (sOp_qOp (kept_below w) (h2 hia))

theorem wpAnyA_lex {z : Array Value} {t : TypeId} {n ia g : Nat} {oa : Oper} (hoa : ops[ia]? = some oa) (hia : n = ia + 1) {Lq : Value → Act → Prop} (hsel : Region.noSelect ops = true) (hs : Region.sinkB md ops n = true) (hc : Region.chainB md ops n = true) (hn : n < ops.size) :
    ∀ (l : List Oper) (k : Nat) (listed : Array Bool) (a : Act), (∀ j, j < l.length → l[j]? = ops[k + j]?) → k + l.length = ia → (∀ j, j < k → listed.getD j true = true) → HeadInv md ops n listed →
    Region.lexHead md ops g (l.length + 1) k listed = true → wpSq P ops w (fun a' => ∀ v, Lq v (a'.put oa.dst v)) l a →
    wpAnyA P md ops w z t n ia oa.dst (fun v listed' a' => Region.seqB md ops g n listed' = true ∧ Lq v a') (l.length + 1) listed a
  | [], k, listed, a, _, hk, hdone, inv, hB, h => by
    have hk' : k = ia := by simpa using hk
    subst hk'
    simp only [List.length_nil, Region.lexHead, Bool.and_eq_true] at hB
    obtain ⟨⟨hr, _⟩, hB'⟩ := hB
    have hr' : k ∈ Region.ready md ops listed := by simpa using hr
    have hun := (mem_ready.1 hr').1
    refine ⟨fun h => (by rw [h] at hr'; cases hr'), fun j hj => ?_⟩
    have hjn : j < n := by
      rcases Nat.lt_or_ge j n with h | h
      · exact h
      · exact absurd hj (tail_waits hs hc hn inv _ k rfl (by omega) hun j h)
    refine ⟨hjn, fun _ v => ⟨by rw [hia]; exact hB', h v⟩, fun hne => ?_⟩
    have hjun := (mem_ready.1 hj).1
    rw [hdone j (by omega)] at hjun
    cases hjun
  | o :: l, k, listed, a, hl, hk, hdone, inv, hB, h => by
    have h0 : ops[k]? = some o := by simpa using (hl 0 (by simp)).symm
    rw [List.length_cons] at hB ⊢
    simp only [Region.lexHead, Bool.and_eq_true] at hB
    obtain ⟨⟨hr, hf⟩, hB'⟩ := hB
    have hkn : k < n := by simp only [List.length_cons] at hk; omega
    have hka : k ≠ ia := by simp only [List.length_cons] at hk; omega
    have hr' : k ∈ Region.ready md ops listed := by simpa using hr
    have hst : sOp P ops w k (wpSq P ops w (fun a' => ∀ v, Lq v (a'.put oa.dst v)) l) a := by unfold sOp; simp only [h0]; exact h
    obtain ⟨v, hy, hK⟩ := yieldsS_of_sOp h0 hst
    refine wpAnyA_first h0 hoa (Region.noSelect_spec hsel) hs hc hn hkn hka (fun v listed' a' hL => seqB_ready hL.1) (l.length + 1) listed a inv (Region.free_spec h0 hf) hr' hy ?_
    refine wpAnyA_lex hoa hia hsel hs hc hn l (k + 1) _ _ (fun j hj => by have := hl (j + 1) (by simp; omega); simpa [Nat.add_assoc, Nat.add_comm 1 j] using this) (by simp only [List.length_cons] at hk; omega) (fun j hj => ?_) (inv.set hr' hkn) (by simp only [Region.lexHead, Bool.and_eq_true]; exact hB') hK
    rcases Nat.lt_or_ge j k with h | h
    · rw [getD_set_ne true (by omega)]; exact hdone j h
    · have : j = k := by omega
      subst this
      rcases Nat.lt_or_ge j listed.size with h' | h'
      · simp [h']
      · simp

theorem wpSq_mono {Q Q' : Act → Prop} (h : ∀ a, Q a → Q' a) : ∀ (l : List Oper) (a : Act), wpSq P ops w Q l a → wpSq P ops w Q' l a
  | [], a, hh => h a hh
  | o :: l, a, hh => by
    unfold wpSq at *
    split
    · rename_i hw
      rw [if_pos hw] at hh
      obtain ⟨v, h1, h2⟩ := hh
      exact ⟨v, h1, wpSq_mono h l _ h2⟩
    · rename_i hw
      rw [if_neg hw] at hh
      exact wpSq_mono h l _ hh

/-- THE FIRST ia OPERATIONS QUIET (whatever more there is), OPERATION ia A NEW VARIABLE THAT NOTHING FORCES, THE REST FORCED: one walk. -/
theorem wp_region_ext_alloc {id : Nat} {Q : Exit → Act → World → Prop} {a : Act} {l : List Oper} {oa : Oper} (ia : Nat) (z : Array Value) (t : TypeId)
    (hm : P.follows .mixedOrders = true) (hB : Region.lexTailB .any l.toArray (ia + 1) = true) (hoa : l[ia]? = some oa) (hgd : oa.guard = none)
    (hal : ∀ (a : Act) (w' : World), (execOp a.eval oa).run P w' = .ok (.value (.pointer (some ⟨w'.heap.size, 0, none⟩))) (w'.alloc (.cells z t)))
    (h : wpSq P l.toArray w (fun a' => ∀ v w', NewAt w z t v w' → wpList P l.toArray Q (l.drop (ia + 1)) (a'.put oa.dst v) w') (l.take ia) a) :
    (Code.region id l.toArray true).wp P Q a w := by
  simp only [Region.lexTailB, Bool.and_eq_true, decide_eq_true_eq] at hB
  obtain ⟨⟨⟨⟨hsel, hn⟩, hs⟩, hc⟩, hlex⟩ := hB
  have hn' : ia + 1 < l.length := by simpa using hn
  have htl : (l.take ia).length = ia := by simp; omega
  have hdl : (l.drop (ia + 1)).length = l.toArray.size - (ia + 1) := by simp
  have inv0 : HeadInv .any l.toArray (ia + 1) (Array.replicate l.toArray.size false) :=
    ⟨by simp, fun j oj _ hl => (by rw [getD_replicate_false] at hl; cases hl), fun t _ ht => getD_in (by simpa using ht) (getD_replicate_false _ _)⟩
  have hC : Below w.heap.size w { w with drawn := w.drawn + 1 } := ⟨rfl, rfl, rfl, Nat.le_refl _, fun _ _ => rfl⟩
  have H := wpAnyA_lex (P := P) (w := w) (z := z) (t := t) (md := .any) (g := l.toArray.size - (ia + 1)) (oa := oa)
    (Lq := fun v a' => ∀ w', NewAt w z t v w' → wpList P l.toArray Q (l.drop (ia + 1)) a' w') (by simpa using hoa) rfl hsel hs hc hn (l.take ia) 0 (Array.replicate l.toArray.size false) a (fun j hj => by
      have hj' : j < ia := by rw [htl] at hj; exact hj
      simp [hj']) (by simpa using htl) (fun j hj => absurd hj (by omega)) inv0 (by rw [htl]; exact hlex) (wpSq_mono (fun a' h v w' hw' => h v w' hw') _ _ h)
  refine wp_region_any hm ?_
  have := wpAny_of_headA (P := P) (w := w) (z := z) (t := t) (Q' := Q) (g := l.toArray.size - (ia + 1)) (oa := oa) (by simpa using hoa) hgd hal (fun v listed a' w' hw' hL => by
    have := wpAny_of_seq (md := .any) (Q' := Q) (l.drop (ia + 1)) (ia + 1) listed a' w' (fun j => by simp [List.getElem?_drop]) (by rw [hdl]; exact hL.1) (hL.2 w' hw')
    rwa [hdl] at this) _ _ _ _ hC H
  rw [htl, show ia + 1 + (l.toArray.size - (ia + 1)) = l.toArray.size by omega] at this
  exact this

/-- A call in such a region, by the callee's contract. -/
theorem sq_call {f : FuncId} {args : Array Value} {d : Ext w} {v : Value} (h : Calls P f args d.u fun e w' => e = .returned v ∧ RowKit.Below d.u.heap.size d.u w') :
    Calls P f args d.u fun e w'' => e = .returned v ∧ ∃ d' : Ext d.u, w'' = d'.u :=
  h.mono fun _ w' ⟨he, hb⟩ => ⟨he, ⟨w', hb⟩, rfl⟩
theorem sq_same {f : FuncId} {args : Array Value} {d : Ext w} {v : Value} (h : Calls P f args d.u fun e w' => e = .returned v ∧ d.u = w') :
    Calls P f args d.u fun e w'' => e = .returned v ∧ ∃ d' : Ext d.u, w'' = d'.u :=
  h.mono fun _ _ ⟨he, hb⟩ => ⟨he, ⟨d.u, Below.refl _ _⟩, hb.symm⟩
theorem new_cell {w' : World} {b : Nat} {z : Array Value} {t : TypeId} (h : w'.heap[b]? = some (.cells z t (0, 0))) (i : Nat) (v : Value) (hi : z[i]? = some v) :
    w'.cell? ⟨b, i, none⟩ = some v := by
  simp [World.cell?, h, hi]
theorem new_free {w' : World} {b : Nat} {z : Array Value} {t : TypeId} (h : w'.heap[b]? = some (.cells z t (0, 0))) (i : Nat) :
    w'.frozen? ⟨b, i, none⟩ = false := by
  simp [World.frozen?, h]
end
end Go.Proofs.Ytfoiadlaekknpaa
