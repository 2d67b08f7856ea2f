/-
  THE VALUE MACHINE (L): regions reckoned; the rules of a walk by values. No program in sight.
-/
import Derived.Test.YtgkahjaoajjgcaaPmV
namespace Go.Proofs.Ytgkahjaoajjgcaa.Pm
open Go

def aFunc (fn : Fn) (first cap : List Operand) : Plan := opdl first fun ps => opdl cap fun qs => .done (.fn fn ps qs) []
theorem aFunc_ok {E : Env} {o : Oper} {id : Nat} {fn : Fn} {xs ys : Array Operand} (ho : o.op = .makeFunc fn xs ys) (hd : ∀ x, o.dst = some x → x < E.n) : ActOk E o id (aFunc fn xs.toList ys.toList) := by
  intro g p wb h nx c a K Q hn hI hK
  obtain ⟨ps, hps, h1⟩ := Res.opdl hI h
  obtain ⟨qs, hqs, h2⟩ := Res.opdl hI h1
  obtain ⟨rfl, rfl⟩ := Res.done h2
  have e : ∀ zs : Array Operand, (zs.toList.map a.eval).toArray = zs.map a.eval := fun zs => by apply Array.ext'; simp
  rw [e] at hps hqs
  exact pure_step hd hI hK (.fn hps.1 hps.2 hqs.1 hqs.2) (by simp [execOp, ho, Instr.makeFunc])
def aMax (mx : Bool) (x y : Operand) : Plan := opd x fun p => opd y fun q => match p, q with
  | .av (.int k a), .av (.int _ b) => .done (.av (.int k (match mx with | true => max a b | false => min a b))) []
  | _, _ => .fail
theorem aMax_ok {E : Env} {o : Oper} {id : Nat} {x y : Operand} {ts : Array TypeId} (ho : o.op = .call { callee := .builtin .max, args := #[x, y], argTypes := ts }) (hd : ∀ x, o.dst = some x → x < E.n) : ActOk E o id (aMax true x y) := by
  intro g p wb h nx c a K Q hn hI hK
  obtain ⟨q1, hq1, h1⟩ := Res.opd hI h
  obtain ⟨q2, hq2, h2⟩ := Res.opd hI h1
  split at h2
  · rename_i k m k2 n
    obtain ⟨rfl, rfl⟩ := Res.done h2
    refine pure_step hd hI hK (.sh (.av _)) ?_
    have e : max m n = if n > m then n else m := by split <;> omega
    simp [execOp, ho, resolve, invoke, builtin, rep_av hq1, rep_av hq2, Builtin.max_, Builtin.max2, e]
  · exact (Res.fail h2).elim
theorem aMin_ok {E : Env} {o : Oper} {id : Nat} {x y : Operand} {ts : Array TypeId} (ho : o.op = .call { callee := .builtin .min, args := #[x, y], argTypes := ts }) (hd : ∀ x, o.dst = some x → x < E.n) : ActOk E o id (aMax false x y) := by
  intro g p wb h nx c a K Q hn hI hK
  obtain ⟨q1, hq1, h1⟩ := Res.opd hI h
  obtain ⟨q2, hq2, h2⟩ := Res.opd hI h1
  split at h2
  · rename_i k m k2 n
    obtain ⟨rfl, rfl⟩ := Res.done h2
    refine pure_step hd hI hK (.sh (.av _)) ?_
    have e : min m n = if n < m then n else m := by split <;> omega
    simp [execOp, ho, resolve, invoke, builtin, rep_av hq1, rep_av hq2, Builtin.min_, Builtin.min2, e]
  · exact (Res.fail h2).elim

def plan (P : Program) (o : Oper) (an : Ans) (id : Nat) : Plan := match o.op with
  | .move x => aMove x
  | .assign x => aMove x
  | .pick c x y => aPick c x y an
  | .alloc T => aAlloc P T id
  | .box T x => aBox T x id
  | .build T ps => aBuild P T ps.toList
  | .buildSlice T n ps => aBuildSlice P T n ps.toList id
  | .load T x => aLoad P T x an
  | .store T x y => aStore P T x y an
  | .nilCheck x => aNilCheck x
  | .binOp op T x y _ => match P.underlying T with
    | some (.struct _) => match op with | .eql => aEqS P false T x y | .neq => aEqS P true T x y | _ => .fail
    | some (.pointer e) => match op with | .eql => aEqP (some (.pointer e)) false x y | .neq => aEqP (some (.pointer e)) true x y | _ => .fail
    | u => aBin op T x y u an
  | .unOp op _ x => aUn op x an
  | .convert s d x => aConv (P.underlying s) (P.underlying d) x an
  | .makeFunc fn xs ys => aFunc fn xs.toList ys.toList
  | .makeSlice T l c => aMake P T l c an id
  | .slice T x lo hi mx => aSlice P T x lo hi mx an
  | .fieldAddr T x f => aFieldAddr P T x f
  | .field T x f => aField P T x f
  | .indexAddr T x i => aIndexAddr P T x i an
  | .index T x i => aIndex P T x i
  | .extract t i => aExtract t i
  | .call { callee := .builtin .len, args := ⟨[x]⟩, argTypes := ⟨T :: _⟩ } => aLen (P.underlying T) x
  | .call { callee := .builtin .append, args := ⟨[x, y]⟩, argTypes := ⟨[T, U]⟩ } => aAppend P T (P.underlying U) x y an id
  | .call { callee := .builtin .copy, args := ⟨[x, y]⟩, argTypes := ⟨[T, U]⟩ } => aCopy P T (P.underlying U) x y an
  | .call { callee := .builtin .max, args := ⟨[x, y]⟩, .. } => aMax true x y
  | .call { callee := .builtin .min, args := ⟨[x, y]⟩, .. } => aMax false x y
  | .call { callee := .builtin .max, args := ⟨[x, y, z]⟩, .. } => aMax3 true x y z
  | .call { callee := .builtin .min, args := ⟨[x, y, z]⟩, .. } => aMax3 false x y z
  | .call { callee := .value f, args, .. } => aCall P f args.toList an id
  | _ => .fail
theorem plan_ok {E : Env} {o : Oper} {id : Nat} {an : Ans} (hd : ∀ x, o.dst = some x → x < E.n) : ActOk E o id (plan E.P o an id) := by
  unfold plan
  split <;> rename_i ho
  · exact aMove_ok (.inl ho) hd
  · exact aMove_ok (.inr ho) hd
  · exact aPick_ok ho hd
  · exact aAlloc_ok ho hd
  · exact aBox_ok ho hd
  · exact aBuild_ok ho hd
  · exact aBuildSlice_ok ho hd
  · exact aLoad_ok ho hd
  · exact aStore_ok ho hd
  · exact aNilCheck_ok ho hd
  · split
    · split
      · exact aEqS_ok (ng := false) ho hd
      · exact aEqS_ok (ng := true) ho hd
      · exact fun g p wb h => (Res.fail h).elim
    · rename_i hu
      rw [← hu]
      split
      · exact aEqP_ok (ng := false) ho hd
      · exact aEqP_ok (ng := true) ho hd
      · exact fun g p wb h => (Res.fail h).elim
    · exact aBin_ok ho hd
  · exact aUn_ok ho hd
  · exact aConv_ok ho hd
  · exact aFunc_ok ho hd
  · exact aMake_ok ho hd
  · exact aSlice_ok ho hd
  · exact aFieldAddr_ok ho hd
  · exact aField_ok ho hd
  · exact aIndexAddr_ok ho hd
  · exact aIndex_ok ho hd
  · exact aExtract_ok ho hd
  · exact aLen_ok ho (by simp) hd
  · exact aAppend_ok ho hd
  · exact aCopy_ok ho hd
  · exact aMax_ok ho hd
  · exact aMin_ok ho hd
  · exact aMax3_ok ho hd
  · exact aMin3_ok ho hd
  · exact aCall_ok ho hd
  · exact fun g p wb h => (Res.fail h).elim

/-- A guarded operation: the answer tells whether its guard holds. -/
def gplan (P : Program) (ops : List Oper) (o : Oper) (an : Ans) (id : Nat) : Plan := match o.guard with
  | none => plan P o an id
  | some (j, want) => match (ops[j]?).bind (·.dst) with
    | some d => .look (ks d) fun v => match v, an with
      | .pv (.av (.bool t)), .gd b an' => .ob (t = b) (match b == want with | true => plan P o an' id | false => .done P0 [])
      | .pv (.av (.tuple _)), _ => .done P0 []
      | _, _ => .fail
    | none => .fail
theorem gplan_ok {E : Env} {l : List Oper} {i : Nat} {o : Oper} {id : Nat} {an : Ans} (ho : l[i]? = some o) (hd : ∀ x, o.dst = some x → x < E.n) {g : St} {out : Out} (hr : run g (gplan E.P l o an id) = some out) (hob : ∀ p ∈ out.obs, p) :
    StepOk E l.toArray i o out id g := by
  intro nx c a K Q hn hI hK
  have hres : Res g (gplan E.P l o an id) out.pv out.wb := ⟨out, hr, rfl, rfl, hob⟩
  have ho' : l.toArray[i]? = some o := by simpa using ho
  have hK' : ∀ c' a', Inv E (fun j => nx j ∨ (id ≤ j ∧ j < id + 8)) c' (over (wd o.dst out.pv) (over out.wb g)) a' → K a' c'.w := fun c' a' h => hK c' a' (by rw [wr, over_append]; exact h)
  unfold wpOp
  simp only [ho']
  unfold gplan at hres
  split at hres
  · rename_i hg
    rw [if_pos (by simp [Region.wanted, hg])]
    exact .inl (plan_ok hd g _ _ hres nx c a K Q hn hI hK')
  · rename_i j want hg
    split at hres
    · rename_i d hj
      obtain ⟨v, hv, h1⟩ := Res.look hres
      split at h1
      · rename_i t b an'
        obtain ⟨rfl, h2⟩ := Res.ob h1
        have h3 := rep_av (hI.slot d _ hv)
        have h4 : a.tmps[d]? = some (.bool t) := by
          rw [Array.getD_eq_getD_getElem?] at h3
          cases hx : a.tmps[d]? with
          | none => rw [hx] at h3; cases h3
          | some x => rw [hx] at h3; simp only [Option.getD_some] at h3; rw [h3]
        have hy : yielded l.toArray a.tmps j = some t := by
          unfold yielded
          have hj' : (l.toArray[j]?).bind (·.dst) = some d := by simpa using hj
          rw [hj']
          simp [h4]
        have hw : Region.wanted o (yielded l.toArray a.tmps) = (t == want) := by
          unfold Region.wanted
          simp only [hg, hy]
          cases t <;> cases want <;> rfl
        split at h2
        · rename_i hbw
          rw [if_pos (by rw [hw]; exact hbw)]
          exact .inl (plan_ok hd g _ _ h2 nx c a K Q hn hI hK')
        · rename_i hbw
          obtain ⟨h5, h6⟩ := Res.done h2
          rw [if_neg (by rw [hw]; simp [hbw])]
          have := hI.pure (nx' := fun j => nx j ∨ (id ≤ j ∧ j < id + 8)) (fun _ h => .inl h) o.dst hd (p := out.pv) (v := undef) fun _ => by rw [h5]; exact .sh (.av _)
          refine hK' c _ ?_
          rw [h6]
          exact this
      · rename_i us _
        obtain ⟨h5, h6⟩ := Res.done h1
        have h3 := rep_av (hI.slot d _ hv)
        have hy : yielded l.toArray a.tmps j = none := by
          unfold yielded
          have hj' : (l.toArray[j]?).bind (·.dst) = some d := by simpa using hj
          rw [hj']
          cases hx : a.tmps[d]? with
          | none => simp [hx]
          | some x =>
            rw [Array.getD_eq_getD_getElem?, hx] at h3
            simp only [Option.getD_some] at h3
            subst h3
            simp [hx]
        have hw : Region.wanted o (yielded l.toArray a.tmps) = false := by
          unfold Region.wanted
          simp only [hg, hy]
          rfl
        rw [if_neg (by rw [hw]; decide)]
        have := hI.pure (nx' := fun j => nx j ∨ (id ≤ j ∧ j < id + 8)) (fun _ h => .inl h) o.dst hd (p := out.pv) (v := undef) fun _ => by rw [h5]; exact .sh (.av _)
        refine hK' c _ ?_
        rw [h6]
        exact this
      · exact (Res.fail h1).elim
    · exact (Res.fail hres).elim

/-! ### a region reckoned -/
def ansAt (ans : List (Nat × Ans)) (i : Nat) : Ans := match lk i ans with | some a => a | none => .no
def dstOk (n : Nat) (o : Oper) : Bool := match o.dst with | some d => Nat.blt d n | none => true
def evs (P : Program) (n : Nat) (ops : List Oper) (n0 : Nat) (ans : List (Nat × Ans)) : List Oper → Nat → L → Option (L × List Prop × List Out)
  | [], _, l => some (l, [], [])
  | o :: r, i, l => match run (get l) (gplan P ops o (ansAt ans i) (n0 + 8 * i)), dstOk n o with
    | some out, true => match evs P n ops n0 ans r (i + 1) (wr o.dst out ++ l) with
      | some (l', obs, outs) => some (l', out.obs ++ obs, out :: outs)
      | none => none
    | _, _ => none
def out0 : Out := ⟨P0, [], [], []⟩
theorem evs_spec {P : Program} {n : Nat} {ops : List Oper} {n0 : Nat} {ans : List (Nat × Ans)} {g0 : St} {tab : Nat → Out} : ∀ {r : List Oper} {i : Nat} {l l' : L} {obs : List Prop} {outs : List Out}, evs P n ops n0 ans r i l = some (l', obs, outs) →
    ops.drop i = r → (∀ j, j < r.length → outs.getD j out0 = tab (i + j)) → get l = fold g0 (Wt ops.toArray tab) (fun j => decide (j < i)) ops.length →
    outs.length = r.length ∧ get l' = fold g0 (Wt ops.toArray tab) (fun _ => true) ops.length ∧
      ∀ j o, i ≤ j → ops[j]? = some o → run (fold g0 (Wt ops.toArray tab) (fun k => decide (k < j)) ops.length) (gplan P ops o (ansAt ans j) (n0 + 8 * j)) = some (tab j) ∧ (∀ p ∈ (tab j).obs, p ∈ obs) ∧ ∀ x, o.dst = some x → x < n
  | [], i, l, l', obs, outs, h, hd, ht, hg => by
    simp only [evs, Option.some.injEq, Prod.mk.injEq] at h
    obtain ⟨rfl, rfl, rfl⟩ := h
    have hi : ops.length ≤ i := by simpa using hd
    refine ⟨rfl, ?_, fun j o hj ho => ?_⟩
    · rw [hg]
      funext k
      exact fold_congr fun j hj _ => by simp; omega
    · rw [List.getElem?_eq_none (by omega)] at ho; cases ho
  | o :: r, i, l, l', obs, outs, h, hd, ht, hg => by
    simp only [evs] at h
    split at h
    case h_2 => cases h
    rename_i out hout hdst
    split at h
    case h_2 => cases h
    rename_i l1 obs1 outs1 he
    simp only [Option.some.injEq, Prod.mk.injEq] at h
    obtain ⟨rfl, rfl, rfl⟩ := h
    have hlt : i < ops.length := by
      rcases Nat.lt_or_ge i ops.length with h1 | h1
      · exact h1
      · rw [List.drop_eq_nil_of_le h1] at hd; cases hd
    have hoi : ops[i]? = some o := by
      have := List.getElem?_drop (xs := ops) (i := i) (j := 0)
      rw [hd] at this
      simpa using this.symm
    have hdr : ops.drop (i + 1) = r := by
      have := List.drop_drop (i := 1) (j := i) (l := ops)
      rw [hd] at this
      simpa [Nat.add_comm] using this.symm
    have htab : tab i = out := by
      have := ht 0 (by simp)
      simpa using this.symm
    have hW : Wt ops.toArray tab i = wr o.dst out := by simp [Wt, hoi, htab]
    have hnext : get (wr o.dst out ++ l) = fold g0 (Wt ops.toArray tab) (fun j => decide (j < i + 1)) ops.length := by
      rw [get_append, hg]
      have e : (fun j => decide (j < i + 1)) = addP (fun j => decide (j < i)) i := by
        funext j
        unfold addP
        by_cases e : j = i
        · subst e; simp
        · simp [e]; omega
      rw [e, fold_add (by simp) hlt fun j x h1 h2 h3 => by simp at h3; omega, hW]
    obtain ⟨h1, h2, h3⟩ := evs_spec he hdr (fun j hj => by
      have := ht (j + 1) (by simp; omega)
      rw [show i + (j + 1) = i + 1 + j by omega] at this
      simpa using this) hnext
    refine ⟨by simp [h1], h2, fun j o' hj ho' => ?_⟩
    by_cases e : j = i
    · subst e
      rw [hoi] at ho'
      cases ho'
      rw [← hg, htab]
      refine ⟨hout, fun p hp => by simp [hp], fun x hx => ?_⟩
      unfold dstOk at hdst
      rw [hx] at hdst
      simpa [Nat.blt_eq] using hdst
    · obtain ⟨h4, h5, h6⟩ := h3 j o' (by omega) ho'
      exact ⟨h4, fun p hp => by simp [h5 p hp], h6⟩
/-- The region's outcome: what is still spoken of behind it; the obligations. -/
def evr (P : Program) (n : Nat) (ops : List Oper) (n0 : Nat) (ans : List (Nat × Ans)) (draw : Bool) (live : List Nat) (l : L) : Option (L × List Prop) :=
  match evs P n ops n0 ans ops 0 l with
  | some (l', obs, outs) => match draw with
    | false => some (live.map fun k => (k, get l' k), obs)
    | true => match befB ops (befs ops), apartB (Wt ops.toArray fun i => outs.getD i out0) (fun i => (outs.getD i out0).reads) (befs ops) ops.length with
      | true, true => some (live.map fun k => (k, get l' k), obs)
      | _, _ => none
  | none => none
theorem Inv.less {E : Env} {nx : Nat → Prop} {c : Cx} {g g' : St} {a : Act} (h : Inv E nx c g a) (hs : ∀ k v, g' k = some v → g k = some v) : Inv E nx c g' a := by
  have hl : ∀ i, Live g' i → Live g i := fun i ⟨T, cs, hx⟩ => ⟨T, cs, hs _ _ hx⟩
  exact { h with blk := fun i T cs hx => h.blk i T cs (hs _ _ hx), inj := fun i j b T T' l1 l2 => h.inj i j b T T' (hl i l1) (hl j l2), apart := fun i b T l1 => h.apart i b T (hl i l1),
                 slot := fun s p hp => h.slot s p (hs _ _ hp), isv := fun s x hx => h.isv s x (hs _ _ hx) }
theorem get_live {live : List Nat} {g : St} : ∀ k v, get (live.map fun k => (k, g k)) k = some v → g k = some v := by
  intro k v h
  induction live with
  | nil => simp [get, lk] at h
  | cons a live ih =>
    simp only [get, List.map_cons, lk] at h ih
    by_cases e : Nat.beq k a = true
    · rw [if_pos e] at h
      rw [Nat.eq_of_beq_eq_true e]
      simpa using h
    · rw [if_neg e] at h
      exact ih h
theorem repl_false (m j : Nat) : (Array.replicate m false).getD j false = false := by
  rw [Array.getD_eq_getD_getElem?, Array.getElem?_replicate]
  by_cases h : j < m <;> simp [h]
theorem region_ok {E : Env} {n0 : Nat} {l l' : L} {id : Nat} {ops : Array Oper} {draw : Bool} {ans : List (Nat × Ans)} {live : List Nat} {obs : List Prop} (hm : draw = true → E.P.follows .mixedOrders = true) (h : evr E.P E.n ops.toList n0 ans draw live l = some (l', obs)) (hob : ∀ p ∈ obs, p)
    {Q : Exit → Act → World → Prop} (hQ : ∀ c a, Inv E (· < n0 + 8 * ops.size) c (get l') a → Q .normal a c.w) {c : Cx} {a : Act} (hI : Inv E (· < n0) c (get l) a) : (Code.region id ops draw).wp E.P Q a c.w := by
  unfold evr at h
  split at h
  case h_2 => cases h
  rename_i l1 obs1 outs he
  obtain ⟨h1, h2, h3⟩ := evs_spec (g0 := get l) (tab := fun i => outs.getD i out0) he (by simp) (fun j _ => by simp) (by
    funext k
    have : ∀ m, fold (get l) (Wt ops.toList.toArray fun i => outs.getD i out0) (fun j => decide (j < 0)) m = get l := fun m => by
      induction m with
      | zero => rfl
      | succ m ih => simp only [fold, Nat.not_lt_zero, decide_false, Bool.false_eq_true, if_false]; exact ih
    rw [this])
  have hops : ops.toList.toArray = ops := by simp
  have hlen : ops.toList.length = ops.size := by simp
  have hstep : obs = obs1 → ∀ i o, ops.toList[i]? = some o → ∀ g, (∀ k ∈ (outs.getD i out0).reads, g k = fold (get l) (Wt ops.toList.toArray fun i => outs.getD i out0) (fun j => decide (j < i)) ops.toList.length k) → StepOk E ops.toList.toArray i o (outs.getD i out0) (n0 + 8 * i) g := by
    intro hobs i o ho g hg
    obtain ⟨h4, h5, h6⟩ := h3 i o (Nat.zero_le _) ho
    exact gplan_ok ho h6 (run_congr h4 hg) fun p hp => hob p (by rw [hobs]; exact h5 p hp)
  have hfin : ∀ {c : Cx} {a : Act}, l' = live.map (fun k => (k, get l1 k)) → Inv E (fun id => id < n0 + 8 * ops.toList.length) c (fold (get l) (Wt ops.toList.toArray fun i => outs.getD i out0) (fun _ => true) ops.toList.length) a → Q .normal a c.w := by
    intro c a hl' h
    rw [← h2, hlen] at h
    refine hQ c a (h.less fun k v hk => ?_)
    rw [hl'] at hk
    exact get_live k v hk
  split at h
  · simp only [Option.some.injEq, Prod.mk.injEq] at h
    obtain ⟨rfl, rfl⟩ := h
    have hs := seq_ops (E := E) (ops := ops.toList.toArray) (g0 := get l) (tab := fun i => outs.getD i out0) (n0 := n0) (fun i o ho => hstep rfl i o (by simpa using ho) _ (fun k _ => by simp)) (Q := Q) (fun c a h => hfin rfl (by simpa using h))
      ops.toList.toArray.size 0 (by simp) c a (by
        have h0 : fold (get l) (Wt ops.toList.toArray fun i => outs.getD i out0) (fun j => decide (j < 0)) ops.toList.toArray.size = get l := by
          generalize ops.toList.toArray.size = m
          induction m with
          | zero => rfl
          | succ m ih => simp only [fold, Nat.not_lt_zero, decide_false, Bool.false_eq_true, if_false]; exact ih
        rw [h0]
        exact hI.more fun i hi => .inl hi)
    rw [hops] at hs
    exact wp_region (by simpa using hs)
  · split at h
    case h_2 => cases h
    rename_i hbf hap
    simp only [Option.some.injEq, Prod.mk.injEq] at h
    obtain ⟨rfl, rfl⟩ := h
    have hs := any_ops (E := E) (l := ops.toList) (g0 := get l) (tab := fun i => outs.getD i out0) (n0 := n0) hbf hap (hstep rfl) (Q := Q) (fun c a h => hfin rfl h)
      ops.toList.length (Array.replicate ops.toList.length false) ⟨{ c.w with drawn := c.w.drawn + 1 }, c.S, c.own⟩ a (by simp) (by
        rw [left_congr (g := fun _ => false) fun i _ => repl_false _ _]
        exact left_false _) (fun j o _ hj => by
        have hj' : (Array.replicate ops.toList.length false).getD j false = true := hj
        rw [repl_false] at hj'
        cases hj') (by
        have h0 : fold (get l) (Wt ops.toList.toArray fun i => outs.getD i out0) (fun j => (Array.replicate ops.toList.length false).getD j false) ops.toList.length = get l := by
          have e : (fun j => (Array.replicate ops.toList.length false).getD j false) = fun _ => false := funext fun j => repl_false _ j
          rw [e]
          have : ∀ m, fold (get l) (Wt ops.toList.toArray fun i => outs.getD i out0) (fun _ => false) m = get l := fun m => by
            induction m with
            | zero => rfl
            | succ m ih => simp only [fold, Bool.false_eq_true, if_false]; exact ih
          exact this _
        rw [h0]
        exact (hI.drawn _).more fun i hi => .inl hi)
    rw [hops] at hs
    refine wp_region_any (hm rfl) ?_
    rw [hlen] at hs
    exact hs
end Go.Proofs.Ytgkahjaoajjgcaa.Pm
