/-
  THE VALUE MACHINE (L): regions reckoned; the rules of a walk by values. No program in sight. | THE VALUE MACHINE (M): a walk by values: what is left to run, states said anew, loops, whole functions. No program in sight. | THE VALUE MACHINE (N): rows laid down for good, loops, whole functions. No program in sight. | THE VALUE MACHINE (O): what a function hands back; contracts of the kit's kind as contracts by values; small words for written walks. No program in sight. | THE VALUE MACHINE (R): contracts of the kit's kind over plain values, as contracts by values; small lemmas. No program in sight. | THE VALUE MACHINE (S): open rows of shared cells keep their cells under other numbers. No program in sight. | THE VALUE MACHINE (U): states said anew: numbers that take another one's place; a cell that holds nil. No program in sight. | THE VALUE MACHINE (Y): regions that draw, with the keys told: what each operation reads and writes. No program in sight. | THE VALUE MACHINE (SF): the same steps, said in fewer words. No program in sight. | THE VALUE MACHINE (T): texts as lists of bytes. No program in sight. | The plain law of pitches and intervals. No program in sight. | The plain arithmetic of the qcp keys, step by step. No program in sight. | PITCHES AS TEXTS: what is written, what is read. No program in sight. | INTERVALS AS TEXTS: what is written, what is read. No program in sight. | PITCHES AND INTERVALS AS TEXTS: what is written is read. No program in sight. | PITCHES AND INTERVALS AS TEXTS: what is written is read (the end). No program in sight. | THE DOCUMENT's TEXTS: digits, numbers, small signs. No program in sight. | CHORDS: plain. No program in sight. | THE DOCUMENT's TEXTS: reading: signs one by one, letters, names looked for. No program in sight. | SCORE: plain: items as trees, bars, voices; what is wrong with them. No program in sight. | Small lemmas for all walks of this seat. | The plain arithmetic of greatest common divisors: Euclid's way, the binary way. No program in sight. | THE WALKS of the divisors: package frac's gcd and small, the reference's Divisor and Abs. | The plain law of fractions: what Make, Plus, Minus, Times, Over, Order, Floor answer, and that they go together. No program in sight. | THE WALKS of fractions: Right, Make, Floor of the package and of the reference. | THE WALKS of fractions, Make: of the package and of the reference. | THE WALKS of fractions: both, Plus, Minus, Times, Over: of the package. (Printed by gen/reck.py.) | THE WALKS of fractions: Order, Floor, Sign: of the package and of the reference. | THE WALKS of fractions: Plus, Minus, Times, Over: of the reference. (Printed by gen/reck.py.) | Fractions: the kit's kind of contracts, as contracts by values. | SPANS: plain: beats as trees, what is wrong with them, how time is shared out. | SCORE: plain: the shares of an item, as a beat. No program in sight. | The program's orders are mixed: one fact of this seat. | TEXTS: what Go's library does to them: the kit's contracts, by values. | SCORE: how many qku a text has: the kit's contract, by values. | SCORE: names, qku: walks. (Printed by wip/pm.) | SCORE: may a text be sung: walk. (Printed by wip/pm.) | REGIONS THAT DRAW THEIR ORDER: a class C of worlds (Derived/Deep/Quiet.lean's own notion: an operation is quiet in C), qay which a tail stands that the order forces (Derived/StillTail.lean's notion of a tail). No program in sight. | THE WALKS of pitches: of the package. | THE WALKS of pitches, on: Between, Key, within, Sum, floor, Move, Mirror of the package. | MOVES: plain. | THE WALKS of pitches: of the reference: Abs, Right, Up, White, Steps, Halves, At, Within, Key. | THE WALKS of pitches: of the reference: At, Between, Sum, Move, Mirror. | TEXTS: small functions of pitches: the kit's kind of contracts, as contracts by values.
-/
import Derived.Test.YtmlnilkbolcknaaGreatDoorJLawSVMoved1
import Derived.Shelf.Strings.Trim
import Derived.Shelf.Strings.SlTrimAscii
import Derived.Shelf.Strings.Repeat
import Derived.Shelf.Strconv.Itoa3
import Derived.Shelf.Strconv.Atoi
import Derived.Shelf.Unicode.DecodeAny
import Derived.Lib.ItoaLen
import Derived.Shelf.Strings.Prefix
import Derived.Lib.RuneCount
import Derived.Test.YtmlnilkbolcknaaGreatDoorRows
import Derived.WalkKit
import Derived.WalkSpells
import Derived.WalkLawsBesides
import Derived.Deep.QuietTactic
import Derived.BigQuiet
import Derived.Lib.Hide
import Derived.Shelf.Lay
import Derived.Shelf.Strings.Search3
import Derived.Lib.AtoiErrMem
import Derived.Lib.AppendIntMem
import Derived.Shelf.Utf8.RuneCount
import Derived.StillTail
import Derived.Deep.Quiet
import Derived.Below
import Derived.Deep.RegionHeld3
import Derived.Deep.RegionWith
namespace Go.Proofs.YtmlnilkbolcknaaGreatDoor.Pm
open Go

def aFunc (fn : Fn) (first cap : List Operand) : Plan := opdl first fun ps => opdl cap fun qs => .done (.fn fn ps qs) []
theorem aFunc_ok {E : Env} {o : Oper} {id : Nat} {fn : Fn} {xs ys : Array Operand} (ho : o.op = .makeFunc fn xs ys) (hd : ∀ x, o.dst = some x → x < E.n) : qcn E o id (aFunc fn xs.toList ys.toList) := by
 intro g p wb h nx c a K Q hn hI hK
 obtain ⟨ps, hps, h1⟩ := Res.opdl hI h
 obtain ⟨qs, hqs, h2⟩ := Res.opdl hI h1
 obtain ⟨rfl, rfl⟩ := Res.done h2
 have e : ∀ zs : Array Operand, (zs.toList.map a.eval).toArray = zs.map a.eval := fun zs => by apply Array.ext'; simp
 rw [e] at hps hqs
 exact qaj hd hI hK (.fn hps.1 hps.2 hqs.1 hqs.2) (by simp [execOp, ho, Instr.makeFunc])
def aMax (mx : Bool) (x y : Operand) : Plan := opd x fun p => opd y fun q => match p, q with
 | .av (.int k a), .av (.int _ b) => .done (.av (.int k (match mx with | true => max a b | false => min a b))) []
 | _, _ => .fail
theorem aMax_ok {E : Env} {o : Oper} {id : Nat} {x y : Operand} {ts : Array TypeId} (ho : o.op = .call { callee := .builtin .max, args := #[x, y], argTypes := ts }) (hd : ∀ x, o.dst = some x → x < E.n) : qcn E o id (aMax true x y) := by
 intro g p wb h nx c a K Q hn hI hK
 obtain ⟨q1, hq1, h1⟩ := Res.opd hI h
 obtain ⟨q2, hq2, h2⟩ := Res.opd hI h1
 split at h2
 ·rename_i k m k2 n
  obtain ⟨rfl, rfl⟩ := Res.done h2
  refine qaj hd hI hK (.sh (.av _)) ?_
  have e : max m n = if n > m then n else m := by split <;> omega
  simp [execOp, ho, resolve, invoke, builtin, qao hq1, qao hq2, Builtin.max_, Builtin.max2, e]
 ·exact (Res.fail h2).elim
theorem aMin_ok {E : Env} {o : Oper} {id : Nat} {x y : Operand} {ts : Array TypeId} (ho : o.op = .call { callee := .builtin .min, args := #[x, y], argTypes := ts }) (hd : ∀ x, o.dst = some x → x < E.n) : qcn E o id (aMax false x y) := by
 intro g p wb h nx c a K Q hn hI hK
 obtain ⟨q1, hq1, h1⟩ := Res.opd hI h
 obtain ⟨q2, hq2, h2⟩ := Res.opd hI h1
 split at h2
 ·rename_i k m k2 n
  obtain ⟨rfl, rfl⟩ := Res.done h2
  refine qaj hd hI hK (.sh (.av _)) ?_
  have e : min m n = if n < m then n else m := by split <;> omega
  simp [execOp, ho, resolve, invoke, builtin, qao hq1, qao hq2, Builtin.min_, Builtin.min2, e]
 ·exact (Res.fail h2).elim

def plan (P : Program) (o : Oper) (an : Ans) (id : Nat) : Plan := match o.op with
 | .move x => aMove x
 | .assign x => aMove x
 | .pick c x y => aPick c x y an
 | .alloc T => aAlloc P T id
 | .box T x => aBox T x id
 | .build T ps => aBuild P T ps.toList
 | .buildSlice T n ps => match an with | .lay _ _ => (qhm P T n ps.toList id).settle id | _ => qhm P T n ps.toList id
 | .load T x => aLoad P T x an
 | .store T x y => aStore P T x y an
 | .nilCheck x => qrq x
 | .binOp op T x y _ => match P.underlying T with
  | some (.struct _) => match op with | .eql => aEqS P false T x y | .neq => aEqS P true T x y | _ => .fail
  | some (.pointer e) => match op with | .eql => aEqP (some (.pointer e)) false x y | .neq => aEqP (some (.pointer e)) true x y | _ => .fail
  | some (.slice e) => match op with | .eql => aEqP (some (.slice e)) false x y | .neq => aEqP (some (.slice e)) true x y | _ => .fail
  | some (.interface ms) => match op with | .eql => aEqI (some (.interface ms)) false x y | .neq => aEqI (some (.interface ms)) true x y | _ => .fail
  | u => aBin op T x y u an
 | .unOp op _ x => aUn op x an
 | .convert s d x => aConvB P s d x an
 | .makeFunc fn xs ys => aFunc fn xs.toList ys.toList
 | .makeInterface T x => aIface (P.underlying T) T x
 | .typeAssert x _ T true => aAssert (P.underlying T) x T
 | .makeSlice T l c => aMake P T l c an id
 | .slice T x lo hi mx => aSlice P T x lo hi mx an
 | .fieldAddr T x f => qns P T x f
 | .field T x f => aField P T x f
 | .indexAddr T x i => qnr P T x i an
 | .index T x i => aIndex P T x i
 | .extract t i => qwq t i
 | .call { callee := .builtin .len, args := ⟨[x]⟩, argTypes := ⟨T :: _⟩ } => aLen (P.underlying T) x
 | .call { callee := .builtin .append, args := ⟨[x, y]⟩, argTypes := ⟨[T, U]⟩ } => aAppend P T (P.underlying U) x y an id
 | .call { callee := .builtin .copy, args := ⟨[x, y]⟩, argTypes := ⟨[T, U]⟩ } => aCopy P T (P.underlying U) x y an
 | .call { callee := .builtin .max, args := ⟨[x, y]⟩, .. } => aMax true x y
 | .call { callee := .builtin .min, args := ⟨[x, y]⟩, .. } => aMax false x y
 | .call { callee := .builtin .max, args := ⟨[x, y, z]⟩, .. } => aMax3 true x y z
 | .call { callee := .builtin .min, args := ⟨[x, y, z]⟩, .. } => aMax3 false x y z
 | .call { callee := .value f, args, .. } => match an with | .lay js an' => aCallL P f args.toList js an' id | .callR ids bs H r => aCallR P f args.toList ids bs H r id | .ext true => aExtL P f args.toList | .ext false => aExtS P f args.toList | .val q => aExtV P f args.toList q | _ => aCall P f args.toList an id
 | _ => .fail
theorem plan_ok {E : Env} {o : Oper} {id : Nat} {an : Ans} (hd : ∀ x, o.dst = some x → x < E.n) : qcn E o id (plan E.P o an id) := by
 unfold plan
 split <;> rename_i ho
 ·exact qwp (.inl ho) hd
 ·exact qwp (.inr ho) hd
 ·exact aPick_ok ho hd
 ·exact aAlloc_ok ho hd
 ·exact aBox_ok ho hd
 ·exact aBuild_ok ho hd
 ·split
  ·exact qzh (qha ho hd)
  ·exact qha ho hd
 ·exact aLoad_ok ho hd
 ·exact aStore_ok ho hd
 ·exact qrp ho hd
 ·split
  ·split
   ·exact aEqS_ok (ng := false) ho hd
   ·exact aEqS_ok (ng := true) ho hd
   ·exact fun g p wb h => (Res.fail h).elim
  ·rename_i hu
   rw [← hu]
   split
   ·exact qpj (ng := false) ho hd
   ·exact qpj (ng := true) ho hd
   ·exact fun g p wb h => (Res.fail h).elim
  ·rename_i hu
   rw [← hu]
   split
   ·exact qpj (ng := false) ho hd
   ·exact qpj (ng := true) ho hd
   ·exact fun g p wb h => (Res.fail h).elim
  ·rename_i hu
   rw [← hu]
   split
   ·exact aEqI_ok (ng := false) ho hd
   ·exact aEqI_ok (ng := true) ho hd
   ·exact fun g p wb h => (Res.fail h).elim
  ·exact aBin_ok ho hd
 ·exact aUn_ok ho hd
 ·exact aConvB_ok ho hd
 ·exact aFunc_ok ho hd
 ·exact aIface_ok ho hd
 ·exact qyg ho hd
 ·exact aMake_ok ho hd
 ·exact aSlice_ok ho hd
 ·exact qpi ho hd
 ·exact aField_ok ho hd
 ·exact qph ho hd
 ·exact aIndex_ok ho hd
 ·exact qtl ho hd
 ·exact aLen_ok ho (by simp) hd
 ·exact qyh ho hd
 ·exact aCopy_ok ho hd
 ·exact aMax_ok ho hd
 ·exact aMin_ok ho hd
 ·exact aMax3_ok ho hd
 ·exact aMin3_ok ho hd
 ·split
  ·exact aCallL_ok ho hd
  ·exact aCallR_ok ho hd
  ·exact aExtL_ok ho hd
  ·exact aExtS_ok ho hd
  ·exact aExtV_ok ho hd
  ·exact aCall_ok ho hd
 ·exact fun g p wb h => (Res.fail h).elim

/-- A guarded operation: the answer tells whether its guard holds. -/
def qsr (P : Program) (ops : List Oper) (o : Oper) (an : Ans) (id : Nat) : Plan := match o.guard with
 | none => plan P o an id
 | some (j, want) => match (ops[j]?).bind (·.dst) with
  | some d => .look (ks d) fun v => match v, an with
   | .pv (.av (.bool t)), .gd b an' => .ob (t = b) (match b == want with | true => plan P o an' id | false => .done P0 [])
   | .pv (.av (.tuple _)), _ => .done P0 []
   | _, _ => .fail
  | none => .fail
theorem qox {E : Env} {l : List Oper} {i : Nat} {o : Oper} {id : Nat} {an : Ans} (ho : l[i]? = some o) (hd : ∀ x, o.dst = some x → x < E.n) {g : St} {out : Out} (hr : run g (qsr E.P l o an id) = some out) (hob : ∀ p ∈ out.obs, p) :
  qjr E l.toArray i o out id g := by
 intro nx c a K Q hn hI hK
 have hres : Res g (qsr E.P l o an id) out.pv out.wb := ⟨out, hr, rfl, rfl, hob⟩
 have ho' : l.toArray[i]? = some o := by simpa using ho
 have hK' : ∀ c' a', Inv E (fun j => nx j ∨ (id ≤ j ∧ j < id + 8)) c' (over (wd o.dst out.pv) (over out.wb g)) a' → K a' c'.w := fun c' a' h => hK c' a' (by rw [wr, qfh]; exact h)
 unfold wpOp
 simp only [ho']
 unfold qsr at hres
 split at hres
 ·rename_i hg
  rw [if_pos (by simp [Region.wanted, hg])]
  exact .inl (plan_ok hd g _ _ hres nx c a K Q hn hI hK')
 ·rename_i j want hg
  split at hres
  ·rename_i d hj
   obtain ⟨v, hv, h1⟩ := Res.look hres
   split at h1
   ·rename_i t b an'
    obtain ⟨rfl, h2⟩ := Res.ob h1
    have h3 := qao (hI.slot d _ hv)
    have h4 : a.tmps[d]? = some (.bool t) := by
     rw [Array.getD_eq_getD_getElem?] at h3
     cases hx : a.tmps[d]? with
     | none => rw [hx] at h3; cases h3
     | some x => rw [hx] at h3; simp only [Option.getD_some] at h3; rw [h3]
    have hy : yielded l.toArray a.tmps j = some t := by
     unfold yielded
     have hj' : (l.toArray[j]?).bind (·.dst) = some d := by simpa using hj
     rw [hj']
     simp [h4]
    have hw : Region.wanted o (yielded l.toArray a.tmps) = (t == want) := by
     unfold Region.wanted
     simp only [hg, hy]
     cases t <;> cases want <;> rfl
    split at h2
    ·rename_i hbw
     rw [if_pos (by rw [hw]; exact hbw)]
     exact .inl (plan_ok hd g _ _ h2 nx c a K Q hn hI hK')
    ·rename_i hbw
     obtain ⟨h5, h6⟩ := Res.done h2
     rw [if_neg (by rw [hw]; simp [hbw])]
     have := hI.pure (nx' := fun j => nx j ∨ (id ≤ j ∧ j < id + 8)) (fun _ h => .inl h) o.dst hd (p := out.pv) (v := undef) fun _ => by rw [h5]; exact .sh (.av _)
     refine hK' c _ ?_
     rw [h6]
     exact this
   ·rename_i us _
    obtain ⟨h5, h6⟩ := Res.done h1
    have h3 := qao (hI.slot d _ hv)
    have hy : yielded l.toArray a.tmps j = none := by
     unfold yielded
     have hj' : (l.toArray[j]?).bind (·.dst) = some d := by simpa using hj
     rw [hj']
     cases hx : a.tmps[d]? with
     | none => simp [hx]
     | some x =>
      rw [Array.getD_eq_getD_getElem?, hx] at h3
      simp only [Option.getD_some] at h3
      subst h3
      simp [hx]
    have hw : Region.wanted o (yielded l.toArray a.tmps) = false := by
     unfold Region.wanted
     simp only [hg, hy]
     rfl
    rw [if_neg (by rw [hw]; decide)]
    have := hI.pure (nx' := fun j => nx j ∨ (id ≤ j ∧ j < id + 8)) (fun _ h => .inl h) o.dst hd (p := out.pv) (v := undef) fun _ => by rw [h5]; exact .sh (.av _)
    refine hK' c _ ?_
    rw [h6]
    exact this
   ·exact (Res.fail h1).elim
  ·exact (Res.fail hres).elim

/-! ### a region reckoned -/
def qye (ans : List (Nat × Ans)) (i : Nat) : Ans := match lk i ans with | some a => a | none => .no
def dstOk (n : Nat) (o : Oper) : Bool := match o.dst with | some d => Nat.blt d n | none => true
def evs (P : Program) (n : Nat) (ops : List Oper) (n0 : Nat) (ans : List (Nat × Ans)) : List Oper → Nat → L → Option (L × List Prop × List Out)
 | [], _, l => some (l, [], [])
 | o :: r, i, l => match run (get l) (qsr P ops o (qye ans i) (n0 + 8 * i)), dstOk n o with
  | some out, true => match evs P n ops n0 ans r (i + 1) (wr o.dst out ++ l) with
   | some (l', obs, outs) => some (l', out.obs ++ obs, out :: outs)
   | none => none
  | _, _ => none
def out0 : Out := ⟨P0, [], [], []⟩
theorem qpb {P : Program} {n : Nat} {ops : List Oper} {n0 : Nat} {ans : List (Nat × Ans)} {g0 : St} {tab : Nat → Out} : ∀ {r : List Oper} {i : Nat} {l l' : L} {obs : List Prop} {outs : List Out}, evs P n ops n0 ans r i l = some (l', obs, outs) →
  ops.drop i = r → (∀ j, j < r.length → outs.getD j out0 = tab (i + j)) → get l = fold g0 (Wt ops.toArray tab) (fun j => decide (j < i)) ops.length →
  outs.length = r.length ∧ get l' = fold g0 (Wt ops.toArray tab) (fun _ => true) ops.length ∧
   ∀ j o, i ≤ j → ops[j]? = some o → run (fold g0 (Wt ops.toArray tab) (fun k => decide (k < j)) ops.length) (qsr P ops o (qye ans j) (n0 + 8 * j)) = some (tab j) ∧ (∀ p ∈ (tab j).obs, p ∈ obs) ∧ ∀ x, o.dst = some x → x < n
 | [], i, l, l', obs, outs, h, hd, ht, hg => by
  simp only [evs, Option.some.injEq, Prod.mk.injEq] at h
  obtain ⟨rfl, rfl, rfl⟩ := h
  have hi : ops.length ≤ i := by simpa using hd
  refine ⟨rfl, ?_, fun j o hj ho => ?_⟩
  ·rw [hg]
   funext k
   exact qdi fun j hj _ => by simp; omega
  ·rw [List.getElem?_eq_none (by omega)] at ho; cases ho
 | o :: r, i, l, l', obs, outs, h, hd, ht, hg => by
  simp only [evs] at h
  split at h
  case h_2 => cases h
  rename_i out hout hdst
  split at h
  case h_2 => cases h
  rename_i l1 obs1 outs1 he
  simp only [Option.some.injEq, Prod.mk.injEq] at h
  obtain ⟨rfl, rfl, rfl⟩ := h
  have hlt : i < ops.length := by
   rcases Nat.lt_or_ge i ops.length with h1 | h1
   ·exact h1
   ·rw [List.drop_eq_nil_of_le h1] at hd; cases hd
  have hoi : ops[i]? = some o := by
   have := List.getElem?_drop (xs := ops) (i := i) (j := 0)
   rw [hd] at this
   simpa using this.symm
  have hdr : ops.drop (i + 1) = r := by
   have := List.drop_drop (i := 1) (j := i) (l := ops)
   rw [hd] at this
   simpa [Nat.add_comm] using this.symm
  have htab : tab i = out := by
   have := ht 0 (by simp)
   simpa using this.symm
  have hW : Wt ops.toArray tab i = wr o.dst out := by simp [Wt, hoi, htab]
  have hnext : get (wr o.dst out ++ l) = fold g0 (Wt ops.toArray tab) (fun j => decide (j < i + 1)) ops.length := by
   rw [qcg, hg]
   have e : (fun j => decide (j < i + 1)) = addP (fun j => decide (j < i)) i := by
    funext j
    unfold addP
    by_cases e : j = i
    ·subst e; simp
    ·simp [e]; omega
   rw [e, qfl (by simp) hlt fun j x h1 h2 h3 => by simp at h3; omega, hW]
  obtain ⟨h1, h2, h3⟩ := qpb he hdr (fun j hj => by
   have := ht (j + 1) (by simp; omega)
   rw [show i + (j + 1) = i + 1 + j by omega] at this
   simpa using this) hnext
  refine ⟨by simp [h1], h2, fun j o' hj ho' => ?_⟩
  by_cases e : j = i
  ·subst e
   rw [hoi] at ho'
   cases ho'
   rw [← hg, htab]
   refine ⟨hout, fun p hp => by simp [hp], fun x hx => ?_⟩
   unfold dstOk at hdst
   rw [hx] at hdst
   simpa [Nat.blt_eq] using hdst
  ·obtain ⟨h4, h5, h6⟩ := h3 j o' (by omega) ho'
   exact ⟨h4, fun p hp => by simp [h5 p hp], h6⟩
/-- The region's outcome: what is still spoken of qay it; the obligations. -/
def evr (P : Program) (n : Nat) (ops : List Oper) (n0 : Nat) (ans : List (Nat × Ans)) (draw : Bool) (live : List Nat) (l : L) : Option (L × List Prop) :=
 match evs P n ops n0 ans ops 0 l with
 | some (l', obs, outs) => match draw with
  | false => some (live.map fun k => (k, get l' k), obs)
  | true => match befB ops (befs ops), qio (Wt ops.toArray fun i => outs.getD i out0) (fun i => (outs.getD i out0).reads) (befs ops) ops.length with
   | true, true => some (live.map fun k => (k, get l' k), obs)
   | _, _ => none
 | none => none
theorem Inv.less {E : Env} {nx : Nat → Prop} {c : Cx} {g g' : St} {a : Act} (h : Inv E nx c g a) (hs : ∀ k v, g' k = some v → g k = some v) : Inv E nx c g' a := by
 have hl : ∀ i, Live g' i → Live g i := fun i ⟨T, cs, hx⟩ => ⟨T, cs, hs _ _ hx⟩
 exact { h with blk := fun i T cs hx => h.blk i T cs (hs _ _ hx), inj := fun i j b T T' l1 l2 => h.inj i j b T T' (hl i l1) (hl j l2), apart := fun i b T l1 => h.apart i b T (hl i l1),
                slot := fun s p hp => h.slot s p (hs _ _ hp), isv := fun s x hx => h.isv s x (hs _ _ hx) }
theorem qoy {live : List Nat} {g : St} : ∀ k v, get (live.map fun k => (k, g k)) k = some v → g k = some v := by
 intro k v h
 induction live with
 | nil => simp [get, lk] at h
 | cons a live ih =>
  simp only [get, List.map_cons, lk] at h ih
  by_cases e : Nat.beq k a = true
  ·rw [if_pos e] at h
   rw [Nat.eq_of_beq_eq_true e]
   simpa using h
  ·rw [if_neg e] at h
   exact ih h
theorem qct (m j : Nat) : (Array.replicate m false).getD j false = false := by
 rw [Array.getD_eq_getD_getElem?, Array.getElem?_replicate]
 by_cases h : j < m <;> simp [h]
theorem qzv {E : Env} {n0 : Nat} {l l' : L} {id : Nat} {ops : Array Oper} {draw : Bool} {ans : List (Nat × Ans)} {live : List Nat} {obs : List Prop} (hm : draw = true → E.P.follows .mixedOrders = true) (h : evr E.P E.n ops.toList n0 ans draw live l = some (l', obs)) (hob : ∀ p ∈ obs, p)
  {Q : Exit → Act → World → Prop} (hQ : ∀ c a, Inv E (· < n0 + 8 * ops.size) c (get l') a → Q .normal a c.w) {c : Cx} {a : Act} (hI : Inv E (· < n0) c (get l) a) : (Code.region id ops draw).wp E.P Q a c.w := by
 unfold evr at h
 split at h
 case h_2 => cases h
 rename_i l1 obs1 outs he
 obtain ⟨h1, h2, h3⟩ := qpb (g0 := get l) (tab := fun i => outs.getD i out0) he (by simp) (fun j _ => by simp) (by
  funext k
  have : ∀ m, fold (get l) (Wt ops.toList.toArray fun i => outs.getD i out0) (fun j => decide (j < 0)) m = get l := fun m => by
   induction m with
   | zero => rfl
   | succ m ih => simp only [fold, Nat.not_lt_zero, decide_false, Bool.false_eq_true, if_false]; exact ih
  rw [this])
 have hops : ops.toList.toArray = ops := by simp
 have hlen : ops.toList.length = ops.size := by simp
 have hstep : obs = obs1 → ∀ i o, ops.toList[i]? = some o → ∀ g, (∀ k ∈ (outs.getD i out0).reads, g k = fold (get l) (Wt ops.toList.toArray fun i => outs.getD i out0) (fun j => decide (j < i)) ops.toList.length k) → qjr E ops.toList.toArray i o (outs.getD i out0) (n0 + 8 * i) g := by
  intro hobs i o ho g hg
  obtain ⟨h4, h5, h6⟩ := h3 i o (Nat.zero_le _) ho
  exact qox ho h6 (qew h4 hg) fun p hp => hob p (by rw [hobs]; exact h5 p hp)
 have hfin : ∀ {c : Cx} {a : Act}, l' = live.map (fun k => (k, get l1 k)) → Inv E (fun id => id < n0 + 8 * ops.toList.length) c (fold (get l) (Wt ops.toList.toArray fun i => outs.getD i out0) (fun _ => true) ops.toList.length) a → Q .normal a c.w := by
  intro c a hl' h
  rw [← h2, hlen] at h
  refine hQ c a (h.less fun k v hk => ?_)
  rw [hl'] at hk
  exact qoy k v hk
 split at h
 ·simp only [Option.some.injEq, Prod.mk.injEq] at h
  obtain ⟨rfl, rfl⟩ := h
  have hs := qzi (E := E) (ops := ops.toList.toArray) (g0 := get l) (tab := fun i => outs.getD i out0) (n0 := n0) (fun i o ho => hstep rfl i o (by simpa using ho) _ (fun k _ => by simp)) (Q := Q) (fun c a h => hfin rfl (by simpa using h))
   ops.toList.toArray.size 0 (by simp) c a (by
    have h0 : fold (get l) (Wt ops.toList.toArray fun i => outs.getD i out0) (fun j => decide (j < 0)) ops.toList.toArray.size = get l := by
     generalize ops.toList.toArray.size = m
     induction m with
     | zero => rfl
     | succ m ih => simp only [fold, Nat.not_lt_zero, decide_false, Bool.false_eq_true, if_false]; exact ih
    rw [h0]
    exact hI.more fun i hi => .inl hi)
  rw [hops] at hs
  exact wp_region (by simpa using hs)
 ·split at h
  case h_2 => cases h
  rename_i hbf hap
  simp only [Option.some.injEq, Prod.mk.injEq] at h
  obtain ⟨rfl, rfl⟩ := h
  have hs := any_ops (E := E) (l := ops.toList) (g0 := get l) (tab := fun i => outs.getD i out0) (n0 := n0) hbf hap (hstep rfl) (Q := Q) (fun c a h => hfin rfl h)
   ops.toList.length (Array.replicate ops.toList.length false) ⟨{ c.w with drawn := c.w.drawn + 1 }, c.S, c.own⟩ a (by simp) (by
    rw [qfa (g := fun _ => false) fun i _ => qct _ _]
    exact qgn _) (fun j o _ hj => by
    have hj' : (Array.replicate ops.toList.length false).getD j false = true := hj
    rw [qct] at hj'
    cases hj') (by
    have h0 : fold (get l) (Wt ops.toList.toArray fun i => outs.getD i out0) (fun j => (Array.replicate ops.toList.length false).getD j false) ops.toList.length = get l := by
     have e : (fun j => (Array.replicate ops.toList.length false).getD j false) = fun _ => false := funext fun j => qct _ j
     rw [e]
     have : ∀ m, fold (get l) (Wt ops.toList.toArray fun i => outs.getD i out0) (fun _ => false) m = get l := fun m => by
      induction m with
      | zero => rfl
      | succ m ih => simp only [fold, Bool.false_eq_true, if_false]; exact ih
     exact this _
    rw [h0]
    exact (hI.drawn _).more fun i hi => .inl hi)
  rw [hops] at hs
  refine wp_region_any (hm rfl) ?_
  rw [hlen] at hs
  exact hs
end Go.Proofs.YtmlnilkbolcknaaGreatDoor.Pm
namespace Go.Proofs.YtmlnilkbolcknaaGreatDoor.Pm
open Go

inductive Item where
 | code (c : Code)
 | blk (id : Nat)
abbrev Post := Exit → Cx → Act → Prop
/-- What is asked where what runs ends so: the rest still to run, then Q. -/
def WS (E : Env) (Q : Post) : List Item → Post
 | [] => Q
 | .code c :: rs => fun e cx a => match e with
  | .normal => c.wp E.P (fun e a' w' => ∃ cx', cx'.w = w' ∧ WS E Q rs e cx' a') a cx.w
  | e => WS E Q rs e cx a
 | .blk id :: rs => fun e cx a => match e with
  | .exit j => if j = id then WS E Q rs .normal cx a else WS E Q rs (.exit j) cx a
  | e => WS E Q rs e cx a
/-- From any frame and world of which the state tells. -/
def T (P : Program) (n : Nat) (c0 : Cx) (Bor : BorD) (Q : Post) (n0 : Nat) (l : L) (rs : List Item) : Prop :=
 ∀ cx a, Inv ⟨P, n, c0, Bor⟩ (· < n0) cx (get l) a → WS ⟨P, n, c0, Bor⟩ Q rs .normal cx a

section
variable {P : Program} {n : Nat} {c0 : Cx} {Bor : BorD} {Q : Post} {n0 : Nat} {l : L} {rs : List Item}
theorem qbg {id : Nat} (h : T P n c0 Bor Q n0 l rs) : T P n c0 Bor Q n0 l (.blk id :: rs) := fun cx a hI => h cx a hI
theorem qaa {x y : Code} (h : T P n c0 Bor Q n0 l (.code x :: .code y :: rs)) : T P n c0 Bor Q n0 l (.code (.seq x y) :: rs) := fun cx a hI => by
 refine wp_seq (wp_mono (h cx a hI) fun e a' w' h1 => ?_)
 obtain ⟨cx', rfl, h2⟩ := h1
 cases e <;> first | exact h2 | exact ⟨cx', rfl, h2⟩
theorem qag (h : T P n c0 Bor Q n0 l rs) : T P n c0 Bor Q n0 l (.code .skip :: rs) := fun cx a hI => wp_skip ⟨cx, rfl, h cx a hI⟩
theorem qan {id : Nat} {c : Code} (h : T P n c0 Bor Q n0 l (.code c :: .blk id :: rs)) : T P n c0 Bor Q n0 l (.code (.block id c) :: rs) := fun cx a hI => by
 refine wp_block (wp_mono (h cx a hI) fun e a' w' h1 => ?_)
 obtain ⟨cx', rfl, h2⟩ := h1
 cases e with
 | exit j =>
  simp only [WS, Exit.inBlock] at h2 ⊢
  split at h2
  ·rename_i e; rw [if_pos e]; exact ⟨cx', rfl, h2⟩
  ·rename_i e; rw [if_neg e]; exact ⟨cx', rfl, h2⟩
 | normal => exact ⟨cx', rfl, h2⟩
 | goto l => exact ⟨cx', rfl, h2⟩
 | ret => exact ⟨cx', rfl, h2⟩
 | panic c => exact ⟨cx', rfl, h2⟩
 | outgrown => exact ⟨cx', rfl, h2⟩
/-- Out of a block. -/
def out (id : Nat) : List Item → Option (List Item)
 | [] => none
 | .code _ :: rs => out id rs
 | .blk j :: rs => match Nat.beq id j with | true => some rs | false => out id rs
theorem qyi {E : Env} {id : Nat} {cx : Cx} {a : Act} : ∀ {rs rs' : List Item}, out id rs = some rs' → WS E Q rs' .normal cx a → WS E Q rs (.exit id) cx a
 | .code _ :: rs, rs', h, k => by
  simp only [out] at h
  exact qyi (rs := rs) h k
 | .blk j :: rs, rs', h, k => by
  simp only [out] at h
  show if id = j then _ else _
  split at h
  ·rename_i e
   cases h
   rw [if_pos (Nat.eq_of_beq_eq_true e)]
   exact k
  ·rename_i e
   rw [if_neg fun h => by rw [h, Nat.beq_refl] at e; cases e]
   exact qyi (rs := rs) h k
theorem qhb {E : Env} {id : Nat} {cx : Cx} {a : Act} : ∀ {rs : List Item}, out id rs = none → Q (.exit id) cx a → WS E Q rs (.exit id) cx a
 | [], _, k => k
 | .code _ :: rs, h, k => by
  simp only [out] at h
  exact qhb (rs := rs) h k
 | .blk j :: rs, h, k => by
  simp only [out] at h
  show if id = j then _ else _
  split at h
  ·cases h
  ·rename_i e
   rw [if_neg fun h => by rw [h, Nat.beq_refl] at e; cases e]
   exact qhb (rs := rs) h k
theorem T_leave {id : Nat} (ho : out id rs = none) (h : ∀ cx a, Inv ⟨P, n, c0, Bor⟩ (· < n0) cx (get l) a → Q (.exit id) cx a) : T P n c0 Bor Q n0 l (.code (.exit id) :: rs) := fun cx a hI =>
 wp_exit ⟨cx, rfl, qhb ho (h cx a hI)⟩
theorem qtm {E : Env} {cx : Cx} {a : Act} : ∀ {rs : List Item}, Q .ret cx a → WS E Q rs .ret cx a
 | [], k => k
 | .code _ :: rs, k => qtm (rs := rs) k
 | .blk _ :: rs, k => qtm (rs := rs) k
theorem qai (h : ∀ cx a, Inv ⟨P, n, c0, Bor⟩ (· < n0) cx (get l) a → Q .ret cx a) : T P n c0 Bor Q n0 l (.code .ret :: rs) := fun cx a hI => wp_ret ⟨cx, rfl, qtm (h cx a hI)⟩
theorem T_cond {t : Nat} {x y : Code} {b : Bool} (hb : get l (Pm.ks t) = some (.pv (.av (.bool b)))) (h1 : b = true → T P n c0 Bor Q n0 l (.code x :: rs)) (h2 : b = false → T P n c0 Bor Q n0 l (.code y :: rs)) :
  T P n c0 Bor Q n0 l (.code (.cond (.tmp t) x y) :: rs) := fun cx a hI => by
 have hv := qao (hI.slot t _ hb)
 cases b with
 | true => exact wp_cond_true hv (h1 rfl cx a hI)
 | false => exact wp_cond_false hv (h2 rfl cx a hI)
theorem T_region {id : Nat} {ops : Array Oper} {draw : Bool} (ans : List (Nat × Ans)) (live : List Nat) {l' : L} {obs : List Prop} (hm : draw = true → P.follows .mixedOrders = true) (h : evr P n ops.toList n0 ans draw live l = some (l', obs)) (hob : ∀ p ∈ obs, p)
  (hT : T P n c0 Bor Q (n0 + 8 * ops.size) l' rs) : T P n c0 Bor Q n0 l (.code (.region id ops draw) :: rs) := fun _ _ hI =>
 qzv (E := ⟨P, n, c0, Bor⟩) hm h hob (fun c a h => ⟨c, rfl, hT c a h⟩) hI

/-! ### states said anew -/
/-- One state tells no more than another one. -/
def Wk (P : Program) (n : Nat) (c0 : Cx) (Bor : BorD) (n0 : Nat) (l : L) (n1 : Nat) (l' : L) : Prop := ∀ cx a, Inv ⟨P, n, c0, Bor⟩ (· < n0) cx (get l) a → ∃ cx', cx'.w = cx.w ∧ Inv ⟨P, n, c0, Bor⟩ (· < n1) cx' (get l') a
theorem ws_world {E : Env} {cx cx' : Cx} {a : Act} {c : Code} (hw : cx'.w = cx.w) (h : WS E Q (.code c :: rs) .normal cx' a) : WS E Q (.code c :: rs) .normal cx a := by
 show c.wp E.P _ a cx.w
 rw [← hw]
 exact h
theorem T_wk {c : Code} {n1 : Nat} {l' : L} (hw : Wk P n c0 Bor n0 l n1 l') (h : T P n c0 Bor Q n1 l' (.code c :: rs)) : T P n c0 Bor Q n0 l (.code c :: rs) := fun cx a hI => by
 obtain ⟨cx', h1, h2⟩ := hw cx a hI
 exact ws_world h1 (h cx' a h2)
theorem Wk.refl : Wk P n c0 Bor n0 l n0 l := fun cx _ h => ⟨cx, rfl, h⟩
theorem Wk.trans {n1 n2 : Nat} {l1 l2 : L} (h : Wk P n c0 Bor n0 l n1 l1) (k : Wk P n c0 Bor n1 l1 n2 l2) : Wk P n c0 Bor n0 l n2 l2 := fun cx a hI => by
 obtain ⟨c1, e1, h1⟩ := h cx a hI
 obtain ⟨c2, e2, h2⟩ := k c1 a h1
 exact ⟨c2, e2.trans e1, h2⟩
/-- Fewer keys. -/
theorem Wk.less {l' : L} (n1 : Nat) (hn : Nat.ble n0 n1 = true) (h : l'.map (fun x => get l x.1) = l'.map (·.2)) : Wk P n c0 Bor n0 l n1 l' := fun cx a hI => by
 refine ⟨cx, rfl, (hI.more fun i hi => Nat.lt_of_lt_of_le hi (Nat.le_of_ble_eq_true hn)).less fun k v hk => ?_⟩
 have : ∀ (m : L), m.map (fun x => get l x.1) = m.map (·.2) → ∀ k v, get m k = some v → get l k = some v := by
  intro m
  induction m with
  | nil => intro _ k v hk; simp [get, lk] at hk
  | cons x m ih =>
   intro hm k v hk
   simp only [List.map_cons, List.cons.injEq] at hm
   simp only [get, lk] at hk ih
   by_cases e : Nat.beq k x.1 = true
   ·rw [if_pos e] at hk
    rw [Nat.eq_of_beq_eq_true e, hm.1]
    simpa using hk
   ·rw [if_neg e] at hk
    exact ih hm.2 k v hk
 exact this l' h k v hk
/-- Other numbers for own blocks: number i is what number σ i was. -/
def reSt (σ : Nat → Nat) (n1 : Nat) (l' : L) (g : St) : List Prop := l'.map fun x => match x.2 with
 | some (.pv p) => g x.1 = some (.pv (ren σ p))
 | some (.blk T cs) => x.1 % 2 = 1 ∧ x.1 / 2 < n1 ∧ g (kb (σ (x.1 / 2))) = some (.blk T (renL σ cs))
 | none => True
theorem qkx {σ : Nat → Nat} {n1 : Nat} {g : St} : ∀ {l' : L}, (∀ p ∈ reSt σ n1 l' g, p) → ∀ k v, get l' k = some v → match v with
  | .pv p => g k = some (.pv (ren σ p))
  | .blk T cs => k % 2 = 1 ∧ k / 2 < n1 ∧ g (kb (σ (k / 2))) = some (.blk T (renL σ cs))
 | [], _, k, v, h => by simp [get, lk] at h
 | x :: l', hp, k, v, h => by
  simp only [reSt, List.map_cons, List.mem_cons, forall_eq_or_imp] at hp
  simp only [get, lk] at h
  by_cases e : Nat.beq k x.1 = true
  ·rw [if_pos e] at h
   have e' := Nat.eq_of_beq_eq_true e
   subst e'
   have h2 : x.2 = some v := by simpa using h
   have h1 := hp.1
   rw [h2] at h1
   cases v <;> exact h1
  ·rw [if_neg e] at h
   exact qkx (l' := l') hp.2 k v h
theorem quc {σ : Nat → Nat} {cs : List PV} (h : renL σ cs = []) : cs = [] := by
 have := congrArg List.length h
 rw [qak] at this
 exact List.eq_nil_of_length_eq_zero this
def sgm (n0 : Nat) (σl : List Nat) (i : Nat) : Nat := match Nat.blt i σl.length with | true => σl.getD i 0 | false => n0 + i
/-- m: how many numbers were lent (they stay as they are). -/
theorem Wk.ren {l' : L} (m : Nat) (hc0 : ∀ i x, c0.own i = some x → i < m) (σl : List Nat) (hσ : σl.take m = List.range m) (hnd : qcl σl = true) (h : ∀ p ∈ reSt (sgm n0 σl) σl.length l' (get l), p) : Wk P n c0 Bor n0 l σl.length l' := fun cx a hI => by
 have hsp := qkx h
 have hs1 : ∀ i, i < σl.length → sgm n0 σl i = σl.getD i 0 := fun i hi => by
  unfold sgm
  rw [show Nat.blt i σl.length = true from by simpa [Nat.blt_eq] using hi]
 have hs2 : ∀ i, σl.length ≤ i → cx.own (sgm n0 σl i) = none := fun i hi => by
  unfold sgm
  rw [show Nat.blt i σl.length = false from by rw [Bool.eq_false_iff, Ne, Nat.blt_eq]; omega]
  cases ho : cx.own (n0 + i) with
  | none => rfl
  | some x => have : n0 + i < n0 := hI.ids _ x ho; omega
 have hlv : ∀ i, Live (get l') i → i < σl.length ∧ Live (get l) (sgm n0 σl i) := fun i ⟨T, cs, hx⟩ => by
  have h1 := hsp _ _ hx
  simp only at h1
  rw [show kb i / 2 = i by simp only [kb]; omega] at h1
  exact ⟨h1.2.1, T, _, h1.2.2⟩
 refine ⟨cx.via (sgm n0 σl), rfl, { ids := fun i x hx => ?_, blk := fun i T cs hx => ?_, inj := fun i j b T T' l1 l2 h3 h4 => ?_, apart := fun i b T l1 h2 => hI.apart _ b T (hlv i l1).2 h2, bnd := fun i b T h1 => hI.bnd _ b T h1, sok := hI.sok, os := hI.os, tape := hI.tape, output := hI.output, size := hI.size, same := hI.same, laid := hI.laid, s0 := hI.s0, s1 := hI.s1, keep := ⟨hI.keep.S, fun i x hx => ?_, hI.keep.shape⟩, tmps := hI.tmps, dfr := hI.dfr, slot := fun s p hp => ?_, isv := fun s x hx => ?_ }⟩
 ·show i < σl.length
  rcases Nat.lt_or_ge i σl.length with h1 | h1
  ·exact h1
  ·have : cx.own (sgm n0 σl i) = some x := hx
   rw [hs2 i h1] at this
   cases this
 ·have h1 := hsp _ _ hx
  simp only at h1
  rw [show kb i / 2 = i by simp only [kb]; omega] at h1
  obtain ⟨ob, h5, h6, h7⟩ := hI.blk _ _ _ h1.2.2
  refine ⟨ob, h5, ones_renL.1 h6, ?_⟩
  rcases h7 with ⟨h7, h8⟩ | ⟨b, arr, h7, h8, h9, h10⟩
  ·exact .inl ⟨h7, quc h8⟩
  ·rw [qak] at h9 h10
   exact .inr ⟨b, arr, h7, h8, h9, fun j hj => qeb (h10 j hj) _ (qbr _ _ j hj)⟩
 ·obtain ⟨e1, l1'⟩ := hlv i l1
  obtain ⟨e2, l2'⟩ := hlv j l2
  have := hI.inj _ _ b T T' l1' l2' h3 h4
  rw [hs1 i e1, hs1 j e2] at this
  exact qia hnd i j e1 e2 this
 ·have h1 := hc0 i x hx
  have h2 : i < σl.length := by
   have := congrArg List.length hσ
   simp at this
   omega
  have h3 : σl.getD i 0 = i := by
   have h4 := List.getElem?_take_of_lt (l := σl) h1
   rw [hσ] at h4
   rw [List.getD_eq_getElem?_getD, ← h4]
   simp [h1]
  show cx.own (sgm n0 σl i) = some x
  rw [hs1 i h2, h3]
  exact hI.keep.own i x hx
 ·have h1 := hsp _ _ hp
  exact qeb (hI.slot s _ h1) _ rfl
 ·cases x with
  | pv p => exact ⟨p, rfl⟩
  | blk T cs =>
   have h1 := hsp _ _ hx
   simp only [Pm.ks] at h1
   omega
/-- A slot that holds nil: an own row that has not been made. -/
theorem Wk.nil {s : Nat} (T : TypeId) (hs : get l (Pm.ks s) = some (.pv (.av (.slice none 0 0)))) : Wk P n c0 Bor n0 l (n0 + 1) ([(ks s, some (.pv (.osl n0 0 0))), (kb n0, some (.blk T []))] ++ l) := fun cx a hI => by
 obtain ⟨hk, hh⟩ := qgg hI.toHeap (id := n0) (fun h => absurd h (Nat.lt_irrefl _)) T
 refine ⟨⟨cx.w, cx.S, qbl cx.own n0 (none, T)⟩, rfl, ?_⟩
 have hge : ∀ k, get ([(ks s, some (.pv (.osl n0 0 0))), (kb n0, some (.blk T []))] ++ l) k = if Nat.beq k (Pm.ks s) then some (.pv (.osl n0 0 0)) else over [(kb n0, some (.blk T []))] (get l) k := fun k => by
  rw [qcg]
  simp only [over, lk]
  by_cases h1 : Nat.beq k (Pm.ks s) = true
  ·simp [h1]
  ·simp only [h1]; rfl
 have hb : ∀ i, get ([(ks s, some (.pv (.osl n0 0 0))), (kb n0, some (.blk T []))] ++ l) (kb i) = over [(kb n0, some (.blk T []))] (get l) (kb i) := fun i => by
  rw [hge, qmd]; rfl
 have hl : ∀ i, Live (get ([(ks s, some (.pv (.osl n0 0 0))), (kb n0, some (.blk T []))] ++ l)) i → Live (over [(kb n0, some (.blk T []))] (get l)) i := fun i ⟨T', cs, hx⟩ => ⟨T', cs, by rw [← hb]; exact hx⟩
 exact { ids := fun i x hx => by
           rcases hh.ids i x hx with h | h
           · exact Nat.lt_succ_of_lt h
           · subst h; exact Nat.lt_succ_self _
         blk := fun i T' cs hx => hh.blk i T' cs (by rw [← hb]; exact hx), inj := fun i j b T T' l1 l2 => hh.inj i j b T T' (hl i l1) (hl j l2), apart := fun i b T l1 => hh.apart i b T (hl i l1), bnd := hh.bnd, sok := hh.sok,
         os := hh.os, tape := hh.tape, output := hh.output, size := hh.size, same := hh.same, laid := hh.laid, s0 := hh.s0, s1 := hh.s1, keep := hh.keep, tmps := hI.tmps, dfr := hI.dfr
         slot := fun s' p hp => by
           rw [hge, qgy] at hp
           by_cases e : s' = s
           · subst e
             rw [decide_eq_true rfl, if_pos rfl] at hp
             cases hp
             have := qao (hI.slot s' _ hs)
             rw [this]
             exact .osl qaw (.inl ⟨_, rfl, rfl⟩)
           · rw [decide_eq_false e, if_neg (by simp), qld] at hp
             exact (hI.slot s' p hp).mono hk
         isv := fun s' x hx => by
           rw [hge, qgy] at hx
           by_cases e : s' = s
           · subst e
             rw [decide_eq_true rfl, if_pos rfl] at hx
             cases hx
             exact ⟨_, rfl⟩
           · rw [decide_eq_false e, if_neg (by simp), qld] at hx
             exact hI.isv s' x hx }
end
end Go.Proofs.YtmlnilkbolcknaaGreatDoor.Pm
namespace Go.Proofs.YtmlnilkbolcknaaGreatDoor.Pm
open Go

/-- The state qay it. -/
def frzS (id : Nat) (cs : List PV) : L → L
 | [] => []
 | (k, x) :: l => (k, match x with
  | some (.pv p) => some (.pv (frz id cs p))
  | some (.blk T ds) => match Nat.beq k (kb id) with | true => none | false => some (.blk T (frzL id cs ds))
  | none => none) :: frzS id cs l
theorem qke {id : Nat} {cs : List PV} : ∀ {l : L} (k : Nat), get (frzS id cs l) k = match get l k with
  | some (.pv p) => some (.pv (frz id cs p))
  | some (.blk T ds) => if k = kb id then none else some (.blk T (frzL id cs ds))
  | none => none
 | [], k => rfl
 | (j, x) :: l, k => by
  have ih := qke (id := id) (cs := cs) (l := l) k
  simp only [get, frzS, lk] at ih ⊢
  by_cases e : Nat.beq k j = true
  ·have e' := Nat.eq_of_beq_eq_true e
   subst e'
   rw [if_pos e, if_pos e]
   cases x with
   | none => rfl
   | some v =>
    cases v with
    | pv p => rfl
    | blk T ds =>
     simp only [Option.join_some]
     by_cases e2 : k = kb id
     ·subst e2; simp [Nat.beq_refl]
     ·rw [show Nat.beq k (kb id) = false from by rw [Bool.eq_false_iff]; exact fun h => e2 (Nat.eq_of_beq_eq_true h), if_neg e2]
  ·rw [if_neg e, if_neg e]
   exact ih
section
variable {P : Program} {n : Nat} {c0 : Cx} {Bor : BorD} {Q : Post} {n0 : Nat} {l : L} {rs : List Item}
theorem Wk.frz {l' : L} (id : Nat) {T : TypeId} {cs : List PV} (hg : get l (kb id) = some (.blk T cs)) (hs : shds cs) (he : frzS id cs l = l') : Wk P n c0 Bor n0 l n0 l' := fun cx a hI => by
 subst he
 obtain ⟨ob, ho, hone, hbk⟩ := hI.blk id T cs hg
 let cx' : Cx := ⟨cx.w, fun b => cx.S b ∨ ob = some b, cx.own⟩
 have hlive : Live (get l) id := ⟨T, cs, hg⟩
 have hblk : ∀ b, ob = some b → cx'.S b ∧ ∃ arr : Array Value, cx.w.heap[b]? = some (.cells arr T (0, 0)) ∧ cs.length ≤ arr.size ∧ ∀ j, j < cs.length → SRep cx'.w cx'.S (cs.getD j P0) (arr.getD j undef) := by
  intro b hb
  rcases hbk with ⟨h1, _⟩ | ⟨b', arr, h1, h2, h3, h4⟩
  ·rw [hb] at h1; cases h1
  ·obtain rfl : b' = b := by rw [hb] at h1; simpa using h1.symm
   refine ⟨.inr hb, arr, h2, h3, fun j hj => ?_⟩
   have hm : cs.getD j P0 ∈ cs := by simp [List.getD_eq_getElem?_getD, hj]
   exact (qrx (h4 j hj) (hs _ hm)).mono fun b hb => ⟨.inl hb, rfl⟩
 have hrep : ∀ {p : PV} {v : Value}, Rep P cx p v → Rep P cx' (Pm.frz id cs p) v := fun h => qzp (c := cx) (c' := cx') rfl (fun _ h => Or.inl h) rfl ho hone hblk h
 have hgb : ∀ i T' ds, get (frzS id cs l) (kb i) = some (.blk T' ds) → i ≠ id ∧ ∃ ds', get l (kb i) = some (.blk T' ds') ∧ ds = frzL id cs ds' := by
  intro i T' ds h
  rw [qke] at h
  cases hx : get l (kb i) with
  | none => rw [hx] at h; cases h
  | some v =>
   rw [hx] at h
   cases v with
   | pv p => cases h
   | blk T2 ds2 =>
    simp only at h
    by_cases e : kb i = kb id
    ·rw [if_pos e] at h; cases h
    ·rw [if_neg e] at h
     simp only [Option.some.injEq, Val.blk.injEq] at h
     obtain ⟨rfl, rfl⟩ := h
     exact ⟨fun e2 => e (by rw [e2]), _, rfl, rfl⟩
 have hl : ∀ i, Live (get (frzS id cs l)) i → i ≠ id ∧ Live (get l) i := fun i ⟨T', ds, h⟩ => by
  obtain ⟨h1, ds', h2, _⟩ := hgb i T' ds h
  exact ⟨h1, T', ds', h2⟩
 refine ⟨cx', rfl, { ids := hI.ids, blk := fun i T' ds h => ?_, inj := fun i j b T1 T2 l1 l2 => hI.inj i j b T1 T2 (hl i l1).2 (hl j l2).2, apart := fun i b T1 l1 h2 => ?_, bnd := hI.bnd, sok := fun b hb => ?_, os := hI.os, tape := hI.tape, output := hI.output, size := hI.size, same := hI.same, laid := hI.laid, s0 := fun b hb => .inl (hI.s0 b hb), s1 := fun b hb => ?_, keep := ⟨fun b hb => ⟨.inl (hI.keep.S b hb).1, (hI.keep.S b hb).2⟩, hI.keep.own, hI.keep.shape⟩, tmps := hI.tmps, dfr := hI.dfr, slot := fun s p hp => ?_, isv := fun s x hx => ?_ }⟩
 ·obtain ⟨h1, ds', h2, rfl⟩ := hgb i T' ds h
  obtain ⟨ob', h3, h4, h5⟩ := hI.blk i T' ds' h2
  refine ⟨ob', h3, qqj h4, ?_⟩
  rcases h5 with ⟨h5, rfl⟩ | ⟨b, arr, h5, h6, h7, h8⟩
  ·exact .inl ⟨h5, rfl⟩
  ·refine .inr ⟨b, arr, h5, h6, by rw [qax]; exact h7, fun j hj => ?_⟩
   rw [qax] at hj
   rw [qdn _ _ _ j hj]
   exact hrep (h8 j hj)
 ·obtain ⟨h1, h3⟩ := hl i l1
  have hap := hI.apart i b T1 h3 h2
  refine ⟨fun hb => ?_, hap.2⟩
  rcases hb with hb | hb
  ·exact hap.1 hb
  ·subst hb
   exact h1 (hI.inj i id b T1 T h3 hlive h2 ho)
 ·rcases hb with hb | hb
  ·exact hI.sok b hb
  ·subst hb; exact hI.bnd id b T ho
 ·rcases hb with hb | hb
  ·exact hI.s1 b hb
  ·subst hb; exact .inr (hI.apart id b T hlive ho).2
 ·rw [qke] at hp
  cases hx : get l (ks s) with
  | none => rw [hx] at hp; cases hp
  | some v =>
   rw [hx] at hp
   cases v with
   | pv q =>
    simp only [Option.some.injEq, Val.pv.injEq] at hp
    subst hp
    exact hrep (hI.slot s q hx)
   | blk T2 ds2 => obtain ⟨q, hq⟩ := hI.isv s _ hx; cases hq
 ·rw [qke] at hx
  cases hy : get l (ks s) with
  | none => rw [hy] at hx; cases hx
  | some v =>
   rw [hy] at hx
   cases v with
   | pv q => exact ⟨_, by simpa using hx.symm⟩
   | blk T2 ds2 => obtain ⟨q, hq⟩ := hI.isv s _ hy; cases hq

/-! ### loops -/
def qlm (p : Nat → Prop) (m : Nat) : Prop := p m ∧ ∀ k, k < m → ¬ p k
theorem qvg {p : Nat → Prop} : ∀ m, p m → ∃ k, qlm p k := by
 intro m
 induction m using Nat.strongRecOn with
 | ind m ih =>
  intro h
  by_cases e : ∃ k, k < m ∧ p k
  ·obtain ⟨k, h1, h2⟩ := e
   exact ih k h1 h2
  ·exact ⟨m, h, fun k h1 h2 => e ⟨k, h1, h2⟩⟩
/-- What a round must end in: the loop's states again, with less to do; or out. -/
def loopQ {α : Type} (P : Program) (n : Nat) (c0 : Cx) (Bor : BorD) (Q : Post) (rs : List Item) (n1 : Nat) (I : α → L) (μ : α → Nat) (x : α) : Post := fun e cx a => match e with
 | .normal => ∃ y cx', cx'.w = cx.w ∧ Inv ⟨P, n, c0, Bor⟩ (· < n1) cx' (get (I y)) a ∧ μ y < μ x
 | e => WS ⟨P, n, c0, Bor⟩ Q rs e cx a
theorem qcm {α : Type} {body : Code} (I : α → L) (μ : α → Nat) (n1 : Nat) (x0 : α) (h0 : Wk P n c0 Bor n0 l n1 (I x0)) (h : ∀ x, T P n c0 Bor (loopQ P n c0 Bor Q rs n1 I μ x) n1 (I x) [.code body]) : T P n c0 Bor Q n0 l (.code (.loop body) :: rs) := fun cx a hI => by
 obtain ⟨cx0, hw0, hI0⟩ := h0 cx a hI
 let p : Act → World → Nat → Prop := fun a w m => ∃ x cx, cx.w = w ∧ Inv ⟨P, n, c0, Bor⟩ (· < n1) cx (get (I x)) a ∧ μ x = m
 have key := wp_loop (P := P) (Q := fun e a' w' => ∃ cx', cx'.w = w' ∧ WS ⟨P, n, c0, Bor⟩ Q rs e cx' a') (c := body) (a := a) (w := cx.w) (fun a w => ∃ m, qlm (p a w) m) (fun a w => Classical.epsilon (qlm (p a w)))
  (qvg (μ x0) ⟨x0, cx0, hw0, hI0, rfl⟩) ?_
 ·exact key
 ·intro a w hm
  have hsp := Classical.epsilon_spec hm
  obtain ⟨⟨x, cx1, rfl, h1, h2⟩, hleast⟩ := hsp
  refine wp_mono (h x cx1 a h1) ?_
  rintro e a' w' ⟨cx', rfl, h3⟩
  cases e with
  | normal =>
   obtain ⟨y, cx2, h4, h5, h6⟩ := h3
   have hex := qvg (p := p a' cx'.w) (μ y) ⟨y, cx2, h4, h5, rfl⟩
   refine ⟨hex, ?_⟩
   have hsp2 := Classical.epsilon_spec hex
   have hle : Classical.epsilon (qlm (p a' cx'.w)) ≤ μ y := by
    rcases Nat.lt_or_ge (μ y) (Classical.epsilon (qlm (p a' cx'.w))) with h7 | h7
    ·exact absurd ⟨y, cx2, h4, h5, rfl⟩ (hsp2.2 _ h7)
    ·exact h7
   show Classical.epsilon (qlm (p a' cx'.w)) < Classical.epsilon (qlm (p a cx1.w))
   rw [← h2]
   omega
  | exit id => exact ⟨cx', rfl, h3⟩
  | goto l => exact ⟨cx', rfl, h3⟩
  | ret => exact ⟨cx', rfl, h3⟩
  | panic c => exact ⟨cx', rfl, h3⟩
  | outgrown => exact ⟨cx', rfl, h3⟩
theorem qce {α : Type} {I : α → L} {μ : α → Nat} {n1 : Nat} {x : α} (y : α) (hw : Wk P n c0 Bor n0 l n1 (I y)) (hm : μ y < μ x) : T P n c0 Bor (loopQ P n c0 Bor Q rs n1 I μ x) n0 l [] := fun cx a hI => by
 obtain ⟨cx', h1, h2⟩ := hw cx a hI
 exact ⟨y, cx', h1, h2, hm⟩
theorem qbu {α : Type} {I : α → L} {μ : α → Nat} {n1 : Nat} {x : α} {id : Nat} {ks rs' : List Item} (h1 : out id ks = none) (h2 : out id rs = some rs') (h : T P n c0 Bor Q n0 l rs') : T P n c0 Bor (loopQ P n c0 Bor Q rs n1 I μ x) n0 l (.code (.exit id) :: ks) :=
 T_leave h1 fun cx a hI => qyi h2 (h cx a hI)
theorem qav {α : Type} {I : α → L} {μ : α → Nat} {n1 : Nat} {x : α} {cx : Cx} {a : Act} (h : Q .ret cx a) : loopQ P n c0 Bor Q rs n1 I μ x .ret cx a := qtm h

/-! ### whole functions -/
def qzo : List PV → PV
 | [p] => cz p
 | ps => .tup (ps.map cz)
def retQ (P : Program) (fn : Func) (c0 : Cx) (Bor : BorD) (r : PV) (H' : Hp) : Post := fun e cx a => (e = .normal ∨ e = .ret) ∧ a.defers = Bor.ds ∧ ∃ v cx', cx'.w = cx.w ∧ (results fn a.tmps).run P cx.w = .ok v cx.w ∧ Rep P cx' r v ∧ Heap ⟨P, 0, c0, Bor⟩ (· < H'.length) cx' (hSt H')
theorem Heap.env {nx : Nat → Prop} {m : Nat} {c : Cx} {g : St} (h : Heap ⟨P, n, c0, Bor⟩ nx c g) : Heap ⟨P, m, c0, Bor⟩ nx c g :=
 { ids := h.ids, blk := h.blk, inj := h.inj, apart := h.apart, bnd := h.bnd, sok := h.sok, os := h.os, tape := h.tape, output := h.output, size := h.size, same := h.same, laid := h.laid, s0 := h.s0, s1 := h.s1, keep := h.keep }
theorem Heap.less {E : Env} {nx : Nat → Prop} {c : Cx} {g g' : St} (h : Heap E nx c g) (hs : ∀ i T cs, g' (kb i) = some (.blk T cs) → g (kb i) = some (.blk T cs)) : Heap E nx c g' := by
 have hl : ∀ i, Live g' i → Live g i := fun i ⟨T, cs, hx⟩ => ⟨T, cs, hs _ _ _ hx⟩
 exact { h with blk := fun i T cs hx => h.blk i T cs (hs _ _ _ hx), inj := fun i j b T T' l1 l2 => h.inj i j b T T' (hl i l1) (hl j l2), apart := fun i b T l1 => h.apart i b T (hl i l1) }
/-- What is left of the blocks. -/
def qth (l : L) : Nat → Hp → List Prop
 | _, [] => []
 | i, some (T, cs) :: H => (get l (kb i) = some (.blk T cs)) :: qth l (i + 1) H
 | i, none :: H => qth l (i + 1) H
theorem qjh {l : L} : ∀ {H : Hp} {n : Nat}, (∀ p ∈ qth l n H, p) → ∀ i x, H.getD i none = some x → get l (kb (n + i)) = some (.blk x.1 x.2)
 | [], n, _, i, x, h => by simp at h
 | none :: H, n, hp, 0, x, h => by simp at h
 | none :: H, n, hp, i + 1, x, h => by
  have := qjh (H := H) (n := n + 1) hp i x (by simpa using h)
  rwa [show n + 1 + i = n + (i + 1) by omega] at this
 | some y :: H, n, hp, 0, x, h => by
  obtain ⟨T, cs⟩ := y
  have : (T, cs) = x := by simpa using h
  subst this
  exact hp _ (by simp [qth])
 | some y :: H, n, hp, i + 1, x, h => by
  obtain ⟨T, cs⟩ := y
  have := qjh (l := l) (H := H) (n := n + 1) (fun p hp' => hp p (by simp [qth, hp'])) i x (by simpa using h)
  rwa [show n + 1 + i = n + (i + 1) by omega] at this
theorem qby {fn : Func} {r : PV} {H' : Hp} {n1 : Nat} {l' : L} {e : Exit} (he : e = .normal ∨ e = .ret) (hw : Wk P n c0 Bor n0 l n1 l') (hn : n1 = H'.length) (hb : ∀ p ∈ qth l' 0 H', p)
  (hr : ∀ (cx : Cx) (a : Act), Inv ⟨P, n, c0, Bor⟩ (· < n1) cx (get l') a → ∃ v, (results fn a.tmps).run P cx.w = .ok v cx.w ∧ Rep P cx r v) {cx : Cx} {a : Act} (hI : Inv ⟨P, n, c0, Bor⟩ (· < n0) cx (get l) a) : retQ P fn c0 Bor r H' e cx a := by
 obtain ⟨cx', h1, h2⟩ := hw cx a hI
 obtain ⟨v, h3, h4⟩ := hr cx' a h2
 refine ⟨he, hI.dfr, v, cx', h1, by rw [← h1]; exact h3, h4, ?_⟩
 subst hn
 refine (h2.toHeap.env).less fun i T cs hx => ?_
 rw [qgs] at hx
 cases hy : H'.getD i none with
 | none => rw [hy] at hx; cases hx
 | some y =>
  rw [hy] at hx
  simp only [Option.some.injEq, Val.blk.injEq] at hx
  obtain ⟨rfl, rfl⟩ := hx
  have := qjh hb i y hy
  rwa [Nat.zero_add] at this
/-- The state that a call begins in. -/
def qjb : Nat → List PV → L
 | _, [] => []
 | i, p :: ps => (ks i, some (.pv p)) :: qjb (i + 1) ps
def qie : Nat → Hp → L
 | _, [] => []
 | i, x :: H => (kb i, match x with | some y => some (.blk y.1 y.2) | none => none) :: qie (i + 1) H
theorem qls (i : Nat) : ∀ (ps : List PV) (n : Nat), lk (kb i) (qjb n ps) = none
 | [], _ => rfl
 | p :: ps, n => by simp only [qjb, lk, qmd]; exact qls i ps (n + 1)
theorem qlr (s : Nat) : ∀ (H : Hp) (n : Nat), lk (ks s) (qie n H) = none
 | [], _ => rfl
 | x :: H, n => by simp only [qie, lk, qee]; exact qlr s H (n + 1)
theorem qvd : ∀ (ps : List PV) (n s : Nat) (x : Option Val), lk (ks s) (qjb n ps) = some x → n ≤ s ∧ s < n + ps.length ∧ x = some (.pv (ps.getD (s - n) P0))
 | p :: ps, n, s, x, h => by
  simp only [qjb, lk, qgy] at h
  by_cases e : s = n
  ·subst e
   rw [decide_eq_true rfl, if_pos rfl] at h
   cases h
   exact ⟨Nat.le_refl _, by simp, by rw [Nat.sub_self]; rfl⟩
  ·rw [decide_eq_false e, if_neg (by simp)] at h
   obtain ⟨h1, h2, h3⟩ := qvd ps (n + 1) s x h
   refine ⟨by omega, by simp; omega, ?_⟩
   rw [h3, show s - n = (s - (n + 1)) + 1 by omega]
   rfl
theorem qvc : ∀ (H : Hp) (n i : Nat) (T : TypeId) (cs : List PV), lk (kb i) (qie n H) = some (some (.blk T cs)) → n ≤ i ∧ H.getD (i - n) none = some (T, cs)
 | x :: H, n, i, T, cs, h => by
  simp only [qie, lk, qin] at h
  by_cases e : i = n
  ·subst e
   rw [decide_eq_true rfl, if_pos rfl] at h
   cases x with
   | none => cases h
   | some y =>
    simp only [Option.some.injEq, Val.blk.injEq] at h
    obtain ⟨rfl, rfl⟩ := h
    exact ⟨Nat.le_refl _, by rw [Nat.sub_self]; rfl⟩
  ·rw [decide_eq_false e, if_neg (by simp)] at h
   obtain ⟨h1, h2⟩ := qvc H (n + 1) i T cs h
   refine ⟨by omega, ?_⟩
   rw [show i - n = (i - (n + 1)) + 1 by omega]
   exact h2
theorem qvj {fn : Func} {args : List PV} {H : Hp} {l0 : L} (hn : args.length ≤ fn.ntmps) (hl0 : qjb 0 args ++ qie 0 H = l0)
  (c : Cx) (vs : Array Value) (hh : Heap (cEnv P c H) (· < H.length) c (hSt H)) (hrl : RL P c args vs) :
  Inv ⟨P, fn.ntmps, c, (cEnv P c H).Bor⟩ (· < H.length) c (get l0) { tmps := vs ++ Array.replicate (fn.ntmps - vs.size) undef, defers := [] } := by
 have hvs := hrl.1
 subst hl0
 have hgb : ∀ i T cs, get (qjb 0 args ++ qie 0 H) (kb i) = some (.blk T cs) → hSt H (kb i) = some (.blk T cs) := by
  intro i T cs hx
  rw [qcg] at hx
  simp only [over, qls, get] at hx
  have h2 : lk (kb i) (qie 0 H) = some (some (.blk T cs)) := by
   cases hy : lk (kb i) (qie 0 H) with
   | none => rw [hy] at hx; cases hx
   | some y => rw [hy] at hx; simpa using hx
  obtain ⟨_, h3⟩ := qvc H 0 i T cs h2
  rw [Nat.sub_zero] at h3
  rw [qgs, h3]
 have hgs : ∀ s x, get (qjb 0 args ++ qie 0 H) (ks s) = some x → s < args.length ∧ x = .pv (args.getD s P0) := by
  intro s x hx
  rw [qcg] at hx
  simp only [over, get, qlr] at hx
  cases hy : lk (ks s) (qjb 0 args) with
  | none => rw [hy] at hx; cases hx
  | some y =>
   rw [hy] at hx
   obtain ⟨_, h2, h3⟩ := qvd args 0 s y hy
   simp only [Nat.sub_zero] at h3
   rw [h3] at hx
   exact ⟨by omega, by simpa using hx.symm⟩
 have hh1 : Heap ⟨P, fn.ntmps, c, (cEnv P c H).Bor⟩ (· < H.length) c (hSt H) := hh.env
 exact { hh1.less hgb with
   tmps := by simp; omega
   dfr := rfl
   slot := fun s p hp => by
     obtain ⟨h1, h2⟩ := hgs s _ hp
     cases h2
     have h3 := hrl.2 s h1
     have h4 : s < vs.size := by omega
     have e : (vs ++ Array.replicate (fn.ntmps - vs.size) undef).getD s undef = vs.getD s undef := by
       rw [Array.getD_eq_getD_getElem?, Array.getElem?_append_left h4, Array.getD_eq_getD_getElem?]
     show Rep P c _ ((vs ++ Array.replicate (fn.ntmps - vs.size) undef).getD s undef)
     rw [e]
     exact h3
   isv := fun s x hx => ⟨_, (hgs s x hx).2⟩ }
theorem qjg {fn : Func} {code : Code} {args : List PV} {H : Hp} {l0 : L} {Q : Cx → (Nat → Prop) → Post}
  (hn : Nat.ble args.length fn.ntmps = true) (hl0 : qjb 0 args ++ qie 0 H = l0) (h : ∀ c0 (Bor : Nat → Prop), (∀ i x, c0.own i = some x → i < H.length) → T P fn.ntmps c0 ⟨Bor, []⟩ (Q c0 Bor) H.length l0 [.code code])
  (c : Cx) (vs : Array Value) (hh : Heap (cEnv P c H) (· < H.length) c (hSt H)) (hrl : RL P c args vs) :
  code.wp P (fun e a' w' => ∃ cx', cx'.w = w' ∧ Q c (cEnv P c H).Bor.bor e cx' a') { tmps := vs ++ Array.replicate (fn.ntmps - vs.size) undef, defers := [] } c.w := by
 have hn := Nat.le_of_ble_eq_true hn
 exact h c (cEnv P c H).Bor.bor (fun i x hx => hh.ids i x hx) c _ (qvj hn hl0 c vs hh hrl)
theorem qas {f : FuncId} {fn : Func} {code : Code} {args : List PV} {H H' : Hp} {r : PV} {l0 : L} (hf : P.funcs[f]? = some fn) (hb : fn.body = some code) (hname : (fn.name == "runtime.NumGoroutine") = false) (hlen : H.length ≤ H'.length)
  (hn : Nat.ble args.length fn.ntmps = true) (hl0 : qjb 0 args ++ qie 0 H = l0) (h : ∀ c0 (Bor : Nat → Prop), (∀ i x, c0.own i = some x → i < H.length) → T P fn.ntmps c0 ⟨Bor, []⟩ (retQ P fn c0 ⟨Bor, []⟩ r H') H.length l0 [.code code]) : PC P f args H r H' := by
 refine ⟨⟨fn, hf, by rw [hb]; rfl, hname⟩, hlen, fun c vs hh hrl => ?_⟩
 refine calls_of_wp hf hb ?_
 have key := qjg hn hl0 h c vs hh hrl
 refine wp_mono key ?_
 rintro e a' w' ⟨cx', rfl, he, hd, v, cx2, h1, h2, h3, h4⟩
 rcases he with rfl | rfl
 ·exact ⟨hd, v, h2, v, cx2, rfl, h1, h4, h3⟩
 ·exact ⟨hd, v, h2, v, cx2, rfl, h1, h4, h3⟩
/-- A function that is lent nothing and hands back one plain value: as the walks of the kit say it. -/
theorem pc_calls {f : FuncId} {args : List PV} {v : Value} {w : World} {vs : Array Value} (h : PC P f args [] (.av v) []) (hn : vs.size = args.length) (hr : ∀ i, i < args.length → SRep w (fun b => b < w.heap.size) (args.getD i P0) (vs.getD i undef))
  (hL : Laid w (fun b => b < w.heap.size) := by (exact ⟨fun x hx => absurd hx (List.not_mem_nil (a := x)), trivial⟩)) :
  Calls P f vs w fun e w' => e = .returned v ∧ RowKit.Below w.heap.size w w' := by
 obtain ⟨_, _, h⟩ := h
 let c : Cx := ⟨w, fun b => b < w.heap.size, fun _ => none⟩
 have hh : Heap (cEnv P c []) (· < ([] : Hp).length) c (hSt []) := by
  refine { ids := fun i x hx => (by cases hx), blk := fun i T cs hx => (by rw [qgs] at hx; simp at hx), inj := fun i j b T T' l1 => ?_, apart := fun i b T l1 => ?_, bnd := fun i b T hx => (by cases hx), sok := fun b hb => hb, os := rfl, tape := rfl, output := rfl, size := Nat.le_refl _, same := fun _ _ _ => rfl, laid := hL, s0 := fun _ h => h, s1 := fun _ h => .inl h, keep := Keep.refl _ }
  ·obtain ⟨T, cs, hx⟩ := l1
   rw [qgs] at hx; simp at hx
  ·obtain ⟨T, cs, hx⟩ := l1
   rw [qgs] at hx; simp at hx
 refine (h c vs hh ⟨hn, fun i hi => .sh (hr i hi)⟩).mono ?_
 rintro e w' ⟨u, c', rfl, rfl, h1, h2⟩
 rw [qao h2]
 refine ⟨rfl, h1.os, h1.tape, h1.output, h1.size, fun k hk => h1.same k hk ?_⟩
 rintro ⟨i, T, ⟨T', cs, hx⟩, _⟩
 rw [qgs] at hx
 simp at hx
end
end Go.Proofs.YtmlnilkbolcknaaGreatDoor.Pm
namespace Go.Proofs.YtmlnilkbolcknaaGreatDoor.Pm
open Go

/-- What is handed back: slots, or what stands in a box. -/
def resP (P : Program) : List ResultVar → (List PV → Plan) → Plan
 | [], k => k []
 | .tmp t :: rs, k => .look (ks t) fun v => match v with | .pv p => resP P rs fun ps => k (p :: ps) | .blk _ _ => .fail
 | .cell t T :: rs, k => .look (ks t) fun v => match v with
  | .pv (.opt id off) => .look (kb id) fun v => match v with
   | .blk _ cs => match qdh (P.underlying T), P.info? T with
    | some true, some ti => seg cs off ti.size .no fun l => resP P rs fun ps => k (.agg l :: ps)
    | some false, some _ => seg cs off 1 .no fun l => one1 l fun p => resP P rs fun ps => k (p :: ps)
    | _, _ => .fail
   | .pv _ => .fail
  | _ => .fail
abbrev resF (tmps : Array Value) : ResultVar → Sem Value := fun x => match x with
 | .tmp t => pure (tmps.getD t undef)
 | .cell a t => do loadVar t (← asAddr (tmps.getD a undef))
theorem qsb {E : Env} {nx : Nat → Prop} {c : Cx} {g : St} {a : Act} (hI : Inv E nx c g a) : ∀ {rs : List ResultVar} {k : List PV → Plan} {p : PV} {wb : L}, Res g (resP E.P rs k) p wb →
  ∃ ps vs, RL E.P c ps (List.toArray vs) ∧ (rs.mapM (resF a.tmps)).run E.P c.w = .ok vs c.w ∧ Res g (k ps) p wb
 | [], k, p, wb, h => ⟨[], [], ⟨rfl, fun i hi => by simp at hi⟩, by simp, h⟩
 | .tmp t :: rs, k, p, wb, h => by
  obtain ⟨v, h1, h2⟩ := Res.look h
  cases v with
  | blk T cs => exact (Res.fail h2).elim
  | pv q =>
   obtain ⟨ps, vs, h3, h4, h5⟩ := qsb hI h2
   refine ⟨q :: ps, a.tmps.getD t undef :: vs, ?_, ?_, h5⟩
   ·have := (qgw (hI.slot t q h1)).append h3
    simpa using this
   ·simp [List.mapM_cons, h4, resF]
 | .cell t T :: rs, k, p, wb, h => by
  obtain ⟨v, h1, h2⟩ := Res.look h
  split at h2
  case h_2 => exact (Res.fail h2).elim
  rename_i id off
  obtain ⟨bv, hg, h3⟩ := Res.look h2
  cases bv with
  | pv _ => exact (Res.fail h3).elim
  | blk T' cs =>
   simp only at h3
   obtain ⟨b, T2, hown, hv⟩ := qdk (hI.slot t _ h1)
   obtain ⟨ob', hown', hone, hb⟩ := hI.blk id T' cs hg
   rw [hown] at hown'
   cases hown'
   rcases hb with ⟨hb, _⟩ | ⟨b', arr, hb1, hb2, hb3, hb4⟩
   ·cases hb
   obtain rfl : b' = b := by simpa using hb1.symm
   have hcell : ∀ j, j < cs.length → c.w.cell? ⟨b', 0 + j, none⟩ = some (arr.getD j undef) := fun j hj => by
    have : j < arr.size := by omega
    rw [Nat.zero_add, cell_of_row c.w _ _ arr _ _ hb2]
    simp [Array.getD_eq_getD_getElem?, this]
   -- one value loaded, the rest qay it
   have key : ∀ {q : PV} {u : Value} {r : Plan}, Rep E.P c q u → (loadVar T ⟨b', 0 + off, none⟩).run E.P c.w = .ok u c.w → Res g (resP E.P rs fun ps => k (q :: ps)) p wb →
     ∃ ps vs, RL E.P c ps (List.toArray vs) ∧ ((ResultVar.cell t T :: rs).mapM (resF a.tmps)).run E.P c.w = .ok vs c.w ∧ Res g (k ps) p wb := by
    intro q u r hq hu hr
    obtain ⟨ps, vs, h5, h6, h7⟩ := qsb hI hr
    refine ⟨q :: ps, u :: vs, ?_, ?_, h7⟩
    ·have := (qgw hq).append h5
     simpa using this
    ·rw [Nat.zero_add] at hu
     have e : (resF a.tmps (.cell t T)).run E.P c.w = .ok u c.w := by
      have hv2 : a.tmps.getD t undef = .pointer (some ⟨b', off, none⟩) := hv
      simp only [resF, Sem.run_bind, hv2, asAddr, Sem.run_pure, Result.andThen_ok, hu]
     rw [List.mapM_cons]
     simp only [Sem.run_bind, e, h6, Result.andThen_ok, Sem.run_pure]
   split at h3
   ·rename_i ti hag hin
    have h4 : Res g (qgx cs off ti.size true .no) (.agg ((cs.drop off).take ti.size)) [] ∧ Res g (resP E.P rs fun ps => k (.agg ((cs.drop off).take ti.size) :: ps)) p wb := by
     unfold seg at h3
     simp only at h3
     split at h3
     ·rename_i hb5
      refine ⟨?_, h3⟩
      simp only [qgx, seg, hb5]
      exact ⟨_, rfl, rfl, rfl, fun q hq => by cases hq⟩
     ·exact (Res.fail h3).elim
    obtain ⟨_, u, h5, h6⟩ := qkc (c := c) (a := 0) hag hin h4.1 hcell hb4
    exact key (r := .fail) h5 h6 h4.2
   ·rename_i ti hag hin
    unfold seg at h3
    simp only at h3
    split at h3
    ·rename_i hb5
     unfold one1 at h3
     split at h3
     ·rename_i q heq
      have h4 : Res g (qgx cs off ti.size false .no) q [] := by
       simp only [qgx, seg, hb5, heq, one1]
       exact ⟨_, rfl, rfl, rfl, fun q hq => by cases hq⟩
      obtain ⟨_, u, h5, h6⟩ := qkc (c := c) (a := 0) hag hin h4 hcell hb4
      exact key (r := .fail) h5 h6 h3
     ·exact (Res.fail h3).elim
    ·exact (Res.fail h3).elim
   ·exact (Res.fail h3).elim
def runv (g : St) (p : Plan) : Option (PV × List Prop) := match run g p with | some o => some (o.pv, o.obs) | none => none
theorem qbc {P : Program} {n : Nat} {c0 : Cx} {Bor : BorD} {n0 : Nat} {fn : Func} {l' : L} {r : PV} (h : runv (get l') (resP P fn.results.toList fun ps => .done (qzo ps) []) = some (r, [])) (cx : Cx) (a : Act)
  (hI : Inv ⟨P, n, c0, Bor⟩ (· < n0) cx (get l') a) : ∃ v, (results fn a.tmps).run P cx.w = .ok v cx.w ∧ Rep P cx r v := by
 unfold runv at h
 split at h
 case h_2 => cases h
 rename_i o h0
 simp only [Option.some.injEq, Prod.mk.injEq] at h
 obtain ⟨hr, ho⟩ := h
 obtain ⟨ps, vs, h1, h2, h3⟩ := qsb hI (p := r) (wb := o.wb) ⟨o, h0, hr, rfl, fun q hq => by rw [ho] at hq; cases hq⟩
 obtain ⟨rfl, _⟩ := Res.done h3
 have e : (results fn a.tmps).run P cx.w = .ok (if hs : vs.toArray.size = 1 then vs.toArray[0] else .tuple vs.toArray) cx.w := by
  have e0 : results fn a.tmps = (do let vs ← fn.results.mapM (resF a.tmps); pure (if h : vs.size = 1 then vs[0] else .tuple vs)) := rfl
  rw [e0, Array.mapM_eq_mapM_toList]
  simp only [Sem.run_bind, Sem.run_map, h2, Result.andThen_ok]
  rfl
 refine ⟨_, e, ?_⟩
 have hlen : vs.length = ps.length := by simpa using h1.1
 unfold qzo
 split
 ·rename_i p
  have h5 : vs.toArray.size = 1 := by simpa using hlen
  rw [dif_pos h5]
  have := h1.2 0 (by simp)
  have h6 : (0 : Nat) < vs.length := by simpa using hlen ▸ Nat.one_pos
  simp [Array.getD_eq_getD_getElem?, h6] at this
  exact qzu (by simpa using this)
 ·rename_i hne
  have h5 : ¬ vs.toArray.size = 1 := fun e => by
   have : ps.length = 1 := by simp at e; omega
   obtain ⟨q, rfl⟩ := List.length_eq_one_iff.1 this
   exact hne q rfl
  rw [dif_neg h5]
  refine .tup (by simp [hlen]) fun i hi => ?_
  have hi' : i < ps.length := by simpa using hi
  have := qzu (h1.2 i hi')
  simpa [List.getD_eq_getElem?_getD, hi'] using this

/-! ### contracts of the kit's kind -/
/-- A callee that is lent nothing, tells its result by plain values, and at most makes blocks. -/
theorem pc_ofL {P : Program} {f : FuncId} {args : List PV} {r : PV} (hf : FnOk P f) (hr : ∀ w vs, Laid w (fun b => b < w.heap.size) → RL P ⟨w, fun b => b < w.heap.size, fun _ => none⟩ args vs → Calls P f vs w fun e w' => ∃ v, e = .returned v ∧ RowKit.Below w.heap.size w w' ∧ ∀ c, Rep P c r v)
  (hargs : ∀ c vs, RL P c args vs → RL P ⟨c.w, fun b => b < c.w.heap.size, fun _ => none⟩ args vs) : PC P f args [] r [] := by
 refine ⟨hf, Nat.le_refl _, fun c vs hh hrl => (hr c.w vs ⟨fun x hx => hh.sok _ (hh.laid.1 x hx), hh.laid.2⟩ (hargs c vs hrl)).mono ?_⟩
 rintro e w' ⟨v, rfl, hb, hv⟩
 have hbl : ∀ b, b < c.w.heap.size → w'.heap[b]? = c.w.heap[b]? := hb.block
 have hno : ∀ i, ¬ Live (hSt []) i := fun i ⟨T, cs, hx⟩ => by rw [qgs] at hx; simp at hx
 have hk : Keep c ⟨w', c.S, c.own⟩ := ⟨fun b hb => ⟨hb, hbl b (hh.sok b hb)⟩, fun _ _ h => h, fun b cs T h => ⟨cs, by rw [hbl b (qzb h)]; exact h, rfl⟩⟩
 exact ⟨v, ⟨w', c.S, c.own⟩, rfl, rfl, { ids := hh.ids, blk := fun i T cs hx => absurd ⟨T, cs, hx⟩ (hno i), inj := fun i j b T T' l1 => absurd l1 (hno i), apart := fun i b T l1 => absurd l1 (hno i), bnd := fun i b T hx => Nat.lt_of_lt_of_le (hh.bnd i b T hx) hb.size, sok := fun b hS => Nat.lt_of_lt_of_le (hh.sok b hS) hb.size, os := hb.os, tape := hb.tape, output := hb.output, size := hb.size, same := fun b hb' _ => hbl b hb', laid := hh.laid, s0 := fun _ h => h, s1 := fun _ h => .inl h, keep := hk }, hv _⟩

/-! ### small words -/
section
variable {P : Program} {n : Nat} {c0 : Cx} {Bor : BorD} {Q : Post} {n0 : Nat} {l : L} {rs : List Item}
theorem qau {t : Nat} {x y : Code} {b : Bool} (hb : get l (ks t) = some (.pv (.av (.bool b)))) (hv : b = true) (h : T P n c0 Bor Q n0 l (.code x :: rs)) : T P n c0 Bor Q n0 l (.code (.cond (.tmp t) x y) :: rs) :=
 T_cond hb (fun _ => h) fun e => by rw [hv] at e; cases e
theorem qbf {t : Nat} {x y : Code} {b : Bool} (hb : get l (ks t) = some (.pv (.av (.bool b)))) (hv : b = false) (h : T P n c0 Bor Q n0 l (.code y :: rs)) : T P n c0 Bor Q n0 l (.code (.cond (.tmp t) x y) :: rs) :=
 T_cond hb (fun e => by rw [hv] at e; cases e) fun _ => h
end
theorem oz : ∀ p ∈ ([] : List Prop), p := fun p hp => by cases hp
theorem oc {p : Prop} {l : List Prop} (h : p) (k : ∀ q ∈ l, q) : ∀ q ∈ p :: l, q := fun q hq => by
 rcases List.mem_cons.1 hq with rfl | hq
 ·exact h
 ·exact k q hq
theorem Wk.eq {P : Program} {n : Nat} {c0 : Cx} {Bor : BorD} {n0 : Nat} {l l' : L} (h : l = l') : Wk P n c0 Bor n0 l n0 l' := h ▸ Wk.refl
abbrev iv (n : Int) : PV := .av (.int .i64 n)
abbrev bv (b : Bool) : PV := .av (.bool b)
abbrev sv (s : ByteArray) : PV := .av (.string s)
abbrev ps (s : Nat) (p : PV) : Nat × Option Val := (ks s, some (.pv p))
abbrev pb (i : Nat) (T : TypeId) (cs : List PV) : Nat × Option Val := (kb i, some (.blk T cs))
theorem qcz {α : Type} (f : α → List PV) (s : Nat) (hf : ∀ x, (f x).length = s) : ∀ l : List α, (l.flatMap f).length = l.length * s
 | [] => by simp
 | x :: l => by rw [List.flatMap_cons, List.length_append, hf, qcz f s hf l, List.length_cons, Nat.succ_mul]; omega
theorem qch {α : Type} (f : α → List PV) (s : Nat) (hf : ∀ x, (f x).length = s) (d : α) : ∀ (l : List α) (k j m : Nat), k < l.length → j + m ≤ s →
  k * s + j + m ≤ (l.flatMap f).length ∧ ((l.flatMap f).drop (k * s + j)).take m = ((f (l.getD k d)).drop j).take m
 | x :: l, 0, j, m, _, hj => by
  refine ⟨by rw [qcz f s hf, List.length_cons, Nat.succ_mul]; omega, ?_⟩
  rw [Nat.zero_mul, Nat.zero_add, List.flatMap_cons, List.drop_append_of_le_length (by rw [hf]; omega), List.take_append_of_le_length (by rw [List.length_drop, hf]; omega)]
  rfl
 | x :: l, k + 1, j, m, hk, hj => by
  have hk' : k < l.length := by simpa using hk
  obtain ⟨h1, h2⟩ := qch f s hf d l k j m hk' hj
  refine ⟨by rw [List.flatMap_cons, List.length_append, hf, Nat.succ_mul]; omega, ?_⟩
  have e : (k + 1) * s + j = s + (k * s + j) := by rw [Nat.succ_mul]; omega
  rw [List.flatMap_cons, e, ← List.drop_drop, show s = (f x).length from (hf x).symm, List.drop_left, hf x, h2]
  rfl
end Go.Proofs.YtmlnilkbolcknaaGreatDoor.Pm
namespace Go.Proofs.YtmlnilkbolcknaaGreatDoor.Pm
open Go

/-- A contract of the kit's kind: plain values in, plain values out, blocks made at most. -/
theorem qok {P : Program} {f : FuncId} {args : List PV} {r : PV} {us : List Value} {v : Value} (hf : FnOk P f) (ha : qii args = some us) (hr : qxw r = some v)
  (h : ∀ w, Laid w (fun b => b < w.heap.size) → Calls P f us.toArray w fun e w' => e = .returned v ∧ RowKit.Below w.heap.size w w') : PC P f args [] r [] := by
 refine pc_ofL hf (fun w vs hL hrl => ?_) fun c vs hrl => ?_
 ·rw [qig (f := qjt) (fs := qii) rfl (fun _ _ => rfl) (fun _ _ _ h k => qij h k) ha hrl]
  exact (h w hL).mono fun e w' ⟨he, hb⟩ => ⟨v, he, hb, fun c => .sh (qvt hr)⟩
 ·rw [qig (f := qjt) (fs := qii) rfl (fun _ _ => rfl) (fun _ _ _ h k => qij h k) ha hrl]
  obtain ⟨h1, h2⟩ := qkf (w := c.w) (S := fun b => b < c.w.heap.size) (f := qjt) (fs := qii) rfl (fun _ _ => rfl) (fun _ _ h => qpa h) ha
  exact ⟨by simpa using h1, fun i hi => by rw [qpg]; exact .sh (h2 i hi)⟩
theorem qcc {P : Program} {f : FuncId} {args : List PV} {r : PV} {us : List Value} {v : Value} (hf : FnOk P f) (ha : qii args = some us) (hr : qxw r = some v)
  (h : ∀ w, Calls P f us.toArray w fun e w' => e = .returned v ∧ RowKit.Below w.heap.size w w') : PC P f args [] r [] := qok hf ha hr fun w _ => h w
theorem qdo {P : Program} {f : FuncId} {fn : Func} (hf : P.funcs[f]? = some fn) (hb : fn.body.isNone = false) (hn : (fn.name == "runtime.NumGoroutine") = false) : FnOk P f := ⟨fn, hf, hb, hn⟩
theorem qih {α : Type} (f : α → List PV) (l m : List α) : (l ++ m).flatMap f = l.flatMap f ++ m.flatMap f := List.flatMap_append
def rkey (σ : Nat → Nat) (k : Nat) : Nat := match Nat.beq (k % 2) 1 with | true => kb (σ (k / 2)) | false => k
def rval (σ : Nat → Nat) : Option Val → Option Val
 | some (.pv p) => some (.pv (ren σ p))
 | some (.blk T cs) => some (.blk T (renL σ cs))
 | none => none
def qkr (n1 : Nat) (l : L) : Bool := l.all fun x => match x.2 with | some (.blk _ _) => Nat.beq (x.1 % 2) 1 && Nat.blt (x.1 / 2) n1 | some (.pv _) => Nat.beq (x.1 % 2) 0 | none => true
theorem qsd {σ : Nat → Nat} {n1 : Nat} {g : St} : ∀ {l : L}, l.map (fun x => g (rkey σ x.1)) = l.map (fun x => rval σ x.2) → qkr n1 l = true → ∀ p ∈ reSt σ n1 l g, p
 | [], _, _, p, hp => by cases hp
 | x :: l, h, hb, p, hp => by
  simp only [List.map_cons, List.cons.injEq] at h
  simp only [qkr, List.all_cons, Bool.and_eq_true] at hb
  simp only [reSt, List.map_cons, List.mem_cons] at hp
  rcases hp with rfl | hp
  ·obtain ⟨k, v⟩ := x
   cases v with
   | none => trivial
   | some v =>
    cases v with
    | pv p =>
     have h0 : k % 2 = 0 := Nat.eq_of_beq_eq_true hb.1
     have h1 := h.1
     simp only [rkey, rval, h0] at h1
     exact h1
    | blk T cs =>
     have hb1 := hb.1
     simp only [Bool.and_eq_true, Nat.blt_eq] at hb1
     have h0 : k % 2 = 1 := Nat.eq_of_beq_eq_true hb1.1
     have h1 := h.1
     simp only [rkey, rval, h0, Nat.beq_refl] at h1
     exact ⟨h0, hb1.2, h1⟩
  ·exact qsd h.2 hb.2 p hp
theorem Wk.ren2 {P : Program} {n : Nat} {c0 : Cx} {Bor : BorD} {n0 : Nat} {l : L} (l' : L) (m : Nat) (hc0 : ∀ i x, c0.own i = some x → i < m) (σl : List Nat) (hσ : σl.take m = List.range m) (hnd : qcl σl = true) (hb : qkr σl.length l' = true)
  (h : l'.map (fun x => get l (rkey (sgm n0 σl) x.1)) = l'.map (fun x => rval (sgm n0 σl) x.2)) : Wk P n c0 Bor n0 l σl.length l' := Wk.ren m hc0 σl hσ hnd (qsd h hb)
/-- Trailing dead numbers, dropped. -/
theorem qoj {P : Program} {f : FuncId} {args : List PV} {r : PV} {v : Value} (H' : Hp) (hr : qxw r = some v) (_hd : ∀ i, H'.getD i none = none) (h : PC P f args [] r H') : PC P f args [] r [] := by
 obtain ⟨h1, _, h2⟩ := h
 refine ⟨h1, Nat.le_refl _, fun c vs hh hrl => (h2 c vs hh hrl).mono ?_⟩
 rintro e w' ⟨u, c', rfl, rfl, h3, h4⟩
 have hno : ∀ (H : Hp), (∀ i, H.getD i none = none) → ∀ i, ¬ Live (hSt H) i := fun H hH i ⟨T, cs, hx⟩ => by rw [qgs, hH] at hx; cases hx
 have hno0 := hno [] (fun i => by simp)
 have hown : ∀ i x, c.own i = some x → False := fun i x hx => by have : i < 0 := hh.ids i x hx; omega
 have hk := h3.keep
 refine ⟨u, ⟨c'.w, c'.S, fun _ => none⟩, rfl, rfl, { ids := fun i x hx => (by cases hx), blk := fun i T cs hx => absurd ⟨T, cs, hx⟩ (hno0 i), inj := fun i j b T T' l1 => absurd l1 (hno0 i), apart := fun i b T l1 => absurd l1 (hno0 i), bnd := fun i b T hx => (by cases hx), sok := h3.sok, os := h3.os, tape := h3.tape, output := h3.output, size := h3.size, same := h3.same, laid := h3.laid, s0 := h3.s0, s1 := h3.s1, keep := ⟨hk.S, fun i x hx => (hown i x hx).elim, hk.shape⟩ }, ?_⟩
 have e : u = v := by
  unfold qxw at hr
  split at hr
  ·split at hr
   case h_2 => cases hr
   rename_i cs l hl
   cases hr
   obtain ⟨vs2, rfl, q1, q2⟩ := qsc h4
   rw [qig (f := qjt) (fs := qii) rfl (fun _ _ => rfl) (fun _ _ _ h k => qij h k) hl ⟨q1, q2⟩]
  ·exact qij hr h4
 rw [e]
 exact .sh (qvt hr)
end Go.Proofs.YtmlnilkbolcknaaGreatDoor.Pm
namespace Go.Proofs.YtmlnilkbolcknaaGreatDoor.Pm
open Go

theorem ren_shd {σ : Nat → Nat} {p : PV} (h : p.shd = true) : ren σ p = p := by
 cases p <;> first | rfl | cases h
theorem qbd {σ : Nat → Nat} : ∀ {cs : List PV}, shds cs → renL σ cs = cs
 | [], _ => rfl
 | p :: l, h => by
  rw [renL, ren_shd (h p (by simp)), qbd (fun q hq => h q (by simp [hq]))]
theorem qek {α : Type} (f : α → List PV) (hf : ∀ x, (f x).all PV.shd = true) (l : List α) : shds (l.flatMap f) := fun p hp => by
 obtain ⟨x, _, hx⟩ := List.mem_flatMap.1 hp
 exact List.all_eq_true.1 (hf x) p hx
def lf (k : Nat) : List (Nat × List PV) → Option (List PV)
 | [] => none
 | x :: F => match Nat.beq k x.1 with | true => some x.2 | false => lf k F
def fixF (F : List (Nat × List PV)) (x : Nat × Option Val) : Option Val := match x.2 with
 | some (.blk T cs) => match lf x.1 F with | some ds => some (.blk T ds) | none => some (.blk T cs)
 | some (.pv p) => some (.pv p)
 | none => none
def rvalF (σ : Nat → Nat) (F : List (Nat × List PV)) (x : Nat × Option Val) : Option Val := match x.2 with
 | some (.blk T cs) => match lf x.1 F with | some ds => some (.blk T ds) | none => some (.blk T (renL σ cs))
 | some (.pv p) => some (.pv (ren σ p))
 | none => none
theorem qvf {k : Nat} {cs : List PV} : ∀ {F : List (Nat × List PV)}, (∀ q ∈ F.map (fun x => shds x.2), q) → lf k F = some cs → shds cs
 | [], _, h => by cases h
 | x :: F, hF, h => by
  simp only [lf] at h
  split at h
  ·cases h
   exact hF _ (by simp)
  ·exact qvf (F := F) (fun q hq => hF q (by simp only [List.map_cons, List.mem_cons]; exact .inr hq)) h
theorem Wk.ren3 {P : Program} {n : Nat} {c0 : Cx} {Bor : BorD} {n0 : Nat} {l : L} (l' : L) (m : Nat) (hc0 : ∀ i x, c0.own i = some x → i < m) (σl : List Nat) (F : List (Nat × List PV)) (hF : ∀ q ∈ F.map (fun x => shds x.2), q) (hx : l'.map (fixF F) = l'.map (fun x => x.2)) (hσ : σl.take m = List.range m) (hnd : qcl σl = true) (hb : qkr σl.length l' = true)
  (h : l'.map (fun x => get l (rkey (sgm n0 σl) x.1)) = l'.map (rvalF (sgm n0 σl) F)) : Wk P n c0 Bor n0 l σl.length l' :=
 Wk.ren2 l' m hc0 σl hσ hnd hb (h.trans (List.map_congr_left fun x hxl => by
  have h1 := List.map_inj_left.1 hx x hxl
  obtain ⟨k, v⟩ := x
  cases v with
  | none => rfl
  | some v =>
   cases v with
   | pv p => rfl
   | blk T cs =>
    simp only [fixF, rvalF, rval] at h1 ⊢
    cases hl : lf k F with
    | none => rfl
    | some ds =>
     rw [hl] at h1
     simp only [Option.some.injEq, Val.blk.injEq] at h1
     simp only [Option.some.injEq, Val.blk.injEq, true_and]
     rw [← h1.2, qbd (qvf hF hl)]))
theorem frz_shd {id : Nat} {cs : List PV} {p : PV} (h : p.shd = true) : frz id cs p = p := by
 cases p <;> first | rfl | cases h
theorem qvr {id : Nat} {cs : List PV} : ∀ {ds : List PV}, shds ds → frzL id cs ds = ds
 | [], _ => rfl
 | p :: l, h => by
  rw [frzL, frz_shd (h p (by simp)), qvr (fun q hq => h q (by simp [hq]))]
def frzF (id : Nat) (cs : List PV) (F : List (Nat × List PV)) : L → L
 | [] => []
 | (k, x) :: l => (k, match x with
  | some (.pv p) => some (.pv (frz id cs p))
  | some (.blk T ds) => match Nat.beq k (kb id) with | true => none | false => match lf k F with | some es => some (.blk T es) | none => some (.blk T (frzL id cs ds))
  | none => none) :: frzF id cs F l
theorem frzF_eq {id : Nat} {cs : List PV} {F : List (Nat × List PV)} (hF : ∀ q ∈ F.map (fun x => shds x.2), q) : ∀ {l : L}, l.map (fixF F) = l.map (fun x => x.2) → frzS id cs l = frzF id cs F l
 | [], _ => rfl
 | (k, x) :: l, h => by
  simp only [List.map_cons, List.cons.injEq] at h
  simp only [frzS, frzF, List.cons.injEq, Prod.mk.injEq, true_and]
  refine ⟨?_, frzF_eq hF h.2⟩
  cases x with
  | none => rfl
  | some v =>
   cases v with
   | pv p => rfl
   | blk T ds =>
    have h1 := h.1
    simp only [fixF] at h1 ⊢
    cases hl : lf k F with
    | none => rfl
    | some es =>
     rw [hl] at h1
     simp only [Option.some.injEq, Val.blk.injEq, true_and] at h1
     have hs := qvf hF hl
     subst h1
     cases Nat.beq k (kb id) <;> simp [qvr hs]
theorem Wk.frz2 {P : Program} {n : Nat} {c0 : Cx} {Bor : BorD} {n0 : Nat} {l l' : L} (id : Nat) {T : TypeId} {cs : List PV} (F : List (Nat × List PV)) (hF : ∀ q ∈ F.map (fun x => shds x.2), q) (hx : l.map (fixF F) = l.map (fun x => x.2)) (hg : get l (kb id) = some (.blk T cs)) (hs : shds cs) (he : frzF id cs F l = l') : Wk P n c0 Bor n0 l n0 l' :=
 Wk.frz id hg hs ((frzF_eq hF hx).trans he)
/-- What a slot holds, told otherwise. -/
theorem Wk.slot {P : Program} {n : Nat} {c0 : Cx} {Bor : BorD} {n0 : Nat} {l : L} (s : Nat) (p q : PV) (hs : get l (Pm.ks s) = some (.pv p)) (hpq : ∀ c v, Rep P c p v → Rep P c q v) : Wk P n c0 Bor n0 l n0 ([(ks s, some (.pv q))] ++ l) := fun cx a hI => by
 have hge : ∀ k, get ([(Pm.ks s, some (.pv q))] ++ l) k = if Nat.beq k (Pm.ks s) then some (.pv q) else get l k := fun k => by
  rw [qcg]
  simp only [over, lk]
  by_cases h1 : Nat.beq k (Pm.ks s) = true
  ·simp [h1]
  ·simp only [h1]; rfl
 have hb : ∀ i, get ([(Pm.ks s, some (.pv q))] ++ l) (kb i) = get l (kb i) := fun i => by
  rw [hge, qmd]; rfl
 have hl : ∀ i, Live (get ([(Pm.ks s, some (.pv q))] ++ l)) i → Live (get l) i := fun i ⟨T', cs, hx⟩ => ⟨T', cs, by rw [← hb]; exact hx⟩
 refine ⟨cx, rfl, { ids := hI.ids, blk := fun i T' cs hx => hI.blk i T' cs (by rw [← hb]; exact hx), inj := fun i j b T T' l1 l2 => hI.inj i j b T T' (hl i l1) (hl j l2), apart := fun i b T l1 => hI.apart i b T (hl i l1), bnd := hI.bnd, sok := hI.sok, os := hI.os, tape := hI.tape, output := hI.output, size := hI.size, same := hI.same, laid := hI.laid, s0 := hI.s0, s1 := hI.s1, keep := hI.keep, tmps := hI.tmps, dfr := hI.dfr, slot := fun s' p' hp => ?_, isv := fun s' x hx => ?_ }⟩
 ·rw [hge, qgy] at hp
  by_cases e : s' = s
  ·subst e
   rw [decide_eq_true rfl, if_pos rfl] at hp
   cases hp
   exact hpq _ _ (hI.slot s' _ hs)
  ·rw [decide_eq_false e, if_neg (by simp)] at hp
   exact hI.slot s' p' hp
 ·rw [hge, qgy] at hx
  by_cases e : s' = s
  ·subst e
   rw [decide_eq_true rfl, if_pos rfl] at hx
   cases hx
   exact ⟨_, rfl⟩
  ·rw [decide_eq_false e, if_neg (by simp)] at hx
   exact hI.isv s' x hx
end Go.Proofs.YtmlnilkbolcknaaGreatDoor.Pm
namespace Go.Proofs.YtmlnilkbolcknaaGreatDoor.Pm
open Go

def qor (σl : List Nat) (l : L) : List Nat := l.filterMap fun x => match x.2 with | some (.blk _ _) => some (σl.getD (x.1 / 2) 0) | _ => none
theorem qqs {l : L} {k : Nat} {T : TypeId} {cs : List PV} (h : get l k = some (.blk T cs)) : ∃ i, ∃ h : i < l.length, (l[i]).1 = k ∧ ∃ T cs, (l[i]).2 = some (.blk T cs) := by
 induction l with
 | nil => simp [get, lk] at h
 | cons x l ih =>
  simp only [get, lk] at h ih
  by_cases e : Nat.beq k x.1 = true
  ·rw [if_pos e] at h
   exact ⟨0, by simp, (Nat.eq_of_beq_eq_true e).symm, T, cs, by simpa using h⟩
  ·rw [if_neg e] at h
   obtain ⟨i, hi, h1, h2⟩ := ih h
   exact ⟨i + 1, by simp; omega, h1, h2⟩
theorem qqt {σl : List Nat} : ∀ {l : L}, qcl (qor σl l) = true → ∀ i j (hi : i < l.length) (hj : j < l.length), (∃ T cs, (l[i]).2 = some (.blk T cs)) → (∃ T cs, (l[j]).2 = some (.blk T cs)) → σl.getD ((l[i]).1 / 2) 0 = σl.getD ((l[j]).1 / 2) 0 → i = j
 | [], _, i, _, hi, _, _, _, _ => absurd hi (Nat.not_lt_zero _)
 | x :: l, h, i, j, hi, hj, ⟨T1, c1, h1⟩, ⟨T2, c2, h2⟩, he => by
  have mem : ∀ q (hq : q < l.length), (∃ T cs, (l[q]).2 = some (.blk T cs)) → σl.getD ((l[q]).1 / 2) 0 ∈ qor σl l := fun q hq ⟨T, cs, hh⟩ =>
   List.mem_filterMap.2 ⟨l[q], List.getElem_mem hq, by rw [hh]⟩
  cases i with
  | zero =>
   cases j with
   | zero => rfl
   | succ j =>
    exfalso
    simp only [List.getElem_cons_zero, List.getElem_cons_succ] at h1 h2 he
    have hm := mem j (by simpa using hj) ⟨T2, c2, h2⟩
    simp only [qor, List.filterMap_cons, h1] at h
    rw [← he] at hm
    simp only [qcl, Bool.and_eq_true] at h
    have := List.all_eq_true.1 h.1 _ hm
    rw [Nat.beq_refl] at this
    cases this
  | succ i =>
   have hl : qcl (qor σl l) = true := by
    simp only [qor, List.filterMap_cons] at h
    split at h
    ·exact h
    ·simp only [qcl, Bool.and_eq_true] at h
     exact h.2
   cases j with
   | zero =>
    exfalso
    simp only [List.getElem_cons_zero, List.getElem_cons_succ] at h1 h2 he
    have hm := mem i (by simpa using hi) ⟨T1, c1, h1⟩
    simp only [qor, List.filterMap_cons, h2] at h
    rw [he] at hm
    simp only [qcl, Bool.and_eq_true] at h
    have := List.all_eq_true.1 h.1 _ hm
    rw [Nat.beq_refl] at this
    cases this
   | succ j =>
    have := qqt hl i j (by simpa using hi) (by simpa using hj) ⟨T1, c1, h1⟩ ⟨T2, c2, h2⟩ he
    omega
section
variable {P : Program} {n : Nat} {c0 : Cx} {Bor : BorD} {n0 : Nat} {l : L}
/-- As Wk.ren; only numbers that live must be apart. -/
theorem Wk.renD {l' : L} (m : Nat) (hc0 : ∀ i x, c0.own i = some x → i < m) (σl : List Nat) (hσ : σl.take m = List.range m) (hnd : qcl (qor σl l') = true) (h : ∀ p ∈ reSt (sgm n0 σl) σl.length l' (get l), p) : Wk P n c0 Bor n0 l σl.length l' := fun cx a hI => by
 have hsp := qkx h
 have hs1 : ∀ i, i < σl.length → sgm n0 σl i = σl.getD i 0 := fun i hi => by
  unfold sgm
  rw [show Nat.blt i σl.length = true from by simpa [Nat.blt_eq] using hi]
 have hs2 : ∀ i, σl.length ≤ i → cx.own (sgm n0 σl i) = none := fun i hi => by
  unfold sgm
  rw [show Nat.blt i σl.length = false from by rw [Bool.eq_false_iff, Ne, Nat.blt_eq]; omega]
  cases ho : cx.own (n0 + i) with
  | none => rfl
  | some x => have : n0 + i < n0 := hI.ids _ x ho; omega
 have hlv : ∀ i, Live (get l') i → i < σl.length ∧ Live (get l) (sgm n0 σl i) := fun i ⟨T, cs, hx⟩ => by
  have h1 := hsp _ _ hx
  simp only at h1
  rw [show kb i / 2 = i by simp only [kb]; omega] at h1
  exact ⟨h1.2.1, T, _, h1.2.2⟩
 refine ⟨cx.via (sgm n0 σl), rfl, { ids := fun i x hx => ?_, blk := fun i T cs hx => ?_, inj := fun i j b T T' l1 l2 h3 h4 => ?_, apart := fun i b T l1 h2 => hI.apart _ b T (hlv i l1).2 h2, bnd := fun i b T h1 => hI.bnd _ b T h1, sok := hI.sok, os := hI.os, tape := hI.tape, output := hI.output, size := hI.size, same := hI.same, laid := hI.laid, s0 := hI.s0, s1 := hI.s1, keep := ⟨hI.keep.S, fun i x hx => ?_, hI.keep.shape⟩, tmps := hI.tmps, dfr := hI.dfr, slot := fun s p hp => ?_, isv := fun s x hx => ?_ }⟩
 ·show i < σl.length
  rcases Nat.lt_or_ge i σl.length with h1 | h1
  ·exact h1
  ·have : cx.own (sgm n0 σl i) = some x := hx
   rw [hs2 i h1] at this
   cases this
 ·have h1 := hsp _ _ hx
  simp only at h1
  rw [show kb i / 2 = i by simp only [kb]; omega] at h1
  obtain ⟨ob, h5, h6, h7⟩ := hI.blk _ _ _ h1.2.2
  refine ⟨ob, h5, ones_renL.1 h6, ?_⟩
  rcases h7 with ⟨h7, h8⟩ | ⟨b, arr, h7, h8, h9, h10⟩
  ·exact .inl ⟨h7, quc h8⟩
  ·rw [qak] at h9 h10
   exact .inr ⟨b, arr, h7, h8, h9, fun j hj => qeb (h10 j hj) _ (qbr _ _ j hj)⟩
 ·obtain ⟨e1, l1'⟩ := hlv i l1
  obtain ⟨e2, l2'⟩ := hlv j l2
  have h5 := hI.inj _ _ b T T' l1' l2' h3 h4
  rw [hs1 i e1, hs1 j e2] at h5
  obtain ⟨_, _, hx1⟩ := l1
  obtain ⟨_, _, hx2⟩ := l2
  obtain ⟨p, hp, h6, h7⟩ := qqs hx1
  obtain ⟨q, hq, h8, h9⟩ := qqs hx2
  have h10 := qqt hnd p q hp hq h7 h9 (by rw [h6, h8, show kb i / 2 = i by simp only [kb]; omega, show kb j / 2 = j by simp only [kb]; omega]; exact h5)
  subst h10
  rw [h6] at h8
  simp only [kb] at h8
  omega
 ·have h1 := hc0 i x hx
  have h2 : i < σl.length := by
   have := congrArg List.length hσ
   simp at this
   omega
  have h3 : σl.getD i 0 = i := by
   have h4 := List.getElem?_take_of_lt (l := σl) h1
   rw [hσ] at h4
   rw [List.getD_eq_getElem?_getD, ← h4]
   simp [h1]
  show cx.own (sgm n0 σl i) = some x
  rw [hs1 i h2, h3]
  exact hI.keep.own i x hx
 ·have h1 := hsp _ _ hp
  exact qeb (hI.slot s _ h1) _ rfl
 ·cases x with
  | pv p => exact ⟨p, rfl⟩
  | blk T cs =>
   have h1 := hsp _ _ hx
   simp only [Pm.ks] at h1
   omega
theorem Wk.ren2D (l' : L) (m : Nat) (hc0 : ∀ i x, c0.own i = some x → i < m) (σl : List Nat) (hσ : σl.take m = List.range m) (hnd : qcl (qor σl l') = true) (hb : qkr σl.length l' = true)
  (h : l'.map (fun x => get l (rkey (sgm n0 σl) x.1)) = l'.map (fun x => rval (sgm n0 σl) x.2)) : Wk P n c0 Bor n0 l σl.length l' := Wk.renD m hc0 σl hσ hnd (qsd h hb)
theorem Wk.ren3D (l' : L) (m : Nat) (hc0 : ∀ i x, c0.own i = some x → i < m) (σl : List Nat) (F : List (Nat × List PV)) (hF : ∀ q ∈ F.map (fun x => shds x.2), q) (hx : l'.map (fixF F) = l'.map (fun x => x.2)) (hσ : σl.take m = List.range m) (hnd : qcl (qor σl l') = true) (hb : qkr σl.length l' = true)
  (h : l'.map (fun x => get l (rkey (sgm n0 σl) x.1)) = l'.map (rvalF (sgm n0 σl) F)) : Wk P n c0 Bor n0 l σl.length l' :=
 Wk.ren2D l' m hc0 σl hσ hnd hb (h.trans (List.map_congr_left fun x hxl => by
  have h1 := List.map_inj_left.1 hx x hxl
  obtain ⟨k, v⟩ := x
  cases v with
  | none => rfl
  | some v =>
   cases v with
   | pv p => rfl
   | blk T cs =>
    simp only [fixF, rvalF, rval] at h1 ⊢
    cases hl : lf k F with
    | none => rfl
    | some ds =>
     rw [hl] at h1
     simp only [Option.some.injEq, Val.blk.injEq] at h1
     simp only [Option.some.injEq, Val.blk.injEq, true_and]
     rw [← h1.2, qbd (qvf hF hl)]))
/-- A cell that holds nil: an own row that has not been made. -/
theorem Wk.nilc (id j : Nat) (T : TypeId) {B : TypeId} {cells : List PV} (hs : get l (kb id) = some (.blk B cells)) (hj : cells[j]? = some (.av (.slice none 0 0))) : Wk P n c0 Bor n0 l (n0 + 1) ([(kb id, some (.blk B (cells.set j (.osl n0 0 0)))), (kb n0, some (.blk T []))] ++ l) := fun cx a hI => by
 obtain ⟨hk, hh⟩ := qgg hI.toHeap (id := n0) (fun h => absurd h (Nat.lt_irrefl _)) T
 obtain ⟨ob0, ho0, _⟩ := hI.blk id B cells hs
 have hid : id < n0 := hI.ids id _ ho0
 have hg : over [(kb n0, some (.blk T []))] (get l) (kb id) = some (.blk B cells) := by rw [qei, if_neg (by omega)]; exact hs
 refine ⟨⟨cx.w, cx.S, qbl cx.own n0 (none, T)⟩, rfl, ?_⟩
 have hge : ∀ k, get ([(kb id, some (.blk B (cells.set j (.osl n0 0 0)))), (kb n0, some (.blk T []))] ++ l) k = if Nat.beq k (kb id) then some (.blk B (cells.set j (.osl n0 0 0))) else over [(kb n0, some (.blk T []))] (get l) k := fun k => by
  rw [qcg]
  simp only [over, lk]
  by_cases h1 : Nat.beq k (kb id) = true
  ·simp [h1]
  ·simp only [h1]; rfl
 have hb : ∀ i, get ([(kb id, some (.blk B (cells.set j (.osl n0 0 0)))), (kb n0, some (.blk T []))] ++ l) (kb i) = if i = id then some (.blk B (cells.set j (.osl n0 0 0))) else over [(kb n0, some (.blk T []))] (get l) (kb i) := fun i => by
  rw [hge, qin]; by_cases e : i = id <;> simp [e]
 have hsl : ∀ s, get ([(kb id, some (.blk B (cells.set j (.osl n0 0 0)))), (kb n0, some (.blk T []))] ++ l) (Pm.ks s) = get l (Pm.ks s) := fun s => by
  rw [hge, qee, if_neg (by simp), qld]
 have hl : ∀ i, Live (get ([(kb id, some (.blk B (cells.set j (.osl n0 0 0)))), (kb n0, some (.blk T []))] ++ l)) i → Live (over [(kb n0, some (.blk T []))] (get l)) i := fun i ⟨T', cs, hx⟩ => by
  rw [hb] at hx
  by_cases e : i = id
  ·subst e; exact ⟨B, cells, hg⟩
  ·rw [if_neg e] at hx; exact ⟨T', cs, hx⟩
 exact { ids := fun i x hx => by
           rcases hh.ids i x hx with h | h
           · exact Nat.lt_succ_of_lt h
           · subst h; exact Nat.lt_succ_self _
         blk := fun i T' cs hx => by
           rw [hb] at hx
           by_cases e : i = id
           · subst e
             rw [if_pos rfl] at hx
             cases hx
             obtain ⟨ob, h1, h2, h3⟩ := hh.blk i B cells hg
             refine ⟨ob, h1, fun p hp => ?_, ?_⟩
             · rcases List.mem_or_eq_of_mem_set hp with h | h
               · exact h2 p h
               · rw [h]; rfl
             · rcases h3 with ⟨_, h4⟩ | ⟨b, arr, h4, h5, h6, h7⟩
               · rw [h4] at hj; simp at hj
               · refine .inr ⟨b, arr, h4, h5, by rw [List.length_set]; exact h6, fun q hq => ?_⟩
                 rw [List.length_set] at hq
                 by_cases e : q = j
                 · subst e
                   have h8 := h7 q hq
                   have e2 : cells.getD q P0 = .av (.slice none 0 0) := by rw [List.getD_eq_getElem?_getD, hj]; rfl
                   rw [e2] at h8
                   rw [show (cells.set q (.osl n0 0 0)).getD q P0 = .osl n0 0 0 from by rw [List.getD_eq_getElem?_getD, List.getElem?_set_self hq]; rfl, qao h8]
                   exact .osl qaw (.inl ⟨_, rfl, rfl⟩)
                 · rw [show (cells.set j (.osl n0 0 0)).getD q P0 = cells.getD q P0 from by rw [List.getD_eq_getElem?_getD, List.getD_eq_getElem?_getD, List.getElem?_set_ne (Ne.symm e)]]
                   exact h7 q hq
           · rw [if_neg e] at hx
             exact hh.blk i T' cs hx
         inj := fun i j b T T' l1 l2 => hh.inj i j b T T' (hl i l1) (hl j l2), apart := fun i b T l1 => hh.apart i b T (hl i l1), bnd := hh.bnd, sok := hh.sok,
         os := hh.os, tape := hh.tape, output := hh.output, size := hh.size, same := hh.same, laid := hh.laid, s0 := hh.s0, s1 := hh.s1, keep := hh.keep, tmps := hI.tmps, dfr := hI.dfr
         slot := fun s' p hp => by
           rw [hsl] at hp
           exact (hI.slot s' p hp).mono hk
         isv := fun s' x hx => by
           rw [hsl] at hx
           exact hI.isv s' x hx }
end
end Go.Proofs.YtmlnilkbolcknaaGreatDoor.Pm
namespace Go.Proofs.YtmlnilkbolcknaaGreatDoor.Pm
open Go

def apartK (ws : Nat → List Nat) (rd : Nat → List Nat) (bf : List (List Nat)) (n : Nat) : Bool :=
 (List.range n).all fun j => (List.range j).all fun i => (bf.getD j []).contains i ||
  (((ws i).all fun k => !(ws j).contains k && !(rd j).contains k) && (ws j).all fun k => !(rd i).contains k)
theorem hits_mem {l : L} {k : Nat} : hits l k = true → k ∈ l.map (·.1) := fun h => by
 obtain ⟨x, hx, rfl⟩ := qhk h
 exact List.mem_map.2 ⟨x, hx, rfl⟩
theorem apart_of {W : Nat → L} {rd : Nat → List Nat} {ws rs : Nat → List Nat} {bf : List (List Nat)} {n : Nat} (hw : ∀ i, i < n → ∀ x ∈ W i, x.1 ∈ ws i) (hr : ∀ i, i < n → ∀ k ∈ rd i, k ∈ rs i) (h : apartK ws rs bf n = true) : qio W rd bf n = true := by
 simp only [apartK, qio, List.all_eq_true, List.mem_range, Bool.or_eq_true, Bool.and_eq_true, Bool.not_eq_true'] at h ⊢
 intro j hj i hi
 rcases h j hj i hi with h1 | ⟨h1, h2⟩
 ·exact .inl h1
 ·refine .inr ⟨fun x hx => ?_, fun x hx => ?_⟩
  ·obtain ⟨h3, h4⟩ := h1 x.1 (hw i (by omega) x hx)
   refine ⟨?_, ?_⟩
   ·cases hh : hits (W j) x.1 with
    | false => rfl
    | true =>
     obtain ⟨y, hy, e⟩ := List.mem_map.1 (hits_mem hh)
     have := hw j hj y hy
     rw [e] at this
     rw [List.contains_iff_mem.2 this] at h3
     cases h3
   ·cases hh : (rd j).contains x.1 with
    | false => rfl
    | true =>
     have := hr j hj x.1 (List.contains_iff_mem.1 hh)
     rw [List.contains_iff_mem.2 this] at h4
     cases h4
  ·have h3 := h2 x.1 (hw j hj x hx)
   cases hh : (rd i).contains x.1 with
   | false => rfl
   | true =>
    have := hr i (by omega) x.1 (List.contains_iff_mem.1 hh)
    rw [List.contains_iff_mem.2 this] at h3
    cases h3
def subK (l m : List Nat) : Bool := l.all fun k => m.contains k
def keysB : List Oper → List Out → List (List Nat × List Nat) → Bool
 | [], [], [] => true
 | o :: os, x :: xs, k :: ks => match subK ((wr o.dst x).map (·.1)) k.1, subK x.reads k.2 with
  | true, true => keysB os xs ks
  | _, _ => false
 | _, _, _ => false
theorem qja : ∀ {os : List Oper} {xs : List Out} {ks : List (List Nat × List Nat)}, keysB os xs ks = true → ∀ i o x, os[i]? = some o → xs[i]? = some x →
  (∀ y ∈ wr o.dst x, y.1 ∈ (ks.getD i ([], [])).1) ∧ ∀ k ∈ x.reads, k ∈ (ks.getD i ([], [])).2
 | o :: os, x :: xs, k :: ks, h, 0, o', x', ho, hx => by
  simp only [keysB] at h
  split at h
  ·rename_i h1 h2
   simp only [List.getElem?_cons_zero, Option.some.injEq] at ho hx
   subst ho; subst hx
   refine ⟨fun y hy => ?_, fun q hq => ?_⟩
   ·exact List.contains_iff_mem.1 (List.all_eq_true.1 h1 y.1 (List.mem_map.2 ⟨y, hy, rfl⟩))
   ·exact List.contains_iff_mem.1 (List.all_eq_true.1 h2 q hq)
  ·cases h
 | o :: os, x :: xs, k :: ks, h, i + 1, o', x', ho, hx => by
  simp only [keysB] at h
  split at h
  ·exact qja h i o' x' (by simpa using ho) (by simpa using hx)
  ·cases h
 | [], _, _, _, i, _, _, ho, _ => by simp at ho
 | _ :: _, [], _, _, i, _, _, _, hx => by simp at hx
def evrK (P : Program) (n : Nat) (ops : List Oper) (n0 : Nat) (ans : List (Nat × Ans)) (ks : List (List Nat × List Nat)) (live : List Nat) (l : L) : Option (L × List Prop) :=
 match evs P n ops n0 ans ops 0 l with
 | some (l', obs, outs) => match keysB ops outs ks with
  | true => some (live.map fun k => (k, get l' k), obs)
  | false => none
 | none => none
def drawB (ops : List Oper) (bf : List (List Nat)) (ks : List (List Nat × List Nat)) : Bool := befB ops bf && apartK (fun i => (ks.getD i ([], [])).1) (fun i => (ks.getD i ([], [])).2) bf ops.length
theorem evs_len {P : Program} {n : Nat} {ops : List Oper} {n0 : Nat} {ans : List (Nat × Ans)} : ∀ {r : List Oper} {i : Nat} {l l' : L} {obs : List Prop} {outs : List Out}, evs P n ops n0 ans r i l = some (l', obs, outs) → outs.length = r.length
 | [], i, l, l', obs, outs, h => by
  simp only [evs, Option.some.injEq, Prod.mk.injEq] at h
  obtain ⟨_, _, rfl⟩ := h
  rfl
 | o :: r, i, l, l', obs, outs, h => by
  simp only [evs] at h
  split at h
  case h_2 => cases h
  split at h
  case h_2 => cases h
  rename_i l1 obs1 outs1 he
  simp only [Option.some.injEq, Prod.mk.injEq] at h
  obtain ⟨_, _, rfl⟩ := h
  simp [evs_len he]
theorem qxd {E : Env} {n0 : Nat} {l l' : L} {id : Nat} {ops : Array Oper} {ans : List (Nat × Ans)} {bf : List (List Nat)} {ks : List (List Nat × List Nat)} {live : List Nat} {obs : List Prop} (hm : E.P.follows .mixedOrders = true) (h : evrK E.P E.n ops.toList n0 ans ks live l = some (l', obs)) (hd : drawB ops.toList bf ks = true) (hob : ∀ p ∈ obs, p)
  {Q : Exit → Act → World → Prop} (hQ : ∀ c a, Inv E (· < n0 + 8 * ops.size) c (get l') a → Q .normal a c.w) {c : Cx} {a : Act} (hI : Inv E (· < n0) c (get l) a) : (Code.region id ops true).wp E.P Q a c.w := by
 unfold evrK at h
 split at h
 case h_2 => cases h
 rename_i l1 obs1 outs he
 split at h
 case h_2 => cases h
 rename_i hk
 simp only [Option.some.injEq, Prod.mk.injEq] at h
 obtain ⟨rfl, rfl⟩ := h
 simp only [drawB, Bool.and_eq_true] at hd
 have hl := evs_len he
 have hap : qio (Wt ops.toList.toArray fun i => outs.getD i out0) (fun i => (outs.getD i out0).reads) bf ops.toList.length = true := by
  refine apart_of (fun i hi x hx => ?_) (fun i hi k hk' => ?_) hd.2
  ·have h1 : ops.toList[i]? = some ops.toList[i] := by simp only [List.getElem?_eq_getElem hi]
   have h2 : outs[i]? = some (outs.getD i out0) := by rw [List.getD_eq_getElem?_getD, List.getElem?_eq_getElem (by omega)]; rfl
   refine (qja hk i _ _ h1 h2).1 x ?_
   have : Wt ops.toList.toArray (fun i => outs.getD i out0) i = wr ops.toList[i].dst (outs.getD i out0) := by
    unfold Wt
    rw [List.getElem?_toArray, h1]
    rfl
   rw [this] at hx
   exact hx
  ·have h1 : ops.toList[i]? = some ops.toList[i] := by simp only [List.getElem?_eq_getElem hi]
   have h2 : outs[i]? = some (outs.getD i out0) := by rw [List.getD_eq_getElem?_getD, List.getElem?_eq_getElem (by omega)]; rfl
   exact (qja hk i _ _ h1 h2).2 k hk'
 obtain ⟨h1, h2, h3⟩ := qpb (g0 := get l) (tab := fun i => outs.getD i out0) he (by simp) (fun j _ => by simp) (by
  funext k
  have : ∀ m, fold (get l) (Wt ops.toList.toArray fun i => outs.getD i out0) (fun j => decide (j < 0)) m = get l := fun m => by
   induction m with
   | zero => rfl
   | succ m ih => simp only [fold, Nat.not_lt_zero, decide_false, Bool.false_eq_true, if_false]; exact ih
  rw [this])
 have hops : ops.toList.toArray = ops := by simp
 have hlen : ops.toList.length = ops.size := by simp
 have hstep : ∀ i o, ops.toList[i]? = some o → ∀ g, (∀ k ∈ (outs.getD i out0).reads, g k = fold (get l) (Wt ops.toList.toArray fun i => outs.getD i out0) (fun j => decide (j < i)) ops.toList.length k) → qjr E ops.toList.toArray i o (outs.getD i out0) (n0 + 8 * i) g := by
  intro i o ho g hg
  obtain ⟨h4, h5, h6⟩ := h3 i o (Nat.zero_le _) ho
  exact qox ho h6 (qew h4 hg) fun p hp => hob p (h5 p hp)
 have hfin : ∀ {c : Cx} {a : Act}, Inv E (fun id => id < n0 + 8 * ops.toList.length) c (fold (get l) (Wt ops.toList.toArray fun i => outs.getD i out0) (fun _ => true) ops.toList.length) a → Q .normal a c.w := by
  intro c a h
  rw [← h2, hlen] at h
  exact hQ c a (h.less fun k v hk => qoy k v hk)
 have hs := any_ops (E := E) (l := ops.toList) (g0 := get l) (tab := fun i => outs.getD i out0) (n0 := n0) hd.1 hap hstep (Q := Q) (fun c a h => hfin h)
   ops.toList.length (Array.replicate ops.toList.length false) ⟨{ c.w with drawn := c.w.drawn + 1 }, c.S, c.own⟩ a (by simp) (by
    rw [qfa (g := fun _ => false) fun i _ => qct _ _]
    exact qgn _) (fun j o _ hj => by
    have hj' : (Array.replicate ops.toList.length false).getD j false = true := hj
    rw [qct] at hj'
    cases hj') (by
    have h0 : fold (get l) (Wt ops.toList.toArray fun i => outs.getD i out0) (fun j => (Array.replicate ops.toList.length false).getD j false) ops.toList.length = get l := by
     have e : (fun j => (Array.replicate ops.toList.length false).getD j false) = fun _ => false := funext fun j => qct _ j
     rw [e]
     have : ∀ m, fold (get l) (Wt ops.toList.toArray fun i => outs.getD i out0) (fun _ => false) m = get l := fun m => by
      induction m with
      | zero => rfl
      | succ m ih => simp only [fold, Bool.false_eq_true, if_false]; exact ih
     exact this _
    rw [h0]
    exact (hI.drawn _).more fun i hi => .inl hi)
 rw [hops] at hs
 refine wp_region_any hm ?_
 rw [hlen] at hs
 exact hs
theorem T_regionD {P : Program} {n : Nat} {c0 : Cx} {Bor : BorD} {Q : Post} {n0 : Nat} {l : L} {rs : List Item} {id : Nat} {ops : Array Oper} (ans : List (Nat × Ans)) (bf : List (List Nat)) (ks : List (List Nat × List Nat)) (live : List Nat) {l' : L} {obs : List Prop} (hm : P.follows .mixedOrders = true) (h : evrK P n ops.toList n0 ans ks live l = some (l', obs)) (hd : drawB ops.toList bf ks = true) (hob : ∀ p ∈ obs, p)
  (hT : T P n c0 Bor Q (n0 + 8 * ops.size) l' rs) : T P n c0 Bor Q n0 l (.code (.region id ops true) :: rs) := fun _ _ hI =>
 qxd (E := ⟨P, n, c0, Bor⟩) hm h hd hob (fun c a h => ⟨c, rfl, hT c a h⟩) hI
/-- A natural number's value. -/
abbrev nv (n : Nat) : PV := iv (n : Int)
/-- A function's value. -/
abbrev fv (n : FuncId) : PV := .av (.func (.func n) #[] #[])
end Go.Proofs.YtmlnilkbolcknaaGreatDoor.Pm
namespace Go.Proofs.YtmlnilkbolcknaaGreatDoor.Pm
open Go

section
variable {P : Program} {n : Nat} {c0 : Cx} {Bor : BorD} {Q : Post} {n0 : Nat} {l : L} {rs : List Item}
/-- A region: the state qay it, what is to be shown. -/
theorem T_r (hm : P.follows .mixedOrders = true) {id : Nat} {ops : Array Oper} {draw : Bool} (ans : List (Nat × Ans)) (l' : L) {obs : List Prop} (hob : ∀ p ∈ obs, p) (hT : T P n c0 Bor Q (n0 + 8 * ops.size) l' rs)
  (h : evr P n ops.toList n0 ans draw (l'.map (·.1)) l = some (l', obs) := by kernel_rfl) : T P n c0 Bor Q n0 l (.code (.region id ops draw) :: rs) :=
 T_region ans _ (fun _ => hm) h hob hT
theorem T_rd (hm : P.follows .mixedOrders = true) {id : Nat} {ops : Array Oper} (ans : List (Nat × Ans)) (bf : List (List Nat)) (ks : List (List Nat × List Nat)) (l' : L) {obs : List Prop} (hob : ∀ p ∈ obs, p) (hT : T P n c0 Bor Q (n0 + 8 * ops.size) l' rs)
  (h : evrK P n ops.toList n0 ans ks (l'.map (·.1)) l = some (l', obs) := by kernel_rfl) (hd : drawB ops.toList bf ks = true := by kernel_rfl) : T P n c0 Bor Q n0 l (.code (.region id ops true) :: rs) :=
 T_regionD ans bf ks _ hm h hd hob hT
theorem T_th {t : Nat} {x y : Code} {b : Bool} (hv : b = true) (h : T P n c0 Bor Q n0 l (.code x :: rs)) (hb : get l (ks t) = some (.pv (.av (.bool b))) := by rfl) : T P n c0 Bor Q n0 l (.code (.cond (.tmp t) x y) :: rs) := qau hb hv h
theorem T_el {t : Nat} {x y : Code} {b : Bool} (hv : b = false) (h : T P n c0 Bor Q n0 l (.code y :: rs)) (hb : get l (ks t) = some (.pv (.av (.bool b))) := by rfl) : T P n c0 Bor Q n0 l (.code (.cond (.tmp t) x y) :: rs) := qbf hb hv h
theorem rt {m : Nat} {fn : Func} {r : PV} {H' : Hp} (hc0 : ∀ i x, c0.own i = some x → i < m) (l' : L) (σl : List Nat) {cx : Cx} {a : Act} (hI : Inv ⟨P, n, c0, Bor⟩ (· < n0) cx (get l) a)
  (hσ : σl.take m = List.range m := by rfl) (hnd : qcl σl = true := by rfl) (hb : qkr σl.length l' = true := by kernel_rfl)
  (h : l'.map (fun x => get l (rkey (sgm n0 σl) x.1)) = l'.map (fun x => rval (sgm n0 σl) x.2) := by kernel_rfl) (hn : σl.length = H'.length := by rfl)
  (hr : runv (get l') (resP P fn.results.toList fun ps => .done (qzo ps) []) = some (r, []) := by kernel_rfl) (hbk : ∀ p ∈ qth l' 0 H', p := by exact oz) : retQ P fn c0 Bor r H' .ret cx a :=
 qby (.inr rfl) (Wk.ren2 l' m hc0 σl hσ hnd hb h) hn hbk (fun cx a hI => qbc hr cx a hI) hI
/-- The arguments of a call that lends nothing. -/
abbrev Ren0 (k : Nat) (a : List PV) : Prop := a = renL (sigi [] k) a
end
theorem bt {p : Prop} [Decidable p] (h : p) : (!decide p) = false := by rw [decide_eq_true h]; rfl
theorem bf {p : Prop} [Decidable p] (h : ¬ p) : (!decide p) = true := by rw [decide_eq_false h]; rfl
section
variable {P : Program} {n : Nat} {c0 : Cx} {Bor : BorD} {Q : Post} {n0 : Nat} {l : L} {rs : List Item}
theorem dty {p : Prop} [Decidable p] (h : p) : decide p = true := decide_eq_true h
theorem dtn {p : Prop} [Decidable p] (h : ¬ p) : decide p = false := decide_eq_false h
/-! ### a state told by what changes -/
/-- How a state is made of the one before: so many kept (k1 ..), one dropped, one new, the rest kept. -/
inductive Mk where
 | k1 | k2 | k3 | k4 | k5 | k6 | k7 | k8 | d | n | r
/-- A state, and how it is changed, as types: 'HXor' finds the state qay (no class of our own). -/
structure Kl (l : L) : Type where
structure Kc (m : List Mk) (ch : L) : Type where
instance kpe : HXor (Kl []) (Kc [] []) (Kl []) := ⟨fun _ _ => ⟨⟩⟩
instance kpr (l : L) : HXor (Kl l) (Kc [.r] []) (Kl l) := ⟨fun _ _ => ⟨⟩⟩
instance kpn (l : L) (m : List Mk) (ch l' : L) (c : Nat × Option Val) [HXor (Kl l) (Kc m ch) (Kl l')] : HXor (Kl l) (Kc (.n :: m) (c :: ch)) (Kl (c :: l')) := ⟨fun _ _ => ⟨⟩⟩
instance kpd (l : L) (m : List Mk) (ch l' : L) (a : Nat × Option Val) [HXor (Kl l) (Kc m ch) (Kl l')] : HXor (Kl (a :: l)) (Kc (.d :: m) ch) (Kl l') := ⟨fun _ _ => ⟨⟩⟩
instance kp1 (l : L) (m : List Mk) (ch l' : L) (a0 : Nat × Option Val) [HXor (Kl l) (Kc m ch) (Kl l')] : HXor (Kl (a0 :: l)) (Kc (.k1 :: m) ch) (Kl (a0 :: l')) := ⟨fun _ _ => ⟨⟩⟩
instance kp2 (l : L) (m : List Mk) (ch l' : L) (a0 a1 : Nat × Option Val) [HXor (Kl l) (Kc m ch) (Kl l')] : HXor (Kl (a0 :: a1 :: l)) (Kc (.k2 :: m) ch) (Kl (a0 :: a1 :: l')) := ⟨fun _ _ => ⟨⟩⟩
instance kp3 (l : L) (m : List Mk) (ch l' : L) (a0 a1 a2 : Nat × Option Val) [HXor (Kl l) (Kc m ch) (Kl l')] : HXor (Kl (a0 :: a1 :: a2 :: l)) (Kc (.k3 :: m) ch) (Kl (a0 :: a1 :: a2 :: l')) := ⟨fun _ _ => ⟨⟩⟩
instance kp4 (l : L) (m : List Mk) (ch l' : L) (a0 a1 a2 a3 : Nat × Option Val) [HXor (Kl l) (Kc m ch) (Kl l')] : HXor (Kl (a0 :: a1 :: a2 :: a3 :: l)) (Kc (.k4 :: m) ch) (Kl (a0 :: a1 :: a2 :: a3 :: l')) := ⟨fun _ _ => ⟨⟩⟩
instance kp5 (l : L) (m : List Mk) (ch l' : L) (a0 a1 a2 a3 a4 : Nat × Option Val) [HXor (Kl l) (Kc m ch) (Kl l')] : HXor (Kl (a0 :: a1 :: a2 :: a3 :: a4 :: l)) (Kc (.k5 :: m) ch) (Kl (a0 :: a1 :: a2 :: a3 :: a4 :: l')) := ⟨fun _ _ => ⟨⟩⟩
instance kp6 (l : L) (m : List Mk) (ch l' : L) (a0 a1 a2 a3 a4 a5 : Nat × Option Val) [HXor (Kl l) (Kc m ch) (Kl l')] : HXor (Kl (a0 :: a1 :: a2 :: a3 :: a4 :: a5 :: l)) (Kc (.k6 :: m) ch) (Kl (a0 :: a1 :: a2 :: a3 :: a4 :: a5 :: l')) := ⟨fun _ _ => ⟨⟩⟩
instance kp7 (l : L) (m : List Mk) (ch l' : L) (a0 a1 a2 a3 a4 a5 a6 : Nat × Option Val) [HXor (Kl l) (Kc m ch) (Kl l')] : HXor (Kl (a0 :: a1 :: a2 :: a3 :: a4 :: a5 :: a6 :: l)) (Kc (.k7 :: m) ch) (Kl (a0 :: a1 :: a2 :: a3 :: a4 :: a5 :: a6 :: l')) := ⟨fun _ _ => ⟨⟩⟩
instance kp8 (l : L) (m : List Mk) (ch l' : L) (a0 a1 a2 a3 a4 a5 a6 a7 : Nat × Option Val) [HXor (Kl l) (Kc m ch) (Kl l')] : HXor (Kl (a0 :: a1 :: a2 :: a3 :: a4 :: a5 :: a6 :: a7 :: l)) (Kc (.k8 :: m) ch) (Kl (a0 :: a1 :: a2 :: a3 :: a4 :: a5 :: a6 :: a7 :: l')) := ⟨fun _ _ => ⟨⟩⟩
theorem T_k (hm : P.follows .mixedOrders = true) {id : Nat} {ops : Array Oper} {draw : Bool} (ans : List (Nat × Ans)) (m : List Mk) (ch : L) {l' : L} [HXor (Kl l) (Kc m ch) (Kl l')] {obs : List Prop} (hob : ∀ p ∈ obs, p) (hT : T P n c0 Bor Q (n0 + 8 * ops.size) l' rs)
  (h : evr P n ops.toList n0 ans draw (l'.map (·.1)) l = some (l', obs) := by kernel_rfl) : T P n c0 Bor Q n0 l (.code (.region id ops draw) :: rs) :=
 T_r hm ans l' hob hT h
theorem T_kd (hm : P.follows .mixedOrders = true) {id : Nat} {ops : Array Oper} (ans : List (Nat × Ans)) (bf : List (List Nat)) (ks : List (List Nat × List Nat)) (m : List Mk) (ch : L) {l' : L} [HXor (Kl l) (Kc m ch) (Kl l')] {obs : List Prop} (hob : ∀ p ∈ obs, p) (hT : T P n c0 Bor Q (n0 + 8 * ops.size) l' rs)
  (h : evrK P n ops.toList n0 ans ks (l'.map (·.1)) l = some (l', obs) := by kernel_rfl) (hd : drawB ops.toList bf ks = true := by kernel_rfl) : T P n c0 Bor Q n0 l (.code (.region id ops true) :: rs) :=
 T_rd hm ans bf ks l' hob hT h hd
/-! ### what several branches come to -/
end
end Go.Proofs.YtmlnilkbolcknaaGreatDoor.Pm
namespace Go.Proofs.YtmlnilkbolcknaaGreatDoor.Pm
open Go

abbrev st (l : List UInt8) : ByteArray := ⟨l.toArray⟩
theorem qbb (a b : List UInt8) : st a ++ st b = st (a ++ b) := by
 apply ByteArray.ext
 rw [ByteArray.data_append]
 simp
theorem qps (l : List UInt8) : (st l).toList = l := by
 rw [ByteArray.toList_eq]
theorem qdm (a b : List UInt8) : ((st a).toList == (st b).toList) = decide (a = b) := by
 rw [qps, qps]
 rw [Bool.eq_iff_iff]; simp
theorem qhe (a b : List UInt8) : (!((st a).toList == (st b).toList)) = !decide (a = b) := by rw [qdm]
theorem qyy (l : List UInt8) (i j : Nat) : (st l).extract i j = st ((l.drop i).take (j - i)) := by
 apply ByteArray.ext
 rw [ByteArray.data_extract]
 apply Array.ext'
 simp
theorem qft (l : List UInt8) (i : Nat) (j : Nat) (hj : j = l.length) : (st l).extract i j = st (l.drop i) := by
 rw [qyy, List.take_of_length_le (by simp; omega)]
theorem st_upto (l : List UInt8) (j : Nat) : (st l).extract 0 j = st (l.take j) := by
 rw [qyy, List.drop_zero, Nat.sub_zero]
end Go.Proofs.YtmlnilkbolcknaaGreatDoor.Pm
namespace Go.Proofs.YtmlnilkbolcknaaGreatDoor.Pi

/-- Half tones of a letter above C. -/
def nat7 (l : Int) : Int := if l = 0 then 0 else if l = 1 then 2 else if l = 2 then 4 else if l = 3 then 5 else if l = 4 then 7 else if l = 5 then 9 else 11
theorem nat7_range (l : Int) : 0 ≤ nat7 l ∧ nat7 l ≤ 11 := by unfold nat7; omega
def rightB (l a o : Int) : Bool := decide (0 ≤ l ∧ l ≤ 6 ∧ -3 ≤ a ∧ a ≤ 3 ∧ -12 ≤ o ∧ o ≤ 12)
theorem rightB_iff {l a o : Int} : rightB l a o = true ↔ 0 ≤ l ∧ l ≤ 6 ∧ -3 ≤ a ∧ a ≤ 3 ∧ -12 ≤ o ∧ o ≤ 12 := by simp [rightB]
def withinB (s h : Int) : Bool := decide (-200 ≤ s ∧ s ≤ 200 ∧ -4096 ≤ h ∧ h ≤ 4096)
theorem withinB_iff {s h : Int} : withinB s h = true ↔ -200 ≤ s ∧ s ≤ 200 ∧ -4096 ≤ h ∧ h ≤ 4096 := by simp [withinB]
def steps (l o : Int) : Int := 7 * o + l
def halves (l a o : Int) : Int := 12 * o + nat7 l + a
def key (l a o : Int) : Int × Int := if rightB l a o then (halves l a o + 12, 0) else (0, 2)
/-- The pitch at so many steps and half tones from C0; what is wrong. -/
def at_ (s h : Int) : Int × Int × Int × Int :=
 if rightB (s % 7) (h - (12 * (s / 7) + nat7 (s % 7))) (s / 7) then (s % 7, h - (12 * (s / 7) + nat7 (s % 7)), s / 7, 0) else (0, 0, 0, 3)
def move (l a o s h : Int) : Int × Int × Int × Int :=
 if rightB l a o then (if withinB s h then at_ (steps l o + s) (halves l a o + h) else (0, 0, 0, 3)) else (0, 0, 0, 2)
def sum (s h s' h' : Int) : Int × Int × Int :=
 if withinB s h && withinB s' h' && withinB (s + s') (h + h') then (s + s', h + h', 0) else (0, 0, 3)
theorem at_range (s h : Int) : rightB (at_ s h).1 (at_ s h).2.1 (at_ s h).2.2.1 = true ∧ (0 ≤ (at_ s h).2.2.2 ∧ (at_ s h).2.2.2 ≤ 3) := by
 unfold at_
 split
 ·rename_i h; exact ⟨h, by simp⟩
 ·simp [rightB]

theorem qoo {l a o s h : Int} (h1 : rightB l a o = true) (h2 : withinB s h = true) : move l a o s h = at_ (steps l o + s) (halves l a o + h) := by
 unfold move; rw [if_pos h1, if_pos h2]
theorem move_right (l a o s h : Int) : rightB (move l a o s h).1 (move l a o s h).2.1 (move l a o s h).2.2.1 = true := by
 unfold move
 split
 ·split
  ·exact (at_range _ _).1
  ·rfl
 ·rfl
theorem bounds {l a o : Int} (h : rightB l a o = true) : (-84 ≤ steps l o ∧ steps l o ≤ 90) ∧ (-147 ≤ halves l a o ∧ halves l a o ≤ 158) := by
 have := rightB_iff.1 h
 have := nat7_range l
 unfold steps halves
 omega
/-- One pitch to its steps and half tones. -/
theorem one {l a o l' a' o' : Int} (h1 : rightB l a o = true) (h2 : rightB l' a' o' = true) (hs : steps l o = steps l' o') (hh : halves l a o = halves l' a' o') : l = l' ∧ a = a' ∧ o = o' := by
 have := rightB_iff.1 h1
 have := rightB_iff.1 h2
 unfold steps at hs
 unfold halves at hh
 have e1 : o = o' := by omega
 have e2 : l = l' := by omega
 subst e1 e2
 omega

/-! TWICE MIRRORED -/
/-! INTERVALS MOVE PITCHES -/
end Go.Proofs.YtmlnilkbolcknaaGreatDoor.Pi
namespace Go.Proofs.YtmlnilkbolcknaaGreatDoor.Pi

/-- Half tones from C0 to so many steps above it. -/
def qcp (t : Int) : Int := 12 * (t / 7) + nat7 (t % 7)
/-- Half tones from a letter to the next one. -/
def up (l : Int) : Int := if l = 2 ∨ l = 6 then 1 else 2
theorem qtq (l : Int) : 1 ≤ up l ∧ up l ≤ 2 := by unfold up; split <;> omega
theorem qms (t : Int) : qcp (t + 1) = qcp t + up (t % 7) := by
 have h : t % 7 = 0 ∨ t % 7 = 1 ∨ t % 7 = 2 ∨ t % 7 = 3 ∨ t % 7 = 4 ∨ t % 7 = 5 ∨ t % 7 = 6 := by omega
 unfold qcp
 rcases h with h | h | h | h | h | h | h
 ·rw [show (t + 1) % 7 = 1 by omega, show (t + 1) / 7 = t / 7 by omega, h]; (have e0 : nat7 0 = 0 := rfl); (have e1 : nat7 1 = 2 := rfl); (have e2 : nat7 2 = 4 := rfl); (have e3 : nat7 3 = 5 := rfl); (have e4 : nat7 4 = 7 := rfl); (have e5 : nat7 5 = 9 := rfl); (have e6 : nat7 6 = 11 := rfl); (have u : up 0 = 2 ∧ up 1 = 2 ∧ up 2 = 1 ∧ up 3 = 2 ∧ up 4 = 2 ∧ up 5 = 2 ∧ up 6 = 1 := by decide); omega
 ·rw [show (t + 1) % 7 = 2 by omega, show (t + 1) / 7 = t / 7 by omega, h]; (have e0 : nat7 0 = 0 := rfl); (have e1 : nat7 1 = 2 := rfl); (have e2 : nat7 2 = 4 := rfl); (have e3 : nat7 3 = 5 := rfl); (have e4 : nat7 4 = 7 := rfl); (have e5 : nat7 5 = 9 := rfl); (have e6 : nat7 6 = 11 := rfl); (have u : up 0 = 2 ∧ up 1 = 2 ∧ up 2 = 1 ∧ up 3 = 2 ∧ up 4 = 2 ∧ up 5 = 2 ∧ up 6 = 1 := by decide); omega
 ·rw [show (t + 1) % 7 = 3 by omega, show (t + 1) / 7 = t / 7 by omega, h]; (have e0 : nat7 0 = 0 := rfl); (have e1 : nat7 1 = 2 := rfl); (have e2 : nat7 2 = 4 := rfl); (have e3 : nat7 3 = 5 := rfl); (have e4 : nat7 4 = 7 := rfl); (have e5 : nat7 5 = 9 := rfl); (have e6 : nat7 6 = 11 := rfl); (have u : up 0 = 2 ∧ up 1 = 2 ∧ up 2 = 1 ∧ up 3 = 2 ∧ up 4 = 2 ∧ up 5 = 2 ∧ up 6 = 1 := by decide); omega
 ·rw [show (t + 1) % 7 = 4 by omega, show (t + 1) / 7 = t / 7 by omega, h]; (have e0 : nat7 0 = 0 := rfl); (have e1 : nat7 1 = 2 := rfl); (have e2 : nat7 2 = 4 := rfl); (have e3 : nat7 3 = 5 := rfl); (have e4 : nat7 4 = 7 := rfl); (have e5 : nat7 5 = 9 := rfl); (have e6 : nat7 6 = 11 := rfl); (have u : up 0 = 2 ∧ up 1 = 2 ∧ up 2 = 1 ∧ up 3 = 2 ∧ up 4 = 2 ∧ up 5 = 2 ∧ up 6 = 1 := by decide); omega
 ·rw [show (t + 1) % 7 = 5 by omega, show (t + 1) / 7 = t / 7 by omega, h]; (have e0 : nat7 0 = 0 := rfl); (have e1 : nat7 1 = 2 := rfl); (have e2 : nat7 2 = 4 := rfl); (have e3 : nat7 3 = 5 := rfl); (have e4 : nat7 4 = 7 := rfl); (have e5 : nat7 5 = 9 := rfl); (have e6 : nat7 6 = 11 := rfl); (have u : up 0 = 2 ∧ up 1 = 2 ∧ up 2 = 1 ∧ up 3 = 2 ∧ up 4 = 2 ∧ up 5 = 2 ∧ up 6 = 1 := by decide); omega
 ·rw [show (t + 1) % 7 = 6 by omega, show (t + 1) / 7 = t / 7 by omega, h]; (have e0 : nat7 0 = 0 := rfl); (have e1 : nat7 1 = 2 := rfl); (have e2 : nat7 2 = 4 := rfl); (have e3 : nat7 3 = 5 := rfl); (have e4 : nat7 4 = 7 := rfl); (have e5 : nat7 5 = 9 := rfl); (have e6 : nat7 6 = 11 := rfl); (have u : up 0 = 2 ∧ up 1 = 2 ∧ up 2 = 1 ∧ up 3 = 2 ∧ up 4 = 2 ∧ up 5 = 2 ∧ up 6 = 1 := by decide); omega
 ·rw [show (t + 1) % 7 = 0 by omega, show (t + 1) / 7 = t / 7 + 1 by omega, h]; (have e0 : nat7 0 = 0 := rfl); (have e1 : nat7 1 = 2 := rfl); (have e2 : nat7 2 = 4 := rfl); (have e3 : nat7 3 = 5 := rfl); (have e4 : nat7 4 = 7 := rfl); (have e5 : nat7 5 = 9 := rfl); (have e6 : nat7 6 = 11 := rfl); (have u : up 0 = 2 ∧ up 1 = 2 ∧ up 2 = 1 ∧ up 3 = 2 ∧ up 4 = 2 ∧ up 5 = 2 ∧ up 6 = 1 := by decide); omega
theorem qwu (t : Int) : qcp (t - 1) = qcp t - up ((t - 1) % 7) := by
 have h := qms (t - 1)
 rw [show t - 1 + 1 = t by omega] at h
 omega
theorem qjv (t : Int) (h : -1000 ≤ t ∧ t ≤ 1000) : -2000 ≤ qcp t ∧ qcp t ≤ 2000 := by
 have := nat7_range (t % 7)
 unfold qcp
 omega
theorem qrr {l o : Int} (h1 : 0 ≤ l) (h2 : l ≤ 6) : qcp (steps l o) = 12 * o + nat7 l := by
 unfold qcp steps
 rw [show (7 * o + l) / 7 = o by omega, show (7 * o + l) % 7 = l by omega]
theorem qpm {l a o : Int} (h : rightB l a o = true) : qcp (steps l o) + a = halves l a o := by
 have := rightB_iff.1 h
 rw [qrr this.1 this.2.1]; unfold halves; omega
/-- What the reference's At tells. -/
theorem qwm (s h : Int) : at_ s h = if rightB (s % 7) (h - qcp s) (s / 7) then (s % 7, h - qcp s, s / 7, 0) else (0, 0, 0, 3) := rfl
end Go.Proofs.YtmlnilkbolcknaaGreatDoor.Pi
namespace Go.Proofs.YtmlnilkbolcknaaGreatDoor.Pm
open Go Go.Proofs.YtmlnilkbolcknaaGreatDoor.Pi

def letB : List UInt8 := [67, 68, 69, 70, 71, 65, 66]
def qeg (a : Int) : List UInt8 :=
 if a = 1 then [226, 153, 175] else if a = 2 then [240, 157, 132, 170] else if a = 3 then [240, 157, 132, 170, 226, 153, 175]
 else if a = -1 then [226, 153, 173] else if a = -2 then [240, 157, 132, 171] else if a = -3 then [240, 157, 132, 171, 226, 153, 173] else []
/-- A pitch, written. -/
def quj (l a o : Int) : List UInt8 × Int := if rightB l a o = true then ((letB.drop l.toNat).take 1 ++ qeg a ++ Lib.itoa o, 0) else ([], 2)
/-- What a rune alters; false: it is no sign. -/
def qba (r : Int) : Int × Bool :=
 if r = 9839 ∨ r = 35 then (1, true) else if r = 119082 ∨ r = 120 then (2, true) else if r = 9837 ∨ r = 98 then (-1, true) else if r = 119083 then (-2, true) else (0, false)
def digs : List UInt8 := [48, 49, 50, 51, 52, 53, 54, 55, 56, 57]
def qbn (t : List UInt8) : Int := (Lib.atoi t).getD 0
def body (s : List UInt8) : List UInt8 := if Lib.hasPrefix s [45] = true then s.drop 1 else s
/-- Whether what stands qay the minus is no number. -/
def qmp (m : Bool) (t : List UInt8) : Prop := t = [] ∨ 4 < t.length ∨ ((t.getD 0 0).toNat = 48 ∧ (1 < t.length ∨ m = true)) ∨ Lib.trimS t digs ≠ []
instance (m : Bool) (t : List UInt8) : Decidable (qmp m t) := by unfold qmp; infer_instance
/-- A number without noughts ahead; false: it is none. -/
def numS (s : List UInt8) : Int × Bool :=
 if qmp (Lib.hasPrefix s [45]) (body s) then (0, false) else (if Lib.hasPrefix s [45] = true then 0 - qbn (body s) else qbn (body s), true)
def dec1 (l : List UInt8) : Nat := (Lib.decodeGo (st l)).1
def dec2 (l : List UInt8) : Nat := (Lib.decodeGo (st l)).2
/-- The signs at a text's beginning: whether they are fair, what they alter together, where they end. -/
def qcb (l : List UInt8) (a : Int) (n : Nat) : Bool × Int × Nat :=
 if _h : (qba (dec1 l)).2 = true ∧ 1 ≤ dec2 l ∧ 1 ≤ l.length then
  if (a + (qba (dec1 l)).1) * (qba (dec1 l)).1 < 0 ∨ 3 < max (a + (qba (dec1 l)).1) (0 - (a + (qba (dec1 l)).1)) then (false, a + (qba (dec1 l)).1, n)
  else qcb (l.drop (dec2 l)) (a + (qba (dec1 l)).1) (n + dec2 l)
 else (true, a, n)
termination_by l.length
decreasing_by rw [List.length_drop]; omega
/-- What stands qay the letter. -/
def qay (s : List UInt8) : Bool × Int × Nat := if Lib.hasPrefix (s.drop 1) [226, 153, 174] = true then (true, 0, 4) else qcb (s.drop 1) 0 1
/-- A pitch, read, and what is wrong with it where. -/
def qaz (s : List UInt8) : (Int × Int × Int) × Int × Int :=
 if s = [] ∨ ¬ 0 ≤ Lib.indexByte letB (s.getD 0 0) then ((0, 0, 0), 2, 0)
 else if (qay s).1 = false then ((0, 0, 0), 3, (qay s).2.2)
 else if (numS (s.drop (qay s).2.2)).2 = false then ((0, 0, 0), 2, (qay s).2.2)
 else if rightB (Lib.indexByte letB (s.getD 0 0)) (qay s).2.1 (numS (s.drop (qay s).2.2)).1 = true then ((Lib.indexByte letB (s.getD 0 0), (qay s).2.1, (numS (s.drop (qay s).2.2)).1), 0, 0)
 else ((0, 0, 0), 3, (qay s).2.2)

/-! ### decoding -/
theorem qkh {l : List UInt8} (h : l ≠ []) : 1 ≤ dec2 l := by
 have hs : (st l).size ≠ 0 := by
  intro e
  exact h (List.length_eq_zero_iff.1 e)
 unfold dec2 Lib.decodeGo
 rw [if_neg hs]
 unfold Utf8.decode
 dsimp only
 repeat' split
 all_goals first | decide | (show 1 ≤ _; omega)
theorem qlx (l : List UInt8) : dec2 l ≤ l.length := by
 by_cases h : l = []
 ·subst h; exact Nat.le_refl 0
 have hs : (st l).size ≠ 0 := by
  intro e
  exact h (List.length_eq_zero_iff.1 e)
 have hl : (st l).size = l.length := rfl
 unfold dec2 Lib.decodeGo
 rw [if_neg hs]
 unfold Utf8.decode
 dsimp only
 repeat' split
 all_goals simp only [Bool.and_eq_true, decide_eq_true_eq] at *
 all_goals omega
theorem qkp {l : List UInt8} (h : (qba (dec1 l)).2 = true) : l ≠ [] ∧ 1 ≤ dec2 l ∧ 1 ≤ l.length := by
 have h1 : l ≠ [] := by
  rintro rfl
  revert h
  decide
 exact ⟨h1, qkh h1, by cases l with | nil => exact absurd rfl h1 | cons a l => simp⟩
theorem qgk {l : List UInt8} {a : Int} {n : Nat} (h : ¬ (qba (dec1 l)).2 = true) : qcb l a n = (true, a, n) := by
 rw [qcb, dif_neg (fun c => h c.1)]
theorem qmv {l : List UInt8} {a : Int} {n : Nat} (h : (qba (dec1 l)).2 = true) (hb : (a + (qba (dec1 l)).1) * (qba (dec1 l)).1 < 0 ∨ 3 < max (a + (qba (dec1 l)).1) (0 - (a + (qba (dec1 l)).1))) : qcb l a n = (false, a + (qba (dec1 l)).1, n) := by
 rw [qcb, dif_pos ⟨h, (qkp h).2⟩, if_pos hb]
theorem qko {l : List UInt8} {a : Int} {n : Nat} (h : (qba (dec1 l)).2 = true) (hb : ¬ ((a + (qba (dec1 l)).1) * (qba (dec1 l)).1 < 0 ∨ 3 < max (a + (qba (dec1 l)).1) (0 - (a + (qba (dec1 l)).1)))) : qcb l a n = qcb (l.drop (dec2 l)) (a + (qba (dec1 l)).1) (n + dec2 l) := by
 rw [qcb, dif_pos ⟨h, (qkp h).2⟩, if_neg hb]
theorem signB_bd (r : Int) : -2 ≤ (qba r).1 ∧ (qba r).1 ≤ 2 := by
 unfold qba
 repeat' split
 all_goals decide
theorem qfn {p : UInt8 → Bool} : ∀ {l : List UInt8}, l.dropWhile p = [] → ∀ b ∈ l, p b = true
 | [], _, b, hb => by simp at hb
 | a :: l, h, b, hb => by
  by_cases ha : p a = true
  ·rw [List.dropWhile_cons_of_pos ha] at h
   rcases List.mem_cons.1 hb with rfl | hb
   ·exact ha
   ·exact qfn h b hb
  ·rw [List.dropWhile_cons_of_neg ha] at h
   cases h
theorem qfc {p : UInt8 → Bool} : ∀ {l : List UInt8}, ∀ b ∈ l.takeWhile p, p b = true
 | [], b, hb => by simp at hb
 | a :: l, b, hb => by
  by_cases ha : p a = true
  ·rw [List.takeWhile_cons_of_pos ha] at hb
   rcases List.mem_cons.1 hb with rfl | hb
   ·exact ha
   ·exact qfc b hb
  ·rw [List.takeWhile_cons_of_neg ha] at hb
   cases hb
/-- Digits alone: they have a value. -/
theorem trim_all {t : List UInt8} (h : Lib.trimS t digs = []) : ∀ b ∈ t, b ∈ digs := by
 unfold Lib.trimS Lib.trimLeftS Lib.trimRightS at h
 replace h := qfn h
 intro b hb
 have hb' : b ∈ t.reverse := by simpa using hb
 rw [← List.takeWhile_append_dropWhile (p := fun x => digs.contains x) (l := t.reverse), List.mem_append] at hb'
 rcases hb' with hb' | hb'
 ·have := qfc b hb'
  simpa using this
 ·have := h b (by simpa using hb')
  simpa using this
theorem qpc {b : UInt8} (h : b ∈ digs) : ∃ d, Lib.digitVal b = some d ∧ d ≤ 9 ∧ b.toNat = 48 + d := by
 have : ∀ b ∈ digs, ∃ d : Fin 10, Lib.digitVal b = some d.1 ∧ b.toNat = 48 + d.1 := by decide
 obtain ⟨d, h1, h2⟩ := this b h
 exact ⟨d.1, h1, by omega, h2⟩
theorem qwb : ∀ {t : List UInt8} {acc : Nat}, (∀ b ∈ t, b ∈ digs) → ∃ n, Lib.decFrom acc t = some n ∧ n < (acc + 1) * 10 ^ t.length
 | [], acc, _ => ⟨acc, rfl, by simp⟩
 | b :: r, acc, h => by
  obtain ⟨d, h1, h2, _⟩ := qpc (h b (by simp))
  obtain ⟨n, h3, h4⟩ := qwb (t := r) (acc := acc * 10 + d) (fun c hc => h c (by simp [hc]))
  refine ⟨n, ?_, ?_⟩
  ·simp only [Lib.decFrom, h1]
   exact h3
  ·rw [List.length_cons, Nat.pow_succ]
   have hp := Nat.pow_pos (n := r.length) (show 0 < 10 by decide)
   have : (acc * 10 + d + 1) * 10 ^ r.length ≤ (acc + 1) * (10 ^ r.length * 10) := by
    rw [Nat.mul_comm (10 ^ r.length) 10, ← Nat.mul_assoc]
    exact Nat.mul_le_mul_right _ (by omega)
   omega
theorem qwa {t : List UInt8} (h0 : t ≠ []) (h : ∀ b ∈ t, b ∈ digs) : ∃ n : Nat, Lib.atoi t = some (n : Int) ∧ n < 10 ^ t.length := by
 cases t with
 | nil => exact absurd rfl h0
 | cons b r =>
  obtain ⟨d, _, h2, h3⟩ := qpc (h b (by simp))
  obtain ⟨n, h4, h5⟩ := qwb (acc := 0) h
  refine ⟨n, ?_, by simpa using h5⟩
  have e1 : (b == 45) = false := by
   rw [beq_eq_false_iff_ne]; rintro rfl
   have : (45 : UInt8).toNat = 45 := rfl
   omega
  have e2 : (b == 43) = false := by
   rw [beq_eq_false_iff_ne]; rintro rfl
   have : (43 : UInt8).toNat = 43 := rfl
   omega
  simp only [Lib.atoi, e1, e2, Lib.decNat, Bool.false_eq_true, if_false, List.isEmpty_cons, h4]
  rfl
/-- What is a number has a value: small. -/
theorem qon {m : Bool} {t : List UInt8} (h : ¬ qmp m t) : Lib.atoi t = some (qbn t) ∧ 0 ≤ qbn t ∧ qbn t ≤ 9999 ∧ t.length ≤ 4 ∧ 1 ≤ t.length := by
 unfold qmp at h
 simp only [not_or] at h
 obtain ⟨h1, h2, _, h4⟩ := h
 obtain ⟨n, h5, h6⟩ := qwa h1 (trim_all (by simpa using h4))
 have h7 : (10 : Nat) ^ t.length ≤ 10 ^ 4 := Nat.pow_le_pow_right (by decide) (by omega)
 have h8 : 1 ≤ t.length := by cases t with | nil => exact absurd rfl h1 | cons a l => simp
 unfold qbn
 rw [h5]
 refine ⟨rfl, ?_, ?_, by omega, h8⟩
 ·show (0 : Int) ≤ n; omega
 ·show (n : Int) ≤ 9999; omega
theorem qdw : ∀ (j : Nat) b, digs[j]? = some b → b.toNat < 128 := by
 intro j b h
 have : ∀ b ∈ digs, b.toNat < 128 := by decide
 exact this b (List.mem_of_getElem? h)
theorem pre_len {s : List UInt8} (h : Lib.hasPrefix s [45] = true) : 1 ≤ s.length := by
 cases s with
 | nil => cases h
 | cons a l => simp
theorem qgo {s : List UInt8} (h : Lib.hasPrefix s [45] = true) : body s = s.drop 1 := if_pos h
theorem qdx {s : List UInt8} (h : ¬ Lib.hasPrefix s [45] = true) : body s = s := if_neg h
theorem qez {m : Bool} {t : List UInt8} (h1 : ¬ t = []) (h2 : ¬ (4 : Int) < ((t.length : Nat) : Int)) (h3 : ¬ (((t.getD 0 0).toNat : Nat) : Int) = 48 ∨ (¬ (1 : Int) < ((t.length : Nat) : Int) ∧ ¬ m = true)) (h4 : Lib.trimS t digs = []) : ¬ qmp m t := by
 unfold qmp
 rintro (h | h | ⟨h5, h6⟩ | h)
 ·exact h1 h
 ·omega
 ·rcases h3 with h3 | ⟨h3, h7⟩
  ·omega
  ·rcases h6 with h6 | h6
   ·omega
   ·exact h7 h6
 ·exact h h4
theorem qep {s : List UInt8} (h : qmp (Lib.hasPrefix s [45]) (body s)) : numS s = (0, false) := if_pos h
theorem numS_neg {s : List UInt8} (h : ¬ qmp (Lib.hasPrefix s [45]) (s.drop 1)) (h1 : Lib.hasPrefix s [45] = true) : numS s = (0 - qbn (s.drop 1), true) := by
 unfold numS; rw [qgo h1, if_neg h, if_pos h1]
theorem quq {s : List UInt8} (h : ¬ qmp (Lib.hasPrefix s [45]) s) (h1 : ¬ Lib.hasPrefix s [45] = true) : numS s = (qbn s, true) := by
 unfold numS; rw [qdx h1, if_neg h, if_neg h1]
theorem qkd {o : Int} (h0 : -1000 ≤ o) (h1 : o ≤ 1000) : (Lib.itoa o).length ≤ 21 := Lib.itoa_length_le o (by omega) (by omega)
theorem len_pos {s : List UInt8} (h : ¬ s = []) : 1 ≤ s.length := List.length_pos_iff.2 h
theorem qrg {s : List UInt8} (h : ¬ s = []) : (st s).extract (0 : Int).toNat (1 : Int).toNat = st [s.getD 0 0] := by
 cases s with
 | nil => exact absurd rfl h
 | cons a l => exact st_upto _ 1
theorem pre3_len {s : List UInt8} (h : Lib.hasPrefix s [226, 153, 174] = true) : 3 ≤ s.length := by
 unfold Lib.hasPrefix at h
 have := (List.isPrefixOf_iff_prefix.1 h).length_le
 simpa using this
theorem mul_small {x y : Int} (h1 : -5 ≤ x) (h2 : x ≤ 5) (h3 : -2 ≤ y) (h4 : y ≤ 2) : -10 ≤ x * y ∧ x * y ≤ 10 := by
 have h5 : y = -2 ∨ y = -1 ∨ y = 0 ∨ y = 1 ∨ y = 2 := by omega
 rcases h5 with rfl | rfl | rfl | rfl | rfl <;> omega
theorem qqe {s : List UInt8} (h : s = [] ∨ ¬ 0 ≤ Lib.indexByte letB (s.getD 0 0)) : qaz s = ((0, 0, 0), 2, 0) := if_pos h
section
variable {s : List UInt8} {a : Int} {n : Nat} (h0 : ¬ s = []) (h1 : 0 ≤ Lib.indexByte letB (s.getD 0 0))
include h0 h1
theorem qqf (hb : qay s = (false, a, n)) : qaz s = ((0, 0, 0), 3, (n : Int)) := by
 unfold qaz; rw [if_neg (by rintro (h | h); exact h0 h; exact h h1), hb, if_pos rfl]
theorem qqd (hb : qay s = (true, a, n)) (h2 : ¬ (numS (s.drop n)).2 = true) : qaz s = ((0, 0, 0), 2, (n : Int)) := by
 unfold qaz; rw [if_neg (by rintro (h | h); exact h0 h; exact h h1), hb, if_neg (fun h => Bool.noConfusion h), if_pos (eq_false_of_ne_true h2)]
theorem qkw (hb : qay s = (true, a, n)) (h2 : (numS (s.drop n)).2 = true) (h3 : rightB (Lib.indexByte letB (s.getD 0 0)) a (numS (s.drop n)).1 = true) : qaz s = ((Lib.indexByte letB (s.getD 0 0), a, (numS (s.drop n)).1), 0, 0) := by
 unfold qaz; rw [if_neg (by rintro (h | h); exact h0 h; exact h h1), hb, if_neg (fun h => Bool.noConfusion h), if_neg (by rw [h2]; decide), if_pos h3]
theorem qqc (hb : qay s = (true, a, n)) (h2 : (numS (s.drop n)).2 = true) (h3 : ¬ rightB (Lib.indexByte letB (s.getD 0 0)) a (numS (s.drop n)).1 = true) : qaz s = ((0, 0, 0), 3, (n : Int)) := by
 unfold qaz; rw [if_neg (by rintro (h | h); exact h0 h; exact h h1), hb, if_neg (fun h => Bool.noConfusion h), if_neg (by rw [h2]; decide), if_neg h3]
end
theorem qji {s : List UInt8} (h : Lib.hasPrefix (s.drop 1) [226, 153, 174] = true) : qay s = (true, 0, 4) := if_pos h
theorem qdp {s : List UInt8} {r : Bool × Int × Nat} (h : ¬ Lib.hasPrefix (s.drop 1) [226, 153, 174] = true) {a : Int} {n : Nat} (hS : qcb (s.drop n) a n = qcb (s.drop 1) 0 1) (hr : qcb (s.drop n) a n = r) : qay s = r := by
 unfold qay; rw [if_neg h, ← hS, hr]
theorem num_bd (s : List UInt8) : -9999 ≤ (numS s).1 ∧ (numS s).1 ≤ 9999 := by
 unfold numS
 split
 ·decide
 ·rename_i h
  have := qon h
  split
  ·show -9999 ≤ 0 - qbn (body s) ∧ 0 - qbn (body s) ≤ 9999; omega
  ·show -9999 ≤ qbn (body s) ∧ qbn (body s) ≤ 9999; omega
end Go.Proofs.YtmlnilkbolcknaaGreatDoor.Pm
namespace Go.Proofs.YtmlnilkbolcknaaGreatDoor.Pm
open Go Go.Proofs.YtmlnilkbolcknaaGreatDoor.Pi

def qbv (s : Int) : Bool := decide (s % 7 = 0 ∨ s % 7 = 3 ∨ s % 7 = 4)
/-- What an interval's plain half tones are short of. -/
def qfp (s h : Int) : Int := h - 12 * (s / 7) - nat7 (s % 7)
def qhi (p : Bool) (m : Int) : List UInt8 :=
 if 0 < m then Lib.repeatL [65] (min m 7).toNat else if m = 0 then (if p = true then [80] else [77]) else if p = true then Lib.repeatL [100] (min (0 - m) 7).toNat
 else if m = -1 then [109] else Lib.repeatL [100] (min (0 - m - 1) 7).toNat
def qqo (mn : List UInt8) (s h : Int) : List UInt8 × Int :=
 if 6 < (qhi (qbv s) (qfp s h)).length then ([], 3) else (mn ++ qhi (qbv s) (qfp s h) ++ Lib.itoa (s + 1), 0)
/-- An interval's name. -/
def qeq (s h : Int) : List UInt8 × Int :=
 if withinB s h = true then (if s < 0 ∨ (s = 0 ∧ h < 0) then qqo [45] (0 - s) (0 - h) else qqo [] s h) else ([], 3)
def tOf (s : List UInt8) : List UInt8 := Lib.trimPrefix s [45]
def quals : List UInt8 := [80, 77, 109, 65, 100]
def dOf (s : List UInt8) : List UInt8 := Lib.trimLeftS (tOf s) quals
def qOf (s : List UInt8) : List UInt8 := (tOf s).take ((tOf s).length - (dOf s).length)
/-- What a quality adds to the plain half tones. -/
def qualV (p : Bool) (q : List UInt8) : Option Int :=
 if (q = [80] ∧ p = true) ∨ (q = [77] ∧ ¬ p = true) then some 0 else if q = [109] ∧ ¬ p = true then some (-1) else if Lib.trimS q [65] = [] then some (q.length : Int)
 else if Lib.trimS q [100] = [] ∧ p = true then some (-(q.length : Int)) else if Lib.trimS q [100] = [] then some (-((q.length : Int) + 1)) else none
def qfs (s : List UInt8) : Int := (numS (dOf s)).1 - 1
def jOf (s : List UInt8) (m : Int) : Int × Int :=
 if (tOf s).length < s.length then (0 - qfs s, 0 - (12 * (qfs s / 7) + nat7 (qfs s % 7) + m)) else (qfs s, 12 * (qfs s / 7) + nat7 (qfs s % 7) + m)
def checked (s : List UInt8) (j : Int × Int) : (Int × Int) × Int := if (qeq j.1 j.2).2 = 0 ∧ (qeq j.1 j.2).1 = s then (j, 0) else ((0, 0), 2)
/-- The interval whose name it is. -/
def qlj (s : List UInt8) : (Int × Int) × Int :=
 if ¬ (numS (dOf s)).2 = true ∨ (numS (dOf s)).1 < 1 ∨ qOf s = [] then ((0, 0), 2)
 else if 200 < qfs s ∨ (6 : Int) < ((qOf s).length : Int) then ((0, 0), 3)
 else match qualV (qbv (qfs s)) (qOf s) with
  | none => ((0, 0), 2)
  | some m => checked s (jOf s m)

theorem qcr {mn : List UInt8} {s h : Int} {q : List UInt8} (hq : qhi (qbv s) (qfp s h) = q) (hl : (6 : Int) < (q.length : Int)) : qqo mn s h = ([], 3) := by
 unfold qqo; rw [hq, if_pos (by omega)]
theorem qbo {mn : List UInt8} {s h : Int} {q : List UInt8} (hq : qhi (qbv s) (qfp s h) = q) (hl : ¬ (6 : Int) < (q.length : Int)) : qqo mn s h = (mn ++ q ++ Lib.itoa (s + 1), 0) := by
 unfold qqo; rw [hq, if_neg (by omega)]
theorem nameS_no {s h : Int} (hw : ¬ withinB s h = true) : qeq s h = ([], 3) := if_neg hw
theorem qbt {s h : Int} {r : List UInt8 × Int} (hw : withinB s h = true) (hn : s < 0 ∨ (s = 0 ∧ h < 0)) (hr : qqo [45] (0 - s) (0 - h) = r) : qeq s h = r := by unfold qeq; rw [if_pos hw, if_pos hn, hr]
theorem qbs {s h : Int} {r : List UInt8 × Int} (hw : withinB s h = true) (hn : ¬ (s < 0 ∨ (s = 0 ∧ h < 0))) (hr : qqo [] s h = r) : qeq s h = r := by unfold qeq; rw [if_pos hw, if_neg hn, hr]
section
variable {p : Bool} {m : Int}
theorem qga (h : 0 < m) : qhi p m = Lib.repeatL [65] (min m 7).toNat := if_pos h
theorem qug (h : m = 0) (hp : p = true) : qhi p m = [80] := by subst h; unfold qhi; rw [if_neg (by decide), if_pos rfl, if_pos hp]
theorem quh (h : m = 0) (hp : ¬ p = true) : qhi p m = [77] := by subst h; unfold qhi; rw [if_neg (by decide), if_pos rfl, if_neg hp]
theorem qjk (h0 : ¬ 0 < m) (h : ¬ m = 0) (hp : p = true) : qhi p m = Lib.repeatL [100] (min (0 - m) 7).toNat := by unfold qhi; rw [if_neg h0, if_neg h, if_pos hp]
theorem quf (h : m = -1) (hp : ¬ p = true) : qhi p m = [109] := by subst h; unfold qhi; rw [if_neg (by decide), if_neg (by decide), if_neg hp, if_pos rfl]
theorem qgb (h0 : ¬ 0 < m) (h : ¬ m = 0) (hp : ¬ p = true) (h1 : ¬ m = -1) : qhi p m = Lib.repeatL [100] (min (0 - m - 1) 7).toNat := by unfold qhi; rw [if_neg h0, if_neg h, if_neg hp, if_neg h1]
end
section
end
section
end
end Go.Proofs.YtmlnilkbolcknaaGreatDoor.Pm
namespace Go.Proofs.YtmlnilkbolcknaaGreatDoor.Pm
open Go Go.Proofs.YtmlnilkbolcknaaGreatDoor.Pi

/-! ### decoding -/
theorem qyx (l : List UInt8) (k : Nat) : (st l).get! k = l.getD k 0 := by
 show (l.toArray)[k]! = l.getD k 0
 rw [Array.getElem!_eq_getD, List.getD_eq_getElem?_getD, Array.getD_eq_getD_getElem?]
 simp
 rfl
theorem dec_ascii {b : UInt8} {r : List UInt8} (h : b.toNat < 128) : dec1 (b :: r) = b.toNat ∧ dec2 (b :: r) = 1 := by
 have hs : (st (b :: r)).size ≠ 0 := by show (b :: r).length ≠ 0; simp
 have e : Lib.decodeGo (st (b :: r)) = (b.toNat, 1) := by
  unfold Lib.decodeGo
  rw [if_neg hs]
  unfold Utf8.decode
  dsimp only
  simp only [qyx]
  exact if_pos h
 unfold dec1 dec2
 rw [e]
 exact ⟨rfl, rfl⟩
theorem dec_three {c : UInt8} {r : List UInt8} (h1 : 128 ≤ c.toNat) (h2 : c.toNat < 192) : dec1 (226 :: 153 :: c :: r) = 8192 + 25 * 64 + c.toNat % 64 ∧ dec2 (226 :: 153 :: c :: r) = 3 := by
 have hs : (st (226 :: 153 :: c :: r)).size ≠ 0 := by show (226 :: 153 :: c :: r).length ≠ 0; simp
 have hl : (st (226 :: 153 :: c :: r)).size = r.length + 3 := rfl
 have e : Lib.decodeGo (st (226 :: 153 :: c :: r)) = (8192 + 25 * 64 + c.toNat % 64, 3) := by
  unfold Lib.decodeGo
  rw [if_neg hs]
  unfold Utf8.decode
  dsimp only
  simp only [qyx, hl]
  have h3 : c.toNat / 64 = 2 := by omega
  have h4 : c.toNat % 64 < 64 := Nat.mod_lt _ (by decide)
  simp [h3, Utf8.valid]
  omega
 unfold dec1 dec2
 rw [e]
 exact ⟨rfl, rfl⟩
theorem dec_four {c : UInt8} {r : List UInt8} (h1 : 128 ≤ c.toNat) (h2 : c.toNat < 192) : dec1 (240 :: 157 :: 132 :: c :: r) = 118784 + 256 + c.toNat % 64 ∧ dec2 (240 :: 157 :: 132 :: c :: r) = 4 := by
 have hs : (st (240 :: 157 :: 132 :: c :: r)).size ≠ 0 := by show (240 :: 157 :: 132 :: c :: r).length ≠ 0; simp
 have hl : (st (240 :: 157 :: 132 :: c :: r)).size = r.length + 4 := rfl
 have e : Lib.decodeGo (st (240 :: 157 :: 132 :: c :: r)) = (118784 + 256 + c.toNat % 64, 4) := by
  unfold Lib.decodeGo
  rw [if_neg hs]
  unfold Utf8.decode
  dsimp only
  simp only [qyx, hl]
  have h3 : c.toNat / 64 = 2 := by omega
  have h4 : c.toNat % 64 < 64 := Nat.mod_lt _ (by decide)
  simp [h3, Utf8.valid]
  omega
 unfold dec1 dec2
 rw [e]
 exact ⟨rfl, rfl⟩

/-! ### numbers -/
def dg3 (u : Nat) : List UInt8 := if u < 10 then [UInt8.ofNat (48 + u)] else if u < 100 then [UInt8.ofNat (48 + u / 10), UInt8.ofNat (48 + u % 10)] else [UInt8.ofNat (48 + u / 100), UInt8.ofNat (48 + u / 10 % 10), UInt8.ofNat (48 + u % 10)]
theorem dec_dg3 {u : Nat} (h : u < 1000) : Lib.decDigits u = dg3 u := by
 unfold dg3
 by_cases h1 : u < 10
 ·rw [if_pos h1, Lib.decDigits_one h1]
 ·rw [if_neg h1]
  by_cases h2 : u < 100
  ·rw [if_pos h2, Lib.decDigits_two h1 h2]
  ·rw [if_neg h2, Lib.decDigits, dif_neg h1, Lib.decDigits_two (by omega) (by omega), show u / 10 / 10 = u / 100 from by omega]
   rfl
theorem qsh : ∀ u : Fin 1000, numS (dg3 u.1) = ((u.1 : Int), true) ∧ (1 ≤ u.1 → numS (45 :: dg3 u.1) = (0 - (u.1 : Int), true)) ∧ (∃ b ∈ digs, (dg3 u.1).head? = some b) := by
 decide +kernel
end Go.Proofs.YtmlnilkbolcknaaGreatDoor.Pm
namespace Go.Proofs.YtmlnilkbolcknaaGreatDoor.Pm
open Go Go.Proofs.YtmlnilkbolcknaaGreatDoor.Pi

theorem qvh {u : Nat} (h : u < 1000) : Lib.itoa (u : Int) = dg3 u := by rw [Lib.itoa_nonneg, dec_dg3 h]
theorem qqx {u : Nat} (h : u < 1000) (h1 : 1 ≤ u) : Lib.itoa (0 - (u : Int)) = 45 :: dg3 u := by
 rw [show 0 - (u : Int) = -(u : Int) from by omega, Lib.itoa_neg u h1, dec_dg3 h]
/-- A number, written and read. -/
theorem num_itoa {n : Int} (h1 : -999 ≤ n) (h2 : n ≤ 999) : numS (Lib.itoa n) = (n, true) := by
 by_cases h : 0 ≤ n
 ·obtain ⟨u, rfl⟩ : ∃ u : Nat, n = u := ⟨n.toNat, by omega⟩
  rw [qvh (by omega)]
  exact (qsh ⟨u, by omega⟩).1
 ·obtain ⟨u, rfl⟩ : ∃ u : Nat, n = 0 - (u : Int) := ⟨(-n).toNat, by omega⟩
  rw [qqx (by omega) (by omega)]
  exact (qsh ⟨u, by omega⟩).2.1 (by show 1 ≤ u; omega)
/-- How a number begins. -/
theorem itoa_head {n : Int} (h1 : -999 ≤ n) (h2 : n ≤ 999) : ∃ b r, Lib.itoa n = b :: r ∧ (b ∈ digs ∨ b = 45) ∧ (0 ≤ n → b ∈ digs) := by
 by_cases h : 0 ≤ n
 ·obtain ⟨u, rfl⟩ : ∃ u : Nat, n = u := ⟨n.toNat, by omega⟩
  rw [qvh (by omega)]
  obtain ⟨b, hb, hh⟩ := (qsh ⟨u, by omega⟩).2.2
  cases hd : dg3 u with
  | nil => rw [show dg3 (⟨u, by omega⟩ : Fin 1000).1 = [] from hd] at hh; cases hh
  | cons c r =>
   rw [show dg3 (⟨u, by omega⟩ : Fin 1000).1 = c :: r from hd] at hh
   cases hh
   exact ⟨_, r, rfl, .inl hb, fun _ => hb⟩
 ·obtain ⟨u, rfl⟩ : ∃ u : Nat, n = 0 - (u : Int) := ⟨(-n).toNat, by omega⟩
  rw [qqx (by omega) (by omega)]
  exact ⟨45, _, rfl, .inr rfl, fun c => by omega⟩
theorem qnc {b : UInt8} (h : b ∈ digs ∨ b = 45) : b.toNat < 128 ∧ (qba ((b.toNat : Nat) : Int)).2 = false ∧ b ≠ 226 := by
 have h1 : ∀ b ∈ (45 :: digs), b.toNat < 128 ∧ (qba ((b.toNat : Nat) : Int)).2 = false ∧ b ≠ 226 := by decide
 rcases h with h | rfl
 ·exact h1 b (List.mem_cons_of_mem _ h)
 ·exact h1 45 (by simp)
/-- Behind the signs the number begins. -/
theorem qea {l : List UInt8} {b : UInt8} {r : List UInt8} (hl : l = b :: r) (h : b ∈ digs ∨ b = 45) (a : Int) (n : Nat) : qcb l a n = (true, a, n) := by
 obtain ⟨h1, h2, _⟩ := qnc h
 subst hl
 apply qgk
 rw [(dec_ascii h1).1, h2]
 decide
theorem qfe {c : UInt8} {r : List UInt8} {a : Int} {n : Nat} {by' : Int} (h1 : 128 ≤ c.toNat) (h2 : c.toNat < 192) (hs : qba (((8192 + 25 * 64 + c.toNat % 64 : Nat)) : Int) = (by', true)) (hb : ¬ ((a + by') * by' < 0 ∨ 3 < max (a + by') (0 - (a + by')))) :
  qcb (226 :: 153 :: c :: r) a n = qcb r (a + by') (n + 3) := by
 obtain ⟨d1, d2⟩ := dec_three (r := r) h1 h2
 rw [qko (by rw [d1, hs]) (by rw [d1, hs]; exact hb), d1, d2, hs]
 rfl
theorem qgj {c : UInt8} {r : List UInt8} {a : Int} {n : Nat} {by' : Int} (h1 : 128 ≤ c.toNat) (h2 : c.toNat < 192) (hs : qba (((118784 + 256 + c.toNat % 64 : Nat)) : Int) = (by', true)) (hb : ¬ ((a + by') * by' < 0 ∨ 3 < max (a + by') (0 - (a + by')))) :
  qcb (240 :: 157 :: 132 :: c :: r) a n = qcb r (a + by') (n + 4) := by
 obtain ⟨d1, d2⟩ := dec_four (r := r) h1 h2
 rw [qko (by rw [d1, hs]) (by rw [d1, hs]; exact hb), d1, d2, hs]
 rfl
theorem qze {a : Int} (h1 : -3 ≤ a) (h2 : a ≤ 3) {l : List UInt8} {b : UInt8} {r : List UInt8} (hl : l = b :: r) (h : b ∈ digs ∨ b = 45) : qcb (qeg a ++ l) 0 1 = (true, a, 1 + (qeg a).length) := by
 have hc : a = -3 ∨ a = -2 ∨ a = -1 ∨ a = 0 ∨ a = 1 ∨ a = 2 ∨ a = 3 := by omega
 rcases hc with rfl | rfl | rfl | rfl | rfl | rfl | rfl
 ·show qcb (240 :: 157 :: 132 :: 171 :: 226 :: 153 :: 173 :: l) 0 1 = _
  rw [qgj (by' := -2) (by decide) (by decide) (by decide) (by decide), qfe (by' := -1) (by decide) (by decide) (by decide) (by decide), qea hl h]
  rfl
 ·show qcb (240 :: 157 :: 132 :: 171 :: l) 0 1 = _
  rw [qgj (by' := -2) (by decide) (by decide) (by decide) (by decide), qea hl h]
  rfl
 ·show qcb (226 :: 153 :: 173 :: l) 0 1 = _
  rw [qfe (by' := -1) (by decide) (by decide) (by decide) (by decide), qea hl h]
  rfl
 ·show qcb l 0 1 = _
  rw [qea hl h]
  rfl
 ·show qcb (226 :: 153 :: 175 :: l) 0 1 = _
  rw [qfe (by' := 1) (by decide) (by decide) (by decide) (by decide), qea hl h]
  rfl
 ·show qcb (240 :: 157 :: 132 :: 170 :: l) 0 1 = _
  rw [qgj (by' := 2) (by decide) (by decide) (by decide) (by decide), qea hl h]
  rfl
 ·show qcb (240 :: 157 :: 132 :: 170 :: 226 :: 153 :: 175 :: l) 0 1 = _
  rw [qgj (by' := 2) (by decide) (by decide) (by decide) (by decide), qfe (by' := 1) (by decide) (by decide) (by decide) (by decide), qea hl h]
  rfl
theorem qxl {a : Int} (h1 : -3 ≤ a) (h2 : a ≤ 3) {l : List UInt8} {b : UInt8} {r : List UInt8} (hl : l = b :: r) (h : b ∈ digs ∨ b = 45) : ¬ Lib.hasPrefix (qeg a ++ l) [226, 153, 174] = true := by
 obtain ⟨_, _, h3⟩ := qnc h
 subst hl
 have hc : a = -3 ∨ a = -2 ∨ a = -1 ∨ a = 0 ∨ a = 1 ∨ a = 2 ∨ a = 3 := by omega
 rcases hc with rfl | rfl | rfl | rfl | rfl | rfl | rfl
 ·simp [qeg, Lib.hasPrefix]
 ·simp [qeg, Lib.hasPrefix]
 ·simp [qeg, Lib.hasPrefix]
 ·simp [qeg, Lib.hasPrefix, Ne.symm h3]
 ·simp [qeg, Lib.hasPrefix]
 ·simp [qeg, Lib.hasPrefix]
 ·simp [qeg, Lib.hasPrefix]
theorem qxr : ∀ l : Fin 7, (letB.drop l.1).take 1 = [letB.getD l.1 0] ∧ Lib.indexByte letB (letB.getD l.1 0) = (l.1 : Int) := by decide
theorem letter_at (l : Fin 7) : ∃ c, (letB.drop l.1).take 1 = [c] ∧ Lib.indexByte letB c = (l.1 : Int) := ⟨_, qxr l⟩
/-- A pitch that is written is read. -/
theorem qxg {l a o : Int} (h : rightB l a o = true) : qaz (quj l a o).1 = ((l, a, o), 0, 0) := by
 obtain ⟨r1, r2, r3, r4, r5, r6⟩ := rightB_iff.1 h
 obtain ⟨b, r, hi, hb, _⟩ := itoa_head (n := o) (by omega) (by omega)
 obtain ⟨c, hc1, hc2⟩ := letter_at ⟨l.toNat, by omega⟩
 have hp : (quj l a o).1 = c :: (qeg a ++ Lib.itoa o) := by
  unfold quj; rw [if_pos h]
  show (letB.drop l.toNat).take 1 ++ qeg a ++ Lib.itoa o = _
  rw [show (letB.drop l.toNat).take 1 = [c] from hc1]
  rfl
 rw [hp]
 have hix : Lib.indexByte letB ((c :: (qeg a ++ Lib.itoa o)).getD 0 0) = l := by
  show Lib.indexByte letB c = l
  rw [hc2]
  show ((l.toNat : Nat) : Int) = l
  omega
 have hbe : qay (c :: (qeg a ++ Lib.itoa o)) = (true, a, 1 + (qeg a).length) := by
  unfold qay
  show (if Lib.hasPrefix (qeg a ++ Lib.itoa o) [226, 153, 174] = true then (true, 0, 4) else qcb (qeg a ++ Lib.itoa o) 0 1) = _
  rw [if_neg (qxl r3 r4 hi hb), qze r3 r4 hi hb]
 have hdr : (c :: (qeg a ++ Lib.itoa o)).drop (1 + (qeg a).length) = Lib.itoa o := by
  rw [Nat.add_comm, List.drop_succ_cons, List.drop_left]
 have hn := num_itoa (n := o) (by omega) (by omega)
 have := qkw (s := c :: (qeg a ++ Lib.itoa o)) (a := a) (n := 1 + (qeg a).length) (by simp) (by rw [hix]; exact r1) hbe (by rw [hdr, hn]) (by rw [hdr, hn, hix]; exact h)
 rw [this, hix, hdr, hn]

/-! ### intervals -/
end Go.Proofs.YtmlnilkbolcknaaGreatDoor.Pm
namespace Go.Proofs.YtmlnilkbolcknaaGreatDoor.Pm
open Go Go.Proofs.YtmlnilkbolcknaaGreatDoor.Pi

/-! ### digits -/
/-! ### beginnings -/
/-! ### numbers, digit by digit -/
section
end
/-! ### names of intervals -/
section
end
end Go.Proofs.YtmlnilkbolcknaaGreatDoor.Pm
namespace Go.Proofs.YtmlnilkbolcknaaGreatDoor.Pm
open Go Go.Proofs.YtmlnilkbolcknaaGreatDoor.Pi

abbrev Pt := Int × Int × Int
abbrev Cl := Int × Int
def ptC (p : Pt) : List PV := [iv p.1, iv p.2.1, iv p.2.2]
def pts (l : List Pt) : List PV := l.flatMap ptC
def dPt : Pt := (0, 0, 0)
def rb (p : Pt) : Bool := rightB p.1 p.2.1 p.2.2
def cl (p : Pt) : Cl := (p.1, p.2.1)
/-! ### the notes of a chord -/
/-! ### what chord it is -/
/-! ### classes -/
end Go.Proofs.YtmlnilkbolcknaaGreatDoor.Pm
namespace Go.Proofs.YtmlnilkbolcknaaGreatDoor.Pm
open Go Go.Proofs.YtmlnilkbolcknaaGreatDoor.Pi

/-! ### signs -/
section
end
/-! ### letters -/
/-! ### names -/
end Go.Proofs.YtmlnilkbolcknaaGreatDoor.Pm
namespace Go.Proofs.YtmlnilkbolcknaaGreatDoor.Pm
open Go Go.Proofs.YtmlnilkbolcknaaGreatDoor.Pi

abbrev Txt := List UInt8
inductive It where
 | mk (k s : Int) (ps : List Pt) (b : Int × Int) (ly : Txt) (ks : List It)
def iK : It → Int | .mk k _ _ _ _ _ => k
def iS : It → Int | .mk _ s _ _ _ _ => s
def iP : It → List Pt | .mk _ _ ps _ _ _ => ps
def iB : It → Int × Int | .mk _ _ _ b _ _ => b
def iL : It → Txt | .mk _ _ _ _ ly _ => ly
def iC : It → List It | .mk _ _ _ _ _ ks => ks
abbrev dIt : It := .mk 0 0 [] (0, 0) [] []
mutual
def ic : It → List PV
 | .mk _ _ _ _ _ ks => ics ks
def ics : List It → List PV
 | [] => []
 | x :: l => iv (iK x) :: iv (iS x) :: .ssl (pts (iP x)) 0 (iP x).length :: iv (iB x).1 :: iv (iB x).2 :: sv (st (iL x)) :: .ssl (ic x) 0 (iC x).length :: ics l
end
/-- An item's cells. -/
def gI (x : It) : List PV := [iv (iK x), iv (iS x), .ssl (pts (iP x)) 0 (iP x).length, iv (iB x).1, iv (iB x).2, sv (st (iL x)), .ssl (ics (iC x)) 0 (iC x).length]
theorem ic_ics (x : It) : ic x = ics (iC x) := by cases x with | mk k s ps b ly ks => rw [ic]; rfl
theorem qej : ∀ l : List It, ics l = l.flatMap gI
 | [] => by simp [ics]
 | x :: l => by rw [ics, qej l, List.flatMap_cons, ic_ics]; rfl
theorem qvk (l : List It) (k j m : Nat) (hk : k < l.length) (hj : j + m ≤ 7) : k * 7 + j + m ≤ (ics l).length ∧ ((ics l).drop (k * 7 + j)).take m = ((gI (l.getD k dIt)).drop j).take m := by
 rw [qej]
 exact qch gI 7 (fun _ => rfl) dIt l k j m hk hj
theorem gI_shd (x : It) : (gI x).all PV.shd = true := by unfold gI; rfl
theorem qlp (l : List It) : shds (ics l) := by rw [qej]; exact qek gI gI_shd _
abbrev i64r (n : Int) : Prop := -9223372036854775808 ≤ n ∧ n ≤ 9223372036854775807
mutual
/-- Nothing in an item is longer than what may come in. -/
def fitI : It → Prop
 | .mk _ _ ps b ly ks => (i64r b.1 ∧ i64r b.2) ∧ ps.length ≤ 5864062014634 ∧ ly.length ≤ 140737488351232 ∧ ks.length ≤ 1466015503658 ∧ fitL ks
def fitL : List It → Prop
 | [] => True
 | x :: l => fitI x ∧ fitL l
end
theorem qsx (x : It) : fitI x ↔ ((i64r (iB x).1 ∧ i64r (iB x).2) ∧ (iP x).length ≤ 5864062014634 ∧ (iL x).length ≤ 140737488351232 ∧ (iC x).length ≤ 1466015503658 ∧ fitL (iC x)) := by
 cases x with | mk k s ps b ly ks => rw [fitI]; rfl
theorem qre : ∀ {l : List It} {i : Nat}, fitL l → i < l.length → fitI (l.getD i dIt)
 | [], i, _, h => absurd h (Nat.not_lt_zero i)
 | x :: l, 0, h, _ => by rw [fitL] at h; exact h.1
 | x :: l, i + 1, h, hi => by
  rw [fitL] at h
  have := qre (i := i) h.2 (by simpa using hi)
  simpa using this
theorem el_lt {l : List It} {i : Nat} (h : i < l.length) : SizeOf.sizeOf (l.getD i dIt) < SizeOf.sizeOf l := by
 rw [List.getD_eq_getElem?_getD, List.getElem?_eq_getElem h]
 exact List.sizeOf_lt_of_mem (List.getElem_mem h)
theorem kid_lt {x : It} {i : Nat} (h : i < (iC x).length) : SizeOf.sizeOf ((iC x).getD i dIt) < SizeOf.sizeOf x := by
 cases x with
 | mk k s ps b ly ks =>
  simp only [iC] at h ⊢
  rw [List.getD_eq_getElem?_getD, List.getElem?_eq_getElem h]
  have := List.sizeOf_lt_of_mem (List.getElem_mem h)
  simp only [Option.getD_some, It.mk.sizeOf_spec]
  omega
theorem qou (x : It) : SizeOf.sizeOf (iC x) < SizeOf.sizeOf x := by
 cases x with | mk k s ps b ly ks => simp only [iC, It.mk.sizeOf_spec]; omega
abbrev Br := Int × Int × List It
def brC (b : Br) : List PV := [iv b.1, iv b.2.1, .ssl (ics b.2.2) 0 b.2.2.length]
def brs (l : List Br) : List PV := l.flatMap brC
abbrev dBr : Br := (0, 0, [])
abbrev Vo := Txt × List Br
def voC (v : Vo) : List PV := [sv (st v.1), .ssl (brs v.2) 0 v.2.length]
def vos (l : List Vo) : List PV := l.flatMap voC
abbrev dVo : Vo := ([], [])
theorem qjf (l : List Br) : shds (brs l) := qek brC (fun _ => rfl) l
theorem qfb (l : List Vo) : shds (vos l) := qek voC (fun _ => rfl) l

/-! ### names and lyrics -/
def abc : List UInt8 := [97, 98, 99, 100, 101, 102, 103, 104, 105, 106, 107, 108, 109, 110, 111, 112, 113, 114, 115, 116, 117, 118, 119, 120, 121, 122]
theorem trim_nil {t cs : List UInt8} : Lib.trimS t cs = [] ↔ ∀ b ∈ t, b ∈ cs := by
 unfold Lib.trimS Lib.trimLeftS Lib.trimRightS
 constructor
 ·intro h
  replace h := qfn h
  intro b hb
  have hb' : b ∈ t.reverse := by simpa using hb
  rw [← List.takeWhile_append_dropWhile (p := fun x => cs.contains x) (l := t.reverse), List.mem_append] at hb'
  rcases hb' with hb' | hb'
  ·have := qfc b hb'
   simpa using this
  ·have := h b (by simpa using hb')
   simpa using this
 ·intro h
  have key : ∀ l : List UInt8, (∀ b ∈ l, b ∈ cs) → l.dropWhile (cs.contains ·) = [] := by
   intro l hl
   induction l with
   | nil => rfl
   | cons a l ih => rw [List.dropWhile_cons_of_pos (by simpa using hl a (by simp))]; exact ih fun b hb => hl b (by simp [hb])
  rw [key t.reverse fun b hb => h b (by simpa using hb)]
  rfl
theorem abc_ascii : ∀ (j : Nat) b, abc[j]? = some b → b.toNat < 128 := by
 intro j b h
 have : ∀ b ∈ abc, b.toNat < 128 := by decide
 exact this b (List.mem_of_getElem? h)
/-- May a voice be called so? -/
def qec (s : Txt) : Bool := decide (s ≠ [] ∧ s.length ≤ 32 ∧ ∀ b ∈ s, b ∈ abc)
/-- May a rune, so long, be sung? -/
def qdr (r l : Int) : Bool := decide (32 ≤ r ∧ r ≠ 34 ∧ r ≠ 127 ∧ (r ≠ 65533 ∨ 1 < l))
def qfm (s : Txt) : Bool :=
 if _h : 1 ≤ dec2 s ∧ 1 ≤ s.length then qdr (dec1 s) (dec2 s) && qfm (s.drop (dec2 s)) else true
termination_by s.length
decreasing_by rw [List.length_drop]; omega
theorem qsz : qfm [] = true := by rw [qfm, dif_neg (fun c => by simp at c)]
theorem qjp {s : Txt} (h : s ≠ []) : qfm s = (qdr (dec1 s) (dec2 s) && qfm (s.drop (dec2 s))) := by
 rw [qfm, dif_pos ⟨qkh h, List.length_pos_iff.2 h⟩]
def qku (s : Txt) : Nat := Lib.runeCount (st s)
def qhd (s : Txt) : Bool := decide (1 ≤ qku s ∧ qku s ≤ 100) && qfm s

/-! ### what is wrong -/
abbrev bz (x : It) : Bool := decide ((iB x).1 = 0) && decide ((iB x).2 = 0)
def qdg (x : It) : Bool :=
 if (iP x).length = 0 then false else if 16 < (iP x).length then false else if 0 < (iC x).length then false
 else if bz x = true then (if (iP x).all rb = true then (if iL x = [] then true else qhd (iL x)) else false) else false
def qde (x : It) : Bool := if (iP x).length = 0 then (if (iC x).length = 0 then (if iL x = [] then bz x else false) else false) else false
def qbj (x : It) : Bool :=
 if (iC x).length = 0 then false else if 0 < (iP x).length then false
 else if iL x = [] then (if iK x = 4 then (if bz x = true then decide ((qeq (iB x).1 (iB x).2).2 = 0) else false) else decide ((qeq (iB x).1 (iB x).2).2 = 0)) else false
theorem all_rb {l : List Pt} (h : ∀ i, i < l.length → rb (l.getD i dPt) = true) : l.all rb = true := by
 rw [List.all_eq_true]
 intro p hp
 obtain ⟨i, hi, e⟩ := List.mem_iff_getElem.1 hp
 have := h i hi
 rw [List.getD_eq_getElem?_getD, List.getElem?_eq_getElem hi, Option.getD_some, e] at this
 exact this
theorem qxk {l : List Pt} {i : Nat} (hi : i < l.length) (h : ¬ rb (l.getD i dPt) = true) : ¬ l.all rb = true := fun c => h (by
 rw [List.getD_eq_getElem?_getD, List.getElem?_eq_getElem hi, Option.getD_some]
 exact List.all_eq_true.1 c _ (List.getElem_mem hi))
theorem itb {X : Bool × Int} {n : Nat} (h : 0 < n) : X = (decide (X.1 = true ∧ 0 < n), X.2) := Prod.ext (by simp [h]) rfl
mutual
/-- Is an item on a level right, so many may come yet; how many may come qay it. -/
def itS : It → Int → Int → Bool × Int
 | .mk k s ps b ly ks, lv, n =>
  if n - 1 < 0 ∨ 31 < lv ∨ s < 1 ∨ 65536 < s then (false, n - 1)
  else if k = 1 then (qdg (.mk k s ps b ly ks), n - 1)
  else if k = 2 ∨ k = 3 then (qde (.mk k s ps b ly ks), n - 1)
  else if k = 4 ∨ k = 5 then
   (if qbj (.mk k s ps b ly ks) = true then itL ks (lv + 1) (n - 1) else (false, n - 1))
  else (false, n - 1)
def itL : List It → Int → Int → Bool × Int
 | [], _, n => (true, n)
 | x :: l, lv, n => if (itS x lv n).1 = true then itL l lv (itS x lv n).2 else (false, (itS x lv n).2)
end
theorem qcd (x : It) (lv n : Int) : itS x lv n =
  if n - 1 < 0 ∨ 31 < lv ∨ iS x < 1 ∨ 65536 < iS x then (false, n - 1)
  else if iK x = 1 then (qdg x, n - 1)
  else if iK x = 2 ∨ iK x = 3 then (qde x, n - 1)
  else if iK x = 4 ∨ iK x = 5 then
   (if qbj x = true then itL (iC x) (lv + 1) (n - 1) else (false, n - 1))
  else (false, n - 1) := by
 cases x with | mk k s ps b ly ks => rw [itS]; rfl
theorem itL_at {l : List It} {i : Nat} {lv n : Int} (h : i < l.length) : itL (l.drop i) lv n = if (itS (l.getD i dIt) lv n).1 = true then itL (l.drop (i + 1)) lv (itS (l.getD i dIt) lv n).2 else (false, (itS (l.getD i dIt) lv n).2) := by
 rw [List.drop_eq_getElem_cons h, List.getD_eq_getElem?_getD, List.getElem?_eq_getElem h, itL]; rfl
mutual
theorem qsp : ∀ (x : It) (lv n : Int), 0 ≤ n → (itS x lv n).2 < n ∧ -1 ≤ (itS x lv n).2 ∧ ((itS x lv n).1 = true → 0 ≤ (itS x lv n).2)
 | .mk k s ps b ly ks, lv, n, hn => by
  rw [itS]
  split
  ·exact ⟨by show n - 1 < n; omega, by show -1 ≤ n - 1; omega, fun h => by simp at h⟩
  rename_i h1
  split
  ·exact ⟨by show n - 1 < n; omega, by show -1 ≤ n - 1; omega, fun _ => by show 0 ≤ n - 1; omega⟩
  split
  ·exact ⟨by show n - 1 < n; omega, by show -1 ≤ n - 1; omega, fun _ => by show 0 ≤ n - 1; omega⟩
  split
  ·split
   ·have := qlo ks (lv + 1) (n - 1) (by omega)
    exact ⟨by omega, this.2.1, this.2.2⟩
   ·exact ⟨by show n - 1 < n; omega, by show -1 ≤ n - 1; omega, fun h => by simp at h⟩
  ·exact ⟨by show n - 1 < n; omega, by show -1 ≤ n - 1; omega, fun h => by simp at h⟩
theorem qlo : ∀ (l : List It) (lv n : Int), 0 ≤ n → (itL l lv n).2 ≤ n ∧ -1 ≤ (itL l lv n).2 ∧ ((itL l lv n).1 = true → 0 ≤ (itL l lv n).2)
 | [], lv, n, hn => by rw [itL]; exact ⟨Int.le_refl _, by show -1 ≤ n; omega, fun _ => hn⟩
 | x :: l, lv, n, hn => by
  have h1 := qsp x lv n hn
  rw [itL]
  split
  ·rename_i h2
   have := qlo l lv (itS x lv n).2 (h1.2.2 h2)
   exact ⟨by omega, this.2.1, this.2.2⟩
  ·exact ⟨by show (itS x lv n).2 ≤ n; omega, h1.2.1, fun h => by simp at h⟩
end
/-- What is wrong with a bar, a voice, a piece. -/
def barE (b : Br) : Int := if b.1 < 1 ∨ 65536 < b.1 ∨ b.2.1 < 1 ∨ 65536 < b.2.1 then 3 else if (itL b.2.2 1 4095).1 = true ∧ 0 < b.2.2.length then 0 else 2
def qme : List Br → Int
 | [] => 0
 | b :: l => if barE b = 0 then qme l else barE b
def qcv (v : Vo) : Int := if qec v.1 = true then (if 1024 < v.2.length then 5 else qme v.2) else 7
def qen : List Vo → Int
 | [] => 0
 | v :: l => if qcv v = 0 then qen l else qcv v
def qbk (l : List Vo) : Int := if 64 < l.length then 5 else qen l
def qrf (b : Br) : Prop := i64r b.1 ∧ i64r b.2.1 ∧ b.2.2.length ≤ 1466015503658 ∧ fitL b.2.2
def fitVo (v : Vo) : Prop := v.1.length ≤ 140737488351232 ∧ v.2.length ≤ 140737488351232 ∧ ∀ i, i < v.2.length → qrf (v.2.getD i dBr)
def qsv (l : List Vo) : Prop := l.length ≤ 140737488351232 ∧ ∀ i, i < l.length → fitVo (l.getD i dVo)
theorem qgp {l : List Br} {i : Nat} (h : i < l.length) : qme (l.drop i) = if barE (l.getD i dBr) = 0 then qme (l.drop (i + 1)) else barE (l.getD i dBr) := by
 rw [List.drop_eq_getElem_cons h, List.getD_eq_getElem?_getD, List.getElem?_eq_getElem h, qme]; rfl
theorem qdd {l : List Vo} {i : Nat} (h : i < l.length) : qen (l.drop i) = if qcv (l.getD i dVo) = 0 then qen (l.drop (i + 1)) else qcv (l.getD i dVo) := by
 rw [List.drop_eq_getElem_cons h, List.getD_eq_getElem?_getD, List.getElem?_eq_getElem h, qen]; rfl
end Go.Proofs.YtmlnilkbolcknaaGreatDoor.Pm
namespace Go.Proofs.YtmlnilkbolcknaaGreatDoor
open Go.RowKit

theorem qdq {k : IntKind} {a b : Int} (h : a = b) : Ending.returned (.int k a) = .returned (.int k b) := by rw [h]
theorem qbi {a b : Bool} (h : a = b) : Ending.returned (.bool a) = .returned (.bool b) := by rw [h]
theorem qti {W w1 : World} (hb : Below W.heap.size W w1) :
  (∀ b o, b < W.heap.size → w1.cell? ⟨b, o, none⟩ = W.cell? ⟨b, o, none⟩) ∧ (∀ b o, b < W.heap.size → w1.frozen? ⟨b, o, none⟩ = W.frozen? ⟨b, o, none⟩) :=
 ⟨fun b o h => hb.cell (p := ⟨b, o, none⟩) h, fun b o h => hb.frozen (p := ⟨b, o, none⟩) h⟩
theorem qam {B : Nat} {a w : World} (h : Below B a w) (n : Nat) : Below B a (w.drewN n) := ⟨h.os, h.tape, h.output, h.size, h.block⟩
theorem qaq {a w w' : World} (h : Below w.heap.size w w') (k : Below a.heap.size a w) : Below a.heap.size a w' := k.trans (h.mono k.size)
theorem qat {a w : World} (k : Below a.heap.size a w) (o : Obj) : Below a.heap.size a (w.alloc o) := k.alloc k.size o
theorem qma {W w' : World} {a : Addr} {v : Value} (h : W.cell? a = some v) (hb : Below W.heap.size W w') : w'.cell? a = some v :=
 (hb.cell (World.block_lt_of_cell? W _ h)).trans h
/-- A callee that leaves the world alone, met in a quiet region. -/
theorem qiy {P : Program} {f : FuncId} {args : Array Value} {w : World} {n : Nat} {v : Value}
  (h : Calls P f args (w.drewN n) fun e w' => e = .returned v ∧ w.drewN n = w') : Calls P f args (w.drewN n) fun e w'' => e = .returned v ∧ ∃ m, w'' = w.drewN m :=
 h.mono fun _ _ ⟨he, hm⟩ => ⟨he, n, hm.symm⟩
end Go.Proofs.YtmlnilkbolcknaaGreatDoor
namespace Go.Proofs.YtmlnilkbolcknaaGreatDoor.Gcd

/-- The greatest common divisor, as an integer. -/
def g (a b : Int) : Int := (Int.gcd a b : Int)

theorem g_pos {a b : Int} (h : 0 < b) : 1 ≤ g a b := by
 unfold g
 have : 0 < Int.gcd a b := Int.gcd_pos_of_ne_zero_right a (by omega)
 omega
theorem g_le {a b : Int} (h : 0 < b) : g a b ≤ b := by
 unfold g
 exact Int.le_of_dvd h (Int.gcd_dvd_right a b)
theorem qno (a b : Int) : g a b ∣ a := Int.gcd_dvd_left a b
theorem qhl (a b : Int) : g a b ∣ b := Int.gcd_dvd_right a b
theorem g_zero {a b : Int} (h : b = 0) : g a b = a.natAbs := by subst h; simp [g]
theorem g_tmod (a b : Int) : g b (a.tmod b) = g a b := by
 unfold g
 congr 1
 simp only [Int.gcd, Int.natAbs_tmod]
 rw [Nat.gcd_comm b.natAbs, ← Nat.gcd_rec, Nat.gcd_comm]
theorem qra (a b : Int) : g a b = g b a := by unfold g; rw [Int.gcd_comm]
theorem qnm (a b : Int) : g (a - b) b = g a b := by unfold g; rw [Int.gcd_sub_self_left]
theorem qst (a b : Int) : g a (b - a) = g a b := by rw [qra, qnm, qra]
theorem g_self {a : Int} (h : 0 ≤ a) : g a a = a := by unfold g; simp; omega
theorem g_two (a b : Int) : g (2 * a) (2 * b) = 2 * g a b := by unfold g; rw [Int.gcd_mul_left]; simp
theorem qsu {a b : Int} (ha : a % 2 = 0) (hb : b % 2 = 0) : 2 * g (a / 2) (b / 2) = g a b := by
 rw [← g_two, Int.mul_ediv_cancel' (by omega), Int.mul_ediv_cancel' (by omega)]
theorem qnn {a b : Int} (ha : a % 2 = 0) (hb : b % 2 ≠ 0) : g (a / 2) b = g a b := by
 have h1 : a = 2 * (a / 2) := by omega
 have h2 : Nat.Coprime b.natAbs 2 := by
  have : b.natAbs % 2 = 1 := by omega
  rw [Nat.coprime_iff_gcd_eq_one, Nat.gcd_comm, Nat.gcd_rec, this, Nat.gcd_one_left]
 unfold g
 congr 1
 conv => rhs; rw [h1]
 simp only [Int.gcd, Int.natAbs_mul]
 rw [show (2 : Int).natAbs = 2 from rfl]
 exact (Nat.Coprime.gcd_mul_left_cancel _ h2.symm).symm
theorem qxv {a b : Int} (ha : a % 2 ≠ 0) (hb : b % 2 = 0) : g a (b / 2) = g a b := by
 rw [qra, qnn hb ha, qra]

/-- One loop's relation of the binary way: the pairs are halved together. -/
def twin (a b : Int) (t : Nat) (G : Int) : Prop := 0 < a ∧ 0 < b ∧ 2 ^ t * g a b = G
theorem qyn {a b : Int} {t : Nat} {G : Int} (h : twin a b t G) (ha : a % 2 = 0) (hb : b % 2 = 0) : twin (a / 2) (b / 2) (t + 1) G :=
 ⟨by have := h.1; omega, by have := h.2.1; omega, by
  have := h.2.2
  rw [← qsu ha hb, ← Int.mul_assoc] at this
  rw [Int.pow_succ]; exact this⟩
theorem qjo (t : Nat) : (1 : Int) ≤ 2 ^ t := by
 have h : 1 ≤ 2 ^ t := Nat.one_le_two_pow
 calc (1 : Int) ≤ ((2 ^ t : Nat) : Int) := by omega
  _ = 2 ^ t := by simp
theorem twin_k {a b : Int} {t : Nat} {G : Int} (h : twin a b t G) : (t : Int) < G ∧ g a b ≤ G := by
 obtain ⟨h1, h2, h3⟩ := h
 have hg := g_pos (a := a) h2
 have h4 : t < 2 ^ t := Nat.lt_two_pow_self
 have h5 : (t : Int) < 2 ^ t := by
  have : ((t : Nat) : Int) < ((2 ^ t : Nat) : Int) := by omega
  simpa using this
 have h6 : (2 : Int) ^ t * 1 ≤ 2 ^ t * g a b := Int.mul_le_mul_of_nonneg_left hg (by omega)
 have h7 : (1 : Int) * g a b ≤ 2 ^ t * g a b := Int.mul_le_mul_of_nonneg_right (by omega) (by omega)
 omega

/-- The second loop's: pairs that are not both even. -/
def qfo (G : Int) (x y : Int) : Prop := 0 < x ∧ 0 < y ∧ g x y = G ∧ ¬ (x % 2 = 0 ∧ y % 2 = 0)
theorem qrw {G x y : Int} (h : qfo G x y) (hx : x % 2 = 0) : qfo G (x / 2) y := by
 obtain ⟨h1, h2, h3, h4⟩ := h
 exact ⟨by omega, h2, by rw [qnn hx (by omega)]; exact h3, by omega⟩
theorem qpw {G x y : Int} (h : qfo G x y) (hx : x % 2 ≠ 0) (hy : y % 2 = 0) : qfo G x (y / 2) := by
 obtain ⟨h1, h2, h3, h4⟩ := h
 exact ⟨h1, by omega, by rw [qxv hx hy]; exact h3, by omega⟩
theorem qrv {G x y : Int} (h : qfo G x y) (_hx : x % 2 ≠ 0) (_hy : y % 2 ≠ 0) (hl : y < x) : qfo G (x - y) y := by
 obtain ⟨h1, h2, h3, h4⟩ := h
 exact ⟨by omega, h2, by rw [qnm]; exact h3, by omega⟩
theorem qru {G x y : Int} (h : qfo G x y) (_hx : x % 2 ≠ 0) (_hy : y % 2 ≠ 0) (hl : x < y) : qfo G x (y - x) := by
 obtain ⟨h1, h2, h3, h4⟩ := h
 exact ⟨h1, by omega, by rw [qst]; exact h3, by omega⟩
theorem qwy {G x : Int} (h : qfo G x x) : x = G := by
 obtain ⟨h1, h2, h3, h4⟩ := h
 rw [← h3, g_self (by omega)]

/-- The third loop's: what is doubled. -/
def doubled (G : Int) (x : Int) (t : Nat) : Prop := 0 < x ∧ 2 ^ t * x = G
theorem qxz {G x : Int} {t : Nat} (h : doubled G x t) : x ≤ G ∧ (0 < t → 2 * x ≤ G) := by
 obtain ⟨h1, h2⟩ := h
 have h6 : (1 : Int) * x ≤ 2 ^ t * x := Int.mul_le_mul_of_nonneg_right (qjo t) (by omega)
 refine ⟨by omega, fun ht => ?_⟩
 obtain ⟨s, rfl⟩ : ∃ s, t = s + 1 := ⟨t - 1, by omega⟩
 have h7 : (1 : Int) * (2 * x) ≤ 2 ^ s * (2 * x) := Int.mul_le_mul_of_nonneg_right (qjo s) (by omega)
 rw [Int.pow_succ, Int.mul_assoc] at h2
 omega
theorem qri {G x : Int} {t : Nat} (h : doubled G x (t + 1)) : doubled G (2 * x) t := by
 obtain ⟨h1, h2⟩ := h
 exact ⟨by omega, by rw [Int.pow_succ, Int.mul_assoc] at h2; exact h2⟩
theorem qtc {G x : Int} (h : doubled G x 0) : x = G := by
 obtain ⟨h1, h2⟩ := h
 simpa using h2
theorem qxy {a b : Int} {t : Nat} {G x : Int} (h : twin a b t G) (hx : x = g a b) : doubled G x t := by
 have := g_pos (a := a) h.2.1
 exact ⟨by omega, by rw [hx]; exact h.2.2⟩

/-- What the loop of Euclid keeps. -/
def qvy (G : Int) (x y : Int) : Prop :=
 -9223372036854775807 ≤ y ∧ y ≤ 9223372036854775807 ∧ -9223372036854775808 ≤ x ∧ x ≤ 9223372036854775807 ∧ g x y = G ∧ (y = 0 → -9223372036854775808 < x)
theorem qtr (x y : Int) (hy : y ≠ 0) : (x.tmod y).natAbs < y.natAbs := by
 rw [Int.natAbs_tmod]; exact Nat.mod_lt _ (by omega)
theorem qta {G x y : Int} (h : qvy G x y) (hy : y ≠ 0) : qvy G y (x.tmod y) := by
 obtain ⟨h1, h2, h3, h4, h5, h6⟩ := h
 have := qtr x y hy
 exact ⟨by omega, by omega, by omega, by omega, by rw [g_tmod]; exact h5, by omega⟩
theorem qxx {G x y : Int} (h : qvy G x y) (hy : y = 0) : max x (-x) = G ∧ -9223372036854775808 < x := by
 obtain ⟨h1, h2, h3, h4, h5, h6⟩ := h
 rw [g_zero hy] at h5
 exact ⟨by omega, h6 hy⟩

end Go.Proofs.YtmlnilkbolcknaaGreatDoor.Gcd
namespace Go.Proofs.YtmlnilkbolcknaaGreatDoor.Gcd
open Go.RowKit

set_option maxHeartbeats 400000 in
theorem qoz (a b : Int) (w : World) (hb : 0 < b) (hb' : b ≤ 9223372036854775807) (ha : -9223372036854775808 ≤ a) (ha' : a ≤ 9223372036854775807) :
  Calls Tryz.prog 98 #[.int .i64 a, .int .i64 b] w fun e w' => e = .returned (.int .i64 (g a b)) ∧ ∃ n, w' = w.drewN n := by
 go_enter Tryz.func98, Tryz.ntmps98
 go_wp2
 go_loopw [0, 1] (fun x y wr => ∃ p q : Int, x = .int .i64 p ∧ y = .int .i64 q ∧ qvy (g a b) p q ∧ ∃ n, wr = w.drewN n) (fun _ y _ => (intOf y).natAbs)
 case atStart => exact ⟨a, b, rfl, rfl, ⟨by omega, hb', ha, ha', rfl, by omega⟩, 0, rfl⟩
 case round =>
  obtain ⟨p, q, rfl, rfl, hE, n, rfl⟩ := hrel
  obtain ⟨e1, e2, e3, e4, e5, e6⟩ := id hE
  have HE := Lib.hid hE
  clear hE e5 e6
  by_cases hq : q = 0
  ·have hend := qxx HE.out hq
   have h1 := hend.2
   have HM := Lib.hid hend.1
   clear hend
   go_wp2
   all_goals
    go_ret
    exact ⟨qdq (by rw [← HM.out] <;> omega), n, rfl⟩
  ·have HS := Lib.hid (qta HE.out hq)
   have ht := qtr p q hq
   go_wp2
   go_quiet (fail)
   go_wp2
   go_roundw
   case rel => exact ⟨q, p.tmod q, rfl, rfl, HS.out, n + nq, by simp⟩
   case measure => exact ht

theorem qzc (n : Int) (w : World) :
  Calls Tryz.prog 99 #[.int .i64 n] w fun e w' => e = .returned (.bool (decide (-1073741824 ≤ n ∧ n ≤ 1073741824))) ∧ w = w' := by
 by_cases h : -1073741824 ≤ n
 ·go_enter Tryz.func99, Tryz.ntmps99
  go_wp2
  go_ret
  exact ⟨qbi (by simp [h]), rfl⟩
 ·go_enter Tryz.func99, Tryz.ntmps99
  go_wp2
  go_ret
  exact ⟨qbi (by simp; omega), rfl⟩

theorem abs_any (n : Int) (w : World) (h1 : -9223372036854775808 < n) (h2 : n ≤ 9223372036854775807) :
  Calls Tryz.prog 55 #[.int .i64 n] w fun e w' => e = .returned (.int .i64 (n.natAbs : Int)) ∧ w = w' := by
 go_enter Tryz.func55, Tryz.ntmps55
 go_wp2
 all_goals
  go_ret
  exact ⟨qdq (by omega), rfl⟩


set_option maxHeartbeats 1000000 in
theorem qtd (a b : Int) (w : World) (ha : 0 ≤ a) (ha' : a ≤ 9223372036854775807) (hb : 0 < b) (hb' : b ≤ 9223372036854775807) :
  Calls Tryz.prog 54 #[.int .i64 a, .int .i64 b] w fun e w' => e = .returned (.int .i64 (g a b)) ∧ w = w' := by
 by_cases h0 : a = 0
 ·have HG := Lib.hid (show g a b = b by rw [qra, g_zero h0]; omega)
  go_enter Tryz.func54, Tryz.ntmps54
  go_wp2
  go_ret
  exact ⟨qdq (HG.out.symm), rfl⟩
 ·go_enter Tryz.func54, Tryz.ntmps54
  go_wp2
  go_loop [0, 1, 5] (fun x y t => ∃ (p q : Int) (k : Nat), x = .int .i64 p ∧ y = .int .i64 q ∧ t = .int .i64 k ∧ p ≤ a ∧ q ≤ b ∧ twin p q k (g a b)) (fun x _ _ => (intOf x).toNat)
  case atStart => exact ⟨a, b, 0, rfl, rfl, rfl, by omega, by omega, by omega, by omega, by simp⟩
  case round =>
   obtain ⟨p, q, k, rfl, rfl, rfl, hp, hq, hT⟩ := hrel
   have hp0 := hT.1
   have hq0 := hT.2.1
   have hk := twin_k hT
   have hG := g_le (a := a) hb
   have HT := Lib.hid hT
   clear hT
   by_cases h2 : p % 2 = 0 ∧ q % 2 = 0
   ·obtain ⟨h3, h4⟩ := h2
    have HS := Lib.hid (qyn HT.out h3 h4)
    go_wp2
    go_round
    case rel => exact ⟨p / 2, q / 2, k + 1, rfl, rfl, by go_num, by omega, by omega, HS.out⟩
    case measure => (simp [intOf] <;> omega)
   ·have HS := Lib.hid (show qfo (g p q) p q from ⟨hp0, hq0, rfl, h2⟩)
    have hb3 : p % 2 = 0 → q % 2 ≠ 0 := by omega
    clear h2
    by_cases h3 : p % 2 = 0
    all_goals
     go_wp2
     go_loop [0, 1] (fun x y => ∃ (r s : Int), x = .int .i64 r ∧ y = .int .i64 s ∧ r ≤ 9223372036854775807 ∧ s ≤ 9223372036854775807 ∧ qfo (g p q) r s) (fun x y => (intOf x + intOf y).toNat)
     case atStart => exact ⟨p, q, rfl, rfl, by omega, by omega, HS.out⟩
     case round =>
      clear h3 hb3
      obtain ⟨r, s, rfl, rfl, hr, hs, hI⟩ := hrel
      have hr0 := hI.1
      have hs0 := hI.2.1
      have HI := Lib.hid hI
      clear hI
      by_cases he : r = s
      ·subst he
       have HD := Lib.hid (qxy HT.out (qwy HI.out))
       go_wp2
       go_loop [0, 5] (fun x t => ∃ (u : Int) (m : Nat), x = .int .i64 u ∧ t = .int .i64 m ∧ m ≤ k ∧ doubled (g a b) u m) (fun _ t => (intOf t).toNat)
       case atStart => exact ⟨r, k, rfl, rfl, Nat.le_refl _, HD.out⟩
       case round =>
        obtain ⟨u, m, rfl, rfl, hm, hdd⟩ := hrel
        have hu := qxz hdd
        have hu0 := hdd.1
        have HDD := Lib.hid hdd
        clear hdd
        rcases m with _ | m
        ·go_wp2
         go_ret
         exact ⟨qdq (qtc HDD.out), rfl⟩
        ·have hu2 := hu.2 (by omega)
         go_wp2
         go_round
         case rel => exact ⟨2 * u, m, rfl, by go_num, by omega, qri HDD.out⟩
         case measure => (simp [intOf] <;> omega)
      ·by_cases k1 : r % 2 = 0
       ·go_wp2
        go_round
        case rel => exact ⟨r / 2, s, rfl, rfl, by omega, by omega, qrw HI.out k1⟩
        case measure => (simp [intOf] <;> omega)
       ·by_cases k2 : s % 2 = 0
        ·go_wp2
         go_round
         case rel => exact ⟨r, s / 2, rfl, rfl, by omega, by omega, qpw HI.out k1 k2⟩
         case measure => (simp [intOf] <;> omega)
        ·by_cases k3 : s < r
         ·go_wp2
          go_round
          case rel => exact ⟨r - s, s, rfl, rfl, by omega, by omega, qrv HI.out k1 k2 k3⟩
          case measure => (simp [intOf] <;> omega)
         ·go_wp2
          go_round
          case rel => exact ⟨r, s - r, rfl, rfl, by omega, by omega, qru HI.out k1 k2 (by omega)⟩
          case measure => (simp [intOf] <;> omega)

end Go.Proofs.YtmlnilkbolcknaaGreatDoor.Gcd
namespace Go.Proofs.YtmlnilkbolcknaaGreatDoor.Fr
open Gcd

/-- A part of a fraction isn't large. -/
def qfu (n : Int) : Bool := decide (-1073741824 ≤ n ∧ n ≤ 1073741824)
/-- Written as it must be. -/
def rightB (u d : Int) : Bool := decide (0 < d ∧ d ≤ 1073741824 ∧ -1073741824 ≤ u ∧ u ≤ 1073741824 ∧ g u d = 1)
theorem rightB_iff {u d : Int} : rightB u d = true ↔ 0 < d ∧ d ≤ 1073741824 ∧ -1073741824 ≤ u ∧ u ≤ 1073741824 ∧ g u d = 1 := by simp [rightB]
theorem qdt {u : Int} : qfu u = true ↔ -1073741824 ≤ u ∧ u ≤ 1073741824 := by simp [qfu]
/-- up, down, what is wrong. -/
def make (u d : Int) : Int × Int × Int :=
 if d < 1 then (0, 0, 3) else if qfu (u / g u d) && qfu (d / g u d) then (u / g u d, d / g u d, 0) else (0, 0, 4)
def plus (a b c d : Int) : Int × Int × Int := if rightB a b && rightB c d then make (a * d + c * b) (b * d) else (0, 0, 2)
def times (a b c d : Int) : Int × Int × Int := if rightB a b && rightB c d then make (a * c) (b * d) else (0, 0, 2)
def over (a b c d : Int) : Int × Int × Int := if rightB a b && rightB c d then (if c < 0 then make (-a * d) (-b * c) else make (a * d) (b * c)) else (0, 0, 2)
def signI (n : Int) : Int := if n < 0 then -1 else if 0 < n then 1 else 0
def order (a b c d : Int) : Int × Int := if rightB a b && rightB c d then (signI (a * d - c * b), 0) else (0, 2)
theorem qnj {x y z : Int} (hz : 0 < z) (h : x * z = y * z) : x = y := Int.eq_of_mul_eq_mul_right (by omega) h

theorem dvd_of {p q q' p' : Int} (h1 : g p q = 1) (h : p * q' = p' * q) : q ∣ q' := by
 have hc : Nat.Coprime q.natAbs p.natAbs := by
  have : Int.gcd p q = 1 := by unfold g at h1; omega
  rw [Nat.coprime_iff_gcd_eq_one, Nat.gcd_comm]; exact this
 have hd : q.natAbs ∣ p.natAbs * q'.natAbs := by
  rw [← Int.natAbs_mul, h, Int.natAbs_mul]; exact Nat.dvd_mul_left _ _
 exact Int.natAbs_dvd_natAbs.1 (hc.dvd_of_dvd_mul_left hd)

/-- Lowest terms are one. -/
theorem lowest {p q p' q' : Int} (hq : 0 < q) (hq' : 0 < q') (h1 : g p q = 1) (h2 : g p' q' = 1) (h : p * q' = p' * q) : p = p' ∧ q = q' := by
 have e : q = q' := Int.dvd_antisymm (by omega) (by omega) (dvd_of h1 h) (dvd_of h2 h.symm)
 subst e
 exact ⟨qnj hq h, rfl⟩

/-- A fraction brought down to its lowest terms. -/
theorem down {u d : Int} (hd : 1 ≤ d) : 0 < d / g u d ∧ g (u / g u d) (d / g u d) = 1 ∧ u * (d / g u d) = u / g u d * d := by
 have hp := g_pos (a := u) (b := d) (by omega)
 have h1 := Int.ediv_mul_cancel (qno u d)
 have h2 := Int.ediv_mul_cancel (qhl u d)
 have hpos : 0 < d / g u d := Int.ediv_pos_of_pos_of_dvd (by omega) (by omega) (qhl u d)
 refine ⟨hpos, ?_, ?_⟩
 ·have := Int.gcd_ediv_gcd_ediv_gcd (i := u) (j := d) (by unfold g at hp; omega)
  unfold g
  omega
 ·generalize hG : g u d = G at *
  generalize u / G = a at *
  generalize d / G = b at *
  grind

/-- What comes out is right, and as much. -/
theorem qsl {u d p q : Int} (h : make u d = (p, q, 0)) : 1 ≤ d ∧ rightB p q = true ∧ u * q = p * d := by
 unfold make at h
 split at h
 ·simp at h
 ·rename_i hd
  have hd' : 1 ≤ d := by omega
  obtain ⟨k1, k2, k3⟩ := down (u := u) hd'
  split at h
  ·rename_i hs
   simp only [Bool.and_eq_true, qdt] at hs
   simp only [Prod.mk.injEq, and_true] at h
   obtain ⟨rfl, rfl⟩ := h
   exact ⟨hd', rightB_iff.2 ⟨k1, hs.2.2, hs.1.1, hs.1.2, k2⟩, k3⟩
  ·simp at h

/-- And what is right comes out. -/
theorem make_of {u d p q : Int} (hd : 1 ≤ d) (hr : rightB p q = true) (h : u * q = p * d) : make u d = (p, q, 0) := by
 obtain ⟨k1, k2, k3⟩ := down (u := u) hd
 obtain ⟨r1, r2, r3, r4, r5⟩ := rightB_iff.1 hr
 have e : u / g u d = p ∧ d / g u d = q := by
  refine lowest k1 r1 k2 r5 (qnj (z := d) (by omega) ?_)
  generalize d / g u d = b at *
  generalize u / g u d = a at *
  grind
 unfold make
 rw [e.1, e.2, if_neg (by omega), if_pos]
 simp [qdt]; omega

theorem qxm (u d : Int) : (-1073741824 ≤ (make u d).1 ∧ (make u d).1 ≤ 1073741824) ∧ (-1073741824 ≤ (make u d).2.1 ∧ (make u d).2.1 ≤ 1073741824) ∧ (0 ≤ (make u d).2.2 ∧ (make u d).2.2 ≤ 4) := by
 unfold make
 split
 ·simp
 ·split
  ·rename_i h
   simp only [Bool.and_eq_true, qdt] at h
   simp only
   omega
  ·simp

theorem plus_ok {a b c d p q : Int} (h : plus a b c d = (p, q, 0)) : rightB a b = true ∧ rightB c d = true ∧ rightB p q = true ∧ (a * d + c * b) * q = p * (b * d) := by
 unfold plus at h
 split at h
 ·rename_i hr
  simp only [Bool.and_eq_true] at hr
  have := qsl h
  exact ⟨hr.1, hr.2, this.2.1, this.2.2⟩
 ·simp at h
theorem times_ok {a b c d p q : Int} (h : times a b c d = (p, q, 0)) : rightB a b = true ∧ rightB c d = true ∧ rightB p q = true ∧ (a * c) * q = p * (b * d) := by
 unfold times at h
 split at h
 ·rename_i hr
  simp only [Bool.and_eq_true] at hr
  have := qsl h
  exact ⟨hr.1, hr.2, this.2.1, this.2.2⟩
 ·simp at h
theorem times_of {a b c d : Int} (h1 : rightB a b = true) (h2 : rightB c d = true) : times a b c d = make (a * c) (b * d) := by simp [times, h1, h2]

theorem pos_of {a b : Int} (h : rightB a b = true) : 1 ≤ b := by have := (rightB_iff.1 h).1; omega
/-! The floor and the order. -/
end Go.Proofs.YtmlnilkbolcknaaGreatDoor.Fr
namespace Go.Proofs.YtmlnilkbolcknaaGreatDoor.Fr
open Go.RowKit Gcd

theorem qds (n : Int) (w : World) :
  Calls Tryz.prog 99 #[.int .i64 n] w fun e w' => e = .returned (.bool (qfu n)) ∧ w = w' := qzc n w

/-- An int of the machine. -/
def I64 (n : Int) : Prop := -9223372036854775808 ≤ n ∧ n ≤ 9223372036854775807

set_option maxHeartbeats 1000000 in
theorem right_any (u d : Int) (w : World) (hu : I64 u) (hd : I64 d) :
  Calls Tryz.prog 101 #[.agg #[.int .i64 u, .int .i64 d]] w fun e w' => e = .returned (.bool (rightB u d)) ∧ Below w.heap.size w w' := by
 unfold I64 at hu hd
 by_cases h1 : 0 < d
 ·by_cases h2 : qfu u = true
  ·by_cases h3 : qfu d = true
   ·go_enter Tryz.func101, Tryz.ntmps101
    go_wp2_with (first
     | (go_at_call 99; refine (qds _ _).mono ?_; rintro e w' ⟨rfl, rfl⟩)
     | (go_at_call 98; refine (qoz _ _ _ h1 hd.2 hu.1 hu.2).mono ?_; rintro e w' ⟨rfl, n, rfl⟩))
    go_ret
    refine ⟨qbi ?_, qam ((Below.refl _ _).alloc (Nat.le_refl _) _) _⟩
    rw [Bool.eq_iff_iff, rightB_iff]
    simp only [qdt] at h2 h3
    simp
    omega
   ·go_enter Tryz.func101, Tryz.ntmps101
    go_wp2_with (go_at_call 99; refine (qds _ _).mono ?_; rintro e w' ⟨rfl, rfl⟩)
    go_ret
    refine ⟨qbi ?_, (Below.refl _ _).alloc (Nat.le_refl _) _⟩
    rw [eq_comm, ← Bool.not_eq_true, rightB_iff]
    rw [qdt] at h3
    omega
  ·go_enter Tryz.func101, Tryz.ntmps101
   go_wp2_with (go_at_call 99; refine (qds _ _).mono ?_; rintro e w' ⟨rfl, rfl⟩)
   go_ret
   refine ⟨qbi ?_, (Below.refl _ _).alloc (Nat.le_refl _) _⟩
   rw [eq_comm, ← Bool.not_eq_true, rightB_iff]
   rw [qdt] at h2
   omega
 ·go_enter Tryz.func101, Tryz.ntmps101
  go_wp2
  go_ret
  refine ⟨qbi ?_, (Below.refl _ _).alloc (Nat.le_refl _) _⟩
  rw [eq_comm, ← Bool.not_eq_true, rightB_iff]
  omega

theorem abs_g (u d : Int) : g (u.natAbs : Int) d = g u d := by
 unfold g; simp [Int.gcd]

set_option maxHeartbeats 1000000 in
theorem ref_right_any (u d : Int) (w : World) (hu : I64 u) (hd : I64 d) :
  Calls Tryz.prog 56 #[.agg #[.int .i64 u, .int .i64 d]] w fun e w' => e = .returned (.bool (rightB u d)) ∧ Below w.heap.size w w' := by
 unfold I64 at hu hd
 by_cases h1 : 0 < d
 ·by_cases h2 : d ≤ 1073741824
  ·by_cases h3 : u ≤ 1073741824
   ·by_cases h4 : -1073741824 ≤ u
    ·have Hg := Lib.hid (abs_g u d)
     go_enter Tryz.func56, Tryz.ntmps56
     go_wp2
     go_quiet (first
      | (go_at_call 55; exact qiy (abs_any _ _ (by omega) (by omega)))
      | (go_at_call 54; exact qiy (qtd _ _ _ (by omega) (by omega) (by omega) (by omega))))
     go_wp2
     go_ret
     refine ⟨qbi ?_, qam ((Below.refl _ _).alloc (Nat.le_refl _) _) _⟩
     rw [Hg.out, Bool.eq_iff_iff, rightB_iff]
     simp
     omega
    ·have hd : decide (-1073741824 ≤ u) = false := by simpa using h4
     go_enter Tryz.func56, Tryz.ntmps56
     go_wp2
     go_quiet (fail)
     go_wp2
     go_ret
     refine ⟨qbi ?_, qam ((Below.refl _ _).alloc (Nat.le_refl _) _) _⟩
     rw [eq_comm, ← Bool.not_eq_true, rightB_iff]
     omega
   ·have hd : decide (u ≤ 1073741824) = false := by simpa using h3
    go_enter Tryz.func56, Tryz.ntmps56
    go_wp2
    go_quiet (fail)
    go_wp2
    go_ret
    refine ⟨qbi ?_, qam ((Below.refl _ _).alloc (Nat.le_refl _) _) _⟩
    rw [eq_comm, ← Bool.not_eq_true, rightB_iff]
    omega
  ·have hd : decide (d ≤ 1073741824) = false := by simpa using h2
   go_enter Tryz.func56, Tryz.ntmps56
   go_wp2
   go_quiet (fail)
   go_wp2
   go_ret
   refine ⟨qbi ?_, qam ((Below.refl _ _).alloc (Nat.le_refl _) _) _⟩
   rw [eq_comm, ← Bool.not_eq_true, rightB_iff]
   omega
 ·have hd : decide (0 < d) = false := by simpa using h1
  go_enter Tryz.func56, Tryz.ntmps56
  go_wp2
  go_quiet (fail)
  go_wp2
  go_ret
  refine ⟨qbi ?_, qam ((Below.refl _ _).alloc (Nat.le_refl _) _) _⟩
  rw [eq_comm, ← Bool.not_eq_true, rightB_iff]
  omega

end Go.Proofs.YtmlnilkbolcknaaGreatDoor.Fr
namespace Go.Proofs.YtmlnilkbolcknaaGreatDoor.Fr
open Go.RowKit Gcd

theorem quo_in (x k : Int) (hk : 1 ≤ k) (hx : I64 x) : I64 (x / k) := by
 unfold I64 at *
 constructor
 ·rw [Int.le_ediv_iff_mul_le (by omega)]
  rcases Int.lt_or_le x 0 with h | h <;> omega
 ·rcases Int.lt_or_le x 0 with h | h
  ·have := Int.ediv_neg_of_neg_of_pos h (show 0 < k by omega); omega
  ·have := Int.ediv_le_self (a := x) k h; omega
theorem que (x k : Int) (hk : 1 ≤ k) (hd : k ∣ x) (hx : I64 x) : IntKind.i64.wrap (x.tdiv k) = x / k := by
 rw [Int.tdiv_eq_ediv_of_dvd hd]; exact IntWalk.i64_in _ (quo_in x k hk hx)
theorem make_body (u d : Int) (h : ¬ d < 1) : make u d = if qfu (u / g u d) && qfu (d / g u d) then (u / g u d, d / g u d, 0) else (0, 0, 4) := by
 unfold make; rw [if_neg h]

/-- What Make answers, as a value. -/
def qxn (u d : Int) : Value := .tuple #[.agg #[.int .i64 (make u d).1, .int .i64 (make u d).2.1], .int .i64 (make u d).2.2]

set_option maxHeartbeats 1000000 in
theorem qop (u d : Int) (w : World) (hu : I64 u) (hd : I64 d) :
  Calls Tryz.prog 65 #[.int .i64 u, .int .i64 d] w fun e w' => e = .returned (qxn u d) ∧ Below w.heap.size w w' := by
 by_cases h1 : d < 1
 ·go_enter Tryz.func65, Tryz.ntmps65
  go_wp2
  refine bodyPost_ret (v := .tuple #[.agg #[.int .i64 0, .int .i64 0], .int .i64 3]) (by simp [results, Tryz.results65, go_sem]) rfl ⟨by simp [qxn, make, h1], (by repeat (first | exact Below.refl _ _ | assumption | refine qam ?_ _ | refine Below.drew ?_ | refine qat ?_ _ | refine Below.setCell ?_ (by first | omega | (simp <;> omega)) _ | refine qaq (by assumption) ?_))⟩
 ·have hg := g_pos (a := u) (b := d) (by omega)
  have hw1 := que u (g u d) hg (qno u d) hu
  have hw2 := que d (g u d) hg (qhl u d) hd
  have hg0 : g u d ≠ 0 := by omega
  unfold I64 at hu hd
  have HM := Lib.hid (make_body u d h1)
  by_cases h2 : qfu (u / g u d) = true
  ·by_cases h3 : qfu (d / g u d) = true
   ·go_enter Tryz.func65, Tryz.ntmps65
    go_wp2_with (go_at_call 98; refine (qoz _ _ _ (by omega) hd.2 hu.1 hu.2).mono ?_; rintro e w' ⟨rfl, n, rfl⟩)
    go_region
    all_goals
     go_wp2_with (go_at_call 99; refine (qds _ _).mono ?_; rintro e w' ⟨rfl, rfl⟩)
     exact bodyPost_ret (v := .tuple #[.agg #[.int .i64 (u / g u d), .int .i64 (d / g u d)], .int .i64 0]) (by simp [results, Tryz.results65, go_sem]) rfl ⟨by rw [qxn, HM.out, h2, h3]; rfl, (by repeat (first | exact Below.refl _ _ | assumption | refine qam ?_ _ | refine Below.drew ?_ | refine qat ?_ _ | refine Below.setCell ?_ (by first | omega | (simp <;> omega)) _ | refine qaq (by assumption) ?_))⟩
   ·simp only [Bool.not_eq_true] at h3
    go_enter Tryz.func65, Tryz.ntmps65
    go_wp2_with (go_at_call 98; refine (qoz _ _ _ (by omega) hd.2 hu.1 hu.2).mono ?_; rintro e w' ⟨rfl, n, rfl⟩)
    go_region
    all_goals
     go_wp2_with (go_at_call 99; refine (qds _ _).mono ?_; rintro e w' ⟨rfl, rfl⟩)
     exact bodyPost_ret (v := .tuple #[.agg #[.int .i64 0, .int .i64 0], .int .i64 4]) (by simp [results, Tryz.results65, go_sem]) rfl ⟨by rw [qxn, HM.out, h2, h3]; rfl, (by repeat (first | exact Below.refl _ _ | assumption | refine qam ?_ _ | refine Below.drew ?_ | refine qat ?_ _ | refine Below.setCell ?_ (by first | omega | (simp <;> omega)) _ | refine qaq (by assumption) ?_))⟩
  ·simp only [Bool.not_eq_true] at h2
   go_enter Tryz.func65, Tryz.ntmps65
   go_wp2_with (go_at_call 98; refine (qoz _ _ _ (by omega) hd.2 hu.1 hu.2).mono ?_; rintro e w' ⟨rfl, n, rfl⟩)
   go_region
   all_goals
    go_wp2_with (go_at_call 99; refine (qds _ _).mono ?_; rintro e w' ⟨rfl, rfl⟩)
    exact bodyPost_ret (v := .tuple #[.agg #[.int .i64 0, .int .i64 0], .int .i64 4]) (by simp [results, Tryz.results65, go_sem]) rfl ⟨by rw [qxn, HM.out, h2]; rfl, (by repeat (first | exact Below.refl _ _ | assumption | refine qam ?_ _ | refine Below.drew ?_ | refine qat ?_ _ | refine Below.setCell ?_ (by first | omega | (simp <;> omega)) _ | refine qaq (by assumption) ?_))⟩

/-! The least number: its odd part is 1. -/
end Go.Proofs.YtmlnilkbolcknaaGreatDoor.Fr
namespace Go.Proofs.YtmlnilkbolcknaaGreatDoor.Fr
open Go.RowKit Gcd

theorem qwr {n : Int} (h : -4611686018427387904 ≤ n ∧ n ≤ 4611686018427387904) : I64 n := by unfold I64; omega
theorem qjy {u d : Int} (h : rightB u d = true) : (-1073741824 ≤ u ∧ u ≤ 1073741824) ∧ (1 ≤ d ∧ d ≤ 1073741824) := by
 have := rightB_iff.1 h; omega
theorem qky {x y : Int} (hx : -1073741824 ≤ x ∧ x ≤ 1073741824) (hy : -1073741824 ≤ y ∧ y ≤ 1073741824) : -1152921504606846976 ≤ x * y ∧ x * y ≤ 1152921504606846976 := by
 have h : (x * y).natAbs ≤ 1073741824 * 1073741824 := by
  rw [Int.natAbs_mul]; exact Nat.mul_le_mul (by omega) (by omega)
 omega
theorem three {n m : Nat} (h : n + 1 + 1 + 1 ≤ m) : n < m ∧ n + 1 < m ∧ n + 1 + 1 < m := by omega
/-- What Plus .. answer, as a value. -/
def R3 (r : Int × Int × Int) : Value := .tuple #[.agg #[.int .i64 r.1, .int .i64 r.2.1], .int .i64 r.2.2]
theorem qux (u d : Int) : qxn u d = R3 (make u d) := rfl

set_option maxHeartbeats 1000000 in
theorem qki (a b c d : Int) (w : World) (ha : I64 a) (hb : I64 b) (hc : I64 c) (hd : I64 d) :
  Calls Tryz.prog 104 #[.agg #[.int .i64 a, .int .i64 b], .agg #[.int .i64 c, .int .i64 d]] w fun e w' =>
   e = .returned (.bool (rightB a b && rightB c d)) ∧ Below w.heap.size w w' := by
 by_cases h1 : rightB a b = true
 all_goals
  try simp only [Bool.not_eq_true] at h1
  go_enter Tryz.func104, Tryz.ntmps104
  go_wp2_with (first
   | (go_at_call 101; with_reducible refine (right_any a b _ ha hb).mono ?_; rintro e w1 ⟨rfl, hb1⟩; obtain ⟨hcc, hff⟩ := qti hb1)
   | (go_at_call 101; with_reducible refine (right_any c d _ hc hd).mono ?_; rintro e w2 ⟨rfl, hb2⟩))
  go_ret
  exact ⟨qbi (by simp [h1]), (by repeat (first | exact Below.refl _ _ | assumption | refine qam ?_ _ | refine Below.drew ?_ | refine qat ?_ _ | refine Below.setCell ?_ (by first | omega | (simp <;> omega)) _ | refine qaq (by assumption) ?_))⟩

set_option maxHeartbeats 1000000 in
theorem plus_yes (a b c d : Int) (w : World) (ha : I64 a) (hb : I64 b) (hc : I64 c) (hd : I64 d) (h1 : (rightB a b && rightB c d) = true) :
  Calls Tryz.prog 69 #[.agg #[.int .i64 a, .int .i64 b], .agg #[.int .i64 c, .int .i64 d]] w fun e w' =>
   e = .returned (R3 (plus a b c d)) ∧ Below w.heap.size w w' := by
  have HR := Lib.hid (show plus a b c d = make (a * d + c * b) (b * d) by simp [plus, h1])
  have h1' := h1
  rw [Bool.and_eq_true] at h1'
  have k1 := qjy h1'.1
  have k2 := qjy h1'.2
  have p1 := qky k1.1 (y := d) (by omega)
  have p2 := qky k2.1 (y := b) (by omega)
  have p3 := qky (x := b) (y := d) (by omega) (by omega)
  clear h1'
  go_enter Tryz.func69, Tryz.ntmps69
  go_wp2_with (first
   | (go_at_call 104; refine (qki a b c d _ ha hb hc hd).mono ?_; rintro e w1 ⟨rfl, hb1⟩; obtain ⟨hcc, hff⟩ := qti hb1; have hz := hb1.size; simp at hz; obtain ⟨z1, z2, z3⟩ := three hz)
   | (go_at_call 65; refine (qop (a * d + c * b) (b * d) _ (qwr (by omega)) (qwr (by omega))).mono ?_; rintro e w2 ⟨rfl, hb2⟩; rw [qux, R3]; obtain ⟨hcc2, hff2⟩ := qti hb2))
  exact bodyPost_ret (v := R3 (make (a * d + c * b) (b * d))) (by simp [results, Tryz.results69, go_sem, R3, hcc2, hcc, z3]) rfl ⟨by rw [HR.out], (by repeat (first | exact Below.refl _ _ | assumption | refine qam ?_ _ | refine Below.drew ?_ | refine qat ?_ _ | refine Below.setCell ?_ (by first | omega | (simp <;> omega)) _ | refine qaq (by assumption) ?_))⟩

set_option maxHeartbeats 1000000 in
theorem plus_no (a b c d : Int) (w : World) (ha : I64 a) (hb : I64 b) (hc : I64 c) (hd : I64 d) (h1 : (rightB a b && rightB c d) = false) :
  Calls Tryz.prog 69 #[.agg #[.int .i64 a, .int .i64 b], .agg #[.int .i64 c, .int .i64 d]] w fun e w' =>
   e = .returned (R3 (plus a b c d)) ∧ Below w.heap.size w w' := by
  have HR := Lib.hid (show plus a b c d = (0, 0, 2) by simp [plus, h1])
  go_enter Tryz.func69, Tryz.ntmps69
  go_wp2_with (go_at_call 104; refine (qki a b c d _ ha hb hc hd).mono ?_; rintro e w1 ⟨rfl, hb1⟩; obtain ⟨hcc, hff⟩ := qti hb1; have hz := hb1.size; simp at hz; obtain ⟨z1, z2, z3⟩ := three hz)
  exact bodyPost_ret (v := R3 (0, 0, 2)) (by simp [results, Tryz.results69, go_sem, R3, hcc]) rfl ⟨by rw [HR.out], (by repeat (first | exact Below.refl _ _ | assumption | refine qam ?_ _ | refine Below.drew ?_ | refine qat ?_ _ | refine Below.setCell ?_ (by first | omega | (simp <;> omega)) _ | refine qaq (by assumption) ?_))⟩

theorem plus_any (a b c d : Int) (w : World) (ha : I64 a) (hb : I64 b) (hc : I64 c) (hd : I64 d) :
  Calls Tryz.prog 69 #[.agg #[.int .i64 a, .int .i64 b], .agg #[.int .i64 c, .int .i64 d]] w fun e w' =>
   e = .returned (R3 (plus a b c d)) ∧ Below w.heap.size w w' := by
 by_cases h1 : (rightB a b && rightB c d) = true
 ·exact plus_yes a b c d w ha hb hc hd h1
 ·exact plus_no a b c d w ha hb hc hd (by simpa only [Bool.not_eq_true] using h1)

set_option maxHeartbeats 1000000 in
theorem qyq (a b c d : Int) (w : World) (ha : I64 a) (hb : I64 b) (hc : I64 c) (hd : I64 d) (h1 : (rightB a b && rightB c d) = true) :
  Calls Tryz.prog 133 #[.agg #[.int .i64 a, .int .i64 b], .agg #[.int .i64 c, .int .i64 d]] w fun e w' =>
   e = .returned (R3 (times a b c d)) ∧ Below w.heap.size w w' := by
  have HR := Lib.hid (show times a b c d = make (a * c) (b * d) by simp [times, h1])
  have h1' := h1
  rw [Bool.and_eq_true] at h1'
  have k1 := qjy h1'.1
  have k2 := qjy h1'.2
  have p1 := qky k1.1 (y := c) (by omega)
  have p3 := qky (x := b) (y := d) (by omega) (by omega)
  clear h1'
  go_enter Tryz.func133, Tryz.ntmps133
  go_wp2_with (first
   | (go_at_call 104; refine (qki a b c d _ ha hb hc hd).mono ?_; rintro e w1 ⟨rfl, hb1⟩; obtain ⟨hcc, hff⟩ := qti hb1; have hz := hb1.size; simp at hz; obtain ⟨z1, z2, z3⟩ := three hz)
   | (go_at_call 65; refine (qop (a * c) (b * d) _ (qwr (by omega)) (qwr (by omega))).mono ?_; rintro e w2 ⟨rfl, hb2⟩; rw [qux, R3]; obtain ⟨hcc2, hff2⟩ := qti hb2))
  exact bodyPost_ret (v := R3 (make (a * c) (b * d))) (by simp [results, Tryz.results133, go_sem, R3, hcc2, hcc, z3]) rfl ⟨by rw [HR.out], (by repeat (first | exact Below.refl _ _ | assumption | refine qam ?_ _ | refine Below.drew ?_ | refine qat ?_ _ | refine Below.setCell ?_ (by first | omega | (simp <;> omega)) _ | refine qaq (by assumption) ?_))⟩

set_option maxHeartbeats 1000000 in
theorem times_no (a b c d : Int) (w : World) (ha : I64 a) (hb : I64 b) (hc : I64 c) (hd : I64 d) (h1 : (rightB a b && rightB c d) = false) :
  Calls Tryz.prog 133 #[.agg #[.int .i64 a, .int .i64 b], .agg #[.int .i64 c, .int .i64 d]] w fun e w' =>
   e = .returned (R3 (times a b c d)) ∧ Below w.heap.size w w' := by
  have HR := Lib.hid (show times a b c d = (0, 0, 2) by simp [times, h1])
  go_enter Tryz.func133, Tryz.ntmps133
  go_wp2_with (go_at_call 104; refine (qki a b c d _ ha hb hc hd).mono ?_; rintro e w1 ⟨rfl, hb1⟩; obtain ⟨hcc, hff⟩ := qti hb1; have hz := hb1.size; simp at hz; obtain ⟨z1, z2, z3⟩ := three hz)
  exact bodyPost_ret (v := R3 (0, 0, 2)) (by simp [results, Tryz.results133, go_sem, R3, hcc]) rfl ⟨by rw [HR.out], (by repeat (first | exact Below.refl _ _ | assumption | refine qam ?_ _ | refine Below.drew ?_ | refine qat ?_ _ | refine Below.setCell ?_ (by first | omega | (simp <;> omega)) _ | refine qaq (by assumption) ?_))⟩

theorem qyr (a b c d : Int) (w : World) (ha : I64 a) (hb : I64 b) (hc : I64 c) (hd : I64 d) :
  Calls Tryz.prog 133 #[.agg #[.int .i64 a, .int .i64 b], .agg #[.int .i64 c, .int .i64 d]] w fun e w' =>
   e = .returned (R3 (times a b c d)) ∧ Below w.heap.size w w' := by
 by_cases h1 : (rightB a b && rightB c d) = true
 ·exact qyq a b c d w ha hb hc hd h1
 ·exact times_no a b c d w ha hb hc hd (by simpa only [Bool.not_eq_true] using h1)

end Go.Proofs.YtmlnilkbolcknaaGreatDoor.Fr
namespace Go.Proofs.YtmlnilkbolcknaaGreatDoor.Fr
open Go.RowKit Gcd

/-- What Order, Floor answer, as a value. -/
def R2 (r : Int × Int) : Value := .tuple #[.int .i64 r.1, .int .i64 r.2]
theorem ret_R2 {r : Int × Int} {a b : Int} (h : r = (a, b)) : Ending.returned (.tuple #[.int .i64 a, .int .i64 b]) = .returned (R2 r) := by rw [h]; rfl

end Go.Proofs.YtmlnilkbolcknaaGreatDoor.Fr
namespace Go.Proofs.YtmlnilkbolcknaaGreatDoor.Fr
open Go.RowKit Gcd

end Go.Proofs.YtmlnilkbolcknaaGreatDoor.Fr
namespace Go.Proofs.YtmlnilkbolcknaaGreatDoor.Pm
open Go Fr

theorem mixed : Tryz.prog.follows .mixedOrders = true := by kernel_rfl
abbrev qrb (u d : Int) : PV := .agg [iv u, iv d]
abbrev R3P (r : Int × Int × Int) : PV := .tup [.agg [iv r.1, iv r.2.1], iv r.2.2]
theorem right_pc (u d : Int) (hu : I64 u) (hd : I64 d) : PC Tryz.prog 101 [qrb u d] [] (bv (rightB u d)) [] :=
 qcc (qdo Tryz.func101 (by kernel_rfl) (by kernel_rfl)) rfl rfl fun w => right_any u d w hu hd
theorem qsk (u d : Int) (hu : I64 u) (hd : I64 d) : PC Tryz.prog 65 [iv u, iv d] [] (R3P (make u d)) [] :=
 qcc (qdo Tryz.func65 (by kernel_rfl) (by kernel_rfl)) rfl rfl fun w => qop u d w hu hd
theorem qiz (a b c d : Int) (ha : I64 a) (hb : I64 b) (hc : I64 c) (hd : I64 d) : PC Tryz.prog 69 [qrb a b, qrb c d] [] (R3P (plus a b c d)) [] :=
 qcc (qdo Tryz.func69 (by kernel_rfl) (by kernel_rfl)) rfl rfl fun w => plus_any a b c d w ha hb hc hd
theorem times_pc (a b c d : Int) (ha : I64 a) (hb : I64 b) (hc : I64 c) (hd : I64 d) : PC Tryz.prog 133 [qrb a b, qrb c d] [] (R3P (times a b c d)) [] :=
 qcc (qdo Tryz.func133 (by kernel_rfl) (by kernel_rfl)) rfl rfl fun w => qyr a b c d w ha hb hc hd
end Go.Proofs.YtmlnilkbolcknaaGreatDoor.Pm
namespace Go.Proofs.YtmlnilkbolcknaaGreatDoor.Pm
open Go Fr Gcd

inductive Beat where
 | mk (k s : Int) (l : List Beat)
def kd : Beat → Int | .mk k _ _ => k
def sh : Beat → Int | .mk _ s _ => s
def kids : Beat → List Beat | .mk _ _ l => l
abbrev dB : Beat := .mk 0 0 []
mutual
def kc : Beat → List PV
 | .mk _ _ l => kcs l
def kcs : List Beat → List PV
 | [] => []
 | b :: l => iv (kd b) :: iv (sh b) :: .ssl (kc b) 0 (kids b).length :: kcs l
end
/-- A beat's cells. -/
def gB (b : Beat) : List PV := [iv (kd b), iv (sh b), .ssl (kc b) 0 (kids b).length]
theorem qfi : ∀ l : List Beat, kcs l = l.flatMap gB
 | [] => by simp [kcs]
 | b :: l => by rw [kcs, qfi l, List.flatMap_cons]; rfl
theorem kc_eq (b : Beat) : kc b = (kids b).flatMap gB := by
 cases b with | mk k s l => rw [kc, qfi]; rfl
theorem kc_at (b : Beat) (k j m : Nat) (hk : k < (kids b).length) (hj : j + m ≤ 3) : k * 3 + j + m ≤ (kc b).length ∧ ((kc b).drop (k * 3 + j)).take m = ((gB ((kids b).getD k dB)).drop j).take m := by
 rw [kc_eq]
 exact qch gB 3 (fun _ => rfl) dB (kids b) k j m hk hj
theorem kc_shd (b : Beat) : shds (kc b) := by
 rw [kc_eq]
 exact qek gB (fun _ => rfl) _
theorem kids_lt {b : Beat} {i : Nat} (h : i < (kids b).length) : SizeOf.sizeOf ((kids b).getD i dB) < SizeOf.sizeOf b := by
 cases b with
 | mk k s l =>
  simp only [kids] at h ⊢
  rw [List.getD_eq_getElem?_getD, List.getElem?_eq_getElem h]
  have := List.sizeOf_lt_of_mem (List.getElem_mem h)
  simp only [Option.getD_some, Beat.mk.sizeOf_spec]
  omega

/-! ### what is wrong -/
mutual
def qbq : Beat → Int → Int → Int × Int
 | .mk k s l, lv, n => if 32 < lv then (4, n) else if 4096 < n + 1 then (4, n + 1) else if s < 1 ∨ 65536 < s then (3, n + 1) else
  if k = 1 ∨ k = 2 ∨ k = 3 then (if l.length = 0 then (0, n + 1) else (5, n + 1)) else if k = 4 then (if l.length = 0 then (5, n + 1) else qer l (lv + 1) (n + 1)) else (1, n + 1)
def qer : List Beat → Int → Int → Int × Int
 | [], _, n => (0, n)
 | b :: l, lv, n => if (qbq b lv n).1 = 0 then qer l lv (qbq b lv n).2 else qbq b lv n
end
theorem qcu (b : Beat) (lv n : Int) : qbq b lv n = if 32 < lv then (4, n) else if 4096 < n + 1 then (4, n + 1) else if sh b < 1 ∨ 65536 < sh b then (3, n + 1) else
  if kd b = 1 ∨ kd b = 2 ∨ kd b = 3 then (if (kids b).length = 0 then (0, n + 1) else (5, n + 1)) else if kd b = 4 then (if (kids b).length = 0 then (5, n + 1) else qer (kids b) (lv + 1) (n + 1)) else (1, n + 1) := by
 cases b with | mk k s l => rw [qbq]; rfl
theorem qil {l : List Beat} {i : Nat} (h : i < l.length) : l.drop i = l.getD i dB :: l.drop (i + 1) := by
 rw [List.drop_eq_getElem_cons h, List.getD_eq_getElem?_getD, List.getElem?_eq_getElem h]
 rfl
theorem qxp {l : List Beat} {i : Nat} {lv n : Int} (h : i < l.length) (h0 : (qbq (l.getD i dB) lv n).1 = 0) : qer (l.drop (i + 1)) lv (qbq (l.getD i dB) lv n).2 = qer (l.drop i) lv n := by
 rw [qil h, qer, if_pos h0]
theorem qxo {l : List Beat} {i : Nat} {lv n : Int} (h : i < l.length) (h0 : ¬ (qbq (l.getD i dB) lv n).1 = 0) : qer (l.drop i) lv n = qbq (l.getD i dB) lv n := by
 rw [qil h, qer, if_neg h0]
mutual
def cnt : Beat → Nat
 | .mk _ _ l => cntL l + 1
def cntL : List Beat → Nat
 | [] => 0
 | b :: l => cnt b + cntL l
end
mutual
/-- What is right with a beat that nothing is wrong with. -/
def good : Beat → Prop
 | .mk k s l => 1 ≤ s ∧ s ≤ 65536 ∧ (k = 4 → l ≠ []) ∧ qfj l
def qfj : List Beat → Prop
 | [] => True
 | b :: l => good b ∧ qfj l
end
theorem cnt_eq (b : Beat) : cnt b = cntL (kids b) + 1 := by cases b with | mk k s l => rw [cnt]; rfl
theorem qss (b : Beat) : good b ↔ 1 ≤ sh b ∧ sh b ≤ 65536 ∧ (kd b = 4 → kids b ≠ []) ∧ qfj (kids b) := by cases b with | mk k s l => rw [good]; rfl
theorem cnt_pos (b : Beat) : 1 ≤ cnt b := by rw [cnt_eq]; omega
mutual
theorem qsm : ∀ (b : Beat) (lv n : Int), 0 ≤ n → n ≤ 4096 → n ≤ (qbq b lv n).2 ∧ (qbq b lv n).2 ≤ 4097 ∧ ((qbq b lv n).1 = 0 → (qbq b lv n).2 ≤ 4096 ∧ n + ((cnt b : Nat) : Int) = (qbq b lv n).2 ∧ good b)
 | .mk k s l, lv, n, h0, h1 => by
  rw [qbq]
  by_cases c1 : 32 < lv
  ·rw [if_pos c1]; simp; omega
  rw [if_neg c1]
  by_cases c2 : 4096 < n + 1
  ·rw [if_pos c2]; simp; omega
  rw [if_neg c2]
  by_cases c3 : s < 1 ∨ 65536 < s
  ·rw [if_pos c3]; simp; omega
  rw [if_neg c3]
  by_cases c4 : k = 1 ∨ k = 2 ∨ k = 3
  ·rw [if_pos c4]
   by_cases c5 : l.length = 0
   ·rw [if_pos c5]
    have := List.eq_nil_of_length_eq_zero c5
    subst this
    simp [cnt, cntL, good, qfj]
    omega
   ·rw [if_neg c5]; simp; omega
  rw [if_neg c4]
  by_cases c6 : k = 4
  ·rw [if_pos c6]
   by_cases c5 : l.length = 0
   ·rw [if_pos c5]; simp; omega
   ·rw [if_neg c5]
    obtain ⟨h2, h3, h4⟩ := quz l (lv + 1) (n + 1) (by omega) (by omega)
    refine ⟨by omega, h3, fun h5 => ?_⟩
    obtain ⟨h6, h7, h8⟩ := h4 h5
    refine ⟨h6, by rw [cnt]; omega, ?_⟩
    rw [good]
    exact ⟨by omega, by omega, fun _ e => c5 (by rw [e]; rfl), h8⟩
  ·rw [if_neg c6]; simp; omega
theorem quz : ∀ (l : List Beat) (lv n : Int), 0 ≤ n → n ≤ 4096 → n ≤ (qer l lv n).2 ∧ (qer l lv n).2 ≤ 4097 ∧ ((qer l lv n).1 = 0 → (qer l lv n).2 ≤ 4096 ∧ n + ((cntL l : Nat) : Int) = (qer l lv n).2 ∧ qfj l)
 | [], lv, n, h0, h1 => by simp [qer, cntL, qfj]; omega
 | b :: l, lv, n, h0, h1 => by
  obtain ⟨h2, h3, h4⟩ := qsm b lv n h0 h1
  rw [qer]
  by_cases c : (qbq b lv n).1 = 0
  ·rw [if_pos c]
   obtain ⟨h5, h6, h7⟩ := h4 c
   obtain ⟨k2, k3, k4⟩ := quz l lv (qbq b lv n).2 (by omega) h5
   refine ⟨by omega, k3, fun h8 => ?_⟩
   obtain ⟨k5, k6, k7⟩ := k4 h8
   exact ⟨k5, by rw [cntL]; omega, by rw [qfj]; exact ⟨h7, k7⟩⟩
  ·rw [if_neg c]
   exact ⟨h2, h3, fun h => absurd h c⟩
end
/-- What is wrong with a beat, told as a number. -/
def qes (b : Beat) : Int := (qbq b 1 0).1
/-! ### spans -/
abbrev Sp := Int × Int × Int × Int × Bool
def spC (x : Sp) : List PV := [iv x.1, iv x.2.1, iv x.2.2.1, iv x.2.2.2.1, bv x.2.2.2.2]
def spans (l : List Sp) : List PV := l.flatMap spC
abbrev StS := List Sp × Int × Int
abbrev dS : Sp := (0, 0, 0, 0, false)
theorem qbh (l : List Sp) : shds (spans l) := qek spC (fun _ => rfl) l
theorem qpt (l : List Sp) : (spans l).length = l.length * 5 := qcz spC 5 (fun _ => rfl) l
def longer (L : List Sp) (u d : Int) : List Sp := L.set (L.length - 1) ((L.getD (L.length - 1) dS).1, (L.getD (L.length - 1) dS).2.1, u, d, (L.getD (L.length - 1) dS).2.2.2.2)
def qbm (k u d : Int) (L : List Sp) (a b : Int) : Int × StS :=
 if (plus a b u d).2.2 = 0 then
  if k = 3 ∧ 0 < L.length then
   let s := plus (L.getD (L.length - 1) dS).2.2.1 (L.getD (L.length - 1) dS).2.2.2.1 u d
   if s.2.2 = 0 then (0, longer L s.1 s.2.1, (plus a b u d).1, (plus a b u d).2.1) else (s.2.2, longer L s.1 s.2.1, a, b)
  else (0, L ++ [(a, b, u, d, decide (k = 1))], (plus a b u d).1, (plus a b u d).2.1)
 else ((plus a b u d).2.2, L, a, b)
def qaf (l : List Beat) : Int := (l.map sh).sum
mutual
def qah : Beat → Int → Int → StS → Int × StS
 | .mk k _ l, u, d, st => if k = 4 then qbx l (qaf l) u d st else qbm k u d st.1 st.2.1 st.2.2
def qbx : List Beat → Int → Int → Int → StS → Int × StS
 | [], _, _, _, st => (0, st)
 | b :: l, all, u, d, st =>
  if (make (sh b) all).2.2 = 0 then
   if (times (make (sh b) all).1 (make (sh b) all).2.1 u d).2.2 = 0 then
    let q := times (make (sh b) all).1 (make (sh b) all).2.1 u d
    if (qah b q.1 q.2.1 st).1 = 0 then qbx l all u d (qah b q.1 q.2.1 st).2 else qah b q.1 q.2.1 st
   else ((times (make (sh b) all).1 (make (sh b) all).2.1 u d).2.2, st)
  else ((make (sh b) all).2.2, st)
end
theorem qfw (b : Beat) (u d : Int) (st : StS) : qah b u d st = if kd b = 4 then qbx (kids b) (qaf (kids b)) u d st else qbm (kd b) u d st.1 st.2.1 st.2.2 := by
 cases b with | mk k s l => rw [qah]; rfl
theorem qmt {l : List Beat} {i : Nat} (h : i < l.length) : qaf (l.take (i + 1)) = qaf (l.take i) + sh (l.getD i dB) := by
 unfold qaf
 rw [List.take_add_one, List.map_append, List.sum_append, List.getD_eq_getElem?_getD, List.getElem?_eq_getElem h]
 simp
theorem qvp : ∀ {l : List Beat} {i : Nat}, qfj l → i < l.length → good (l.getD i dB)
 | b :: l, 0, h, _ => by rw [qfj] at h; exact h.1
 | b :: l, i + 1, h, hi => by rw [qfj] at h; exact qvp (l := l) (i := i) h.2 (by simpa using hi)
theorem qlq : ∀ {l : List Beat}, qfj l → ((l.length : Nat) : Int) ≤ qaf l ∧ qaf l ≤ 65536 * ((l.length : Nat) : Int)
 | [], _ => by simp [qaf]
 | b :: l, h => by
  rw [qfj] at h
  have := qlq h.2
  have h1 := (qss b).1 h.1
  simp only [qaf, List.map_cons, List.sum_cons, List.length_cons] at this ⊢
  omega
theorem qnl : ∀ {l : List Beat} (i : Nat), qfj l → qfj (l.take i)
 | [], i, _ => by simp [qfj]
 | b :: l, 0, _ => by simp [qfj]
 | b :: l, i + 1, h => by rw [qfj] at h; rw [List.take_succ_cons, qfj]; exact ⟨h.1, qnl i h.2⟩
theorem qpe : ∀ l : List Beat, l.length ≤ cntL l
 | [] => Nat.zero_le _
 | b :: l => by rw [cntL, List.length_cons]; have := qpe l; have := cnt_pos b; omega
theorem sumSh_bd {l : List Beat} (h : qfj l) (i : Nat) (hc : cntL l ≤ 4096) : 0 ≤ qaf (l.take i) ∧ qaf (l.take i) ≤ 268435456 := by
 have h1 := qlq (qnl i h)
 have h2 := qpe l
 have h3 : (l.take i).length ≤ l.length := by rw [List.length_take]; exact Nat.min_le_right _ _
 omega
theorem qtf {l : List Beat} {i : Nat} (h : i < l.length) : cntL (l.drop i) = cnt (l.getD i dB) + cntL (l.drop (i + 1)) := by
 rw [qil h, cntL]
theorem qgm (L : List Sp) (u d : Int) : (longer L u d).length = L.length := by unfold longer; exact List.length_set ..
theorem leaf_len (k u d : Int) (L : List Sp) (a b : Int) : L.length ≤ (qbm k u d L a b).2.1.length ∧ (qbm k u d L a b).2.1.length ≤ L.length + 1 := by
 unfold qbm
 split
 ·split
  ·dsimp only
   split <;> simp only [qgm] <;> omega
  ·simp
 ·simp
mutual
theorem qpy : ∀ (b : Beat) (u d : Int) (st : StS), (qah b u d st).2.1.length ≤ st.1.length + cnt b
 | .mk k s l, u, d, st => by
  rw [qah, cnt]
  split
  ·have := qmy l (qaf l) u d st; omega
  ·have := (leaf_len k u d st.1 st.2.1 st.2.2).2; omega
theorem qmy : ∀ (l : List Beat) (all u d : Int) (st : StS), (qbx l all u d st).2.1.length ≤ st.1.length + cntL l
 | [], _, _, _, st => by simp [qbx, cntL]
 | b :: l, all, u, d, st => by
  rw [qbx, cntL]
  split
  ·split
   ·dsimp only
    have h1 := qpy b (times (make (sh b) all).1 (make (sh b) all).2.1 u d).1 (times (make (sh b) all).1 (make (sh b) all).2.1 u d).2.1 st
    split
    ·have := qmy l all u d (qah b (times (make (sh b) all).1 (make (sh b) all).2.1 u d).1 (times (make (sh b) all).1 (make (sh b) all).2.1 u d).2.1 st).2
     omega
    ·omega
   ·simp only; omega
  ·simp only; omega
end
end Go.Proofs.YtmlnilkbolcknaaGreatDoor.Pm
namespace Go.Proofs.YtmlnilkbolcknaaGreatDoor.Pm
open Go

mutual
def toB : It → Beat
 | .mk _ s _ _ _ ks => .mk (if ks.length = 0 then 1 else 4) s (toBs ks)
def toBs : List It → List Beat
 | [] => []
 | x :: l => toB x :: toBs l
end
theorem qjw : ∀ l : List It, toBs l = l.map toB
 | [] => by rw [toBs]; rfl
 | x :: l => by rw [toBs, qjw l]; rfl
theorem qyp (x : It) : toB x = .mk (if (iC x).length = 0 then 1 else 4) (iS x) ((iC x).map toB) := by
 cases x with | mk k s ps b ly ks => rw [toB, qjw]; rfl
theorem toB_kd (x : It) : kd (toB x) = if (iC x).length = 0 then 1 else 4 := by rw [qyp]; rfl
theorem qyo (x : It) : sh (toB x) = iS x := by rw [qyp]; rfl
theorem toB_kids (x : It) : kids (toB x) = (iC x).map toB := by rw [qyp]; rfl
theorem kc_kcs (b : Beat) : kc b = kcs (kids b) := by rw [kc_eq, qfi]
/-- The first kids, as beats. -/
def bs (x : It) (j : Nat) : List Beat := ((iC x).take j).map toB
theorem qwh {x : It} {j : Nat} (h : j ≤ (iC x).length) : (bs x j).length = j := by unfold bs; rw [List.length_map, List.length_take]; omega
theorem bs_all (x : It) : bs x (iC x).length = kids (toB x) := by unfold bs; rw [List.take_length, toB_kids]
theorem kcs_len (l : List Beat) : (kcs l).length = l.length * 3 := by rw [qfi]; exact qcz gB 3 (fun _ => rfl) l
theorem qov (l : List Beat) : shds (kcs l) := by rw [qfi]; exact qek gB (fun _ => rfl) _
theorem bs_next {x : It} {j : Nat} (h : j < (iC x).length) : kcs (bs x j) ++ gB (toB ((iC x).getD j dIt)) = kcs (bs x (j + 1)) := by
 unfold bs
 rw [List.take_succ_eq_append_getElem h, List.map_append, qfi, qfi, List.flatMap_append, List.getD_eq_getElem?_getD, List.getElem?_eq_getElem h]
 simp
end Go.Proofs.YtmlnilkbolcknaaGreatDoor.Pm
namespace Go.Proofs.YtmlnilkbolcknaaGreatDoor.Pm
open Go
end Go.Proofs.YtmlnilkbolcknaaGreatDoor.Pm
namespace Go.Proofs
open Go.Shelf

def Tryz.lays99_ren : Go.Shelf.Ren := ⟨fun | 99 => 147 | 206 => 168 | n => n, fun | 9 => 9 | 4 => 4 | 3 => 3 | n => n, fun | n => n⟩
theorem Tryz.lays99 : Go.Proofs.Lays.n99 Tryz.prog Tryz.lays99_ren := {
  mixed := by kernel_rfl,
  f99 := Tryz.func147.trans (congrArg some (by kernel_rfl)),
  f206 := Tryz.func168.trans (congrArg some (by kernel_rfl)),
  t3 := Tryz.underlying3,
  a3 := Tryz.isAgg3,
  z3 := Tryz.sizeOf3,
  v3 := Tryz.zeroValue3,
  t4 := Tryz.underlying4,
  a4 := Tryz.isAgg4,
  z4 := Tryz.sizeOf4,
  v4 := Tryz.zeroValue4,
  t9 := Tryz.underlying9,
  a9 := Tryz.isAgg9,
  z9 := Tryz.sizeOf9,
  v9 := Tryz.zeroValue9 }
def Tryz.lays143_ren : Go.Shelf.Ren := ⟨fun | 143 => 181 | 219 => 188 | 217 => 172 | 225 => 159 | 224 => 158 | 267 => 191 | 266 => 184 | 314 => 192 | n => n, fun | 9 => 9 | 3 => 3 | 4 => 4 | 5 => 5 | 46 => 191 | 146 => 209 | 51 => 198 | n => n, fun | 1 => 3 | n => n⟩
theorem Tryz.lays143 : Go.Proofs.Lays.n143 Tryz.prog Tryz.lays143_ren := {
  mixed := by kernel_rfl,
  f143 := Tryz.func181.trans (congrArg some (by kernel_rfl)),
  f217 := Tryz.func172.trans (congrArg some (by kernel_rfl)),
  f219 := Tryz.func188.trans (congrArg some (by kernel_rfl)),
  f224 := Tryz.func158.trans (congrArg some (by kernel_rfl)),
  f225 := Tryz.func159.trans (congrArg some (by kernel_rfl)),
  f266 := Tryz.func184.trans (congrArg some (by kernel_rfl)),
  f267 := Tryz.func191.trans (congrArg some (by kernel_rfl)),
  f314 := Tryz.func192.trans (congrArg some (by kernel_rfl)),
  t3 := Tryz.underlying3,
  a3 := Tryz.isAgg3,
  z3 := Tryz.sizeOf3,
  v3 := Tryz.zeroValue3,
  t4 := Tryz.underlying4,
  a4 := Tryz.isAgg4,
  z4 := Tryz.sizeOf4,
  v4 := Tryz.zeroValue4,
  t5 := Tryz.underlying5,
  a5 := Tryz.isAgg5,
  z5 := Tryz.sizeOf5,
  v5 := Tryz.zeroValue5,
  t9 := Tryz.underlying9,
  a9 := Tryz.isAgg9,
  z9 := Tryz.sizeOf9,
  v9 := Tryz.zeroValue9,
  t46 := Tryz.underlying191,
  a46 := Tryz.isAgg191,
  z46 := Tryz.sizeOf191,
  v46 := Tryz.zeroValue191,
  t51 := Tryz.underlying198,
  a51 := Tryz.isAgg198,
  z51 := Tryz.sizeOf198,
  v51 := Tryz.zeroValue198,
  t146 := Tryz.underlying209,
  a146 := Tryz.isAgg209,
  z146 := Tryz.sizeOf209,
  v146 := Tryz.zeroValue209,
  g1 := by kernel_rfl }
def Tryz.lays144_ren : Go.Shelf.Ren := ⟨fun | 144 => 180 | 143 => 181 | 219 => 188 | 217 => 172 | 225 => 159 | 224 => 158 | 267 => 191 | 266 => 184 | 314 => 192 | n => n, fun | 9 => 9 | 4 => 4 | 3 => 3 | 5 => 5 | 46 => 191 | 146 => 209 | 51 => 198 | n => n, fun | 1 => 3 | n => n⟩
theorem Tryz.lays144 : Go.Proofs.Lays.n144 Tryz.prog Tryz.lays144_ren := {
  mixed := by kernel_rfl,
  f143 := Tryz.func181.trans (congrArg some (by kernel_rfl)),
  f144 := Tryz.func180.trans (congrArg some (by kernel_rfl)),
  f217 := Tryz.func172.trans (congrArg some (by kernel_rfl)),
  f219 := Tryz.func188.trans (congrArg some (by kernel_rfl)),
  f224 := Tryz.func158.trans (congrArg some (by kernel_rfl)),
  f225 := Tryz.func159.trans (congrArg some (by kernel_rfl)),
  f266 := Tryz.func184.trans (congrArg some (by kernel_rfl)),
  f267 := Tryz.func191.trans (congrArg some (by kernel_rfl)),
  f314 := Tryz.func192.trans (congrArg some (by kernel_rfl)),
  t3 := Tryz.underlying3,
  a3 := Tryz.isAgg3,
  z3 := Tryz.sizeOf3,
  v3 := Tryz.zeroValue3,
  t4 := Tryz.underlying4,
  a4 := Tryz.isAgg4,
  z4 := Tryz.sizeOf4,
  v4 := Tryz.zeroValue4,
  t5 := Tryz.underlying5,
  a5 := Tryz.isAgg5,
  z5 := Tryz.sizeOf5,
  v5 := Tryz.zeroValue5,
  t9 := Tryz.underlying9,
  a9 := Tryz.isAgg9,
  z9 := Tryz.sizeOf9,
  v9 := Tryz.zeroValue9,
  t46 := Tryz.underlying191,
  a46 := Tryz.isAgg191,
  z46 := Tryz.sizeOf191,
  v46 := Tryz.zeroValue191,
  t51 := Tryz.underlying198,
  a51 := Tryz.isAgg198,
  z51 := Tryz.sizeOf198,
  v51 := Tryz.zeroValue198,
  t146 := Tryz.underlying209,
  a146 := Tryz.isAgg209,
  z146 := Tryz.sizeOf209,
  v146 := Tryz.zeroValue209,
  g1 := by kernel_rfl }
def Tryz.lays160_ren : Go.Shelf.Ren := ⟨fun | 160 => 57 | 232 => 83 | 231 => 82 | 227 => 84 | 234 => 86 | 233 => 85 | 236 => 88 | 235 => 87 | 228 => 115 | 271 => 118 | 151 => 117 | 197 => 116 | 120 => 145 | 152 => 135 | 260 => 144 | 137 => 156 | 119 => 157 | 224 => 158 | 225 => 159 | 217 => 172 | 266 => 184 | n => n, fun | 9 => 9 | 4 => 4 | 3 => 3 | 5 => 5 | 117 => 145 | 116 => 144 | 0 => 0 | 124 => 148 | 21 => 21 | 105 => 170 | 46 => 191 | 119 => 205 | 139 => 208 | 138 => 207 | n => n, fun | 3 => 1 | 4 => 2 | n => n⟩
theorem Tryz.lays160 : Go.Proofs.Lays.n160 Tryz.prog Tryz.lays160_ren := {
  mixed := by kernel_rfl,
  f119 := Tryz.func157.trans (congrArg some (by kernel_rfl)),
  f120 := Tryz.func145.trans (congrArg some (by kernel_rfl)),
  f137 := Tryz.func156.trans (congrArg some (by kernel_rfl)),
  f151 := Tryz.func117.trans (congrArg some (by kernel_rfl)),
  f152 := Tryz.func135.trans (congrArg some (by kernel_rfl)),
  f160 := Tryz.func57.trans (congrArg some (by kernel_rfl)),
  f197 := Tryz.func116.trans (congrArg some (by kernel_rfl)),
  f217 := Tryz.func172.trans (congrArg some (by kernel_rfl)),
  f224 := Tryz.func158.trans (congrArg some (by kernel_rfl)),
  f225 := Tryz.func159.trans (congrArg some (by kernel_rfl)),
  f227 := Tryz.func84.trans (congrArg some (by kernel_rfl)),
  f228 := Tryz.func115.trans (congrArg some (by kernel_rfl)),
  f231 := Tryz.func82.trans (congrArg some (by kernel_rfl)),
  f232 := Tryz.func83.trans (congrArg some (by kernel_rfl)),
  f233 := Tryz.func85.trans (congrArg some (by kernel_rfl)),
  f234 := Tryz.func86.trans (congrArg some (by kernel_rfl)),
  f235 := Tryz.func87.trans (congrArg some (by kernel_rfl)),
  f236 := Tryz.func88.trans (congrArg some (by kernel_rfl)),
  f260 := Tryz.func144.trans (congrArg some (by kernel_rfl)),
  f266 := Tryz.func184.trans (congrArg some (by kernel_rfl)),
  f271 := Tryz.func118.trans (congrArg some (by kernel_rfl)),
  t0 := Tryz.underlying0,
  a0 := Tryz.isAgg0,
  z0 := Tryz.sizeOf0,
  v0 := Tryz.zeroValue0,
  t3 := Tryz.underlying3,
  a3 := Tryz.isAgg3,
  z3 := Tryz.sizeOf3,
  v3 := Tryz.zeroValue3,
  t4 := Tryz.underlying4,
  a4 := Tryz.isAgg4,
  z4 := Tryz.sizeOf4,
  v4 := Tryz.zeroValue4,
  t5 := Tryz.underlying5,
  a5 := Tryz.isAgg5,
  z5 := Tryz.sizeOf5,
  v5 := Tryz.zeroValue5,
  t9 := Tryz.underlying9,
  a9 := Tryz.isAgg9,
  z9 := Tryz.sizeOf9,
  v9 := Tryz.zeroValue9,
  t21 := Tryz.underlying21,
  a21 := Tryz.isAgg21,
  z21 := Tryz.sizeOf21,
  v21 := Tryz.zeroValue21,
  t46 := Tryz.underlying191,
  a46 := Tryz.isAgg191,
  z46 := Tryz.sizeOf191,
  v46 := Tryz.zeroValue191,
  t105 := Tryz.underlying170,
  a105 := Tryz.isAgg170,
  z105 := Tryz.sizeOf170,
  v105 := Tryz.zeroValue170,
  t116 := Tryz.underlying144,
  a116 := Tryz.isAgg144,
  z116 := Tryz.sizeOf144,
  t117 := Tryz.underlying145,
  a117 := Tryz.isAgg145,
  z117 := Tryz.sizeOf145,
  v117 := Tryz.zeroValue145,
  t119 := Tryz.underlying205,
  a119 := Tryz.isAgg205,
  z119 := Tryz.sizeOf205,
  t124 := Tryz.underlying148,
  a124 := Tryz.isAgg148,
  z124 := Tryz.sizeOf148,
  v124 := Tryz.zeroValue148,
  t138 := Tryz.underlying207,
  a138 := Tryz.isAgg207,
  z138 := Tryz.sizeOf207,
  v138 := Tryz.zeroValue207,
  t139 := Tryz.underlying208,
  a139 := Tryz.isAgg208,
  z139 := Tryz.sizeOf208,
  v139 := Tryz.zeroValue208,
  g3 := by kernel_rfl,
  g4 := by kernel_rfl }
def Tryz.lays105_ren : Go.Shelf.Ren := ⟨fun | 105 => 124 | 212 => 146 | 99 => 147 | 165 => 148 | 166 => 27 | 170 => 31 | 169 => 32 | 263 => 166 | 264 => 167 | 206 => 168 | 240 => 60 | 241 => 169 | 276 => 93 | 277 => 183 | n => n, fun | 9 => 9 | 3 => 3 | 4 => 4 | 20 => 20 | 0 => 0 | 46 => 191 | 109 => 192 | 5 => 5 | 72 => 75 | 76 => 80 | 51 => 198 | 146 => 209 | 53 => 178 | 148 => 211 | 70 => 72 | 37 => 73 | 75 => 79 | 127 => 120 | 164 => 149 | 80 => 86 | n => n, fun | n => n⟩
theorem Tryz.lays105 : Go.Proofs.Lays.n105 Tryz.prog Tryz.lays105_ren := {
  mixed := by kernel_rfl,
  f99 := Tryz.func147.trans (congrArg some (by kernel_rfl)),
  f105 := Tryz.func124.trans (congrArg some (by kernel_rfl)),
  f165 := Tryz.func148.trans (congrArg some (by kernel_rfl)),
  f166 := Tryz.func27.trans (congrArg some (by kernel_rfl)),
  f169 := Tryz.func32.trans (congrArg some (by kernel_rfl)),
  f170 := Tryz.func31.trans (congrArg some (by kernel_rfl)),
  f206 := Tryz.func168.trans (congrArg some (by kernel_rfl)),
  f212 := Tryz.func146.trans (congrArg some (by kernel_rfl)),
  f240 := Tryz.func60.trans (congrArg some (by kernel_rfl)),
  f241 := Tryz.func169.trans (congrArg some (by kernel_rfl)),
  f263 := Tryz.func166.trans (congrArg some (by kernel_rfl)),
  f264 := Tryz.func167.trans (congrArg some (by kernel_rfl)),
  f276 := Tryz.func93.trans (congrArg some (by kernel_rfl)),
  f277 := Tryz.func183.trans (congrArg some (by kernel_rfl)),
  t0 := Tryz.underlying0,
  a0 := Tryz.isAgg0,
  z0 := Tryz.sizeOf0,
  v0 := Tryz.zeroValue0,
  t3 := Tryz.underlying3,
  a3 := Tryz.isAgg3,
  z3 := Tryz.sizeOf3,
  v3 := Tryz.zeroValue3,
  t4 := Tryz.underlying4,
  a4 := Tryz.isAgg4,
  z4 := Tryz.sizeOf4,
  v4 := Tryz.zeroValue4,
  t5 := Tryz.underlying5,
  a5 := Tryz.isAgg5,
  z5 := Tryz.sizeOf5,
  v5 := Tryz.zeroValue5,
  t9 := Tryz.underlying9,
  a9 := Tryz.isAgg9,
  z9 := Tryz.sizeOf9,
  v9 := Tryz.zeroValue9,
  t20 := Tryz.underlying20,
  a20 := Tryz.isAgg20,
  z20 := Tryz.sizeOf20,
  v20 := Tryz.zeroValue20,
  t37 := Tryz.underlying73,
  a37 := Tryz.isAgg73,
  z37 := Tryz.sizeOf73,
  v37 := Tryz.zeroValue73,
  t46 := Tryz.underlying191,
  a46 := Tryz.isAgg191,
  z46 := Tryz.sizeOf191,
  v46 := Tryz.zeroValue191,
  t51 := Tryz.underlying198,
  a51 := Tryz.isAgg198,
  z51 := Tryz.sizeOf198,
  v51 := Tryz.zeroValue198,
  t53 := Tryz.underlying178,
  a53 := Tryz.isAgg178,
  z53 := Tryz.sizeOf178,
  v53 := Tryz.zeroValue178,
  t70 := Tryz.underlying72,
  a70 := Tryz.isAgg72,
  z70 := Tryz.sizeOf72,
  v70 := Tryz.zeroValue72,
  t72 := Tryz.underlying75,
  a72 := Tryz.isAgg75,
  z72 := Tryz.sizeOf75,
  v72 := Tryz.zeroValue75,
  t75 := Tryz.underlying79,
  a75 := Tryz.isAgg79,
  z75 := Tryz.sizeOf79,
  v75 := Tryz.zeroValue79,
  t76 := Tryz.underlying80,
  a76 := Tryz.isAgg80,
  z76 := Tryz.sizeOf80,
  v76 := Tryz.zeroValue80,
  t109 := Tryz.underlying192,
  a109 := Tryz.isAgg192,
  z109 := Tryz.sizeOf192,
  v109 := Tryz.zeroValue192,
  t127 := Tryz.underlying120,
  a127 := Tryz.isAgg120,
  z127 := Tryz.sizeOf120,
  v127 := Tryz.zeroValue120,
  t146 := Tryz.underlying209,
  a146 := Tryz.isAgg209,
  z146 := Tryz.sizeOf209,
  v146 := Tryz.zeroValue209,
  t148 := Tryz.underlying211,
  a148 := Tryz.isAgg211,
  z148 := Tryz.sizeOf211,
  v148 := Tryz.zeroValue211,
  t164 := Tryz.underlying149,
  a164 := Tryz.isAgg149,
  z164 := Tryz.sizeOf149,
  v164 := Tryz.zeroValue149 }
def Tryz.lays172_ren : Go.Shelf.Ren := ⟨fun | 172 => 137 | 244 => 160 | 245 => 161 | 247 => 173 | 279 => 174 | 280 => 175 | 281 => 176 | 282 => 177 | 287 => 185 | 316 => 186 | 171 => 28 | 205 => 187 | 321 => 189 | 322 => 190 | 243 => 61 | 246 => 94 | 283 => 126 | 284 => 127 | 285 => 128 | 286 => 129 | 129 => 150 | 317 => 149 | 318 => 151 | 319 => 152 | 320 => 153 | 337 => 170 | 338 => 171 | n => n, fun | 9 => 9 | 3 => 3 | 75 => 79 | 76 => 80 | 4 => 4 | 5 => 5 | 167 => 214 | 37 => 73 | 0 => 0 | 85 => 215 | 2 => 2 | 168 => 217 | 53 => 178 | 175 => 225 | 46 => 191 | 210 => 229 | 127 => 120 | 145 => 234 | 143 => 232 | 21 => 21 | 171 => 177 | 173 => 181 | 212 => 197 | 51 => 198 | 20 => 20 | 213 => 199 | 232 => 223 | 233 => 224 | 80 => 86 | n => n, fun | 15 => 6 | 16 => 7 | 17 => 0 | 18 => 4 | 19 => 5 | n => n⟩
theorem Tryz.lays172 : Go.Proofs.Lays.n172 Tryz.prog Tryz.lays172_ren := {
  mixed := by kernel_rfl,
  f129 := Tryz.func150.trans (congrArg some (by kernel_rfl)),
  f171 := Tryz.func28.trans (congrArg some (by kernel_rfl)),
  f172 := Tryz.func137.trans (congrArg some (by kernel_rfl)),
  f205 := Tryz.func187.trans (congrArg some (by kernel_rfl)),
  f243 := Tryz.func61.trans (congrArg some (by kernel_rfl)),
  f244 := Tryz.func160.trans (congrArg some (by kernel_rfl)),
  f245 := Tryz.func161.trans (congrArg some (by kernel_rfl)),
  f246 := Tryz.func94.trans (congrArg some (by kernel_rfl)),
  f247 := Tryz.func173.trans (congrArg some (by kernel_rfl)),
  f279 := Tryz.func174.trans (congrArg some (by kernel_rfl)),
  f280 := Tryz.func175.trans (congrArg some (by kernel_rfl)),
  f281 := Tryz.func176.trans (congrArg some (by kernel_rfl)),
  f282 := Tryz.func177.trans (congrArg some (by kernel_rfl)),
  f283 := Tryz.func126.trans (congrArg some (by kernel_rfl)),
  f284 := Tryz.func127.trans (congrArg some (by kernel_rfl)),
  f285 := Tryz.func128.trans (congrArg some (by kernel_rfl)),
  f286 := Tryz.func129.trans (congrArg some (by kernel_rfl)),
  f287 := Tryz.func185.trans (congrArg some (by kernel_rfl)),
  f316 := Tryz.func186.trans (congrArg some (by kernel_rfl)),
  f317 := Tryz.func149.trans (congrArg some (by kernel_rfl)),
  f318 := Tryz.func151.trans (congrArg some (by kernel_rfl)),
  f319 := Tryz.func152.trans (congrArg some (by kernel_rfl)),
  f320 := Tryz.func153.trans (congrArg some (by kernel_rfl)),
  f321 := Tryz.func189.trans (congrArg some (by kernel_rfl)),
  f322 := Tryz.func190.trans (congrArg some (by kernel_rfl)),
  f337 := Tryz.func170.trans (congrArg some (by kernel_rfl)),
  f338 := Tryz.func171.trans (congrArg some (by kernel_rfl)),
  t0 := Tryz.underlying0,
  a0 := Tryz.isAgg0,
  z0 := Tryz.sizeOf0,
  v0 := Tryz.zeroValue0,
  t2 := Tryz.underlying2,
  a2 := Tryz.isAgg2,
  z2 := Tryz.sizeOf2,
  v2 := Tryz.zeroValue2,
  t3 := Tryz.underlying3,
  a3 := Tryz.isAgg3,
  z3 := Tryz.sizeOf3,
  v3 := Tryz.zeroValue3,
  t4 := Tryz.underlying4,
  a4 := Tryz.isAgg4,
  z4 := Tryz.sizeOf4,
  v4 := Tryz.zeroValue4,
  t5 := Tryz.underlying5,
  a5 := Tryz.isAgg5,
  z5 := Tryz.sizeOf5,
  v5 := Tryz.zeroValue5,
  t9 := Tryz.underlying9,
  a9 := Tryz.isAgg9,
  z9 := Tryz.sizeOf9,
  v9 := Tryz.zeroValue9,
  t20 := Tryz.underlying20,
  a20 := Tryz.isAgg20,
  z20 := Tryz.sizeOf20,
  v20 := Tryz.zeroValue20,
  t21 := Tryz.underlying21,
  a21 := Tryz.isAgg21,
  z21 := Tryz.sizeOf21,
  v21 := Tryz.zeroValue21,
  t37 := Tryz.underlying73,
  a37 := Tryz.isAgg73,
  z37 := Tryz.sizeOf73,
  v37 := Tryz.zeroValue73,
  t46 := Tryz.underlying191,
  a46 := Tryz.isAgg191,
  z46 := Tryz.sizeOf191,
  v46 := Tryz.zeroValue191,
  t51 := Tryz.underlying198,
  a51 := Tryz.isAgg198,
  z51 := Tryz.sizeOf198,
  v51 := Tryz.zeroValue198,
  t53 := Tryz.underlying178,
  a53 := Tryz.isAgg178,
  z53 := Tryz.sizeOf178,
  v53 := Tryz.zeroValue178,
  t75 := Tryz.underlying79,
  a75 := Tryz.isAgg79,
  z75 := Tryz.sizeOf79,
  v75 := Tryz.zeroValue79,
  t76 := Tryz.underlying80,
  a76 := Tryz.isAgg80,
  z76 := Tryz.sizeOf80,
  v76 := Tryz.zeroValue80,
  t85 := Tryz.underlying215,
  a85 := Tryz.isAgg215,
  z85 := Tryz.sizeOf215,
  v85 := Tryz.zeroValue215,
  t127 := Tryz.underlying120,
  a127 := Tryz.isAgg120,
  z127 := Tryz.sizeOf120,
  v127 := Tryz.zeroValue120,
  t143 := Tryz.underlying232,
  a143 := Tryz.isAgg232,
  z143 := Tryz.sizeOf232,
  v143 := Tryz.zeroValue232,
  t145 := Tryz.underlying234,
  a145 := Tryz.isAgg234,
  z145 := Tryz.sizeOf234,
  v145 := Tryz.zeroValue234,
  t167 := Tryz.underlying214,
  a167 := Tryz.isAgg214,
  z167 := Tryz.sizeOf214,
  v167 := Tryz.zeroValue214,
  t168 := Tryz.underlying217,
  a168 := Tryz.isAgg217,
  z168 := Tryz.sizeOf217,
  v168 := Tryz.zeroValue217,
  t171 := Tryz.underlying177,
  a171 := Tryz.isAgg177,
  z171 := Tryz.sizeOf177,
  v171 := Tryz.zeroValue177,
  t173 := Tryz.underlying181,
  a173 := Tryz.isAgg181,
  z173 := Tryz.sizeOf181,
  v173 := Tryz.zeroValue181,
  t175 := Tryz.underlying225,
  a175 := Tryz.isAgg225,
  z175 := Tryz.sizeOf225,
  v175 := Tryz.zeroValue225,
  t210 := Tryz.underlying229,
  a210 := Tryz.isAgg229,
  z210 := Tryz.sizeOf229,
  v210 := Tryz.zeroValue229,
  t212 := Tryz.underlying197,
  a212 := Tryz.isAgg197,
  z212 := Tryz.sizeOf197,
  v212 := Tryz.zeroValue197,
  t213 := Tryz.underlying199,
  a213 := Tryz.isAgg199,
  z213 := Tryz.sizeOf199,
  t232 := Tryz.underlying223,
  a232 := Tryz.isAgg223,
  z232 := Tryz.sizeOf223,
  v232 := Tryz.zeroValue223,
  t233 := Tryz.underlying224,
  a233 := Tryz.isAgg224,
  z233 := Tryz.sizeOf224,
  v233 := Tryz.zeroValue224,
  g15 := by kernel_rfl,
  g16 := by kernel_rfl,
  g17 := by kernel_rfl,
  g18 := by kernel_rfl,
  g19 := by kernel_rfl }
def Tryz.laysM171_ren : Go.Shelf.Ren := ⟨fun | 171 => 28 | 243 => 61 | 246 => 94 | 283 => 126 | 284 => 127 | 285 => 128 | 286 => 129 | 129 => 150 | 317 => 149 | 318 => 151 | 319 => 152 | 320 => 153 | 337 => 170 | 338 => 171 | n => n, fun | 3 => 3 | 9 => 9 | 2 => 2 | 4 => 4 | 171 => 177 | 0 => 0 | 53 => 178 | 37 => 73 | 5 => 5 | 173 => 181 | 212 => 197 | 51 => 198 | 20 => 20 | 213 => 199 | 46 => 191 | 232 => 223 | 233 => 224 | n => n, fun | 17 => 0 | 18 => 4 | 19 => 5 | n => n⟩
theorem Tryz.laysM171 : Go.Proofs.LaysM.n171 Tryz.prog Tryz.laysM171_ren := {
  mixed := by kernel_rfl,
  f129 := Tryz.func150.trans (congrArg some (by kernel_rfl)),
  f171 := Tryz.func28.trans (congrArg some (by kernel_rfl)),
  f243 := Tryz.func61.trans (congrArg some (by kernel_rfl)),
  f246 := Tryz.func94.trans (congrArg some (by kernel_rfl)),
  f283 := Tryz.func126.trans (congrArg some (by kernel_rfl)),
  f284 := Tryz.func127.trans (congrArg some (by kernel_rfl)),
  f285 := Tryz.func128.trans (congrArg some (by kernel_rfl)),
  f286 := Tryz.func129.trans (congrArg some (by kernel_rfl)),
  f317 := Tryz.func149.trans (congrArg some (by kernel_rfl)),
  f318 := Tryz.func151.trans (congrArg some (by kernel_rfl)),
  f319 := Tryz.func152.trans (congrArg some (by kernel_rfl)),
  f320 := Tryz.func153.trans (congrArg some (by kernel_rfl)),
  f337 := Tryz.func170.trans (congrArg some (by kernel_rfl)),
  f338 := Tryz.func171.trans (congrArg some (by kernel_rfl)),
  t0 := Tryz.underlying0,
  a0 := Tryz.isAgg0,
  z0 := Tryz.sizeOf0,
  v0 := Tryz.zeroValue0,
  t2 := Tryz.underlying2,
  a2 := Tryz.isAgg2,
  z2 := Tryz.sizeOf2,
  v2 := Tryz.zeroValue2,
  t3 := Tryz.underlying3,
  a3 := Tryz.isAgg3,
  z3 := Tryz.sizeOf3,
  v3 := Tryz.zeroValue3,
  t4 := Tryz.underlying4,
  a4 := Tryz.isAgg4,
  z4 := Tryz.sizeOf4,
  v4 := Tryz.zeroValue4,
  t5 := Tryz.underlying5,
  a5 := Tryz.isAgg5,
  z5 := Tryz.sizeOf5,
  v5 := Tryz.zeroValue5,
  t9 := Tryz.underlying9,
  a9 := Tryz.isAgg9,
  z9 := Tryz.sizeOf9,
  v9 := Tryz.zeroValue9,
  t20 := Tryz.underlying20,
  a20 := Tryz.isAgg20,
  z20 := Tryz.sizeOf20,
  v20 := Tryz.zeroValue20,
  t37 := Tryz.underlying73,
  a37 := Tryz.isAgg73,
  z37 := Tryz.sizeOf73,
  v37 := Tryz.zeroValue73,
  t46 := Tryz.underlying191,
  a46 := Tryz.isAgg191,
  z46 := Tryz.sizeOf191,
  v46 := Tryz.zeroValue191,
  t51 := Tryz.underlying198,
  a51 := Tryz.isAgg198,
  z51 := Tryz.sizeOf198,
  v51 := Tryz.zeroValue198,
  t53 := Tryz.underlying178,
  a53 := Tryz.isAgg178,
  z53 := Tryz.sizeOf178,
  v53 := Tryz.zeroValue178,
  t171 := Tryz.underlying177,
  a171 := Tryz.isAgg177,
  z171 := Tryz.sizeOf177,
  v171 := Tryz.zeroValue177,
  t173 := Tryz.underlying181,
  a173 := Tryz.isAgg181,
  z173 := Tryz.sizeOf181,
  v173 := Tryz.zeroValue181,
  t212 := Tryz.underlying197,
  a212 := Tryz.isAgg197,
  z212 := Tryz.sizeOf197,
  v212 := Tryz.zeroValue197,
  t213 := Tryz.underlying199,
  a213 := Tryz.isAgg199,
  z213 := Tryz.sizeOf199,
  t232 := Tryz.underlying223,
  a232 := Tryz.isAgg223,
  z232 := Tryz.sizeOf223,
  v232 := Tryz.zeroValue223,
  t233 := Tryz.underlying224,
  a233 := Tryz.isAgg224,
  z233 := Tryz.sizeOf224,
  v233 := Tryz.zeroValue224,
  g17 := by kernel_rfl,
  g18 := by kernel_rfl,
  g19 := by kernel_rfl,
  i0 := by kernel_rfl,
  i2 := by kernel_rfl,
  i3 := by kernel_rfl,
  i4 := by kernel_rfl,
  i5 := by kernel_rfl,
  i9 := by kernel_rfl,
  i20 := by kernel_rfl,
  i37 := by kernel_rfl,
  i46 := by kernel_rfl,
  i51 := by kernel_rfl,
  i53 := by kernel_rfl,
  i171 := by kernel_rfl,
  i173 := by kernel_rfl,
  i212 := by kernel_rfl,
  i232 := by kernel_rfl,
  i233 := by kernel_rfl,
  m17 := by kernel_rfl,
  m18 := by kernel_rfl,
  m19 := by kernel_rfl }
def Tryz.lays197_ren : Go.Shelf.Ren := ⟨fun | 197 => 116 | 260 => 144 | n => n, fun | 9 => 9 | 21 => 21 | 3 => 3 | 4 => 4 | 5 => 5 | 105 => 170 | 119 => 205 | 0 => 0 | 46 => 191 | 139 => 208 | 138 => 207 | n => n, fun | 3 => 1 | 4 => 2 | n => n⟩
theorem Tryz.lays197 : Go.Proofs.Lays.n197 Tryz.prog Tryz.lays197_ren := {
  mixed := by kernel_rfl,
  f197 := Tryz.func116.trans (congrArg some (by kernel_rfl)),
  f260 := Tryz.func144.trans (congrArg some (by kernel_rfl)),
  t0 := Tryz.underlying0,
  a0 := Tryz.isAgg0,
  z0 := Tryz.sizeOf0,
  v0 := Tryz.zeroValue0,
  t3 := Tryz.underlying3,
  a3 := Tryz.isAgg3,
  z3 := Tryz.sizeOf3,
  v3 := Tryz.zeroValue3,
  t4 := Tryz.underlying4,
  a4 := Tryz.isAgg4,
  z4 := Tryz.sizeOf4,
  v4 := Tryz.zeroValue4,
  t5 := Tryz.underlying5,
  a5 := Tryz.isAgg5,
  z5 := Tryz.sizeOf5,
  v5 := Tryz.zeroValue5,
  t9 := Tryz.underlying9,
  a9 := Tryz.isAgg9,
  z9 := Tryz.sizeOf9,
  v9 := Tryz.zeroValue9,
  t21 := Tryz.underlying21,
  a21 := Tryz.isAgg21,
  z21 := Tryz.sizeOf21,
  v21 := Tryz.zeroValue21,
  t46 := Tryz.underlying191,
  a46 := Tryz.isAgg191,
  z46 := Tryz.sizeOf191,
  v46 := Tryz.zeroValue191,
  t105 := Tryz.underlying170,
  a105 := Tryz.isAgg170,
  z105 := Tryz.sizeOf170,
  v105 := Tryz.zeroValue170,
  t119 := Tryz.underlying205,
  a119 := Tryz.isAgg205,
  z119 := Tryz.sizeOf205,
  t138 := Tryz.underlying207,
  a138 := Tryz.isAgg207,
  z138 := Tryz.sizeOf207,
  v138 := Tryz.zeroValue207,
  t139 := Tryz.underlying208,
  a139 := Tryz.isAgg208,
  z139 := Tryz.sizeOf208,
  v139 := Tryz.zeroValue208,
  g3 := by kernel_rfl,
  g4 := by kernel_rfl }
theorem Tryz.builder105 : Builder.Extra Tryz.prog Tryz.lays105_ren where
 sizeBuilder := by kernel_rfl
 liesBuilder := by kernel_rfl
 t5 := Tryz.underlying5
 a5 := Tryz.isAgg5
 z5 := Tryz.sizeOf5
 v5 := Tryz.zeroValue5
 infoByte := by kernel_rfl
 cellsByte := by kernel_rfl
 sizeByte := by kernel_rfl
 neB5 := by decide
end Go.Proofs
namespace Go.Proofs.YtmlnilkbolcknaaGreatDoor.Pm
open Go Go.RowKit

theorem qjm (s p : List UInt8) : PC Tryz.prog 147 [sv (st s), sv (st p)] [] (bv (Lib.hasPrefix s p)) [] :=
 qcc (qdo Tryz.func147 (by kernel_rfl) (by kernel_rfl)) rfl rfl fun w => (Any.strings_HasPrefix Tryz.lays99 (st s) (st p) w).mono fun e w' ⟨h1, h2⟩ => ⟨h1, h2 ▸ Below.refl _ _⟩
theorem index_pc (s : List UInt8) (c : UInt8) : PC Tryz.prog 181 [sv (st s), sv (st [c])] [] (iv (Lib.indexByte s c)) [] :=
 qcc (qdo Tryz.func181 (by kernel_rfl) (by kernel_rfl)) rfl rfl fun w => (Any.strings_Index_one Tryz.lays143 (st s) c w).mono fun e w' ⟨h1, h2⟩ => ⟨h1, h2 ▸ Below.refl _ _⟩
theorem qte (s : List UInt8) (c : UInt8) : PC Tryz.prog 180 [sv (st s), sv (st [c])] [] (bv (decide (0 ≤ Lib.indexByte s c))) [] :=
 qcc (qdo Tryz.func180 (by kernel_rfl) (by kernel_rfl)) rfl rfl fun w => (Any.strings_Contains_one Tryz.lays144 (st s) c w).mono fun e w' ⟨h1, h2⟩ => ⟨h1, h2 ▸ Below.refl _ _⟩
theorem qhc (s cs : List UInt8) (hs : s.length ≤ 9223372036854775807) (hc : cs.length < 4294967281) (ha : ∀ (j : Nat) b, cs[j]? = some b → b.toNat < 128) : PC Tryz.prog 57 [sv (st s), sv (st cs)] [] (sv (st (Lib.trimS s cs))) [] :=
 qcc (qdo Tryz.func57 (by kernel_rfl) (by kernel_rfl)) rfl rfl fun w => (Any.strings_Trim_laid Tryz.lays160 (by kernel_rfl) (st s) (st cs) w hs hc ha).mono fun e w' ⟨h1, h2⟩ => ⟨h1, h2⟩
theorem qcq (s : List UInt8) (c : Nat) (hc : c ≤ 9223372036854775807) (hl : s.length * c ≤ 140737488355328) : PC Tryz.prog 124 [sv (st s), iv ((c : Nat) : Int)] [] (sv (st (Lib.repeatL s c))) [] :=
 qcc (qdo Tryz.func124 (by kernel_rfl) (by kernel_rfl)) rfl rfl fun w => (Any.strings_Repeat Tryz.lays105 Tryz.builder105 (st s) c w hc hl)
theorem qmg (s : List UInt8) (n : Int) (hs : s.length ≤ 18) (h : Lib.atoi s = some n) : PC Tryz.prog 137 [sv (st s)] [] (.tup [iv n, .av .nilIface]) [] :=
 qcc (qdo Tryz.func137 (by kernel_rfl) (by kernel_rfl)) rfl rfl fun w => (Any.strconv_Atoi Tryz.lays172 (st s) n hs h w).mono fun e w' ⟨h1, t, h2⟩ => ⟨h1, h2 ▸ Lib.bytesWorld_below _ _ _⟩
theorem qbw (n : Int) (h0 : -9223372036854775808 ≤ n) (h1 : n ≤ 9223372036854775807) : PC Tryz.prog 28 [iv n] [] (sv (st (Lib.itoa n))) [] :=
 qok (qdo Tryz.func28 (by kernel_rfl) (by kernel_rfl)) rfl rfl fun w hL => (Any.strconv_Itoa Tryz.laysM171 n h0 h1 w hL.2.1).mono fun e w' ⟨h1, k, os, h2⟩ => ⟨h1, h2 ▸ Lib.below_grow _ _ (Nat.le_refl _) _ _⟩
theorem qrj (s : List UInt8) : PC Tryz.prog 116 [sv (st s)] [] (.tup [.av (.int .i32 (((Lib.decodeGo (st s)).1 : Nat) : Int)), iv (((Lib.decodeGo (st s)).2 : Nat) : Int)]) [] :=
 qok (qdo Tryz.func116 (by kernel_rfl) (by kernel_rfl)) rfl rfl fun w hL => (Any.utf8_DecodeRuneInString Tryz.lays197 (st s) w hL.2.2)
end Go.Proofs.YtmlnilkbolcknaaGreatDoor.Pm
namespace Go.Proofs
open Go.Shelf
def Tryz.lays195_ren : Go.Shelf.Ren := ⟨fun | 195 => 119 | n => n, fun | 9 => 9 | 3 => 3 | 0 => 0 | 4 => 4 | n => n, fun | n => n⟩
theorem Tryz.lays195 : Go.Proofs.Lays.n195 Tryz.prog Tryz.lays195_ren := {
  mixed := by kernel_rfl,
  f195 := Tryz.func119.trans (congrArg some (by kernel_rfl)),
  t0 := Tryz.underlying0,
  a0 := Tryz.isAgg0,
  z0 := Tryz.sizeOf0,
  v0 := Tryz.zeroValue0,
  t3 := Tryz.underlying3,
  a3 := Tryz.isAgg3,
  z3 := Tryz.sizeOf3,
  v3 := Tryz.zeroValue3,
  t4 := Tryz.underlying4,
  a4 := Tryz.isAgg4,
  z4 := Tryz.sizeOf4,
  v4 := Tryz.zeroValue4,
  t9 := Tryz.underlying9,
  a9 := Tryz.isAgg9,
  z9 := Tryz.sizeOf9,
  v9 := Tryz.zeroValue9 }
end Go.Proofs
namespace Go.Proofs.YtmlnilkbolcknaaGreatDoor.Pm
open Go Go.RowKit
theorem runes_pc (s : List UInt8) (hs : s.length < 9223372036854775807) : PC Tryz.prog 119 [sv (st s)] [] (iv (qku s : Nat)) [] :=
 qcc (qdo Tryz.func119 (by kernel_rfl) (by kernel_rfl)) rfl rfl fun w => (Any.utf8_RuneCountInString Tryz.lays195 (st s) w hs).mono fun e w' ⟨h1, pos, h2⟩ => ⟨h1, h2 ▸ (Below.refl _ _).alloc (Nat.le_refl _) _⟩
end Go.Proofs.YtmlnilkbolcknaaGreatDoor.Pm
namespace Go.Proofs.YtmlnilkbolcknaaGreatDoor.Pm
open Go Go.Proofs.YtmlnilkbolcknaaGreatDoor.Pi

set_option maxRecDepth 100000 in
set_option maxHeartbeats 4000000 in
theorem qto (s : List UInt8) (hs : s.length ≤ 9223372036854775807) : PC Tryz.prog 23 [(sv (st s))] [] (bv (qec s)) [] := by
 refine qas Tryz.func23 rfl (by kernel_rfl) (Nat.le_of_ble_eq_true rfl) (by kernel_rfl) (l0 := [ps 0 (sv (st s))]) rfl (fun c0 Bor hc0 => ?_)
 refine qaa ?_
 refine T_k mixed [] [.r] [] (oz) ?_
 refine qaa ?_
 by_cases h1 : s = ([] : List UInt8)
 ·refine T_r mixed [(1, .val (.av (.bool (!decide (s = ([] : List UInt8)))))), (3, .gd false .no), (4, .gd false .no), (5, .gd false .no), (6, .yes false), (8, .gd false .no), (9, .gd false .no), (10, .gd false .no)] [ps 2 (bv false)] (oc (qhe _ _ : (!((st s).toList == (st ([] : List UInt8)).toList)) = !decide (s = ([] : List UInt8))) (oc (bt h1) (oc (bt h1) (oc (bt h1) (oc (bt h1) (oc (rfl : false = false) (oc (rfl : false = false) (oc (rfl : false = false) oz)))))))) ?_
  rw [show qec s = false from by unfold qec; rw [Bool.eq_iff_iff]; simp only [← trim_nil, decide_eq_true_eq, reduceCtorEq]; constructor <;> intro hh <;> simp_all <;> omega]
  exact qai fun cx_ a_ hI_ => rt hc0 [ps 2 (bv false)] [] hI_
 by_cases h2 : ((s.length : Nat) : Int) ≤ 32
 ·refine T_r mixed [(1, .val (.av (.bool (!decide (s = ([] : List UInt8)))))), (3, .gd true (.no)), (4, .gd true (.no)), (5, .gd true (.no)), (6, .yes true), (8, .gd true (.no)), (9, .gd true (.call [] [(sv (st s)), (sv (st ([97, 98, 99, 100, 101, 102, 103, 104, 105, 106, 107, 108, 109, 110, 111, 112, 113, 114, 115, 116, 117, 118, 119, 120, 121, 122] : List UInt8)))] [] (sv (st (Lib.trimS s abc))) [])), (10, .gd true (.val (.av (.bool (decide ((Lib.trimS s abc) = ([] : List UInt8))))))), (11, .yes true)] [ps 2 (bv (decide ((Lib.trimS s abc) = ([] : List UInt8))))] (oc (qhe _ _ : (!((st s).toList == (st ([] : List UInt8)).toList)) = !decide (s = ([] : List UInt8))) (oc (bf h1) (oc (bf h1) (oc (bf h1) (oc (bf h1) (oc (dty h2) (oc (dty h2) (oc (qhc s abc hs (by decide) abc_ascii) (oc (rfl : Ren0 80 [(sv (st s)), (sv (st ([97, 98, 99, 100, 101, 102, 103, 104, 105, 106, 107, 108, 109, 110, 111, 112, 113, 114, 115, 116, 117, 118, 119, 120, 121, 122] : List UInt8)))]) (oc (dty h2) (oc (qdm _ _ : ((st (Lib.trimS s abc)).toList == (st ([] : List UInt8)).toList) = decide ((Lib.trimS s abc) = ([] : List UInt8))) (oc (dty h2) oz)))))))))))) ?_
  rw [show qec s = (decide ((Lib.trimS s abc) = ([] : List UInt8))) from by unfold qec; rw [Bool.eq_iff_iff]; simp only [← trim_nil, decide_eq_true_eq, reduceCtorEq]; constructor <;> intro hh <;> simp_all <;> omega]
  exact qai fun cx_ a_ hI_ => rt hc0 [ps 2 (bv (decide ((Lib.trimS s abc) = ([] : List UInt8))))] [] hI_
 refine T_r mixed [(1, .val (.av (.bool (!decide (s = ([] : List UInt8)))))), (3, .gd true (.no)), (4, .gd true (.no)), (5, .gd true (.no)), (6, .yes true), (8, .gd false .no), (9, .gd false .no), (10, .gd false .no), (11, .yes false)] [ps 2 (bv false)] (oc (qhe _ _ : (!((st s).toList == (st ([] : List UInt8)).toList)) = !decide (s = ([] : List UInt8))) (oc (bf h1) (oc (bf h1) (oc (bf h1) (oc (bf h1) (oc (dtn h2) (oc (dtn h2) (oc (dtn h2) (oc (dtn h2) oz))))))))) ?_
 rw [show qec s = false from by unfold qec; rw [Bool.eq_iff_iff]; simp only [← trim_nil, decide_eq_true_eq, reduceCtorEq]; constructor <;> intro hh <;> simp_all <;> omega]
 exact qai fun cx_ a_ hI_ => rt hc0 [ps 2 (bv false)] [] hI_
set_option maxRecDepth 100000 in
set_option maxHeartbeats 4000000 in
theorem fair_pc (r l : Int) : PC Tryz.prog 120 [(.av (.int .i32 r)), (iv l)] [] (bv (qdr r l)) [] := by
 refine qas Tryz.func120 rfl (by kernel_rfl) (Nat.le_of_ble_eq_true rfl) (by kernel_rfl) (l0 := [ps 0 (.av (.int .i32 r)), ps 1 (iv l)]) rfl (fun c0 Bor hc0 => ?_)
 refine qaa ?_
 refine T_k mixed [] [.r] [] (oz) ?_
 refine qaa ?_
 by_cases h1 : 32 ≤ r
 ·by_cases h2 : r = 34
  ·refine T_r mixed [(3, .gd true (.no)), (4, .gd true (.no)), (5, .yes true), (7, .gd false .no), (8, .gd false .no), (9, .yes false), (11, .gd false .no), (12, .gd false .no), (13, .gd false .no), (16, .gd false .no)] [ps 4 (bv false)] (oc (dty h1) (oc (dty h1) (oc (dty h1) (oc (bt h2) (oc (bt h2) (oc (bt h2) (oc (rfl : false = false) (oc (rfl : false = false) (oc (rfl : false = false) (oc (rfl : false = false) oz)))))))))) ?_
   rw [show qdr r l = false from by unfold qdr; rw [Bool.eq_iff_iff]; simp only [decide_eq_true_eq]; constructor <;> intro hh <;> first | trivial | rfl | omega | (cases hh; done)]
   exact qai fun cx_ a_ hI_ => rt hc0 [ps 4 (bv false)] [] hI_
  by_cases h3 : r = 127
  ·refine T_r mixed [(3, .gd true (.no)), (4, .gd true (.no)), (5, .yes true), (7, .gd true (.no)), (8, .gd true (.no)), (9, .yes true), (11, .gd false .no), (12, .gd false .no), (13, .gd false .no), (16, .gd false .no), (17, .yes false)] [ps 4 (bv false)] (oc (dty h1) (oc (dty h1) (oc (dty h1) (oc (bf h2) (oc (bf h2) (oc (bf h2) (oc (bt h3) (oc (bt h3) (oc (bt h3) (oc (bt h3) (oc (bt h3) oz))))))))))) ?_
   rw [show qdr r l = false from by unfold qdr; rw [Bool.eq_iff_iff]; simp only [decide_eq_true_eq]; constructor <;> intro hh <;> first | trivial | rfl | omega | (cases hh; done)]
   exact qai fun cx_ a_ hI_ => rt hc0 [ps 4 (bv false)] [] hI_
  by_cases h4 : r = 65533
  ·refine T_r mixed [(3, .gd true (.no)), (4, .gd true (.no)), (5, .yes true), (7, .gd true (.no)), (8, .gd true (.no)), (9, .yes true), (11, .gd true (.no)), (12, .gd true (.no)), (13, .gd true (.no)), (14, .gd false (.no)), (15, .gd false (.no)), (16, .gd true (.yes false)), (17, .yes true)] [ps 4 (bv (decide (1 < l)))] (oc (dty h1) (oc (dty h1) (oc (dty h1) (oc (bf h2) (oc (bf h2) (oc (bf h2) (oc (bf h3) (oc (bf h3) (oc (bf h3) (oc (bt h4) (oc (bt h4) (oc (bf h3) (oc (bt h4) (oc (bf h3) oz)))))))))))))) ?_
   rw [show qdr r l = (decide (1 < l)) from by unfold qdr; rw [Bool.eq_iff_iff]; simp only [decide_eq_true_eq]; constructor <;> intro hh <;> first | trivial | rfl | omega | (cases hh; done)]
   exact qai fun cx_ a_ hI_ => rt hc0 [ps 4 (bv (decide (1 < l)))] [] hI_
  refine T_r mixed [(3, .gd true (.no)), (4, .gd true (.no)), (5, .yes true), (7, .gd true (.no)), (8, .gd true (.no)), (9, .yes true), (11, .gd true (.no)), (12, .gd true (.no)), (13, .gd true (.no)), (14, .gd true .no), (15, .gd true .no), (16, .gd true (.yes true)), (17, .yes true)] [ps 4 (bv true)] (oc (dty h1) (oc (dty h1) (oc (dty h1) (oc (bf h2) (oc (bf h2) (oc (bf h2) (oc (bf h3) (oc (bf h3) (oc (bf h3) (oc (bf h4) (oc (bf h4) (oc (bf h3) (oc (bf h4) (oc (bf h3) oz)))))))))))))) ?_
  rw [show qdr r l = true from by unfold qdr; rw [Bool.eq_iff_iff]; simp only [decide_eq_true_eq]; constructor <;> intro hh <;> first | trivial | rfl | omega | (cases hh; done)]
  exact qai fun cx_ a_ hI_ => rt hc0 [ps 4 (bv true)] [] hI_
 refine T_r mixed [(3, .gd false .no), (4, .gd false .no), (5, .yes false), (7, .gd false .no), (8, .gd false .no), (11, .gd false .no), (12, .gd false .no), (13, .gd false .no), (16, .gd false .no)] [ps 4 (bv false)] (oc (dtn h1) (oc (dtn h1) (oc (dtn h1) (oc (rfl : false = false) (oc (rfl : false = false) (oc (rfl : false = false) (oc (rfl : false = false) (oc (rfl : false = false) (oc (rfl : false = false) oz))))))))) ?_
 rw [show qdr r l = false from by unfold qdr; rw [Bool.eq_iff_iff]; simp only [decide_eq_true_eq]; constructor <;> intro hh <;> first | trivial | rfl | omega | (cases hh; done)]
 exact qai fun cx_ a_ hI_ => rt hc0 [ps 4 (bv false)] [] hI_
end Go.Proofs.YtmlnilkbolcknaaGreatDoor.Pm
namespace Go.Proofs.YtmlnilkbolcknaaGreatDoor.Pm
open Go Go.Proofs.YtmlnilkbolcknaaGreatDoor.Pi

set_option maxRecDepth 100000 in
set_option maxHeartbeats 4000000 in
theorem sung_pc (s : List UInt8) (hs : s.length ≤ 140737488351232) : PC Tryz.prog 90 [(sv (st s))] [] (bv (qhd s)) [] := by
 refine qas Tryz.func90 rfl (by kernel_rfl) (Nat.le_of_ble_eq_true rfl) (by kernel_rfl) (l0 := [ps 0 (sv (st s))]) rfl (fun c0 Bor hc0 => ?_)
 refine qaa ?_
 refine T_k mixed [] [.r] [] (oz) ?_
 refine qaa <| qaa ?_
 refine T_k mixed [(1, .call [] [(sv (st s))] [] (nv (qku s)) [])] [.k1, .n] [ps 3 (nv (qku s))] (oc (runes_pc s (by omega)) (oc (rfl : Ren0 16 [(sv (st s))]) oz)) ?_
 refine qaa ?_
 by_cases h1 : ((qku s : Nat) : Int) < 1
 ·refine T_k mixed [(3, .gd true .no), (4, .gd true .no), (5, .yes true)] [.k1, .d, .n] [ps 13 (bv true)] (oc (dty h1) (oc (dty h1) (oc (dty h1) oz))) ?_
  refine qau (b := true) rfl rfl ?_
  refine qaa ?_
  refine T_r mixed [] [ps 2 (bv false)] (oz) ?_
  rw [show qhd s = false from by unfold qhd; rw [dtn (by omega), Bool.false_and]]
  exact qai fun cx_ a_ hI_ => rt hc0 [ps 2 (bv false)] [] hI_
 refine T_k mixed [(3, .gd false (.no)), (4, .gd false (.no)), (5, .yes false)] [.k1, .d, .n] [ps 13 (bv (decide (100 < ((qku s : Nat) : Int))))] (oc (dtn h1) (oc (dtn h1) (oc (dtn h1) oz))) ?_
 by_cases h2 : 100 < ((qku s : Nat) : Int)
 ·refine T_th (dty h2) ?_
  refine qaa ?_
  refine T_r mixed [] [ps 2 (bv false)] (oz) ?_
  rw [show qhd s = false from by unfold qhd; rw [dtn (by omega), Bool.false_and]]
  exact qai fun cx_ a_ hI_ => rt hc0 [ps 2 (bv false)] [] hI_
 refine T_el (dtn h2) ?_
 refine qag <| qaa <| qan ?_
 refine qcm (α := {x : List UInt8 // x.length ≤ s.length ∧ qfm x = qfm s}) (fun x => [ps 0 (sv (st x.1))]) (fun x => x.1.length) 0 ⟨s, ⟨Nat.le_refl _, rfl⟩⟩ (Wk.ren2 [ps 0 (sv (st s))] 0 hc0 [] rfl rfl (by kernel_rfl) (by kernel_rfl)) ?_
 rintro ⟨t, ⟨ht1, ht2⟩⟩
 refine qaa <| qaa ?_
 refine T_r mixed [(1, .val (.av (.bool (!decide (t = ([] : List UInt8))))))] [ps 0 (sv (st t)), ps 15 (bv (!(decide (t = ([] : List UInt8)))))] (oc (qhe _ _ : (!((st t).toList == (st ([] : List UInt8)).toList)) = !decide (t = ([] : List UInt8))) oz) ?_
 by_cases h3 : t = ([] : List UInt8)
 ·refine T_el (bt h3) ?_
  refine qbu rfl rfl ?_
  refine qaa ?_
  refine T_r mixed [] [ps 2 (bv true)] (oz) ?_
  rw [show qhd s = true from by unfold qhd; rw [← ht2, h3, qsz, Bool.and_true, decide_eq_true_eq]; omega]
  exact qai fun cx_ a_ hI_ => rt hc0 [ps 2 (bv true)] [] hI_
 refine T_th (bf h3) ?_
 refine qag <| qan <| qaa ?_
 have hdl := qlx t
 refine T_r mixed [(1, .call [] [(sv (st t))] [] (.tup [(.av (.int .i32 ((dec1 t : Nat) : Int))), (nv (dec2 t))]) [])] [ps 0 (sv (st t)), ps 4 (.av (.int .i32 ((dec1 t : Nat) : Int))), ps 5 (nv (dec2 t))] (oc (qrj t) (oc (rfl : Ren0 24 [(sv (st t))]) oz)) ?_
 refine qaa <| qaa ?_
 refine T_k mixed [(2, .call [] [(.av (.int .i32 ((dec1 t : Nat) : Int))), (nv (dec2 t))] [] (bv (qdr ((dec1 t : Nat) : Int) ((dec2 t : Nat) : Int))) [])] [.k1, .d, .k1, .n] [ps 24 (bv (!(qdr ((dec1 t : Nat) : Int) ((dec2 t : Nat) : Int))))] (oc (fair_pc _ _ : PC Tryz.prog 120 [(.av (.int .i32 ((dec1 t : Nat) : Int))), (nv (dec2 t))] [] (bv (qdr ((dec1 t : Nat) : Int) ((dec2 t : Nat) : Int))) []) (oc (rfl : Ren0 88 [(.av (.int .i32 ((dec1 t : Nat) : Int))), (nv (dec2 t))]) oz)) ?_
 by_cases h4 : (qdr ((dec1 t : Nat) : Int) ((dec2 t : Nat) : Int)) = true
 ·refine T_el (congrArg Bool.not h4) ?_
  refine qag ?_
  refine T_r mixed [(2, .val (.av (.string (st (t.drop (dec2 t))))))] [ps 0 (sv (st (t.drop (dec2 t))))] (oc (by first | omega | (simp only [List.length_cons, List.length_nil, List.length_drop, List.length_append, List.length_take]; omega) : (0 : Int) ≤ ((dec2 t : Nat) : Int) ∧ ((dec2 t : Nat) : Int) ≤ ((t.length : Nat) : Int) ∧ ((t.length : Nat) : Int) ≤ ((t.length : Nat) : Int)) (oc (qft _ _ _ rfl : (st t).extract (((dec2 t : Nat) : Int) : Int).toNat (((t.length : Nat) : Int) : Int).toNat = st (t.drop (dec2 t))) oz)) ?_
  refine qbg ?_
  have hfa := qjp (s := t) h3
  rw [h4, Bool.true_and] at hfa
  have hdp := qkh (l := t) h3
  exact qce ⟨t.drop (dec2 t), ⟨by rw [List.length_drop]; omega, by rw [← hfa]; exact ht2⟩⟩ (Wk.trans (Wk.eq (show _ = [ps 0 (sv (st (t.drop (dec2 t))))] from by rfl)) (Wk.ren2 [ps 0 (sv (st (t.drop (dec2 t))))] 0 hc0 [] rfl rfl (by kernel_rfl) (by kernel_rfl))) (show (t.drop (dec2 t)).length < t.length from by show (t.drop (dec2 t)).length < t.length; rw [List.length_drop]; omega)
 refine T_th (congrArg Bool.not (Bool.eq_false_iff.2 h4)) ?_
 refine qaa ?_
 refine T_r mixed [] [ps 2 (bv false)] (oz) ?_
 rw [show qhd s = false from by unfold qhd; rw [← ht2, qjp (s := t) h3, eq_false_of_ne_true h4, Bool.false_and, Bool.and_false]]
 exact qai fun cx_ a_ hI_ => qav (rt hc0 [ps 2 (bv false)] [] hI_)
end Go.Proofs.YtmlnilkbolcknaaGreatDoor.Pm
namespace Go.Proofs.YtmlnilkbolcknaaGreatDoor
open Go

section
variable {P : Program} {ops : Array Oper} {md : Region.Mode} {C : World → Prop}

/-- Whatever order is picked for the first n operations; then L. -/
def qpl (P : Program) (md : Region.Mode) (ops : Array Oper) (C : World → Prop) (n : Nat) (L : Array Bool → Act → Prop) : Nat → Array Bool → Act → Prop
 | 0, listed, a => L listed a
 | f + 1, listed, a => Region.ready md ops listed ≠ [] ∧ ∀ i ∈ Region.ready md ops listed, i < n ∧ qOp P ops C i (qpl P md ops C n L f (listed.setIfInBounds i true)) a

theorem qgt {n g : Nat} {L : Array Bool → Act → Prop} {Q' : Exit → Act → World → Prop} (hL : ∀ listed a w, C w → L listed a → wpAny P md ops Q' g listed a w) :
  ∀ (f : Nat) (listed : Array Bool) (a : Act) (w : World), C w → qpl P md ops C n L f listed a → wpAny P md ops Q' (f + g) listed a w
 | 0, _, _, _, hw, h => by rw [Nat.zero_add]; exact hL _ _ _ hw h
 | f + 1, _, _, _, hw, h => by
  rw [show f + 1 + g = (f + g) + 1 by omega]
  exact ⟨fun h0 => absurd h0 h.1, fun i hi => wpOp_of_qOp hw (fun a' w' hw' h' => qgt hL f _ a' w' hw' h') (h.2 i hi).2⟩

theorem qpk {n i : Nat} {oi : Oper} {v : Value} {L : Array Bool → Act → Prop} (hi : ops[i]? = some oi) (hsel : ∀ (j : Nat) (o : Oper) cs b, ops[j]? = some o → o.op ≠ .select cs b)
  (hs : Region.sinkB md ops n = true) (hc : Region.chainB md ops n = true) (hn : n < ops.size) (hin : i < n)
  (hdone : ∀ listed a, L listed a → ∀ j ∈ Region.ready md ops listed, n ≤ j) :
  ∀ (f : Nat) (listed : Array Bool) (a : Act), HeadInv md ops n listed →
   (∀ j oj, ops[j]? = some oj → j ≠ i → listed.getD j true = false → (∀ e ∈ oj.after, Region.binds md e = true → e.on ≠ i) → oi.apart ops oj = true) →
   i ∈ Region.ready md ops listed → YieldsIn P ops C oi v a →
   qpl P md ops C n L f (listed.setIfInBounds i true) (a.put oi.dst v) → qpl P md ops C n L (f + 1) listed a := by
 intro f
 induction f with
 | zero =>
  intro listed a inv _ hr hy H
  have hun := (mem_ready.1 hr).1
  refine ⟨fun h => (by rw [h] at hr; cases hr), fun j hj => ?_⟩
  have hjn : j < n := by
   rcases Nat.lt_or_ge j n with h | h
   ·exact h
   ·exact absurd hj (tail_waits hs hc hn inv _ i rfl hin hun j h)
  refine ⟨hjn, ?_⟩
  by_cases hji : j = i
  ·subst hji; exact hy.qOp hi H
  ·have := hdone _ _ H j (ready_mono hj hji)
   omega
 | succ f ih =>
  intro listed a inv hfree hr hy H
  have hun := (mem_ready.1 hr).1
  refine ⟨fun h => (by rw [h] at hr; cases hr), fun j hj => ?_⟩
  have hjn : j < n := by
   rcases Nat.lt_or_ge j n with h | h
   ·exact h
   ·exact absurd hj (tail_waits hs hc hn inv _ i rfl hin hun j h)
  refine ⟨hjn, ?_⟩
  by_cases hji : j = i
  ·subst hji; exact hy.qOp hi H
  ·have h1 := (H.2 j (ready_mono hj hji)).2
   obtain ⟨hjun, oj, hoj, hall⟩ := mem_ready.1 hj
   have hnot : ∀ e ∈ oj.after, Region.binds md e = true → e.on ≠ i := fun e he hb heq => by
    have h1 := hall e he hb
    rw [heq, getD_both hun] at h1
    cases h1
   have h2 := qOp_put hoj (hfree j oj hoj hji hjun hnot) (fun cs b => hsel i oi cs b hi) (fun cs b => hsel j oj cs b hoj) hy h1
   have hfree' : ∀ k ok, ops[k]? = some ok → k ≠ i → (listed.setIfInBounds j true).getD k true = false →
     (∀ e ∈ ok.after, Region.binds md e = true → e.on ≠ i) → oi.apart ops ok = true := fun k ok hk hki hun hno => by
    refine hfree k ok hk hki ?_ hno
    by_cases hjk : j = k
    ·subst hjk; exact hjun
    ·rw [getD_set_ne true hjk] at hun; exact hun
   refine qOp_mono (fun a' h3 => ih (listed.setIfInBounds j true) a' (inv.set hj hjn) hfree' (ready_mono hr (Ne.symm hji)) h3.1 ?_) h2
   rw [Array.setIfInBounds_comm _ _ hji]
   exact h3.2

theorem qmr {n g : Nat} {Lq : Act → Prop} (hsel : Region.noSelect ops = true) (hs : Region.sinkB md ops n = true) (hc : Region.chainB md ops n = true) (hn : n < ops.size) :
  ∀ (l : List Oper) (k : Nat) (listed : Array Bool) (a : Act), (∀ j, j < l.length → l[j]? = ops[k + j]?) → k + l.length = n → HeadInv md ops n listed →
  Region.lexHead md ops g l.length k listed = true → wpQuiet P ops C Lq l a →
  qpl P md ops C n (fun listed' a' => Region.seqB md ops g n listed' = true ∧ Lq a') l.length listed a
 | [], k, _, _, _, hk, _, hB, h => by
  have : k = n := by simpa using hk
  subst this
  exact ⟨by simpa [Region.lexHead] using hB, h⟩
 | o :: l, k, listed, a, hl, hk, inv, hB, h => by
  have h0 : ops[k]? = some o := by simpa using (hl 0 (by simp)).symm
  simp only [List.length_cons, Region.lexHead, Bool.and_eq_true] at hB
  obtain ⟨⟨hr, hf⟩, hB'⟩ := hB
  have hkn : k < n := by simp only [List.length_cons] at hk; omega
  have hr' : k ∈ Region.ready md ops listed := by simpa using hr
  have hst : qOp P ops C k (wpQuiet P ops C Lq l) a := by unfold qOp; simp only [h0]; exact h
  obtain ⟨v, hy, hK⟩ := yieldsIn_of_qOp h0 hst
  exact qpk h0 (Region.noSelect_spec hsel) hs hc hn hkn (fun listed' a' hL => seqB_ready hL.1) l.length listed a inv (Region.free_spec h0 hf) hr' hy
   (qmr hsel hs hc hn l (k + 1) _ _ (fun j hj => by have := hl (j + 1) (by simp; omega); simpa [Nat.add_assoc, Nat.add_comm 1 j] using this) (by simp only [List.length_cons] at hk; omega) (inv.set hr' hkn) hB' hK)

/-- THE FIRST n OPERATIONS QUIET IN C, THE REST FORCED: one walk. -/
theorem qgq {id : Nat} {Q : Exit → Act → World → Prop} {a : Act} {w : World} {l : List Oper} (C : World → Prop) (n : Nat) (hm : P.follows .mixedOrders = true) (hB : Region.lexTailB .any l.toArray n = true)
  (hC : C { w with drawn := w.drawn + 1 })
  (h : wpQuiet P l.toArray C (fun a' => ∀ w', C w' → wpList P l.toArray Q (l.drop n) a' w') (l.take n) a) : (Code.region id l.toArray true).wp P Q a w := by
 simp only [Region.lexTailB, Bool.and_eq_true, decide_eq_true_eq] at hB
 obtain ⟨⟨⟨⟨hsel, hn⟩, hs⟩, hc⟩, hlex⟩ := hB
 have hn' : n < l.length := by simpa using hn
 have htl : (l.take n).length = n := by simp; omega
 have hdl : (l.drop n).length = l.toArray.size - n := by simp
 have inv0 : HeadInv .any l.toArray n (Array.replicate l.toArray.size false) :=
  ⟨by simp, fun j oj _ hl => (by rw [getD_replicate_false] at hl; cases hl), fun t _ ht => getD_in (by simpa using ht) (getD_replicate_false _ _)⟩
 have H := qmr (md := .any) (g := l.toArray.size - n) hsel hs hc hn (l.take n) 0 _ a (fun j hj => by
  have hj' : j < n := by rw [htl] at hj; exact hj
  simp [hj']) (by simpa using htl) inv0 (by rw [htl]; exact hlex) h
 refine wp_region_any hm ?_
 have := qgt (Q' := Q) (g := l.toArray.size - n) (fun listed a' w' hw' hL => by
  have := wpAny_of_seq (md := .any) (Q' := Q) (l.drop n) n listed a' w' (fun j => by simp [List.getElem?_drop]) (by rw [hdl]; exact hL.1) (hL.2 w' hw')
  rwa [hdl] at this) _ _ _ _ hC H
 rw [htl, show n + (l.toArray.size - n) = l.toArray.size by omega] at this
 exact this

end

/-- A world with more in it: what was there is as it was. -/
structure Ext (w : World) where
 u : World
 h : RowKit.Below w.heap.size w u
instance Ext.some_ (w : World) : Nonempty (Ext w) := ⟨⟨w, RowKit.Below.refl _ _⟩⟩
theorem Ext.cells (w : World) : ∀ (d : Ext w) (b o : Nat), b < w.heap.size → d.u.cell? ⟨b, o, none⟩ = w.cell? ⟨b, o, none⟩ := fun d b o h => d.h.cell (p := ⟨b, o, none⟩) h

section
variable {P : Program}
theorem qhp {id : Nat} {Q : Exit → Act → World → Prop} {a : Act} {w : World} {l : List Oper} (n : Nat) (hm : P.follows .mixedOrders = true) (hB : Region.lexTailB .any l.toArray n = true)
  (h : wpQuiet P l.toArray (fun w' => ∃ d : Ext w, w' = d.u) (fun a' => ∀ w', (∃ d : Ext w, w' = d.u) → wpList P l.toArray Q (l.drop n) a' w') (l.take n) a) :
  (Code.region id l.toArray true).wp P Q a w :=
 qgq (fun w' => ∃ d : Ext w, w' = d.u) n hm hB ⟨⟨{ w with drawn := w.drawn + 1 }, rfl, rfl, rfl, Nat.le_refl _, fun _ _ => rfl⟩, rfl⟩ h
theorem qnu {id : Nat} {Q : Exit → Act → World → Prop} {a : Act} {w : World} {l : List Oper} (hm : P.follows .mixedOrders = true) (hB : Region.lexB .any l.toArray = true)
  (h : wpQuiet P l.toArray (fun w' => ∃ d : Ext w, w' = d.u) (fun a' => ∀ w', (∃ d : Ext w, w' = d.u) → Q .normal a' w') l a) :
  (Code.region id l.toArray true).wp P Q a w :=
 wp_region_quiet (C := fun w' => ∃ d : Ext w, w' = d.u) hm hB ⟨⟨{ w with drawn := w.drawn + 1 }, rfl, rfl, rfl, Nat.le_refl _, fun _ _ => rfl⟩, rfl⟩ (by simpa using h)
/-- A call in such a region, by the callee's contract. -/
theorem qvx {f : FuncId} {args : Array Value} {w : World} {d : Ext w} {v : Value} (h : Calls P f args d.u fun e w' => e = .returned v ∧ RowKit.Below d.u.heap.size d.u w') :
  Calls P f args d.u fun e w'' => e = .returned v ∧ ∃ d' : Ext w, w'' = d'.u :=
 h.mono fun _ w' ⟨he, hb⟩ => ⟨he, ⟨w', d.h.trans (hb.mono d.h.size)⟩, rfl⟩
theorem ext_same {f : FuncId} {args : Array Value} {w : World} {d : Ext w} {v : Value} (h : Calls P f args d.u fun e w' => e = .returned v ∧ d.u = w') :
  Calls P f args d.u fun e w'' => e = .returned v ∧ ∃ d' : Ext w, w'' = d'.u :=
 h.mono fun _ _ ⟨he, hb⟩ => ⟨he, d, hb.symm⟩
end
end Go.Proofs.YtmlnilkbolcknaaGreatDoor
namespace Go.Proofs.YtmlnilkbolcknaaGreatDoor.Pi
open Go.RowKit

def I64 (n : Int) : Prop := -9223372036854775808 ≤ n ∧ n ≤ 9223372036854775807
set_option maxHeartbeats 1000000 in
theorem qli (l : Int) (w : World) :
  Calls Tryz.prog 123 #[.int .i64 l] w fun e w' => e = .returned (.int .i64 (nat7 l)) ∧ w = w' := by
 have h : l = 0 ∨ l = 1 ∨ l = 2 ∨ l = 3 ∨ l = 4 ∨ l = 5 ∨ (¬ l = 0 ∧ ¬ l = 1 ∧ ¬ l = 2 ∧ ¬ l = 3 ∧ ¬ l = 4 ∧ ¬ l = 5) := by omega
 rcases h with rfl | rfl | rfl | rfl | rfl | rfl | ⟨h0, h1, h2, h3, h4, h5⟩
 all_goals
  go_enter Tryz.func123, Tryz.ntmps123
  go_wp2
  go_ret
  exact ⟨qdq (by unfold nat7; omega), rfl⟩

set_option maxHeartbeats 1000000 in
theorem right_any (l a o : Int) (w : World) :
  Calls Tryz.prog 89 #[.agg #[.int .i64 l, .int .i64 a, .int .i64 o]] w fun e w' => e = .returned (.bool (rightB l a o)) ∧ Below w.heap.size w w' := by
 by_cases h1 : 0 ≤ l
 ·by_cases h2 : l < 7
  ·by_cases h3 : -3 ≤ a
   ·by_cases h4 : a ≤ 3
    ·by_cases h5 : -12 ≤ o
     ·go_enter Tryz.func89, Tryz.ntmps89
      go_wp2
      go_ret
      refine ⟨qbi ?_, (by repeat (first | exact Below.refl _ _ | assumption | refine qam ?_ _ | refine Below.drew ?_ | refine qat ?_ _ | refine Below.setCell ?_ (by first | omega | (simp <;> omega)) _ | refine qaq (by assumption) ?_))⟩
      rw [Bool.eq_iff_iff, rightB_iff]; simp; omega
     ·go_enter Tryz.func89, Tryz.ntmps89
      go_wp2
      go_ret
      refine ⟨qbi ?_, (by repeat (first | exact Below.refl _ _ | assumption | refine qam ?_ _ | refine Below.drew ?_ | refine qat ?_ _ | refine Below.setCell ?_ (by first | omega | (simp <;> omega)) _ | refine qaq (by assumption) ?_))⟩
      rw [eq_comm, ← Bool.not_eq_true, rightB_iff]; omega
    ·go_enter Tryz.func89, Tryz.ntmps89
     go_wp2
     go_ret
     refine ⟨qbi ?_, (by repeat (first | exact Below.refl _ _ | assumption | refine qam ?_ _ | refine Below.drew ?_ | refine qat ?_ _ | refine Below.setCell ?_ (by first | omega | (simp <;> omega)) _ | refine qaq (by assumption) ?_))⟩
     rw [eq_comm, ← Bool.not_eq_true, rightB_iff]; omega
   ·go_enter Tryz.func89, Tryz.ntmps89
    go_wp2
    go_ret
    refine ⟨qbi ?_, (by repeat (first | exact Below.refl _ _ | assumption | refine qam ?_ _ | refine Below.drew ?_ | refine qat ?_ _ | refine Below.setCell ?_ (by first | omega | (simp <;> omega)) _ | refine qaq (by assumption) ?_))⟩
    rw [eq_comm, ← Bool.not_eq_true, rightB_iff]; omega
  ·go_enter Tryz.func89, Tryz.ntmps89
   go_wp2
   go_ret
   refine ⟨qbi ?_, (by repeat (first | exact Below.refl _ _ | assumption | refine qam ?_ _ | refine Below.drew ?_ | refine qat ?_ _ | refine Below.setCell ?_ (by first | omega | (simp <;> omega)) _ | refine qaq (by assumption) ?_))⟩
   rw [eq_comm, ← Bool.not_eq_true, rightB_iff]; omega
 ·go_enter Tryz.func89, Tryz.ntmps89
  go_wp2
  go_ret
  refine ⟨qbi ?_, (by repeat (first | exact Below.refl _ _ | assumption | refine qam ?_ _ | refine Below.drew ?_ | refine qat ?_ _ | refine Below.setCell ?_ (by first | omega | (simp <;> omega)) _ | refine qaq (by assumption) ?_))⟩
  rw [eq_comm, ← Bool.not_eq_true, rightB_iff]; omega

set_option maxHeartbeats 1000000 in
theorem qyw (l a o : Int) (w : World) (h : rightB l a o = true) :
  Calls Tryz.prog 154 #[.agg #[.int .i64 l, .int .i64 a, .int .i64 o]] w fun e w' => e = .returned (.int .i64 (steps l o)) ∧ Below w.heap.size w w' := by
 have hr := rightB_iff.1 h
 go_enter Tryz.func154, Tryz.ntmps154
 go_wp2
 go_ret
 exact ⟨qdq rfl, (by repeat (first | exact Below.refl _ _ | assumption | refine qam ?_ _ | refine Below.drew ?_ | refine qat ?_ _ | refine Below.setCell ?_ (by first | omega | (simp <;> omega)) _ | refine qaq (by assumption) ?_))⟩

theorem nat7_lo (l : Int) : 0 ≤ nat7 l := (nat7_range l).1
theorem nat7_hi (l : Int) : nat7 l ≤ 11 := (nat7_range l).2

set_option maxHeartbeats 1000000 in
theorem qxu (l a o : Int) (w : World) (ha : -1000000 ≤ a ∧ a ≤ 1000000) (ho : -1000000 ≤ o ∧ o ≤ 1000000) :
  Calls Tryz.prog 155 #[.agg #[.int .i64 l, .int .i64 a, .int .i64 o]] w fun e w' => e = .returned (.int .i64 (halves l a o)) ∧ Below w.heap.size w w' := by
 have h1 := nat7_lo l
 have h2 := nat7_hi l
 go_enter Tryz.func155, Tryz.ntmps155
 go_wp2
 go_quiet ((go_at_call 123; exact qiy (qli l _)))
 go_wp2
 go_ret
 exact ⟨qdq rfl, (by repeat (first | exact Below.refl _ _ | assumption | refine qam ?_ _ | refine Below.drew ?_ | refine qat ?_ _ | refine Below.setCell ?_ (by first | omega | (simp <;> omega)) _ | refine qaq (by assumption) ?_))⟩


end Go.Proofs.YtmlnilkbolcknaaGreatDoor.Pi
namespace Go.Proofs.YtmlnilkbolcknaaGreatDoor.Pi
open Go.RowKit

/-- Two integers and what is wrong; three. -/
def R3 (r : Int × Int × Int) : Value := .tuple #[.agg #[.int .i64 r.1, .int .i64 r.2.1], .int .i64 r.2.2]
def R2 (r : Int × Int) : Value := .tuple #[.int .i64 r.1, .int .i64 r.2]
theorem ret_R2 {r : Int × Int} {a b : Int} (h : r = (a, b)) : Ending.returned (.tuple #[.int .i64 a, .int .i64 b]) = .returned (R2 r) := by rw [h]; rfl
theorem three {n m : Nat} (h : n + 1 + 1 + 1 ≤ m) : n < m ∧ n + 1 < m ∧ n + 1 + 1 < m := by omega
theorem qmq : wrap64 9223372036854775808 = -9223372036854775808 := by unfold wrap64; decide

set_option maxHeartbeats 4000000 in
theorem qwt (s h : Int) (w : World) (hs : I64 s) (hh : I64 h) :
  Calls Tryz.prog 121 #[.agg #[.int .i64 s, .int .i64 h]] w fun e w' => e = .returned (.bool (withinB s h)) ∧ Below w.heap.size w w' := by
 unfold I64 at hs hh
 have hw := qmq
 have cs : s = -9223372036854775808 ∨ (-9223372036854775808 < s ∧ s < -200) ∨ (-200 ≤ s ∧ s ≤ 200) ∨ 200 < s := by omega
 have ch : h = -9223372036854775808 ∨ (-9223372036854775808 < h ∧ h < -4096) ∨ (-4096 ≤ h ∧ h ≤ 4096) ∨ 4096 < h := by omega
 rcases cs with rfl | ⟨c1, c2⟩ | ⟨c1, c2⟩ | c1 <;> rcases ch with rfl | ⟨d1, d2⟩ | ⟨d1, d2⟩ | d1
 all_goals
  go_enter Tryz.func121, Tryz.ntmps121
  go_wp2
  all_goals
   go_ret
   refine ⟨qbi ?_, (by repeat (first | exact Below.refl _ _ | assumption | refine qam ?_ _ | refine Below.drew ?_ | refine qat ?_ _ | refine Below.setCell ?_ (by first | omega | (simp <;> omega)) _ | refine qaq (by assumption) ?_))⟩
   rw [Bool.eq_iff_iff, withinB_iff]
   simp
   try omega


theorem tq (n k : Int) (hk : 0 < k) : k * n.tdiv k + n.tmod k = n ∧ -k < n.tmod k ∧ n.tmod k < k := by
 have h1 := Int.natAbs_tmod n k
 have h2 := Nat.mod_lt n.natAbs (show 0 < k.natAbs by omega)
 exact ⟨Int.mul_tdiv_add_tmod n k, by omega, by omega⟩

set_option maxHeartbeats 1000000 in
theorem floor_any (n : Int) (w : World) (h1 : -1000 ≤ n) (h2 : n ≤ 1000) :
  Calls Tryz.prog 122 #[.int .i64 n, .int .i64 7] w fun e w' => e = .returned (R2 (n / 7, n % 7)) ∧ ∃ k, w' = w.drewN k := by
 have t := tq n 7 (by omega)
 have e1 : IntKind.i64.wrap (n.tdiv 7) = n.tdiv 7 := IntWalk.i64_in _ (by omega)
 by_cases hc : n.tmod 7 < 0
 ·have HR := Lib.hid (show n.tdiv 7 - 1 = n / 7 ∧ n.tmod 7 + 7 = n % 7 by omega)
  have q1 : -1000 ≤ n.tdiv 7 ∧ n.tdiv 7 ≤ 1000 := by omega
  have q2 : -7 ≤ n.tmod 7 := by omega
  clear t
  go_enter Tryz.func122, Tryz.ntmps122
  go_wp2
  go_quiet (fail)
  go_wp2
  go_ret2
  exact ⟨ret_R2 (by rw [HR.out.1, HR.out.2]), nq, rfl⟩
 ·have HR := Lib.hid (show n.tdiv 7 = n / 7 ∧ n.tmod 7 = n % 7 by omega)
  have hc' : 0 ≤ n.tmod 7 := by omega
  clear t
  go_enter Tryz.func122, Tryz.ntmps122
  go_wp2
  go_quiet (fail)
  go_wp2
  go_ret2
  exact ⟨ret_R2 (by rw [HR.out.1, HR.out.2]), nq, rfl⟩

end Go.Proofs.YtmlnilkbolcknaaGreatDoor.Pi
namespace Go.Proofs.YtmlnilkbolcknaaGreatDoor.Pi
open Go.RowKit

theorem quv {l a o s h : Int} (k : rightB l a o = false) : move l a o s h = (0, 0, 0, 2) := by simp [move, k]
theorem quu {l a o s h : Int} (k : rightB l a o = true) (k2 : withinB s h = false) : move l a o s h = (0, 0, 0, 3) := by simp [move, k, k2]

theorem at_yes {S H : Int} (k : rightB (S % 7) (H - halves (S % 7) 0 (S / 7)) (S / 7) = true) : at_ S H = (S % 7, H - halves (S % 7) 0 (S / 7), S / 7, 0) := by
 have e : H - halves (S % 7) 0 (S / 7) = H - (12 * (S / 7) + nat7 (S % 7)) := by unfold halves; omega
 rw [e] at k ⊢
 unfold at_
 rw [if_pos k]
theorem at_no {S H : Int} (k : rightB (S % 7) (H - halves (S % 7) 0 (S / 7)) (S / 7) = false) : at_ S H = (0, 0, 0, 3) := by
 have e : H - halves (S % 7) 0 (S / 7) = H - (12 * (S / 7) + nat7 (S % 7)) := by unfold halves; omega
 rw [e] at k
 unfold at_
 rw [if_neg (by rw [k]; exact Bool.false_ne_true)]
theorem halves_bd (S : Int) (h : -1000 ≤ S ∧ S ≤ 1000) : -2000 ≤ halves (S % 7) 0 (S / 7) ∧ halves (S % 7) 0 (S / 7) ≤ 2000 := by
 have := nat7_range (S % 7)
 unfold halves
 omega
end Go.Proofs.YtmlnilkbolcknaaGreatDoor.Pi
namespace Go.Proofs.YtmlnilkbolcknaaGreatDoor.Pi
open Go.RowKit

theorem abs_any (n : Int) (w : World) (h1 : -9223372036854775808 < n) (h2 : n ≤ 9223372036854775807) :
  Calls Tryz.prog 55 #[.int .i64 n] w fun e w' => e = .returned (.int .i64 (n.natAbs : Int)) ∧ w = w' := by
 go_enter Tryz.func55, Tryz.ntmps55
 go_wp2
 all_goals
  go_ret
  exact ⟨qdq (by omega), rfl⟩
theorem abs_least (w : World) :
  Calls Tryz.prog 55 #[.int .i64 (-9223372036854775808)] w fun e w' => e = .returned (.int .i64 (-9223372036854775808)) ∧ w = w' := by
 have hw := qmq
 go_enter Tryz.func55, Tryz.ntmps55
 go_wp2
 go_ret
 exact ⟨qdq hw, rfl⟩

set_option maxHeartbeats 4000000 in
theorem ref_right_any (l a o : Int) (w : World) (ha : I64 a) :
  Calls Tryz.prog 49 #[.agg #[.int .i64 l, .int .i64 a, .int .i64 o]] w fun e w' => e = .returned (.bool (rightB l a o)) ∧ Below w.heap.size w w' := by
 unfold I64 at ha
 have cl : l < 0 ∨ 6 < l ∨ (0 ≤ l ∧ l ≤ 6) := by omega
 have ca : a = -9223372036854775808 ∨ (-9223372036854775808 < a ∧ 3 < (a.natAbs : Int)) ∨ (-3 ≤ a ∧ (a.natAbs : Int) ≤ 3) := by omega
 have co : o < -12 ∨ 12 < o ∨ (-12 ≤ o ∧ o ≤ 12) := by omega
 rcases cl with c1 | c1 | ⟨c1, c2⟩
 ·go_enter Tryz.func49, Tryz.ntmps49
  go_wp2
  go_ret
  refine ⟨qbi ?_, (by repeat (first | exact Below.refl _ _ | assumption | refine qam ?_ _ | refine Below.drew ?_ | refine qat ?_ _ | refine Below.setCell ?_ (by first | omega | (simp <;> omega)) _ | refine qaq (by assumption) ?_))⟩
  rw [eq_comm, ← Bool.not_eq_true, rightB_iff]; omega
 ·go_enter Tryz.func49, Tryz.ntmps49
  go_wp2
  go_ret
  refine ⟨qbi ?_, (by repeat (first | exact Below.refl _ _ | assumption | refine qam ?_ _ | refine Below.drew ?_ | refine qat ?_ _ | refine Below.setCell ?_ (by first | omega | (simp <;> omega)) _ | refine qaq (by assumption) ?_))⟩
  rw [eq_comm, ← Bool.not_eq_true, rightB_iff]; omega
 ·rcases ca with rfl | ⟨d1, d2⟩ | ⟨d1, d2⟩
  ·rcases co with k1 | k1 | ⟨k1, k2⟩
   all_goals
    go_enter Tryz.func49, Tryz.ntmps49
    go_wp2_with (go_at_call 55; refine (abs_least _).mono ?_; rintro e w1 ⟨rfl, rfl⟩)
    go_ret
    refine ⟨qbi ?_, (by repeat (first | exact Below.refl _ _ | assumption | refine qam ?_ _ | refine Below.drew ?_ | refine qat ?_ _ | refine Below.setCell ?_ (by first | omega | (simp <;> omega)) _ | refine qaq (by assumption) ?_))⟩
    rw [eq_comm, ← Bool.not_eq_true, rightB_iff]; omega
  ·go_enter Tryz.func49, Tryz.ntmps49
   go_wp2_with (go_at_call 55; refine (abs_any a _ (by omega) (by omega)).mono ?_; rintro e w1 ⟨rfl, rfl⟩)
   go_ret
   refine ⟨qbi ?_, (by repeat (first | exact Below.refl _ _ | assumption | refine qam ?_ _ | refine Below.drew ?_ | refine qat ?_ _ | refine Below.setCell ?_ (by first | omega | (simp <;> omega)) _ | refine qaq (by assumption) ?_))⟩
   rw [eq_comm, ← Bool.not_eq_true, rightB_iff]; omega
  ·rcases co with k1 | k1 | ⟨k1, k2⟩
   all_goals
    go_enter Tryz.func49, Tryz.ntmps49
    go_wp2_with (go_at_call 55; refine (abs_any a _ (by omega) (by omega)).mono ?_; rintro e w1 ⟨rfl, rfl⟩)
    go_ret
    refine ⟨qbi ?_, (by repeat (first | exact Below.refl _ _ | assumption | refine qam ?_ _ | refine Below.drew ?_ | refine qat ?_ _ | refine Below.setCell ?_ (by first | omega | (simp <;> omega)) _ | refine qaq (by assumption) ?_))⟩
    rw [Bool.eq_iff_iff, rightB_iff]
    simp
    try omega

theorem up_any (l : Int) (w : World) :
  Calls Tryz.prog 114 #[.int .i64 l] w fun e w' => e = .returned (.int .i64 (up l)) ∧ w = w' := by
 by_cases h2 : l = 2
 ·subst h2
  go_enter Tryz.func114, Tryz.ntmps114
  go_wp2
  go_ret
  exact ⟨rfl, rfl⟩
 ·by_cases h6 : l = 6
  ·subst h6
   go_enter Tryz.func114, Tryz.ntmps114
   go_wp2
   go_ret
   exact ⟨rfl, rfl⟩
  ·have HU := Lib.hid (show up l = 2 by unfold up; rw [if_neg (by omega)])
   replace h2 : (l == 2) = false := by simpa using h2
   replace h6 : (l == 6) = false := by simpa using h6
   go_enter Tryz.func114, Tryz.ntmps114
   go_wp2
   go_ret
   exact ⟨qdq HU.out.symm, rfl⟩

set_option maxHeartbeats 2000000 in
theorem qyk (n : Int) (w : World) (h0 : 0 ≤ n) (h1 : n ≤ 1000) :
  Calls Tryz.prog 81 #[.int .i64 n] w fun e w' => e = .returned (.int .i64 (qcp n)) ∧ w = w' := by
 go_enter Tryz.func81, Tryz.ntmps81
 go_wp2
 go_loop [0, 3, 4] (fun x m l => ∃ t : Int, 0 ≤ t ∧ t ≤ n ∧ x = .int .i64 (n - t) ∧ m = .int .i64 (qcp t) ∧ l = .int .i64 (t % 7)) (fun x _ _ => (intOf x).toNat)
 case atStart => exact ⟨0, by omega, h0, by go_num, by go_num, by go_num⟩
 case round =>
  obtain ⟨t, ht0, ht1, rfl, rfl, rfl⟩ := hrel
  have hb := qjv t (by omega)
  have hu := qtq (t % 7)
  have hl : 0 ≤ t % 7 ∧ t % 7 ≤ 6 := by omega
  have HS := Lib.hid (qms t)
  have HL := Lib.hid (show (t % 7 + 1) % 7 = (t + 1) % 7 by omega)
  by_cases hc : t < n
  ·have hc' : 0 < n - t := by omega
   go_wp2_with (go_at_call 114; refine (up_any (t % 7) _).mono ?_; rintro e w1 ⟨rfl, rfl⟩)
   go_round
   case rel => exact ⟨t + 1, by omega, by omega, by go_num, by rw [HS.out], by rw [HL.out]⟩
   case measure => (simp [intOf] <;> omega)
  ·obtain rfl : t = n := by omega
   have hz : t - t = 0 := by omega
   go_wp2
   refine wp_loop_rounds 1 ?_
   rw [rounds_succ]
   go_wp2
   go_ret
   exact ⟨rfl, rfl⟩

set_option maxHeartbeats 2000000 in
theorem qyl (n : Int) (w : World) (h0 : n < 0) (h1 : -1000 ≤ n) :
  Calls Tryz.prog 81 #[.int .i64 n] w fun e w' => e = .returned (.int .i64 (qcp n)) ∧ w = w' := by
 go_enter Tryz.func81, Tryz.ntmps81
 go_wp2
 refine wp_loop_rounds 1 ?_
 rw [rounds_succ]
 go_wp2
 go_loop [0, 3, 4] (fun x m l => ∃ t : Int, t ≤ 0 ∧ n ≤ t ∧ x = .int .i64 (n - t) ∧ m = .int .i64 (qcp t) ∧ l = .int .i64 (t % 7)) (fun x _ _ => (-(intOf x)).toNat)
 case atStart => exact ⟨0, by omega, by omega, by go_num, by go_num, by go_num⟩
 case round =>
  obtain ⟨t, ht0, ht1, rfl, rfl, rfl⟩ := hrel
  have hb := qjv t (by omega)
  have hu := qtq ((t - 1) % 7)
  have hl : 0 ≤ t % 7 ∧ t % 7 ≤ 6 := by omega
  have HS := Lib.hid (qwu t)
  have hL : (t % 7 + 6) % 7 = (t - 1) % 7 := by omega
  by_cases hc : n < t
  ·have hc' : n - t < 0 := by omega
   go_wp2_with (go_at_call 114; refine (up_any ((t - 1) % 7) _).mono ?_; rintro e w1 ⟨rfl, rfl⟩)
   go_round
   case rel => exact ⟨t - 1, by omega, by omega, by go_num, by rw [HS.out], rfl⟩
   case measure => (simp [intOf] <;> omega)
  ·obtain rfl : t = n := by omega
   have hz : t - t = 0 := by omega
   go_wp2
   go_ret
   exact ⟨rfl, rfl⟩

theorem qpn (n : Int) (w : World) (h0 : -1000 ≤ n) (h1 : n ≤ 1000) :
  Calls Tryz.prog 81 #[.int .i64 n] w fun e w' => e = .returned (.int .i64 (qcp n)) ∧ w = w' := by
 by_cases h : 0 ≤ n
 ·exact qyk n w h h1
 ·exact qyl n w (by omega) h0

set_option maxHeartbeats 1000000 in
theorem qhw (l a o : Int) (w : World) (h : rightB l a o = true) :
  Calls Tryz.prog 52 #[.agg #[.int .i64 l, .int .i64 a, .int .i64 o]] w fun e w' => e = .returned (.int .i64 (steps l o)) ∧ Below w.heap.size w w' := by
 have hr := rightB_iff.1 h
 go_enter Tryz.func52, Tryz.ntmps52
 go_wp2
 go_ret
 exact ⟨qdq rfl, (by repeat (first | exact Below.refl _ _ | assumption | refine qam ?_ _ | refine Below.drew ?_ | refine qat ?_ _ | refine Below.setCell ?_ (by first | omega | (simp <;> omega)) _ | refine qaq (by assumption) ?_))⟩

set_option maxHeartbeats 1000000 in
theorem qmn (l a o : Int) (w : World) (h : rightB l a o = true) :
  Calls Tryz.prog 53 #[.agg #[.int .i64 l, .int .i64 a, .int .i64 o]] w fun e w' => e = .returned (.int .i64 (halves l a o)) ∧ Below w.heap.size w w' := by
 have hr := rightB_iff.1 h
 have hb := (bounds h).1
 have hwb := qjv (steps l o) (by omega)
 have HW := Lib.hid (qpm h)
 go_enter Tryz.func53, Tryz.ntmps53
 go_wp2
 have hE := Ext.cells (w.alloc (Obj.cells #[Value.int .i64 l, Value.int .i64 a, Value.int .i64 o] 52))
 refine qnu (by kernel_rfl) (by kernel_rfl) ?_
 repeat go_big_quiet_step ((first | (go_at_call 52; with_reducible refine qvx (qhw l a o _ h)) | (go_at_call 81; with_reducible refine ext_same (qpn (steps l o) _ (by omega) (by omega)))))
 refine wpQuiet_nil ?_
 rintro wd ⟨⟨_, hbd⟩, rfl⟩
 go_wp2
 go_ret
 exact ⟨qdq HW.out, (by repeat (first | exact Below.refl _ _ | assumption | refine qam ?_ _ | refine Below.drew ?_ | refine qat ?_ _ | refine Below.setCell ?_ (by first | omega | (simp <;> omega)) _ | refine qaq (by assumption) ?_))⟩

theorem qmk (s h : Int) (w : World) :
  Calls Tryz.prog 50 #[.agg #[.int .i64 s, .int .i64 h]] w fun e w' => e = .returned (.bool (withinB s h)) ∧ Below w.heap.size w w' := by
 have cs : s < -200 ∨ 200 < s ∨ (-200 ≤ s ∧ s ≤ 200) := by omega
 have ch : h < -4096 ∨ 4096 < h ∨ (-4096 ≤ h ∧ h ≤ 4096) := by omega
 rcases cs with c1 | c1 | ⟨c1, c2⟩ <;> rcases ch with d1 | d1 | ⟨d1, d2⟩
 all_goals
  go_enter Tryz.func50, Tryz.ntmps50
  go_wp2
  go_ret
  refine ⟨qbi ?_, (by repeat (first | exact Below.refl _ _ | assumption | refine qam ?_ _ | refine Below.drew ?_ | refine qat ?_ _ | refine Below.setCell ?_ (by first | omega | (simp <;> omega)) _ | refine qaq (by assumption) ?_))⟩
  rw [Bool.eq_iff_iff, withinB_iff]
  simp
  try omega

end Go.Proofs.YtmlnilkbolcknaaGreatDoor.Pi
namespace Go.Proofs.YtmlnilkbolcknaaGreatDoor.Pi
open Go.RowKit

/-- What At tells, as a value. -/
def RA (s h : Int) : Value := .tuple #[.agg #[.int .i64 (s % 7), .int .i64 (h - qcp s), .int .i64 (s / 7)], .bool (rightB (s % 7) (h - qcp s) (s / 7))]

set_option maxHeartbeats 4000000 in
theorem qxf (s h : Int) (w : World) (h0 : -1000 ≤ s ∧ s ≤ 1000) (h1 : -100000 ≤ h ∧ h ≤ 100000) :
  Calls Tryz.prog 51 #[.int .i64 s, .int .i64 h] w fun e w' => e = .returned (RA s h) ∧ Below w.heap.size w w' := by
 have hwb := qjv s h0
 have hA : I64 (h - qcp s) := by unfold I64; omega
 have hL : 0 ≤ s % 7 ∧ s % 7 ≤ 6 := by omega
 have hO : -1000 ≤ s / 7 ∧ s / 7 ≤ 1000 := by omega
 go_enter Tryz.func51, Tryz.ntmps51
 go_wp2
 go_loop [6, 7] (fun x y => ∃ q : Int, x = .int .i64 q ∧ y = .int .i64 (s - 7 * q) ∧ -1000 ≤ q ∧ q ≤ 0 ∧ (q = 0 ∨ s - 7 * q < 7)) (fun _ y => (-(intOf y)).toNat)
 case atStart => exact ⟨0, rfl, by go_num, by omega, by omega, by omega⟩
 case round =>
  obtain ⟨q, rfl, rfl, q1, q2, q3⟩ := hrel
  by_cases hc : s - 7 * q < 0
  ·go_wp2
   go_round
   case rel => exact ⟨q - 1, rfl, by go_num, by omega, by omega, by omega⟩
   case measure => (simp [intOf] <;> omega)
  ·have hc' : 0 ≤ s - 7 * q := by omega
   clear hc
   go_wp2
   go_loop [6, 7] (fun x y => ∃ r : Int, x = .int .i64 r ∧ y = .int .i64 (s - 7 * r) ∧ -1000 ≤ r ∧ 0 ≤ s - 7 * r ∧ r ≤ 1000) (fun _ y => (intOf y).toNat)
   case atStart => exact ⟨q, rfl, rfl, by omega, by omega, by omega⟩
   case round =>
    obtain ⟨r, rfl, rfl, r1, r2, r3⟩ := hrel
    clear hc' q3 q1 q2
    by_cases hd : 6 < s - 7 * r
    ·go_wp2
     go_round
     case rel => exact ⟨r + 1, rfl, by go_num, by omega, by omega, by omega⟩
     case measure => (simp [intOf] <;> omega)
    ·obtain ⟨rO, rL⟩ : r = s / 7 ∧ s - 7 * r = s % 7 := by omega
     subst rO
     have HL := Lib.hid rL
     clear rL
     have hd' : s - 7 * (s / 7) ≤ 6 := by omega
     clear hd
     go_wp2_with (go_at_call 81; refine (qpn s _ h0.1 h0.2).mono ?_; rintro e w1 ⟨rfl, rfl⟩)
     obtain ⟨m, hm⟩ : ∃ m, m = s - 7 * (s / 7) := ⟨_, rfl⟩
     rw [← hm]
     have HM := Lib.hid (hm.trans HL.out)
     clear hm
     obtain ⟨W, hW⟩ : ∃ W, W = (w.alloc (Obj.cells #[Value.int .i64 0, Value.int .i64 0, Value.int .i64 0] 52)).alloc (Obj.cells #[Value.int .i64 m, Value.int .i64 (h - qcp s), Value.int .i64 (s / 7)] 52) := ⟨_, rfl⟩
     have zr : w.heap.size < W.heap.size := by rw [hW]; simp; omega
     have zq : w.heap.size + 1 < W.heap.size := by rw [hW]; simp
     have cr0 : W.cell? ⟨w.heap.size, 0, none⟩ = some (.int .i64 (0)) := by rw [hW]; go_simp
     have fr0 : W.frozen? ⟨w.heap.size, 0, none⟩ = false := by rw [hW]; go_simp
     have cr1 : W.cell? ⟨w.heap.size, 1, none⟩ = some (.int .i64 (0)) := by rw [hW]; go_simp
     have fr1 : W.frozen? ⟨w.heap.size, 1, none⟩ = false := by rw [hW]; go_simp
     have cr2 : W.cell? ⟨w.heap.size, 2, none⟩ = some (.int .i64 (0)) := by rw [hW]; go_simp
     have fr2 : W.frozen? ⟨w.heap.size, 2, none⟩ = false := by rw [hW]; go_simp
     have cq0 : W.cell? ⟨w.heap.size + 1, 0, none⟩ = some (.int .i64 (m)) := by rw [hW]; go_simp
     have cq1 : W.cell? ⟨w.heap.size + 1, 1, none⟩ = some (.int .i64 (h - qcp s)) := by rw [hW]; go_simp
     have cq2 : W.cell? ⟨w.heap.size + 1, 2, none⟩ = some (.int .i64 (s / 7)) := by rw [hW]; go_simp
     have hBW : Below w.heap.size w W := by rw [hW]; exact (by repeat (first | exact Below.refl _ _ | assumption | refine qam ?_ _ | refine Below.drew ?_ | refine qat ?_ _ | refine Below.setCell ?_ (by first | omega | (simp <;> omega)) _ | refine qaq (by assumption) ?_))
     rw [← hW]
     clear hW
     have hE := Ext.cells W
     refine qhp 3 (by kernel_rfl) (by kernel_rfl) ?_
     simp only [List.take_succ_cons, List.take_zero, List.drop_succ_cons, List.drop_zero]
     repeat go_big_quiet_step ((first | (go_at_call 49; with_reducible refine qvx (ref_right_any m (h - qcp s) (s / 7) _ hA))))
     refine wpQuiet_nil ?_
     rintro wd ⟨⟨_, hbd⟩, rfl⟩
     have kr0 := qma cr0 hbd
     have kr1 := qma cr1 hbd
     have kr2 := qma cr2 hbd
     have lr0 := (hbd.frozen (p := ⟨w.heap.size, 0, none⟩) zr).trans fr0
     have lr1 := (hbd.frozen (p := ⟨w.heap.size, 1, none⟩) zr).trans fr1
     have lr2 := (hbd.frozen (p := ⟨w.heap.size, 2, none⟩) zr).trans fr2
     have hBd : Below w.heap.size w wd := qaq hbd hBW
     go_wp2
     exact bodyPost_ret (v := .tuple #[.agg #[.int .i64 m, .int .i64 (h - qcp s), .int .i64 (s / 7)], .bool (rightB m (h - qcp s) (s / 7))])
      (by simp [results, Tryz.results51, go_sem, kr0, kr1, kr2]) rfl ⟨by rw [RA, HM.out], (by repeat (first | exact Below.refl _ _ | assumption | refine qam ?_ _ | refine Below.drew ?_ | refine qat ?_ _ | refine Below.setCell ?_ (by first | omega | (simp <;> omega)) _ | refine qaq (by assumption) ?_))⟩

end Go.Proofs.YtmlnilkbolcknaaGreatDoor.Pi
namespace Go.Proofs.YtmlnilkbolcknaaGreatDoor.Pm
open Go Go.Proofs.YtmlnilkbolcknaaGreatDoor.Pi

abbrev pitP (l a o : Int) : PV := .agg [iv l, iv a, iv o]
abbrev invP (s h : Int) : PV := .agg [iv s, iv h]
theorem qgl (l : Int) : PC Tryz.prog 123 [iv l] [] (iv (Pi.nat7 l)) [] :=
 qcc (qdo Tryz.func123 (by kernel_rfl) (by kernel_rfl)) rfl rfl fun w => (qli l w).mono fun _ w' ⟨e1, e2⟩ => ⟨e1, e2 ▸ RowKit.Below.refl _ _⟩
theorem qgc (l a o : Int) : PC Tryz.prog 89 [pitP l a o] [] (bv (rightB l a o)) [] :=
 qcc (qdo Tryz.func89 (by kernel_rfl) (by kernel_rfl)) rfl rfl fun w => right_any l a o w
theorem qnb (s h : Int) (i1 : Pi.I64 s) (i2 : Pi.I64 h) : PC Tryz.prog 121 [invP s h] [] (bv (withinB s h)) [] :=
 qcc (qdo Tryz.func121 (by kernel_rfl) (by kernel_rfl)) rfl rfl fun w => qwt s h w i1 i2
theorem qgd (n : Int) (h1 : -1000 ≤ n) (h2 : n ≤ 1000) : PC Tryz.prog 122 [iv n, iv 7] [] (.tup [iv (n / 7), iv (n % 7)]) [] :=
 qcc (qdo Tryz.func122 (by kernel_rfl) (by kernel_rfl)) rfl rfl fun w => (floor_any n w h1 h2).mono fun _ w' ⟨e1, k, e2⟩ => ⟨e1, by rw [e2]; exact ⟨rfl, rfl, rfl, Nat.le_refl _, fun _ _ => rfl⟩⟩
theorem qoc (l a o : Int) (ha : Pi.I64 a) : PC Tryz.prog 49 [pitP l a o] [] (bv (rightB l a o)) [] :=
 qcc (qdo Tryz.func49 (by kernel_rfl) (by kernel_rfl)) rfl rfl fun w => ref_right_any l a o w ha
theorem qml (s h : Int) : PC Tryz.prog 50 [invP s h] [] (bv (withinB s h)) [] :=
 qcc (qdo Tryz.func50 (by kernel_rfl) (by kernel_rfl)) rfl rfl fun w => qmk s h w
end Go.Proofs.YtmlnilkbolcknaaGreatDoor.Pm
