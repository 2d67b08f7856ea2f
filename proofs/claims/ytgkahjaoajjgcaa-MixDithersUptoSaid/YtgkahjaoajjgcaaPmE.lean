/-
  THE VALUE MACHINE (E): numbers, truth values, strings. No program in sight.
-/
import Derived.Test.YtgkahjaoajjgcaaPmD
namespace Go.Proofs.Ytgkahjaoajjgcaa.Pm
open Go

def InK (k : IntKind) (n : Int) : Prop := match k with
  | .i8 => -128 ≤ n ∧ n ≤ 127
  | .i16 => -32768 ≤ n ∧ n ≤ 32767
  | .i32 => -2147483648 ≤ n ∧ n ≤ 2147483647
  | .i64 => -9223372036854775808 ≤ n ∧ n ≤ 9223372036854775807
  | .u8 => 0 ≤ n ∧ n ≤ 255
  | .u16 => 0 ≤ n ∧ n ≤ 65535
  | .u32 => 0 ≤ n ∧ n ≤ 4294967295
  | .u64 => 0 ≤ n ∧ n ≤ 18446744073709551615
theorem wrap_in {k : IntKind} {n : Int} (h : InK k n) : k.wrap n = n := by
  cases k <;> simp only [InK] at h <;> simp [IntKind.wrap, IntKind.bits, IntKind.signed] <;> omega

/-- A number, as it is if it fits (an obligation), or wrapped. -/
def num (k : IntKind) (n : Int) (an : Ans) : Plan := match an with
  | .wrap => .done (.av (.int k (k.wrap n))) []
  | _ => .ob (InK k n) (.done (.av (.int k n)) [])
def bit (b : Bool) : Plan := .done (.av (.bool b)) []
def pInt (op : BinOp) (k : IntKind) (a b : Int) (an : Ans) : Plan := match op with
  | .add => num k (a + b) an
  | .sub => num k (a - b) an
  | .mul => num k (a * b) an
  | .quo => .ob (b ≠ 0) (num k (a.tdiv b) an)
  | .rem => .ob (b ≠ 0) (.done (.av (.int k (a.tmod b))) [])
  | .and => .done (.av (.int k (k.wrap (BitVec.ofInt k.bits a &&& BitVec.ofInt k.bits b).toNat))) []
  | .or => .done (.av (.int k (k.wrap (BitVec.ofInt k.bits a ||| BitVec.ofInt k.bits b).toNat))) []
  | .xor => .done (.av (.int k (k.wrap (BitVec.ofInt k.bits a ^^^ BitVec.ofInt k.bits b).toNat))) []
  | .andNot => .done (.av (.int k (k.wrap (BitVec.ofInt k.bits a &&& ~~~ BitVec.ofInt k.bits b).toNat))) []
  | .eql => bit (decide (a = b))
  | .neq => bit (!decide (a = b))
  | .lss => bit (decide (a < b))
  | .leq => bit (decide (a ≤ b))
  | .gtr => bit (decide (b < a))
  | .geq => bit (decide (b ≤ a))
  | _ => .fail
def shl (k : IntKind) (a b : Int) (an : Ans) : Plan := .ob (0 ≤ b ∧ b ≤ k.bits) (num k (a * 2 ^ b.toNat) an)
def shr (k : IntKind) (a b : Int) : Plan := .ob (0 ≤ b ∧ b ≤ k.bits) (.done (.av (.int k (a.fdiv (2 ^ b.toNat)))) [])
def aBin (op : BinOp) (T : TypeId) (x y : Operand) (u : Option TypeDesc) (an : Ans) : Plan := opd x fun p => opd y fun q => match op, p, q with
  | .shl, .av (.int k a), .av (.int _ b) => shl k a b an
  | .shr, .av (.int k a), .av (.int _ b) => shr k a b
  | op, .av (.int k a), .av (.int k' b) => if k = k' then pInt op k a b an else .fail
  | .add, .av (.string a), .av (.string b) => .ob (((a.size + b.size : Nat) : Int) ≤ 9223372036854775807) (.done (.av (.string (a ++ b))) [])
  | .eql, .av (.string a), .av (.string b) => bit (a.toList == b.toList)
  | .neq, .av (.string a), .av (.string b) => bit (!(a.toList == b.toList))
  | .lss, .av (.string a), .av (.string b) => bit (Op.bytesLess a.toList b.toList)
  | .gtr, .av (.string a), .av (.string b) => bit (!(Op.bytesLess a.toList b.toList || a.toList == b.toList))
  | .eql, .av (.bool a), .av (.bool b) => match u with | some .bool => bit (a == b) | _ => .fail
  | .neq, .av (.bool a), .av (.bool b) => match u with | some .bool => bit (!(a == b)) | _ => .fail
  | _, _, _ => .fail

theorem num_ok {k : IntKind} {n : Int} {an : Ans} {g : St} {p : PV} {wb : L} (h : Res g (num k n an) p wb) : p = .av (.int k (k.wrap n)) ∧ wb = [] := by
  unfold num at h
  split at h
  · exact Res.done h
  · obtain ⟨h1, h2⟩ := Res.ob h
    obtain ⟨rfl, rfl⟩ := Res.done h2
    rw [wrap_in h1]
    exact ⟨rfl, rfl⟩
theorem run_int {P : Program} {w : World} {op : BinOp} {k : IntKind} {a b : Int} {an : Ans} {g : St} {p : PV} {wb : L} (h : Res g (pInt op k a b an) p wb) (h1 : op ≠ .shl) (h2 : op ≠ .shr) (T : TypeId) :
    ∃ v, p = .av v ∧ wb = [] ∧ (binOp op T (.int k a) (.int k b)).run P w = .ok v w := by
  cases op <;> simp only [pInt] at h <;> try exact (Res.fail h).elim
  case add => obtain ⟨rfl, rfl⟩ := num_ok h; exact ⟨_, rfl, rfl, by simp [binOp, Op.intArith]⟩
  case sub => obtain ⟨rfl, rfl⟩ := num_ok h; exact ⟨_, rfl, rfl, by simp [binOp, Op.intArith]⟩
  case mul => obtain ⟨rfl, rfl⟩ := num_ok h; exact ⟨_, rfl, rfl, by simp [binOp, Op.intArith]⟩
  case quo => obtain ⟨h0, h⟩ := Res.ob h; obtain ⟨rfl, rfl⟩ := num_ok h; exact ⟨_, rfl, rfl, by simp [binOp, Op.intDiv, h0]⟩
  case rem => obtain ⟨h0, h⟩ := Res.ob h; obtain ⟨rfl, rfl⟩ := Res.done h; exact ⟨_, rfl, rfl, by simp [binOp, Op.intDiv, h0]⟩
  all_goals
    obtain ⟨rfl, rfl⟩ := Res.done h
    refine ⟨_, rfl, rfl, ?_⟩
    first
      | (simp [binOp, Op.intBits]; done)
      | (simp [binOp, Op.intCmp]; done)
      | (simp [binOp, Op.intCmp]; rfl)
      | (simp [binOp, Op.intCmp, Int.beq_eq_decide_eq, bne])
theorem eqGuard_int {P : Program} {w : World} {op : BinOp} {T : TypeId} {x y : Operand} {v u : Value} (hv : (∀ cs, v ≠ .agg cs) ∧ v ≠ .nilIface) : (eqGuard op T x y v u).run P w = .ok () w := by
  obtain ⟨h1, h2⟩ := hv
  cases v
  case agg cs => exact absurd rfl (h1 cs)
  case nilIface => exact absurd rfl h2
  all_goals cases op <;> simp [eqGuard]
theorem run_equal_bool {P : Program} {w : World} {T : TypeId} (hu : P.underlying T = some .bool) (a b : Bool) : (Op.equal T (.bool a) (.bool b)).run P w = .ok (a == b) w := by
  unfold Op.equal
  rw [show Op.maxDepth = 9999 + 1 from rfl, Op.equalIn]
  simp only [Sem.run_bind, run_underlying hu, Result.andThen_ok]
  rfl
theorem run_eq_bool {P : Program} {w : World} {T : TypeId} (hu : P.underlying T = some .bool) (a b : Bool) : (binOp .eql T (.bool a) (.bool b)).run P w = .ok (.bool (a == b)) w := by
  show (do pure (.bool (← Op.equal T (.bool a) (.bool b))) : Sem Value).run P w = _
  simp only [Sem.run_bind, run_equal_bool hu, Result.andThen_ok]
  rfl
theorem run_ne_bool {P : Program} {w : World} {T : TypeId} (hu : P.underlying T = some .bool) (a b : Bool) : (binOp .neq T (.bool a) (.bool b)).run P w = .ok (.bool (!(a == b))) w := by
  show (do pure (.bool (!(← Op.equal T (.bool a) (.bool b)))) : Sem Value).run P w = _
  simp only [Sem.run_bind, run_equal_bool hu, Result.andThen_ok]
  rfl
set_option maxHeartbeats 1000000 in
theorem aBin_ok {E : Env} {o : Oper} {id : Nat} {op : BinOp} {T U : TypeId} {x y : Operand} {an : Ans} (ho : o.op = .binOp op T x y U) (hd : ∀ x, o.dst = some x → x < E.n) : ActOk E o id (aBin op T x y (E.P.underlying T) an) := by
  intro g p wb h nx c a K Q hn hi hK
  obtain ⟨q1, hq1, h1⟩ := Res.opd hi h
  obtain ⟨q2, hq2, h2⟩ := Res.opd hi h1
  have key : ∀ {v1 v2 v : Value}, q1 = .av v1 → q2 = .av v2 → ((∀ cs, v1 ≠ .agg cs) ∧ v1 ≠ .nilIface) → (binOp op T v1 v2).run E.P c.w = .ok v c.w → p = .av v → wb = [] → o.wp E.P a c.w K Q := by
    intro v1 v2 v e1 e2 hg hr ep ew
    subst e1; subst e2; subst ep; subst ew
    refine pure_step hd hi hK (.sh (.av v)) ?_
    simp [execOp, ho, rep_av hq1, rep_av hq2, eqGuard_int hg, hr]
  clear h h1
  split at h2
  · simp only [shl] at h2
    obtain ⟨h3, h4⟩ := Res.ob h2
    obtain ⟨e1, e2⟩ := num_ok h4
    refine key rfl rfl (by simp) ?_ e1 e2
    have e : min (Int.toNat _) (IntKind.bits _) = Int.toNat _ := Nat.min_eq_left (Int.toNat_le.2 h3.2)
    simp [binOp, Op.shift, Int.not_lt.2 h3.1, e]
  · simp only [shr] at h2
    obtain ⟨h3, h4⟩ := Res.ob h2
    obtain ⟨e1, e2⟩ := Res.done h4
    refine key rfl rfl (by simp) ?_ e1 e2
    have e : min (Int.toNat _) (IntKind.bits _) = Int.toNat _ := Nat.min_eq_left (Int.toNat_le.2 h3.2)
    simp [binOp, Op.shift, Int.not_lt.2 h3.1, e]
  · rename_i hs1 hs2
    split at h2
    · rename_i hk
      subst hk
      obtain ⟨v, e1, e2, hr⟩ := run_int (P := E.P) (w := c.w) h2 hs1 hs2 T
      exact key rfl rfl (by simp) hr e1 e2
    · exact (Res.fail h2).elim
  · obtain ⟨h3, h4⟩ := Res.ob h2
    obtain ⟨e1, e2⟩ := Res.done h4
    refine key rfl rfl (by simp) ?_ e1 e2
    simp [binOp, Op.stringOp, IntKind.max, IntKind.signed, IntKind.bits]
    omega
  · obtain ⟨e1, e2⟩ := Res.done h2
    exact key rfl rfl (by simp) (by simp [binOp, Op.stringOp]) e1 e2
  · obtain ⟨e1, e2⟩ := Res.done h2
    exact key rfl rfl (by simp) (by simp [binOp, Op.stringOp]) e1 e2
  · obtain ⟨e1, e2⟩ := Res.done h2
    exact key rfl rfl (by simp) (by simp [binOp, Op.stringOp]) e1 e2
  · obtain ⟨e1, e2⟩ := Res.done h2
    exact key rfl rfl (by simp) (by simp [binOp, Op.stringOp]) e1 e2
  · split at h2
    · rename_i hu
      obtain ⟨e1, e2⟩ := Res.done h2
      exact key rfl rfl (by simp) (run_eq_bool hu _ _) e1 e2
    · exact (Res.fail h2).elim
  · split at h2
    · rename_i hu
      obtain ⟨e1, e2⟩ := Res.done h2
      exact key rfl rfl (by simp) (run_ne_bool hu _ _) e1 e2
    · exact (Res.fail h2).elim
  · exact (Res.fail h2).elim

def aUn (op : UnOp) (x : Operand) (an : Ans) : Plan := opd x fun p => match op, p with
  | .not, .av (.bool b) => bit (!b)
  | .neg, .av (.int k a) => num k (0 - a) an
  | .xor, .av (.int k a) => .done (.av (.int k (k.wrap (BitVec.ofInt k.bits (if k.signed then -1 else k.max) ^^^ BitVec.ofInt k.bits a).toNat))) []
  | _, _ => .fail
theorem aUn_ok {E : Env} {o : Oper} {id : Nat} {op : UnOp} {T : TypeId} {x : Operand} {an : Ans} (ho : o.op = .unOp op T x) (hd : ∀ x, o.dst = some x → x < E.n) : ActOk E o id (aUn op x an) := by
  intro g p wb h nx c a K Q hn hi hK
  obtain ⟨q1, hq1, h1⟩ := Res.opd hi h
  clear h
  split at h1
  · obtain ⟨rfl, rfl⟩ := Res.done h1
    exact pure_step hd hi hK (.sh (.av _)) (by simp [execOp, ho, rep_av hq1, Op.unary])
  · obtain ⟨rfl, rfl⟩ := num_ok h1
    exact pure_step hd hi hK (.sh (.av _)) (by simp [execOp, ho, rep_av hq1, Op.unary, Op.intArith])
  · obtain ⟨rfl, rfl⟩ := Res.done h1
    exact pure_step hd hi hK (.sh (.av _)) (by simp [execOp, ho, rep_av hq1, Op.unary, Op.intBits])
  · exact (Res.fail h1).elim

def aConv (us ud : Option TypeDesc) (x : Operand) (an : Ans) : Plan := opd x fun p => match us, ud, p with
  | some (.int _), some (.int k), .av (.int _ n) => num k n an
  | some .string, some .string, .av (.string s) => .done (.av (.string s)) []
  | _, _, _ => .fail
theorem aConv_ok {E : Env} {o : Oper} {id : Nat} {s d : TypeId} {x : Operand} {an : Ans} (ho : o.op = .convert s d x) (hd : ∀ x, o.dst = some x → x < E.n) : ActOk E o id (aConv (E.P.underlying s) (E.P.underlying d) x an) := by
  intro g p wb h nx c a K Q hn hi hK
  obtain ⟨q1, hq1, h1⟩ := Res.opd hi h
  clear h
  split at h1
  · rename_i hu1 hu2
    obtain ⟨rfl, rfl⟩ := num_ok h1
    exact pure_step hd hi hK (.sh (.av _)) (by simp [execOp, ho, rep_av hq1, convert, run_underlying hu1, run_underlying hu2, Conv.intToInt])
  · rename_i hu1 hu2
    obtain ⟨rfl, rfl⟩ := Res.done h1
    exact pure_step hd hi hK (.sh (.av _)) (by simp [execOp, ho, rep_av hq1, convert, run_underlying hu1, run_underlying hu2])
  · exact (Res.fail h1).elim
end Go.Proofs.Ytgkahjaoajjgcaa.Pm
