/-
  THE VALUE MACHINE (V): pointers held against nil; the greatest of three. No program in sight.
-/
import Derived.Test.YtgkahjaoajjgcaaPmK
namespace Go.Proofs.Ytgkahjaoajjgcaa.Pm
open Go

theorem run_equalIn_ptr {P : Program} (w : World) (d : Nat) {T e : TypeId} (hu : P.underlying T = some (.pointer e)) (a : Option Addr) : (Op.equalIn (d + 1) T (.pointer a) (.pointer none)).run P w = .ok a.isNone w := by
  rw [Op.equalIn]
  simp only [Sem.run_bind, run_underlying hu, Result.andThen_ok]
  cases a <;> rfl
theorem run_eq_ptr {P : Program} (w : World) {T e : TypeId} (hu : P.underlying T = some (.pointer e)) (ng : Bool) (a : Option Addr) : (binOp (match ng with | true => .neq | false => .eql) T (.pointer a) (.pointer none)).run P w = .ok (.bool (match ng with | true => !a.isNone | false => a.isNone)) w := by
  cases ng with
  | false =>
    show (do pure (.bool (← Op.equal T (.pointer a) (.pointer none))) : Sem Value).run P w = _
    simp only [Op.equal, show Op.maxDepth = 9999 + 1 from rfl, Sem.run_bind, run_equalIn_ptr w 9999 hu, Result.andThen_ok]
    rfl
  | true =>
    show (do pure (.bool (!(← Op.equal T (.pointer a) (.pointer none)))) : Sem Value).run P w = _
    simp only [Op.equal, show Op.maxDepth = 9999 + 1 from rfl, Sem.run_bind, run_equalIn_ptr w 9999 hu, Result.andThen_ok]
    rfl
def ngB (ng b : Bool) : Bool := match ng with | true => !b | false => b
def aEqP (u : Option TypeDesc) (ng : Bool) (x y : Operand) : Plan := opd x fun p => opd y fun q => match u, p, q with
  | some (.pointer _), .opt _ _, .av (.pointer none) => bit ng
  | some (.pointer _), .spt _ _, .av (.pointer none) => bit ng
  | some (.pointer _), .av (.pointer none), .av (.pointer none) => bit (!ng)
  | _, _, _ => .fail
theorem aEqP_ok {E : Env} {o : Oper} {id : Nat} {ng : Bool} {T U : TypeId} {x y : Operand} (ho : o.op = .binOp (match ng with | true => .neq | false => .eql) T x y U) (hd : ∀ x, o.dst = some x → x < E.n) : ActOk E o id (aEqP (E.P.underlying T) ng x y) := by
  intro g p wb h nx c a K Q hn hI hK
  obtain ⟨q1, hq1, h1⟩ := Res.opd hI h
  obtain ⟨q2, hq2, h2⟩ := Res.opd hI h1
  clear h h1
  have key : ∀ {e : TypeId} {ad : Option Addr}, E.P.underlying T = some (.pointer e) → a.eval x = .pointer ad → a.eval y = .pointer none → p = .av (.bool (ngB ng ad.isNone)) → wb = [] → o.wp E.P a c.w K Q := by
    intro e ad hu hx hy hp hw
    subst hp; subst hw
    refine pure_step hd hI hK (.sh (.av _)) ?_
    have h3 := run_eq_ptr c.w hu ng ad
    unfold ngB
    have h4 : ∀ op : BinOp, (eqGuard op T x y (.pointer ad) (.pointer none)).run E.P c.w = .ok () c.w := fun op => by cases op <;> simp [eqGuard]
    cases ng with
    | true => simp only at h3 ho; simp [execOp, ho, hx, hy, h4, h3]
    | false => simp only at h3 ho; simp [execOp, ho, hx, hy, h4, h3]
  generalize hu : E.P.underlying T = u at h2
  split at h2
  · obtain ⟨rfl, rfl⟩ := Res.done h2
    obtain ⟨b, T', ho1, hv⟩ := rep_opt hq1
    exact key hu hv (rep_av hq2) (by cases ng <;> rfl) rfl
  · obtain ⟨rfl, rfl⟩ := Res.done h2
    obtain ⟨b, a', vf, hv, _⟩ := rep_spt hq1
    exact key hu hv (rep_av hq2) (by cases ng <;> rfl) rfl
  · obtain ⟨rfl, rfl⟩ := Res.done h2
    exact key hu (rep_av hq1) (rep_av hq2) (by cases ng <;> rfl) rfl
  · exact (Res.fail h2).elim
def aMax3 (mx : Bool) (x y z : Operand) : Plan := opd x fun p => opd y fun q => opd z fun r => match p, q, r with
  | .av (.int k a), .av (.int _ b), .av (.int _ c) => .done (.av (.int k (match mx with | true => max (max a b) c | false => min (min a b) c))) []
  | _, _, _ => .fail
theorem aMax3_ok {E : Env} {o : Oper} {id : Nat} {x y z : Operand} {ts : Array TypeId} (ho : o.op = .call { callee := .builtin .max, args := #[x, y, z], argTypes := ts }) (hd : ∀ x, o.dst = some x → x < E.n) : ActOk E o id (aMax3 true x y z) := by
  intro g p wb h nx c a K Q hn hI hK
  obtain ⟨q1, hq1, h1⟩ := Res.opd hI h
  obtain ⟨q2, hq2, h2⟩ := Res.opd hI h1
  obtain ⟨q3, hq3, h3⟩ := Res.opd hI h2
  split at h3
  · rename_i k m k2 n k3 l
    obtain ⟨rfl, rfl⟩ := Res.done h3
    refine pure_step hd hI hK (.sh (.av _)) ?_
    have e : max (max m n) l = if l > (if n > m then n else m) then l else (if n > m then n else m) := by split <;> split <;> omega
    simp [execOp, ho, resolve, invoke, builtin, rep_av hq1, rep_av hq2, rep_av hq3, Builtin.max_, Builtin.max2, e]
  · exact (Res.fail h3).elim
theorem aMin3_ok {E : Env} {o : Oper} {id : Nat} {x y z : Operand} {ts : Array TypeId} (ho : o.op = .call { callee := .builtin .min, args := #[x, y, z], argTypes := ts }) (hd : ∀ x, o.dst = some x → x < E.n) : ActOk E o id (aMax3 false x y z) := by
  intro g p wb h nx c a K Q hn hI hK
  obtain ⟨q1, hq1, h1⟩ := Res.opd hI h
  obtain ⟨q2, hq2, h2⟩ := Res.opd hI h1
  obtain ⟨q3, hq3, h3⟩ := Res.opd hI h2
  split at h3
  · rename_i k m k2 n k3 l
    obtain ⟨rfl, rfl⟩ := Res.done h3
    refine pure_step hd hI hK (.sh (.av _)) ?_
    have e : min (min m n) l = if l < (if n < m then n else m) then l else (if n < m then n else m) := by split <;> split <;> omega
    simp [execOp, ho, resolve, invoke, builtin, rep_av hq1, rep_av hq2, rep_av hq3, Builtin.min_, Builtin.min2, e]
  · exact (Res.fail h3).elim
end Go.Proofs.Ytgkahjaoajjgcaa.Pm
