/-
  A GOROUTINE's OWN STEPS, RECKONED (O): calls and returns by the temporaries that are known; tests; paths into code. No program in sight. | A GOROUTINE's OWN STEPS, RECKONED (P): single operations: one whose value is told anew; a plain load; one that turns the walker's own memory. No program in sight. | A RING BETWEEN TWO GOROUTINES (Q): what each knows of the world as it walks; that the rules of RgK .. RgP serve it. No program in sight. | RingThrough (HO): the go statement: the two begin. No program in sight. | A GOROUTINE's OWN STEPS, RECKONED (R): control where the code is told by a path. No program in sight. | A GOROUTINE's OWN STEPS, RECKONED (S): the rules of RgK .. RgR that look at no memory, for whatever is carried along (a walk; an only leaving); deferred calls; calls of function values; recover. No program in sight. | A RING BETWEEN TWO GOROUTINES (T): what a stop does to the world. No program in sight. | A GOROUTINE's OWN STEPS, RECKONED (U): function values, empty structs, bare pointers; a bell's two steps; a child's first and last. No program in sight. | A GOROUTINE's OWN STEPS, RECKONED (W): behind a special operation of a region that asks the tape. No program in sight. | Small lemmas for all walks of this seat. | RingThrough (V): the program's texts by name; what is known of the world at the fork. | RingThrough (RgX): printed by pm/rb.py, pm/ra.py. | RingThrough (RgY): printed by pm/rb.py, pm/ra.py. | RingThrough (RhB): printed by pm/rb.py, pm/ra.py. | RingThrough (RhA): printed by pm/rb.py, pm/ra.py. | RingThrough (RhC): printed by pm/rb.py, pm/ra.py. | RingThrough (RgZ): printed by pm/rb.py, pm/ra.py. | RingThrough (HD): goroutine 0's own row: what has come out; one more is put behind it. No program in sight.
-/
import Derived.Test.YtdmiilgdkmbmeaaJRqQ1
import Derived.Conc.Company
import Derived.Conc.AtomicLaws2
import Derived.Conc.QuitsD
import Derived.Laws.LoneSync
import Derived.Conc.SmallLaws
import Derived.Conc.Own2
import Derived.Conc.Comm2
import Derived.Test.YtdmiilgdkmbmeaaRows
import Derived.WalkKit
import Derived.WalkSpells
import Derived.WalkLawsBesides
import Derived.Deep.QuietTactic
import Derived.BigQuiet
import Derived.Lib.Hide
import Derived.KernelRfl
import Derived.Conc.AppendWalk
import Derived.Great.BuildSlice
namespace Go.Proofs.Ytdmiilgdkmbmeaa.Rg
open Go Go.Conc

theorem oc {q : Prop} {qs : List Prop} (h : q) (h' : ∀ z ∈ qs, z) : ∀ z ∈ q :: qs, z := fun z hz => by
  rcases List.mem_cons.1 hz with rfl | hz
  · exact h
  · exact h' z hz
theorem on : ∀ z ∈ ([] : List Prop), z := fun z hz => by cases hz
def hasD (l : List Oper) (sp : List Nat) : Bool := (List.range l.length).all fun i => sp.contains i || ((l[i]?).bind (·.dst)).isSome
theorem hasD_ok {l : List Oper} {sp : List Nat} (h : hasD l sp = true) : ∀ (i : Nat) (o : Oper), l[i]? = some o → sp.contains i = false → ∃ d, o.dst = some d := by
  intro i o ho hs
  unfold hasD at h
  rw [List.all_eq_true] at h
  have := h i (by simp; exact (List.getElem?_eq_some_iff.1 ho).1)
  rw [hs, ho] at this
  simpa [Option.isSome_iff_exists] using this

/-! ### paths into a function's text -/
def _root_.Go.Code.pa : Code → Code
  | .seq y _ => y
  | .cond _ y _ => y
  | .block _ y => y
  | .loop y => y
  | c => c
def _root_.Go.Code.pd : Code → Code
  | .seq _ y => y
  | .cond _ _ y => y
  | c => c
def _root_.Go.Code.po : Code → List Oper
  | .region _ ops _ => ops.toList
  | _ => []

section
variable {P : Program} {x : Bool} {R : World → World → Prop} {D : World → World → Array Event → Prop} {Stop : Goroutine → World → Prop} {b : Frame} {a : Act} {k : List Item} {cs : List Frame} {w : World} {m n : Nat} {g : Gm} {ds : List Deferred}

theorem Gz.condT (T : Tms R D) (hT : Tm a n g ds) {c : Operand} {y z : Code} (hc : evv g c = some (.bool true)) (h : Goes P x R D Stop m (G (b.at a (.code y :: k)) cs) w) : Goes P x R D Stop (m + 1) (G (b.at a (.code (.cond c y z) :: k)) cs) w :=
  Gz.cond T (t := true) (evv_ok hT hc) h
theorem Gz.condF (T : Tms R D) (hT : Tm a n g ds) {c : Operand} {y z : Code} (hc : evv g c = some (.bool false)) (h : Goes P x R D Stop m (G (b.at a (.code z :: k)) cs) w) : Goes P x R D Stop (m + 1) (G (b.at a (.code (.cond c y z) :: k)) cs) w :=
  Gz.cond T (t := false) (evv_ok hT hc) h
def enm : List Value → Nat → Gm
  | [], _ => []
  | v :: l, i => (i, v) :: enm l (i + 1)
theorem enm_lk : ∀ {l : List Value} {s i : Nat} {v : Value}, lkv i (enm l s) = some v → s ≤ i ∧ l[i - s]? = some v
  | [], _, _, _, h => by cases h
  | u :: l, s, i, v, h => by
    simp only [enm, lkv] at h
    split at h
    · rename_i e
      have := Nat.eq_of_beq_eq_true e
      subst this
      exact ⟨Nat.le_refl _, by simpa using h⟩
    · obtain ⟨h1, h2⟩ := enm_lk h
      refine ⟨by omega, ?_⟩
      rw [show i - s = (i - (s + 1)) + 1 by omega, List.getElem?_cons_succ]
      exact h2
def evvs (g : Gm) : List Operand → Option (List Value)
  | [] => some []
  | o :: l => match evv g o, evvs g l with
    | some v, some vs => some (v :: vs)
    | _, _ => none
theorem evvs_ok (hT : Tm a n g ds) : ∀ {l : List Operand} {vs : List Value}, evvs g l = some vs → l.map a.eval = vs
  | [], vs, h => by cases h; rfl
  | o :: l, vs, h => by
    simp only [evvs] at h
    split at h
    · rename_i v vs' h1 h2
      cases h
      rw [List.map_cons, evv_ok hT h1, evvs_ok hT h2]
    · cases h
/-- The temporaries of a function that is entered. -/
theorem Tm.enter (vs : List Value) (k : Nat) : Tm ⟨vs.toArray ++ Array.replicate k undef, []⟩ (vs.length + k) (enm vs 0) [] := by
  refine ⟨by simp, fun i v h => ?_, rfl⟩
  obtain ⟨_, h2⟩ := enm_lk h
  rw [Nat.sub_zero] at h2
  show (vs.toArray ++ Array.replicate k undef).getD i undef = v
  have hlt := (List.getElem?_eq_some_iff.1 h2).1
  rw [Array.getD_eq_getD_getElem?, Array.getElem?_append_left (by simpa using hlt)]
  simp [h2]
theorem Gz.enter (T : Tms R D) (hT : Tm a n g ds) {ops : Array Oper} {i : Nat} {rest : List Nat} {o : Oper} {f : FuncId} {fn : Func} {c : Code} {args : Array Operand} {ats : Array TypeId} (vs : List Value) (n' : Nat) (ho : ops[i]? = some o) (hg : o.guard = none) (hk : b.kind ≠ .early)
    (hop : o.op = .call { callee := .value (.func f), args, argTypes := ats }) (hf : P.funcs[f]? = some fn) (hname : (fn.name == "runtime.NumGoroutine") = false) (hb : fn.body = some c) (he : evvs g args.toList = some vs) (hn : Nat.ble vs.length n' = true) (hnt : fn.ntmps = n')
    (h : ∀ a', Tm a' n' (enm vs 0) [] → Goes P x R D Stop m (G ((base f).at a' [.code c]) (b.at a (.inRegion ops (i :: rest) :: k) :: cs)) w) :
    Goes P x R D Stop (m + 1) (G (b.at a (.inRegion ops (i :: rest) :: k)) cs) w := by
  refine Gz.call T ho (by simp [Region.wanted, hg]) hk hop hf hname hb (h _ ?_)
  have e : args.map a.eval = vs.toArray := by
    apply Array.ext'
    simpa using evvs_ok hT he
  have hle : vs.length ≤ n' := Nat.le_of_ble_eq_true hn
  rw [e, hnt]
  have := Tm.enter vs (n' - vs.length)
  rw [show vs.length + (n' - vs.length) = n' by omega] at this
  simpa using this
section
variable {fn : Func} {todo : List Item} {b₀ : Frame} {a₀ : Act} {ops : Array Oper} {i d n₀ : Nat} {rest : List Nat} {g₀ : Gm} {ds₀ : List Deferred} {v u : Value}
theorem Gz.back1 (T : Tms R D) (hT : Tm a n g []) (hT₀ : Tm a₀ n₀ g₀ ds₀) {t : Tmp} (hn : b.kind = .normal) (hf : P.funcs[b.fn]? = some fn) (hr : fn.results = #[.tmp t]) (hv : lkv t g = some v) (hd : (ops[i]?).bind (·.dst) = some d) (hlt : Nat.blt d n₀ = true)
    (h : ∀ a', Tm a' n₀ ((d, v) :: g₀) ds₀ → Goes P x R D Stop m (G (b₀.at a' (.inRegion ops rest :: k)) cs) w) : Goes P x R D Stop (m + 1) (G { b.at a todo with mode := .returning } (b₀.at a₀ (.inRegion ops (i :: rest) :: k) :: cs)) w := by
  refine Gz.leave1 T hn hT.dfr hf hr ?_
  rw [hd, hT.val t v hv]
  exact h _ (hT₀.put d (by simpa [Nat.blt_eq] using hlt) v)
theorem Gz.back0 (T : Tms R D) (hT : Tm a n g []) (hT₀ : Tm a₀ n₀ g₀ ds₀) (hn : b.kind = .normal) (hf : P.funcs[b.fn]? = some fn) (hr : fn.results = #[]) (hd : (ops[i]?).bind (·.dst) = some d) (hlt : Nat.blt d n₀ = true)
    (h : ∀ a', Tm a' n₀ ((d, .tuple #[]) :: g₀) ds₀ → Goes P x R D Stop m (G (b₀.at a' (.inRegion ops rest :: k)) cs) w) : Goes P x R D Stop (m + 1) (G { b.at a todo with mode := .returning } (b₀.at a₀ (.inRegion ops (i :: rest) :: k) :: cs)) w := by
  refine Gz.leave0 T hn hT.dfr hf hr ?_
  rw [hd]
  exact h _ (hT₀.put d (by simpa [Nat.blt_eq] using hlt) _)
theorem Gz.back2 (T : Tms R D) (hT : Tm a n g []) (hT₀ : Tm a₀ n₀ g₀ ds₀) {t t' : Tmp} (hn : b.kind = .normal) (hf : P.funcs[b.fn]? = some fn) (hr : fn.results = #[.tmp t, .tmp t']) (hv : lkv t g = some v) (hu : lkv t' g = some u) (hd : (ops[i]?).bind (·.dst) = some d) (hlt : Nat.blt d n₀ = true)
    (h : ∀ a', Tm a' n₀ ((d, .tuple #[v, u]) :: g₀) ds₀ → Goes P x R D Stop m (G (b₀.at a' (.inRegion ops rest :: k)) cs) w) : Goes P x R D Stop (m + 1) (G { b.at a todo with mode := .returning } (b₀.at a₀ (.inRegion ops (i :: rest) :: k) :: cs)) w := by
  refine Gz.leave2 T hn hT.dfr hf hr ?_
  rw [hd, hT.val t v hv, hT.val t' u hu]
  exact h _ (hT₀.put d (by simpa [Nat.blt_eq] using hlt) _)
end
/-- Gz.draw, with whatever fuel is enough. -/
theorem Gz.drawn {l : List Oper} {H : List (Nat × Hint)} {vals : List Value} {bf : List (List Nat)} {sp : List Nat} {rds : List (List Nat)} {qs : List Prop} {C : Kn} (m : Nat) {n' : Nat} (T : Tmd R D) (hm : P.follows .mixedOrders = true) (K : Ken P R D C w) (hk : b.kind ≠ .early) (hT : Tm a n g ds) (hb : befB l bf = true) (hn : dstsN l = true) (hn2 : dstsB l.toArray n = true) (hd : dra P C l bf sp H vals g rds l 0 = some (vals, qs)) (hq : ∀ q ∈ qs, q)
    (hdst : hasD l sp = true) (hle : Nat.ble (m + l.length + 1) n' = true) {id : Nat}
    (hS : ∀ (i : Nat) (fuel t : Nat) (listed : Array Bool) (a : Act), sp.contains i = true → left (fun j => (listed.setIfInBounds i true).getD j false) l.length ≤ fuel → Mid l n g vals ds i listed a → (∀ j, sp.contains j = true → listed.getD j false = false) →
      Goes P x R D Stop (m + left (fun j => (listed.setIfInBounds i true).getD j false) l.length + 1) (G (b.at a (.inRegion l.toArray (i :: Region.linearise.go .any l.toArray fuel t (listed.setIfInBounds i true) []) :: k)) cs) w)
    (hE : ∀ (listed : Array Bool) (a : Act), (∀ i, i < l.length → listed.getD i false = true) → Jd l n g vals ds listed a → (∀ j, sp.contains j = true → listed.getD j false = false) → Goes P x R D Stop m (G (b.at a (.inRegion l.toArray [] :: k)) cs) w) :
    Goes P x R D Stop n' (G (b.at a (.code (.region id l.toArray true) :: k)) cs) w :=
  Goes.mono (Gz.draw T hm K hk hT hb hn hn2 hd hq (hasD_ok hdst) hS hE) (Nat.le_of_ble_eq_true hle)
/-- A special operation that waits for another special one does not come up. -/
theorem Mid.not {l : List Oper} {vals : List Value} {i : Nat} {listed : Array Bool} {sp : List Nat} (hM : Mid l n g vals ds i listed a) (hu : ∀ j, sp.contains j = true → listed.getD j false = false) (h : ((l[i]?).any fun o => o.after.any fun e => Region.binds .any e && sp.contains e.on) = true) : False := by
  obtain ⟨_, o, ho, hdeps⟩ := mem_ready.1 hM.rdy
  have ho' : l[i]? = some o := by simpa using ho
  rw [ho', Option.any_some, Array.any_eq_true'] at h
  obtain ⟨e, he, h2⟩ := h
  simp only [Bool.and_eq_true] at h2
  have h3 := hdeps e he h2.1
  rw [hu e.on h2.2] at h3
  cases h3
end
end Go.Proofs.Ytdmiilgdkmbmeaa.Rg
namespace Go.Proofs.Ytdmiilgdkmbmeaa.Rg
open Go Go.Conc

section
variable {P : Program} {x : Bool} {R : World → World → Prop} {D : World → World → Array Event → Prop} {Stop : Goroutine → World → Prop} {b : Frame} {a : Act} {k : List Item} {cs : List Frame} {w : World} {m n d i : Nat} {g : Gm} {ds : List Deferred} {C : Kn} {ops : Array Oper} {rest : List Nat} {o : Oper} {v : Value}

/-- The value is told anew. -/
theorem Gz.hint (T : Tms R D) (hk : b.kind ≠ .early) (hT : Tm a n g ds) (ho : ops[i]? = some o) (hd : o.dst = some d) (hlt : Nat.blt d n = true) (hn : dstsB ops n = true) (hw : wantedV ops g o = some true) (hv : pv P g o = some v)
    (h : ∀ a', Tm a' n ((d, v) :: g) ds → Goes P x R D Stop m (G (b.at a' (.inRegion ops rest :: k)) cs) w) : Goes P x R D Stop (m + 1) (G (b.at a (.inRegion ops (i :: rest) :: k)) cs) w := by
  refine Gz.val T ho (wanted_ok hT hw (dsts_ok hn)) hk (v := v) (fun w₁ _ => ?_) (by rw [hd]; exact h _ (hT.put d (by simpa [Nat.blt_eq] using hlt) v))
  obtain ⟨e1, e2⟩ := pv_ok hT hv w₁
  refine ⟨e1, ?_⟩
  have : Go.Conc.listed P b.fn a o w₁ = #[] := by unfold Go.Conc.listed; rw [e2]; exact seen_none P _
  rw [this]
  exact T.idle w₁
/-- A plain load of a cell that is known. -/
theorem Gz.load (T : Tms R D) (K : Ken P R D C w) (hk : b.kind ≠ .early) (hT : Tm a n g ds) {X : TypeId} {y : Operand} {ad : Addr} (ho : ops[i]? = some o) (hd : o.dst = some d) (hlt : Nat.blt d n = true) (hn : dstsB ops n = true) (hw : wantedV ops g o = some true) (hop : o.op = .load X y) (hpl : plainT P X = true)
    (hy : evv g y = some (.pointer (some ad))) (hC : C ad v) (h : ∀ a', Tm a' n ((d, v) :: g) ds → Goes P x R D Stop m (G (b.at a' (.inRegion ops rest :: k)) cs) w) : Goes P x R D Stop (m + 1) (G (b.at a (.inRegion ops (i :: rest) :: k)) cs) w := by
  refine Gz.val T ho (wanted_ok hT hw (dsts_ok hn)) hk (v := v) (fun w₁ h₁ => ?_) (by rw [hd]; exact h _ (hT.put d (by simpa [Nat.blt_eq] using hlt) v))
  have e := evv_ok hT hy
  obtain ⟨hcell, hD⟩ := K.cell ad v hC w₁ h₁
  refine ⟨by simp [execOp, hop, e, Instr.loadAt, Instr.sureAddr, loadVar, run_plain hpl, Go.load, Sem.run, hcell], hD _ fun ev hev => ?_⟩
  have := mem_listed hev
  simp [execOp, hop, e, Instr.loadAt, Instr.sureAddr, loadVar, run_plain hpl, hcell] at this
  exact this
/-- One that turns the walker's own memory: what it yields, what it leaves, what it lists. -/
theorem Gz.turn (T : Tms R D) (hk : b.kind ≠ .early) (hT : Tm a n g ds) (ho : ops[i]? = some o) (hn : dstsB ops n = true) (hw : wantedV ops g o = some true)
    (h : ∀ w₁, R w w₁ → ∃ v w', ((execOp a.eval o).run P w₁ = .ok (.value v) w' ∨ (execOp a.eval o).run P w₁ = .ok .skip w' ∧ v = undef) ∧ D w₁ w' (Go.Conc.listed P b.fn a o w₁) ∧ Goes P x R D Stop m (G (b.at (a.put o.dst v) (.inRegion ops rest :: k)) cs) w') :
    Goes P x R D Stop (m + 1) (G (b.at a (.inRegion ops (i :: rest) :: k)) cs) w := by
  refine Goes.step rfl fun w₁ h₁ => ?_
  obtain ⟨v, w', hr, hD, hG⟩ := h w₁ h₁
  rcases hr with hr | ⟨hr, rfl⟩
  · rw [stepG_value ho (wanted_ok hT hw (dsts_ok hn)) hk hr]
    exact ⟨hD, hG⟩
  · rw [stepG_none ho (wanted_ok hT hw (dsts_ok hn)) hk hr]
    exact ⟨hD, hG⟩
/-- An atomic load of a counter that is the walker's own. -/
theorem Gz.aload (T : Tms R D) (hk : b.kind ≠ .early) (hT : Tm a n g ds) {f : FuncId} {fn : Func} {y : Operand} {ats : Array TypeId} {kd : IntKind} {z : Int} {ad : Addr} (ho : ops[i]? = some o) (hd : o.dst = some d) (hlt : Nat.blt d n = true) (hg : o.guard = none) (hop : o.op = .call { callee := .value (.func f), args := #[y], argTypes := ats })
    (hf : P.funcs[f]? = some fn) (hname : (fn.name == "runtime.NumGoroutine") = false) (hb : fn.body.isNone = true) (hx : Extern.findNext fn = none) (he : Extern.find fn = some (Extern.Atomic.loadT (.int kd))) (hy : evv g y = some (.pointer (some ad)))
    (hC : ∀ w₁, R w w₁ → w₁.cell? ad = some (.int kd z) ∧ D w₁ w₁ #[⟨.cell ad, false, true⟩]) (h : ∀ a', Tm a' n ((d, .int kd z) :: g) ds → Goes P x R D Stop m (G (b.at a' (.inRegion ops rest :: k)) cs) w) :
    Goes P x R D Stop (m + 1) (G (b.at a (.inRegion ops (i :: rest) :: k)) cs) w := by
  refine Goes.step rfl fun w₁ h₁ => ?_
  obtain ⟨hc, hD⟩ := hC w₁ h₁
  rw [stepG_load_atomic (v := z) ho (by simp [Region.wanted, hg]) hk hop hf hname hb hx kd he (evv_ok hT hy) hc]
  refine ⟨hD, ?_⟩
  rw [hd]
  exact (h _ (hT.put d (by simpa [Nat.blt_eq] using hlt) _)).rely T.trans h₁
end
end Go.Proofs.Ytdmiilgdkmbmeaa.Rg
namespace Go.Proofs.Ytdmiilgdkmbmeaa.Rg
open Go Go.Conc

/-- What x knows of the world, having done i: what stood at the fork stands; the ring's first cell; its own counter. -/
structure KW (L : Lay) (D : Dat) (w₀ : World) (x : Bool) (i : Nat) (w : World) : Prop where
  low : ∀ b, b < L.low → ¬ L.sp b → w.heap[b]? = w₀.heap[b]?
  ring : ∃ p q, w.heap[L.R]? = some (.cells #[D.hdr, p, q] D.tR) ∧ (if x then q = .int .i64 i else p = .int .i64 i)
  size : L.low ≤ w.heap.size
  grp : ∃ p q, w.heap[L.W]? = some (.cells #[p, q] D.tW)
/-- The cells that it may look at. -/
def Cw (L : Lay) (D : Dat) (Shun : Loc → Prop) (w₀ : World) : Kn := fun ad v => (ad = ⟨L.R, 0, none⟩ ∧ v = D.hdr ∨ w₀.cell? ad = some v ∧ ad.block < L.low ∧ ¬ L.sp ad.block) ∧ ¬ Shun (.cell ad)

section
variable {P : Program} {L : Lay} {D : Dat} {Shun : Loc → Prop} {w₀ w w' : World} {x : Bool} {i : Nat} {p : Pl}

theorem cell_of_heap {w w' : World} {ad : Addr} (h : w'.heap[ad.block]? = w.heap[ad.block]?) : w'.cell? ad = w.cell? ad := by unfold World.cell?; rw [h]
theorem KW.rely (h : KW L D w₀ x i w) (hr : RX L x w w') : KW L D w₀ x i w' := by
  obtain ⟨p, q, h1, h2⟩ := h.ring
  obtain ⟨p', q', h3, h4⟩ := hr.ring _ _ _ _ h1
  refine ⟨fun b h5 h6 => (hr.low b h5 h6).trans (h.low b h5 h6), ⟨p', q', h3, ?_⟩, Nat.le_trans h.size hr.grow, by obtain ⟨a, b, e⟩ := h.grp; exact hr.grp a b _ e⟩
  cases x
  · exact (show p' = p from h4).trans h2
  · exact (show q' = q from h4).trans h2
theorem KW.cell (h : KW L D w₀ x i w) {ad : Addr} {v : Value} (hc : Cw L D Shun w₀ ad v) : w.cell? ad = some v := by
  rcases hc.1 with ⟨rfl, rfl⟩ | ⟨h1, h2, h3⟩
  · obtain ⟨p, q, h4, _⟩ := h.ring
    simp [World.cell?, h4]
  · rw [cell_of_heap (h.low _ h2 h3)]; exact h1
theorem KW.grpc (h : KW L D w₀ x i w) : (∃ v, w.cell? L.grp = some v) ∧ ∃ v, w.cell? L.sem = some v := by
  obtain ⟨a, b, e⟩ := h.grp
  exact ⟨⟨a, by simp [World.cell?, Lay.grp, e]⟩, ⟨b, by simp [World.cell?, Lay.sem, e]⟩⟩
theorem KW.ctr (h : KW L D w₀ x i w) : w.cell? (L.ctr x) = some (.int .i64 i) := by
  obtain ⟨p, q, h4, h5⟩ := h.ring
  cases x
  · have e : p = .int .i64 i := h5
    simp [World.cell?, Lay.ctr, h4, e]
  · have e : q = .int .i64 i := h5
    simp [World.cell?, Lay.ctr, h4, e]
theorem cl_read (hL : L.Good) {ad : Addr} {v : Value} (hc : Cw L D Shun w₀ ad v) : L.cl (.cell ad) = 0 := by
  show (if ad.block = L.M then 3 else if ad.block = L.W then 1 else if ad = L.ctr true then 1 else if ad = L.ctr false then 1 else if L.low ≤ ad.block then 2 else 0) = 0
  rcases hc.1 with ⟨rfl, _⟩ | ⟨_, h2, h3⟩
  · have hR := hL.R
    rw [if_neg hL.RM, if_neg hL.RW, if_neg (by simp [Lay.ctr]), if_neg (by simp [Lay.ctr]), if_neg (by show ¬ L.low ≤ L.R; omega)]
  · have n1 : ad.block ≠ L.M := fun e => h3 (.inr (.inl e))
    have n2 : ad.block ≠ L.W := fun e => h3 (.inr (.inr (.inr (.inr e))))
    have n3 : ad.block ≠ L.R := fun e => h3 (.inl e)
    rw [if_neg n1, if_neg n2, if_neg (fun e => n3 (by rw [e]; rfl)), if_neg (fun e => n3 (by rw [e]; rfl)), if_neg (by omega)]
theorem evI_read (hL : L.Good) {ad : Addr} {v : Value} (hc : Cw L D Shun w₀ ad v) : EvI L Shun x ⟨.cell ad, false, false⟩ := by
  have hcl := cl_read hL hc
  refine ⟨fun b hb _ => ?_, fun b hb => ?_, by simp, by simp, by simp, fun y sync => by rw [ofEvent_cell]; simp⟩
  · rw [ofEvent_cell] at hb
    obtain rfl := Option.some.inj hb
    exact ⟨fun e => absurd e hc.2, fun _ => ⟨rfl, rfl⟩, fun e => (by rw [show L.cl (Touch.mk (.cell ad) false .plain).loc = L.cl (.cell ad) from rfl, hcl] at e; cases e), fun e => (by rw [show L.cl (Touch.mk (.cell ad) false .plain).loc = L.cl (.cell ad) from rfl, hcl] at e; cases e)⟩
  · rw [ofEvent_cell] at hb
    obtain rfl := Option.some.inj hb
    rw [show L.cl (Touch.mk (.cell ad) false .plain).loc = L.cl (.cell ad) from rfl, hcl]
    decide
theorem evI_own (hL : L.Good) : EvI L Shun x (rdE (L.ctr x)) := by
  have hcl := cl_ctr hL x
  refine ⟨fun b hb _ => ?_, fun b hb => ?_, by simp [rdE], by simp [rdE], by simp [rdE], fun y sync => by rw [show rdE (L.ctr x) = ⟨.cell (L.ctr x), false, true⟩ from rfl, ofEvent_cell]; simp⟩
  · rw [show rdE (L.ctr x) = ⟨.cell (L.ctr x), false, true⟩ from rfl, ofEvent_cell] at hb
    obtain rfl := Option.some.inj hb
    exact ok_sync' hcl
  · rw [show rdE (L.ctr x) = ⟨.cell (L.ctr x), false, true⟩ from rfl, ofEvent_cell] at hb
    obtain rfl := Option.some.inj hb
    rw [show L.cl (Touch.mk (.cell (L.ctr x)) false .atomic).loc = L.cl (.cell (L.ctr x)) from rfl, hcl]
    decide
where
  ok_sync' {g : Nat} (hcl : L.cl (.cell (L.ctr x)) = 1) : Ok L Shun g ⟨.cell (L.ctr x), false, .atomic⟩ :=
    ⟨fun _ e => (by cases e), fun e => absurd (hcl.symm.trans e) (by decide), fun _ => ⟨fun e => (by cases e), fun e => (by cases e)⟩, fun e => absurd (hcl.symm.trans e) (by decide)⟩
theorem dx_same {es : Array Event} (he : ∀ e ∈ es, EvI L Shun x e ∧ (MemAct.ofEvent e).low w.heap.size) (hq : p.qu = true → es = #[]) : DX L Shun x p w w es := ⟨fun _ _ => rfl, Nat.le_refl _, rfl, rfl, rfl, fun _ => rfl, he, hq⟩
theorem tmd : Tmd (RX L x) (DX L Shun x p) :=
  { trans := RX.trans, idle := fun w => dx_same (fun e he => by simp at he) (fun _ => rfl), draw := fun w d => RX.of_heap rfl rfl rfl rfl, letd := fun w => ⟨fun _ _ => rfl, Nat.le_refl _, rfl, rfl, rfl, fun _ => rfl, fun e he => by simp at he, fun _ => rfl⟩ }
theorem low_read (hL : L.Good) {ad : Addr} {v : Value} (hc : Cw L D Shun w₀ ad v) : ad.block < L.low := by
  rcases hc.1 with ⟨rfl, _⟩ | ⟨_, h2, _⟩
  · exact hL.R
  · exact h2
/-- Goroutine 0, and the child, ahead of their last words: they may look. -/
theorem ken (hL : L.Good) (h : KW L D w₀ x i w) (hp : p.qu = false) : Ken P (RX L x) (DX L Shun x p) (Cw L D Shun w₀) w :=
  ⟨fun ad v hc w₁ h₁ => ⟨(h.rely h₁).cell hc, fun es hes => dx_same (fun e he => by
    rw [hes e he]
    refine ⟨evI_read hL hc, ?_⟩
    rw [ofEvent_cell]
    exact Nat.lt_of_lt_of_le (low_read hL hc) (h.rely h₁).size) (fun e => by rw [hp] at e; cases e)⟩⟩
/-- Who looks at nothing. -/
theorem ken0 : Ken P (RX L x) (DX L Shun x p) (fun _ _ => False) w := ⟨fun _ _ hc => hc.elim⟩
theorem own_look (hL : L.Good) (h : KW L D w₀ x i w) (hp : p.qu = false) : ∀ w₁, RX L x w w₁ → w₁.cell? (L.ctr x) = some (.int .i64 i) ∧ DX L Shun x p w₁ w₁ #[⟨.cell (L.ctr x), false, true⟩] := fun w₁ h₁ =>
  ⟨(h.rely h₁).ctr, dx_same (fun e he => by
    rw [show e = rdE (L.ctr x) from (by simpa [rdE] using he)]
    refine ⟨evI_own hL, ?_⟩
    rw [show rdE (L.ctr x) = ⟨.cell (L.ctr x), false, true⟩ from rfl, ofEvent_cell]
    exact Nat.lt_of_lt_of_le hL.R (h.rely h₁).size) (fun e => by rw [hp] at e; cases e)⟩
end
end Go.Proofs.Ytdmiilgdkmbmeaa.Rg
namespace Go.Proofs.Ytdmiilgdkmbmeaa.Rg
open Go Go.Conc
open Go.ConcN (sumTo)

section
variable {P : Program} {Shun : Loc → Prop} {B W c : Nat} {t : Trace} {x y : MemOp}
theorem fork_edge (hx : x.g = 0 ∧ x.act = .go c) (hy : y.g = c ∧ y.act = .start) (h0 : Deaf t 0 = 0) (hc : Deaf t c = 0) {i : Nat} (hk : Knows t 0 i) : Knows (t ++ #[x, y]) c i := by
  obtain ⟨q, z, h1, h2, h3⟩ := hk
  have hq := lt_size_of_getElem? h1
  have ex : (t ++ #[x, y])[t.size]? = some x := by simp
  have ey : (t ++ #[x, y])[t.size + 1]? = some y := by rw [Array.getElem?_append_right (by omega)]; simp
  have ez : (t ++ #[x, y])[q]? = some z := by rw [getElem?_append_old hq]; exact h1
  have gx : (t ++ #[x, y]).g? t.size = some 0 := by simp [Trace.g?, hx.1]
  have gy : (t ++ #[x, y]).g? (t.size + 1) = some c := by unfold Trace.g?; rw [ey, Option.map_some, hy.1]
  have e1 : HappensBefore (t ++ #[x, y]) q t.size := hb_po hq ez ex (h2.trans hx.1.symm)
  have hhx : (t ++ #[x, y]).heard t.size := ⟨0, gx, by rw [deaf_old (Nat.le_refl _)]; exact h0⟩
  have hhy : (t ++ #[x, y]).heard (t.size + 1) := ⟨c, gy, by
    rw [deaf_succ ex, deaf_old (Nat.le_refl _)]
    unfold deafStep
    rw [hx.2]
    exact hc⟩
  have e2 : HappensBefore (t ++ #[x, y]) t.size (t.size + 1) := .single (.inr ⟨.spawn (child := c) (by rw [act?_of ex, hx.2]) (by rw [act?_of ey, hy.2]) gy, hhx, hhy⟩)
  exact ⟨t.size + 1, y, ey, hy.1, (h3.app _).trans (.inr (e1.trans e2))⟩
/-- The trace behind the go statement. -/
theorem fork_trace {w : World} {L : Lay} (hL : L.Good) (h : Pd Shun B L.W 0 t) (hB : B ≤ w.heap.size) (hS2 : ∀ y : Addr, y.block = L.M → ¬ Shun (.cell y)) (hx : x.g = 0 ∧ x.act = .go L.c) (hy : y.g = L.c ∧ y.act = .start) (hc : Deaf t L.c = 0) (N : Nat) :
    TrS L Shun ⟨0, 0, false, false, false, .a⟩ (aft N true 0) (aft N false 0) (t ++ #[x, y]) := by
  have hL0 := hL.c
  have touch : ∀ op ∈ #[x, y], op.act.touch? = none := fun op hop => by
    have : op = x ∨ op = y := by simpa using hop
    rcases this with rfl | rfl
    · rw [hx.2]; rfl
    · rw [hy.2]; rfl
  have old : ∀ {i a}, touchAt (t ++ #[x, y]) i = some a → i < t.size ∧ touchAt t i = some a := by
    intro i a ha
    obtain ⟨z, hz, hza⟩ := touch_of ha
    rcases getElem?_append_cases hz with ⟨hi, hz'⟩ | ⟨_, hzu⟩
    · exact ⟨hi, by rw [touchAt_of hz']; exact hza⟩
    · rw [touch z hzu] at hza; cases hza
  have both : ∀ i a, touchAt (t ++ #[x, y]) i = some a → a.loc.isMemory = true → (Shun a.loc ∧ a.kind = .atomic) ∨ (Knows (t ++ #[x, y]) 0 i ∧ Knows (t ++ #[x, y]) L.c i) := fun i a ha hm => by
    rcases h.known i a (old ha).2 hm with hk | hk
    · exact .inr ⟨hk.app _, fork_edge hx hy h.deaf hc hk⟩
    · exact .inl hk
  have dd : ∀ g, Deaf (t ++ #[x, y]) g = Deaf t g := fun g => by
    have e : t ++ #[x, y] = (t ++ #[x]) ++ #[y] := by rw [Array.append_assoc]; rfl
    rw [e, Deaf_push, Deaf_push]
    unfold deafStep
    rw [hx.2, hy.2]
  have ha : ∀ x, dfA (aft N x 0) = 0 ∧ dfB (aft N x 0) = 0 ∧ (aft N x 0 ≠ .sl) ∧ aft N x 0 ≠ .st ∧ (aft N x 0).rel = false := fun x => by
    unfold aft
    cases x <;> by_cases e : (0 : Nat) = N <;> simp [e, dfA, dfB, Pl.rel]
  refine { tr := ⟨fun said => noRace_appendMute (h.clean said) touch, fun i a ha hm => ?_, ?_, h.norel.app fun op hop e => ?_⟩, fr := fun m _ _ => ?_, fu := fun m h1 h2 => by simp at h2, pa := fun e => ?_, pb := fun e => ?_, da := by rw [dd, h.deaf, (ha true).1], db := fun _ => by rw [dd, hc, (ha false).2.1], rel := fun e => by rw [(ha false).2.2.2.2] at e; cases e }
  · rcases both i a ha hm with h1 | h1
    · exact .inl h1
    · exact .inr (.inl h1)
  · refine over_app (fun i g hg h0 _ hcn => h.over i g hg h0 hcn) fun op hop => .inr (.inr (touch op hop))
  · have : op = x ∨ op = y := by simpa using hop
    rcases this with rfl | rfl
    · rw [hx.2] at e; cases e
    · rw [hy.2] at e; cases e
  · intro i b hb hl
    rcases both i b hb (by rw [hl]; rfl) with ⟨h1, _⟩ | h1
    · rw [hl] at h1
      exact absurd h1 (hS2 _ rfl)
    · exact .inl h1.2
  · rcases e with e | e
    · exact absurd e (ha true).2.2.1
    · exact absurd e (ha true).2.2.2.1
  · rcases e with e | e
    · exact absurd e (ha false).2.2.1
    · exact absurd e (ha false).2.2.2.1
theorem fork_J (n N : Nat) (hn : 1 ≤ n) : J n N ⟨0, 0, false, false, false, .a⟩ (aft N true 0) (aft N false 0) := by
  unfold aft
  by_cases e : (0 : Nat) = N
  · rw [if_pos e, if_pos e]
    constructor <;> simp_all [wgOk, Pl.ap, Pl.bp, Pl.wt, Pl.dn]
  · rw [if_neg e, if_neg e]
    constructor <;> simp_all [wgOk, Pl.ap, Pl.bp, Pl.wt, Pl.dn] <;> omega

/-- ████ THE GO STATEMENT: THE TWO STAND AS THEY SHOULD. ████ -/
theorem lone_fork {L : Lay} {D : Dat} {At : Bool → Pl → Nat → Goroutine → World → Prop} {gs : Array Goroutine} {a a' child : Goroutine} {w : World} {q : Nat → Nat} (hL : L.Good) (hcs : L.c = gs.size) (hrun : a.status = .running) (hsp : ∀ w, stepG P true a w = .spawn a' child w #[])
    (h0 : gs[0]? = some a) (hLv : Leavers P t gs q) (hP : Pd Shun w.heap.size L.W 0 t) (hS2 : ∀ y : Addr, y.block = L.M → ¬ Shun (.cell y)) (sl : Option (Nat × Nat))
    (hsh : ShAt L D ⟨0, 0, false, false, false, .a⟩ w) {nA nB : Nat} (hA : ∀ d, Goes P true (RX L true) (DX L Shun true (aft D.N true 0)) (At true (aft D.N true 0) 0) nA a' (w.at d)) (hB : ∀ d, Goes P false (RX L false) (DX L Shun false (aft D.N false 0)) (At false (aft D.N false 0) 0) nB child (w.at d)) :
    ∃ (N : Nat) (gs' : Array Goroutine) (dr : Nat) (sl' : Option (Nat × Nat)) (t' : Trace) (q' : Nat → Nat) (s : Sh) (p : Bool → Pl) (gg : Bool → Goroutine) (nn : Bool → Nat), runNT P N (crowd gs w sl) t = (.next (crowd gs' (w.at dr) sl'), t') ∧ gs'.size = gs.size + 1 ∧ RI P L D Shun At (w.at dr) gs' (w.at dr) t' q' s p gg nn := by
  obtain ⟨N, gs1, dr, sl₁, sl', t1, q1, h1, h2, h3, h4, h5, dr', h6⟩ := lone_turn hrun _ gs w sl t q (Nat.le_refl _) h0 hLv hP
  have hr := runT_crowd_spawn (P := P) (sl := sl') (i := 0) h3 (show stepG P (0 == 0) a (w.at dr') = _ from hsp (w.at dr'))
  have hlt := size_lt h3
  have e0 : ∀ fn pos, MemOp.ofEvents 0 fn pos #[] = #[] := fun fn pos => by rw [ofEvents_eq]; simp
  rw [e0] at hr
  have hc0 : Deaf t1 L.c = 0 := h4.above _ (by omega)
  have hts := fork_trace (w := w) (x := { g := 0, fn := a.frame.fn, pos := a.frame.place, act := .go gs1.size }) (y := { g := gs1.size, fn := child.frame.fn, pos := a.frame.place, act := .start }) hL h5 (Nat.le_refl _) hS2 ⟨rfl, by rw [h2, hcs]⟩ ⟨by rw [hcs, h2], rfl⟩ hc0 D.N
  have dd : ∀ g, Deaf (t1 ++ #[{ g := 0, fn := a.frame.fn, pos := a.frame.place, act := .go gs1.size }, { g := gs1.size, fn := child.frame.fn, pos := a.frame.place, act := .start }]) g = Deaf t1 g := fun g => by
    have e : ∀ x y : MemOp, t1 ++ #[x, y] = (t1 ++ #[x]) ++ #[y] := fun x y => by rw [Array.append_assoc]; rfl
    rw [e, Deaf_push, Deaf_push]
    rfl
  have ne : ∀ x, aft D.N x 0 ≠ .out ∧ aft D.N x 0 ≠ .gone := fun x => by unfold aft; cases x <;> split <;> simp
  refine ⟨N + 1, (gs1.setIfInBounds 0 a').push child, dr', sl', t1 ++ #[{ g := 0, fn := a.frame.fn, pos := a.frame.place, act := .go gs1.size }, { g := gs1.size, fn := child.frame.fn, pos := a.frame.place, act := .start }], q1, ⟨0, 0, false, false, false, .a⟩, fun x => aft D.N x 0, fun x => if x then a' else child, fun x => if x then nA + 1 else nB + 1, ?_, by simp [h2], ?_⟩
  · rw [runNT_add, h1]
    simp only
    rw [runNT_succ_next (h6.trans hr)]
    rfl
  refine { is := fun x => ?_, old := fun i g hi hic hg => ?_, above := fun j hj => ?_, sh := hsh.of_heap rfl, j := fork_J _ _ hL.n, sit := fun x => ?_, ts := hts, seen := fun op hop => ?_, keep := ⟨fun _ _ _ => rfl, rfl, rfl, rfl, Nat.le_refl _⟩, go := (ne true).1 }
  · cases x
    · show ((gs1.setIfInBounds 0 a').push child)[L.c]? = some child
      rw [hcs, ← h2, Array.getElem?_push, if_pos (by simp)]
    · show ((gs1.setIfInBounds 0 a').push child)[0]? = some a'
      rw [Array.getElem?_push, if_neg (by simp; omega), Array.getElem?_setIfInBounds_self_of_lt hlt]
  · rw [dd]
    have hib : i < gs1.size := by
      have := size_lt hg
      simp at this
      omega
    refine h4.old i g (by omega) ?_
    rw [Array.getElem?_push, if_neg (by simp; omega), Array.getElem?_setIfInBounds_ne (by omega)] at hg
    exact hg
  · rw [dd]
    exact h4.above j (by simp at hj; omega)
  · cases x
    · exact .run nB (ne false).2 (hB dr')
    · exact .run nA (ne true).2 (hA dr')
  · rcases Array.mem_append.1 hop with h | h
    · exact h5.seen op h
    · have : op = { g := 0, fn := a.frame.fn, pos := a.frame.place, act := .go gs1.size } ∨ op = { g := gs1.size, fn := child.frame.fn, pos := a.frame.place, act := .start } := by simpa using h
      rcases this with rfl | rfl <;> trivial
end
end Go.Proofs.Ytdmiilgdkmbmeaa.Rg
namespace Go.Proofs.Ytdmiilgdkmbmeaa.Rg
open Go Go.Conc

/-- Operation i of the region at a path. -/
def opq (c : Code) (i : Nat) : Oper := c.po.getD i default
theorem Jd.finE {l : List Oper} {n : Nat} {g g' : Gm} {vals : List Value} {ds : List Deferred} {listed : Array Bool} {a : Act} (hJ : Jd l n g vals ds listed a) (hall : ∀ i, i < l.length → listed.getD i false = true) (live : List Nat) (e : dfin l vals g live = g') : Tm a n g' ds := e ▸ hJ.fin hall live
section
variable {P : Program} {x : Bool} {R : World → World → Prop} {D : World → World → Array Event → Prop} {Stop : Goroutine → World → Prop} {b : Frame} {a : Act} {k : List Item} {cs : List Frame} {w : World} {m n : Nat} {g : Gm} {ds : List Deferred} {c y z : Code} {id : Nat}

theorem Gz.seqE (T : Tms R D) (e : c = .seq y z) (h : Goes P x R D Stop m (G (b.at a (.code y :: .code z :: k)) cs) w) : Goes P x R D Stop (m + 1) (G (b.at a (.code c :: k)) cs) w := by subst e; exact Gz.seq T h
theorem Gz.skipE (T : Tms R D) (e : c = .skip) (h : Goes P x R D Stop m (G (b.at a k) cs) w) : Goes P x R D Stop (m + 1) (G (b.at a (.code c :: k)) cs) w := by subst e; exact Gz.skip T h
theorem Gz.blockE (T : Tms R D) (e : c = .block id y) (h : Goes P x R D Stop m (G (b.at a (.code y :: .inBlock id :: k)) cs) w) : Goes P x R D Stop (m + 1) (G (b.at a (.code c :: k)) cs) w := by subst e; exact Gz.block T h
theorem Gz.loopE (T : Tms R D) (e : c = .loop y) (h : Goes P x R D Stop m (G (b.at a (.code y :: .inLoop y :: k)) cs) w) : Goes P x R D Stop (m + 1) (G (b.at a (.code c :: k)) cs) w := by subst e; exact Gz.loop T h
theorem Gz.condTE (T : Tms R D) {q : Operand} (e : c = .cond q y z) (hT : Tm a n g ds) (hc : evv g q = some (.bool true)) (h : Goes P x R D Stop m (G (b.at a (.code y :: k)) cs) w) : Goes P x R D Stop (m + 1) (G (b.at a (.code c :: k)) cs) w := by subst e; exact Gz.condT T hT hc h
theorem Gz.condFE (T : Tms R D) {q : Operand} (e : c = .cond q y z) (hT : Tm a n g ds) (hc : evv g q = some (.bool false)) (h : Goes P x R D Stop m (G (b.at a (.code z :: k)) cs) w) : Goes P x R D Stop (m + 1) (G (b.at a (.code c :: k)) cs) w := by subst e; exact Gz.condF T hT hc h
theorem Gz.exitE (T : Tms R D) {k' : List Item} (e : c = .exit id) (hk : exitTo id k = some k') (h : Goes P x R D Stop m (G (b.at a k') cs) w) : Goes P x R D Stop (m + 1) (G (b.at a (.code c :: k)) cs) w := by subst e; exact Gz.exit T hk h
theorem Gz.regionE (T : Tms R D) {l : List Oper} {r : List Nat} (e : c = .region id l.toArray false) (hl : List.range l.length = r) (h : Goes P x R D Stop m (G (b.at a (.inRegion l.toArray r :: k)) cs) w) : Goes P x R D Stop (m + 1) (G (b.at a (.code c :: k)) cs) w := by
  subst e
  exact Gz.region T (by simpa using hl) h
theorem Gz.retE (T : Tms R D) (e : c = .ret) (h : Goes P x R D Stop m (G { b.at a (.code .ret :: k) with mode := .returning } cs) w) : Goes P x R D Stop (m + 1) (G (b.at a (.code c :: k)) cs) w := by subst e; exact Gz.ret T h
theorem Gz.drawnE {l : List Oper} {H : List (Nat × Hint)} {vals : List Value} {bf : List (List Nat)} {sp : List Nat} {rds : List (List Nat)} {qs : List Prop} {C : Kn} (m : Nat) {n' : Nat} (T : Tmd R D) (e : c = .region id l.toArray true) (hm : P.follows .mixedOrders = true) (K : Ken P R D C w) (hk : b.kind ≠ .early) (hT : Tm a n g ds) (hb : befB l bf = true) (hn : dstsN l = true) (hn2 : dstsB l.toArray n = true) (hd : dra P C l bf sp H vals g rds l 0 = some (vals, qs)) (hq : ∀ q ∈ qs, q)
    (hdst : hasD l sp = true) (hle : Nat.ble (m + l.length + 1) n' = true)
    (hS : ∀ (i : Nat) (fuel t : Nat) (listed : Array Bool) (a : Act), sp.contains i = true → left (fun j => (listed.setIfInBounds i true).getD j false) l.length ≤ fuel → Mid l n g vals ds i listed a → (∀ j, sp.contains j = true → listed.getD j false = false) →
      Goes P x R D Stop (m + left (fun j => (listed.setIfInBounds i true).getD j false) l.length + 1) (G (b.at a (.inRegion l.toArray (i :: Region.linearise.go .any l.toArray fuel t (listed.setIfInBounds i true) []) :: k)) cs) w)
    (hE : ∀ (listed : Array Bool) (a : Act), (∀ i, i < l.length → listed.getD i false = true) → Jd l n g vals ds listed a → (∀ j, sp.contains j = true → listed.getD j false = false) → Goes P x R D Stop m (G (b.at a (.inRegion l.toArray [] :: k)) cs) w) :
    Goes P x R D Stop n' (G (b.at a (.code c :: k)) cs) w := by
  subst e
  exact Gz.drawn m T hm K hk hT hb hn hn2 hd hq hdst hle hS hE
end
end Go.Proofs.Ytdmiilgdkmbmeaa.Rg
namespace Go.Proofs.Ytdmiilgdkmbmeaa.Rg
open Go Go.Conc

structure Mv (P : Program) (x : Bool) (M : Nat → Goroutine → Prop) : Prop where
  ctl : ∀ {m : Nat} {g g' : Goroutine}, g.status = .running → (∀ w, stepG P x g w = .go g' w) → M m g' → M (m + 1) g
theorem mvG {P : Program} {x : Bool} {R : World → World → Prop} {D : World → World → Array Event → Prop} {Stop : Goroutine → World → Prop} {w : World} (T : Tms R D) : Mv P x (fun m g => Goes P x R D Stop m g w) := ⟨Gz.ctl T⟩
def QM (P : Program) (d m : Nat) (g : Goroutine) : Prop := QuitsD P m d g
theorem mvQ {P : Program} {d : Nat} : Mv P false (QM P d) := ⟨QuitsD.ctl⟩

section
variable {P : Program} {x : Bool} {M : Nat → Goroutine → Prop} {b : Frame} {a : Act} {k : List Item} {cs : List Frame} {m n : Nat} {g : Gm} {ds : List Deferred} {c y z : Code} {id : Nat}

theorem Mz.seqE (T : Mv P x M) (e : c = .seq y z) (h : M m (G (b.at a (.code y :: .code z :: k)) cs)) : M (m + 1) (G (b.at a (.code c :: k)) cs) := by subst e; exact T.ctl rfl (fun _ => stepG_seq) h
theorem Mz.skipE (T : Mv P x M) (e : c = .skip) (h : M m (G (b.at a k) cs)) : M (m + 1) (G (b.at a (.code c :: k)) cs) := by subst e; exact T.ctl rfl (fun _ => stepG_skip) h
theorem Mz.blockE (T : Mv P x M) (e : c = .block id y) (h : M m (G (b.at a (.code y :: .inBlock id :: k)) cs)) : M (m + 1) (G (b.at a (.code c :: k)) cs) := by subst e; exact T.ctl rfl (fun _ => stepG_block) h
theorem Mz.loopE (T : Mv P x M) (e : c = .loop y) (h : M m (G (b.at a (.code y :: .inLoop y :: k)) cs)) : M (m + 1) (G (b.at a (.code c :: k)) cs) := by subst e; exact T.ctl rfl (fun _ => stepG_loop) h
theorem Mz.condTE (T : Mv P x M) {q : Operand} (e : c = .cond q y z) (hT : Tm a n g ds) (hc : evv g q = some (.bool true)) (h : M m (G (b.at a (.code y :: k)) cs)) : M (m + 1) (G (b.at a (.code c :: k)) cs) := by subst e; exact T.ctl rfl (fun _ => stepG_cond (t := true) (evv_ok hT hc)) h
theorem Mz.condFE (T : Mv P x M) {q : Operand} (e : c = .cond q y z) (hT : Tm a n g ds) (hc : evv g q = some (.bool false)) (h : M m (G (b.at a (.code z :: k)) cs)) : M (m + 1) (G (b.at a (.code c :: k)) cs) := by subst e; exact T.ctl rfl (fun _ => stepG_cond (t := false) (evv_ok hT hc)) h
theorem Mz.exitE (T : Mv P x M) {k' : List Item} (e : c = .exit id) (hk : exitTo id k = some k') (h : M m (G (b.at a k') cs)) : M (m + 1) (G (b.at a (.code c :: k)) cs) := by subst e; exact T.ctl rfl (fun _ => stepG_exit hk) h
theorem Mz.regionE (T : Mv P x M) {l : List Oper} {r : List Nat} (e : c = .region id l.toArray false) (hl : List.range l.length = r) (h : M m (G (b.at a (.inRegion l.toArray r :: k)) cs)) : M (m + 1) (G (b.at a (.code c :: k)) cs) := by
  subst e
  exact T.ctl rfl (fun _ => stepG_region) (by rw [show List.range l.toArray.size = r by simpa using hl]; exact h)
theorem Mz.retE (T : Mv P x M) (e : c = .ret) (h : M m (G { b.at a (.code .ret :: k) with mode := .returning } cs)) : M (m + 1) (G (b.at a (.code c :: k)) cs) := by subst e; exact T.ctl rfl (fun _ => stepG_ret') h
theorem Mz.rend (T : Mv P x M) {ops : Array Oper} (h : M m (G (b.at a k) cs)) : M (m + 1) (G (b.at a (.inRegion ops [] :: k)) cs) := T.ctl rfl (fun _ => stepG_region_end) h
theorem Mz.out (T : Mv P x M) (h : M m (G (b.at a k) cs)) : M (m + 1) (G (b.at a (.inBlock id :: k)) cs) := T.ctl rfl (fun _ => stepG_inBlock) h
theorem Mz.again (T : Mv P x M) (h : M m (G (b.at a (.code c :: .inLoop c :: k)) cs)) : M (m + 1) (G (b.at a (.inLoop c :: k)) cs) := T.ctl rfl (fun _ => stepG_inLoop) h
theorem Mz.fin (T : Mv P x M) (h : M m (G { b.at a [] with mode := .returning } cs)) : M (m + 1) (G (b.at a []) cs) := T.ctl rfl (fun _ => stepG_end) h

section
variable {ops : Array Oper} {i d : Nat} {rest : List Nat} {o : Oper} {v : Value}
theorem Mz.val (T : Mv P x M) (ho : ops[i]? = some o) (hw : Region.wanted o (yielded ops a.tmps) = true) (hk : b.kind ≠ .early) (hy : ∀ w, (execOp a.eval o).run P w = .ok (.value v) w ∧ (execOp a.eval o).events P w #[] = #[])
    (h : M m (G (b.at (a.put o.dst v) (.inRegion ops rest :: k)) cs)) : M (m + 1) (G (b.at a (.inRegion ops (i :: rest) :: k)) cs) :=
  T.ctl rfl (fun w => by rw [stepG_value ho hw hk (hy w).1]; unfold listed; rw [(hy w).2, seen_none]) h
theorem Mz.not (T : Mv P x M) (ho : ops[i]? = some o) (hw : Region.wanted o (yielded ops a.tmps) = false) (h : M m (G (b.at (a.put o.dst undef) (.inRegion ops rest :: k)) cs)) : M (m + 1) (G (b.at a (.inRegion ops (i :: rest) :: k)) cs) :=
  T.ctl rfl (fun _ => stepG_unwanted ho hw) h
/-- One operation whose value is told with a proof. -/
theorem Mz.opv (T : Mv P x M) (hk : b.kind ≠ .early) (hT : Tm a n g ds) (ho : ops[i]? = some o) (hd : o.dst = some d) (hlt : Nat.blt d n = true) (hn : dstsB ops n = true) (hw : wantedV ops g o = some true)
    (hv : ∀ a', Tm a' n g ds → ∀ w, (execOp a'.eval o).run P w = .ok (.value v) w ∧ (execOp a'.eval o).events P w #[] = #[]) (h : ∀ a', Tm a' n ((d, v) :: g) ds → M m (G (b.at a' (.inRegion ops rest :: k)) cs)) : M (m + 1) (G (b.at a (.inRegion ops (i :: rest) :: k)) cs) :=
  Mz.val T ho (wanted_ok hT hw (dsts_ok hn)) hk (hv a hT) (by rw [hd]; exact h _ (hT.put d (by simpa [Nat.blt_eq] using hlt) v))
theorem Mz.evs_ok (T : Mv P x M) (hk : b.kind ≠ .early) (hn : ∀ (j : Nat) (d : Nat), (ops[j]?).bind (·.dst) = some d → d < n) : ∀ {l : List Nat} {rest : List Nat} {g g' : Gm} {a : Act}, evs P (fun _ _ => False) ops n [] l g = some (g', []) → Tm a n g ds →
    (∀ a', Tm a' n g' ds → M m (G (b.at a' (.inRegion ops rest :: k)) cs)) → M (m + l.length) (G (b.at a (.inRegion ops (l ++ rest) :: k)) cs)
  | [], rest, g, g', a, h, hT, hK => by
    simp only [evs, Option.some.injEq, Prod.mk.injEq] at h
    obtain ⟨rfl, _⟩ := h
    exact hK a hT
  | i :: r, rest, g, g', a, h, hT, hK => by
    simp only [evs] at h
    split at h
    · cases h
    · rename_i o ho
      split at h
      · rename_i d hd hw
        have hwt := wanted_ok hT hw hn
        split at h
        · rename_i hlt
          have hlt' : d < n := by simpa [Nat.blt_eq] using hlt
          simp only [hintAt, stepV] at h
          cases hp : pv P g o with
          | none => rw [hp] at h; cases h
          | some v =>
            rw [hp] at h
            simp only at h
            split at h
            · rename_i g2 qs2 he
              simp only [List.nil_append, Option.some.injEq, Prod.mk.injEq] at h
              obtain ⟨rfl, rfl⟩ := h
              exact Mz.val T ho hwt hk (v := v) (fun w => pv_ok hT hp w) (by rw [hd]; exact Mz.evs_ok T hk hn he (hT.put d hlt' v) hK)
            · cases h
        · cases h
      · rename_i d hd hw
        have hwt := wanted_ok hT hw hn
        split at h
        · rename_i hlt
          have hlt' : d < n := by simpa [Nat.blt_eq] using hlt
          exact Mz.not T ho hwt (by rw [hd]; exact Mz.evs_ok T hk hn h (hT.put d hlt' undef) hK)
        · cases h
      · cases h
theorem Mz.row (T : Mv P x M) (hk : b.kind ≠ .early) (hT : Tm a n g ds) (l rest live : List Nat) {g' : Gm} (hn : dstsB ops n = true) (he : evr P (fun _ _ => False) ops n [] l live g = some (g', []))
    (hK : ∀ a', Tm a' n g' ds → M m (G (b.at a' (.inRegion ops rest :: k)) cs)) : M (m + l.length) (G (b.at a (.inRegion ops (l ++ rest) :: k)) cs) := by
  unfold evr at he
  split at he
  · rename_i g2 qs2 h2
    simp only [Option.some.injEq, Prod.mk.injEq] at he
    obtain ⟨rfl, rfl⟩ := he
    exact Mz.evs_ok T hk (dsts_ok hn) h2 hT fun a' h' => hK a' (h'.less fun i v e => live_lk e)
  · cases he

/-! ### calls -/
theorem resolve_func {w : World} {ρ : Operand → Value} {q : Operand} {f : FuncId} {cap : Array Value} {args : Array Operand} {ats : Array TypeId} {T : TypeId} (hq : ρ q = .func (.func f) #[] cap) :
    resolve ρ { callee := .value q, args, argTypes := ats } T = pure { target := .fn (.func f) cap, args := args.map ρ } := by simp [resolve, Deferred.ofValue, hq]
/-- A function of the program's is called, by name or as a value. -/
theorem stepG_callv {w : World} {q : Operand} {f : FuncId} {fn : Func} {cc : Code} {cap : Array Value} {args : Array Operand} {ats : Array TypeId} (ho : ops[i]? = some o) (hw : Region.wanted o (yielded ops a.tmps) = true) (hk : b.kind ≠ .early) (hop : o.op = .call { callee := .value q, args, argTypes := ats })
    (hq : a.eval q = .func (.func f) #[] cap) (hf : P.funcs[f]? = some fn) (hname : (fn.name == "runtime.NumGoroutine") = false) (hb : fn.body = some cc) :
    stepG P x (G (b.at a (.inRegion ops (i :: rest) :: k)) cs) w = .go (G ((base f).at { tmps := (args.map a.eval ++ cap) ++ Array.replicate (fn.ntmps - (args.map a.eval ++ cap).size) undef, defers := [] } [.code cc]) (b.at a (.inRegion ops (i :: rest) :: k) :: cs)) w := by
  have h1 : ¬ fn.name = "runtime.NumGoroutine" := by simpa using hname
  have e1 : execOp a.eval o = callFunc f (args.map a.eval ++ cap) := by
    unfold execOp
    simp [hop, resolve, Deferred.ofValue, invoke, hq]
  have hr : (execOp a.eval o).run P w = .ok (.enter f (args.map a.eval ++ cap)) w := by
    rw [e1]
    simp [callFunc, hf, h1, hb]
  have he : (execOp a.eval o).events P w #[] = #[] := by
    rw [e1]
    simp [callFunc, hf, h1, hb]
  rw [stepG_enter ho hw hk hr]
  unfold listed
  rw [he, seen_none, enter_at _ hf hb]
theorem Mz.enter (T : Mv P x M) (hT : Tm a n g ds) {q : Operand} {f : FuncId} {fn : Func} {cc : Code} {cap : List Value} {args : Array Operand} {ats : Array TypeId} (vs : List Value) (n' : Nat) (ho : ops[i]? = some o) (hg : o.guard = none) (hk : b.kind ≠ .early)
    (hop : o.op = .call { callee := .value q, args, argTypes := ats }) (hq : evv g q = some (.func (.func f) #[] cap.toArray)) (hf : P.funcs[f]? = some fn) (hname : (fn.name == "runtime.NumGoroutine") = false) (hb : fn.body = some cc) (he : (evvs g args.toList).map (· ++ cap) = some vs) (hn : Nat.ble vs.length n' = true) (hnt : fn.ntmps = n')
    (h : ∀ a', Tm a' n' (enm vs 0) [] → M m (G ((base f).at a' [.code cc]) (b.at a (.inRegion ops (i :: rest) :: k) :: cs))) : M (m + 1) (G (b.at a (.inRegion ops (i :: rest) :: k)) cs) := by
  refine T.ctl rfl (fun w => stepG_callv ho (by simp [Region.wanted, hg]) hk hop (evv_ok hT hq) hf hname hb) (h _ ?_)
  obtain ⟨us, hus, rfl⟩ := Option.map_eq_some_iff.1 he
  have e : args.map a.eval ++ cap.toArray = (us ++ cap).toArray := by
    apply Array.ext'
    simpa using evvs_ok hT hus
  have hle : (us ++ cap).length ≤ n' := Nat.le_of_ble_eq_true hn
  rw [e, hnt]
  have := Tm.enter (us ++ cap) (n' - (us ++ cap).length)
  rw [show (us ++ cap).length + (n' - (us ++ cap).length) = n' by omega] at this
  simpa using this
section
variable {fn : Func} {todo : List Item} {b₀ : Frame} {a₀ : Act} {n₀ : Nat} {g₀ : Gm} {ds₀ : List Deferred} {u : Value}
theorem Mz.back1 (T : Mv P x M) (hT : Tm a n g []) (hT₀ : Tm a₀ n₀ g₀ ds₀) {t : Tmp} (hn : b.kind = .normal) (hf : P.funcs[b.fn]? = some fn) (hr : fn.results = #[.tmp t]) (hv : lkv t g = some v) (hd : (ops[i]?).bind (·.dst) = some d) (hlt : Nat.blt d n₀ = true)
    (h : ∀ a', Tm a' n₀ ((d, v) :: g₀) ds₀ → M m (G (b₀.at a' (.inRegion ops rest :: k)) cs)) : M (m + 1) (G { b.at a todo with mode := .returning } (b₀.at a₀ (.inRegion ops (i :: rest) :: k) :: cs)) := by
  refine T.ctl rfl (fun w => by rw [stepG_leave hn hT.dfr hf (results_tmp hr _ P w) (events_results_tmp hr _ _), Frame.finish_at]) ?_
  rw [hd, hT.val t v hv]
  exact h _ (hT₀.put d (by simpa [Nat.blt_eq] using hlt) v)
theorem Mz.back0 (T : Mv P x M) (hT : Tm a n g []) (hT₀ : Tm a₀ n₀ g₀ ds₀) (hn : b.kind = .normal) (hf : P.funcs[b.fn]? = some fn) (hr : fn.results = #[]) (hd : (ops[i]?).bind (·.dst) = some d) (hlt : Nat.blt d n₀ = true)
    (h : ∀ a', Tm a' n₀ ((d, .tuple #[]) :: g₀) ds₀ → M m (G (b₀.at a' (.inRegion ops rest :: k)) cs)) : M (m + 1) (G { b.at a todo with mode := .returning } (b₀.at a₀ (.inRegion ops (i :: rest) :: k) :: cs)) := by
  refine T.ctl rfl (fun w => by rw [stepG_leave hn hT.dfr hf (results_none hr _ P w) (events_results_none hr _ _), Frame.finish_at]) ?_
  rw [hd]
  exact h _ (hT₀.put d (by simpa [Nat.blt_eq] using hlt) _)
end

/-! ### deferred calls -/
def dcap (f : FuncId) (cap : List Value) : Deferred := { target := .fn (.func f) cap.toArray, args := #[] }
/-- 'defer' of a function without arguments. -/
theorem Mz.defer (T : Mv P x M) (hT : Tm a n g ds) {q : Operand} {f : FuncId} {cap : List Value} {ats : Array TypeId} (ho : ops[i]? = some o) (hd : o.dst = none) (hg : o.guard = none) (hk : b.kind ≠ .early) (hrd : b.roundOf = none) (hop : o.op = .defer { callee := .value q, args := #[], argTypes := ats })
    (hq : evv g q = some (.func (.func f) #[] cap.toArray)) (h : ∀ a', Tm a' n g (dcap f cap :: ds) → M m (G (b.at a' (.inRegion ops rest :: k)) cs)) : M (m + 1) (G (b.at a (.inRegion ops (i :: rest) :: k)) cs) := by
  refine T.ctl rfl (fun w => ?_) (h ⟨a.tmps, dcap f cap :: ds⟩ ⟨hT.size, hT.val, rfl⟩)
  have hq' := evv_ok hT hq
  have hr : (execOp a.eval o).run P w = .ok (.defer (dcap f cap)) w := by
    unfold execOp
    simp [hop, resolve, Deferred.ofValue, hq', dcap]
  have he : (execOp a.eval o).events P w #[] = #[] := by
    unfold execOp
    simp [hop, resolve, Deferred.ofValue, hq']
  have hfin : (b.at ⟨a.tmps, dcap f cap :: a.defers⟩ (.inRegion ops (i :: rest) :: k)).finish undef = b.at (Act.put ⟨a.tmps, dcap f cap :: a.defers⟩ o.dst undef) (.inRegion ops rest :: k) := by rw [Frame.finish_at, ho]; rfl
  have hk' : (b.kind == CallKind.early) = false := by simpa using hk
  have e2 : (b.at ⟨a.tmps, dcap f cap :: ds⟩ (.inRegion ops rest :: k)) = (b.at ⟨a.tmps, dcap f cap :: a.defers⟩ (.inRegion ops (i :: rest) :: k)).finish undef := by rw [hfin, hd, hT.dfr]; rfl
  rw [e2, stepG_oper ho (by simp [Region.wanted, hg])]
  simp [stepG.apply, hr, he, G, Frame.at, hk', GStep.after, seen_none]
/-- A frame on its way out makes its next deferred call. -/
theorem Mz.unwind {f : FuncId} {cap : List Value} (T : Mv P x M) (hT : Tm a n g (dcap f cap :: ds)) {fn : Func} {cc : Code} {todo : List Item} (n' : Nat) (hf : P.funcs[f]? = some fn) (hname : (fn.name == "runtime.NumGoroutine") = false) (hb : fn.body = some cc) (hn : Nat.ble cap.length n' = true) (hnt : fn.ntmps = n')
    (h : ∀ a' a₂, Tm a' n' (enm cap 0) [] → Tm a₂ n g ds → M m (G ((baseD f).at a' [.code cc]) ({ b.at a₂ todo with mode := .returning } :: cs))) : M (m + 1) (G { b.at a todo with mode := .returning } cs) := by
  have hle : cap.length ≤ n' := Nat.le_of_ble_eq_true hn
  have h1 : ¬ fn.name = "runtime.NumGoroutine" := by simpa using hname
  refine T.ctl rfl (fun w => ?_) (h ⟨cap.toArray ++ Array.replicate (n' - cap.length) undef, []⟩ ⟨a.tmps, ds⟩ ?_ ⟨hT.size, hT.val, rfl⟩)
  · have he := enter_atD (f := f) cap.toArray hf hb
    rw [hnt, List.size_toArray] at he
    rw [← he]
    simp [G, stepG, Go.unwind, callDeferred, Frame.at, hT.dfr, dcap, invoke, callFunc, hf, h1, hb, GStep.after, seen_none]
  · have := Tm.enter cap (n' - cap.length)
    rwa [show cap.length + (n' - cap.length) = n' by omega] at this
/-- recover, where nothing panics. -/
theorem Mz.recover (T : Mv P x M) (hT : Tm a n g ds) {todo : List Item} {b₁ : Frame} {a₁ : Act} {ats : Array TypeId} (ho : ops[i]? = some o) (hd : o.dst = some d) (hlt : Nat.blt d n = true) (hg : o.guard = none) (hk : b.kind = .deferred) (hrd : b.roundOf = none) (hop : o.op = .call { callee := .builtin .recover, args := #[], argTypes := ats })
    (h : ∀ a', Tm a' n ((d, .nilIface) :: g) ds → M m (G (b.at a' (.inRegion ops rest :: k)) ({ b₁.at a₁ todo with mode := .returning } :: cs))) : M (m + 1) (G (b.at a (.inRegion ops (i :: rest) :: k)) ({ b₁.at a₁ todo with mode := .returning } :: cs)) := by
  refine T.ctl rfl (fun w => ?_) (h (a.put (some d) .nilIface) (hT.put d (by simpa [Nat.blt_eq] using hlt) _))
  have hr : (execOp a.eval o).run P w = .ok .recover w := by
    unfold execOp
    simp [hop, resolve, invoke, builtin]
  have he : (execOp a.eval o).events P w #[] = #[] := by
    unfold execOp
    simp [hop, resolve, invoke, builtin]
  have hfin : (b.at a (.inRegion ops (i :: rest) :: k)).finish .nilIface = b.at (a.put (some d) .nilIface) (.inRegion ops rest :: k) := by rw [Frame.finish_at, ho, Option.bind_some, hd]
  rw [← hfin, stepG_oper ho (by simp [Region.wanted, hg])]
  simp [stepG.apply, hr, he, G, Frame.at, hk, hrd, GStep.after, seen_none, tryRecover]
end
end
end Go.Proofs.Ytdmiilgdkmbmeaa.Rg
namespace Go.Proofs.Ytdmiilgdkmbmeaa.Rg
open Go Go.Conc

section
variable {P : Program} {L : Lay} {D : Dat} {Shun : Loc → Prop} {w₀ w w' : World} {s s' : Sh} {x : Bool} {i : Nat}

theorem set_ne (w : World) (ad : Addr) (v : Value) {b : Nat} (h : b ≠ ad.block) : (w.setCell ad v).heap[b]? = w.heap[b]? := by
  show (w.heap.modify ad.block _)[b]? = _
  rw [Array.getElem?_modify, if_neg (Ne.symm h)]
theorem set_eq {w : World} {b o : Nat} (v : Value) {arr : Array Value} {ty : TypeId} (h : w.heap[b]? = some (.cells arr ty)) : (w.setCell ⟨b, o, none⟩ v).heap[b]? = some (.cells (arr.setIfInBounds o v) ty) := by
  show (w.heap.modify b _)[b]? = _
  rw [Array.getElem?_modify, if_pos rfl, h]
  rfl
theorem set_size (w : World) (ad : Addr) (v : Value) : (w.setCell ad v).heap.size = w.heap.size := by
  show (w.heap.modify ad.block _).size = _
  rw [Array.size_modify]
theorem Turn.refl (w : World) : Turn L w w := ⟨fun _ _ => rfl, rfl, rfl, rfl, rfl⟩
theorem Turn.set (w : World) {ad : Addr} (v : Value) (h : L.sp ad.block) : Turn L w (w.setCell ad v) :=
  ⟨fun b hb => set_ne w ad v (fun e => hb (by rw [e]; exact h)), set_size w ad v, rfl, rfl, rfl⟩
theorem KW.turn (hL : L.Good) (h : KW L D w₀ x i w) (ht : Turn L w w') (hs : ShAt L D s w') {i' : Nat} (hi : s.cnt x = i') : KW L D w₀ x i' w' := by
  subst hi
  refine ⟨fun b h1 h2 => (ht.other b h2).trans (h.low b h1 h2), ⟨_, _, hs.ring, ?_⟩, by rw [ht.size]; exact h.size, ⟨_, _, hs.grp⟩⟩
  cases x <;> rfl
theorem KW.turn' (h : KW L D w₀ x i w) (ht : Turn L w w') (hr : w'.heap[L.R]? = w.heap[L.R]?) (hg : w'.heap[L.W]? = w.heap[L.W]?) : KW L D w₀ x i w' :=
  ⟨fun b h1 h2 => (ht.other b h2).trans (h.low b h1 h2), by rw [hr]; exact h.ring, by rw [ht.size]; exact h.size, by rw [hg]; exact h.grp⟩
theorem ShAt.ctr (h : ShAt L D s w) (x : Bool) : w.cell? (L.ctr x) = some (.int .i64 (s.cnt x)) ∧ w.frozen? (L.ctr x) = false := by
  cases x <;> simp [World.cell?, World.frozen?, Lay.ctr, h.ring, Sh.cnt]
theorem ShAt.grpc (h : ShAt L D s w) : w.cell? L.grp = some (.int .u64 s.wg.st) ∧ w.frozen? L.grp = false := by
  simp [World.cell?, World.frozen?, Lay.grp, h.grp]
theorem ShAt.semc (h : ShAt L D s w) : w.cell? L.sem = some (.int .u32 s.wg.sm) ∧ w.frozen? L.sem = false := by
  simp [World.cell?, World.frozen?, Lay.sem, h.grp]
theorem bell_spT (x : Bool) : L.sp (L.bell x) := by
  cases x
  · exact .inr (.inr (.inl rfl))
  · exact .inr (.inr (.inr (.inl rfl)))
theorem bell_neT (hL : L.Good) (x : Bool) : L.bell x ≠ L.R ∧ L.bell x ≠ L.M ∧ L.bell x ≠ L.W := by
  cases x
  · exact ⟨hL.RF.symm, hL.MF.symm, hL.FW⟩
  · exact ⟨hL.RE.symm, hL.ME.symm, hL.EW⟩

/-- The group's two cells. -/
theorem ShAt.setGrp (hL : L.Good) (h : ShAt L D s w) (o : Nat) (v : Value) (g : Wg) (ho : (#[.int .u64 s.wg.st, .int .u32 s.wg.sm] : Array Value).setIfInBounds o v = #[.int .u64 g.st, .int .u32 g.sm]) : ShAt L D { s with wg := g } (w.setCell ⟨L.W, o, none⟩ v) := by
  obtain ⟨h1, ⟨arr, h2, h3, h4⟩, h5, h6⟩ := h
  refine ⟨by rw [set_ne _ _ _ hL.RW]; exact h1, ⟨arr, by rw [set_ne _ _ _ hL.MW]; exact h2, h3, h4⟩, fun x => ?_, ?_⟩
  · rw [set_ne _ _ _ (bell_neT hL x).2.2]; exact h5 x
  · rw [set_eq v h6, ho]
/-- The store of a counter. -/
theorem ShAt.setPut (hL : L.Good) (h : ShAt L D s w) (hn : 1 ≤ L.n) (hwr : s.wr = true) : ShAt L D { s with j := s.j + 1, wr := false } (w.setCell (L.ctr false) (.int .i64 ((s.j + 1 : Nat) : Int))) := by
  obtain ⟨h1, ⟨arr, h2, h3, h4, h7⟩, h5, h6⟩ := h
  refine ⟨?_, ⟨arr, by rw [set_ne _ _ _ hL.RM.symm]; exact h2, h3, fun m h8 h9 => ?_, fun e => by cases e⟩, fun x => ?_, ?_⟩
  · show (w.setCell ⟨L.R, 1, none⟩ _).heap[L.R]? = _
    rw [set_eq _ h1]; rfl
  · rcases Nat.lt_or_ge m s.j with hlt | hge
    · exact h4 m h8 hlt
    · obtain rfl : m = s.j := Nat.le_antisymm (Nat.le_of_lt_succ h9) hge
      exact h7 hwr
  · rw [set_ne _ _ _ (bell_neT hL x).1]; exact h5 x
  · rw [set_ne _ _ _ hL.RW.symm]; exact h6
theorem ShAt.setTaken (hL : L.Good) (h : ShAt L D s w) : ShAt L D { s with k := s.k + 1 } (w.setCell (L.ctr true) (.int .i64 ((s.k + 1 : Nat) : Int))) := by
  obtain ⟨h1, ⟨arr, h2, h3, h4, h7⟩, h5, h6⟩ := h
  refine ⟨?_, ⟨arr, by rw [set_ne _ _ _ hL.RM.symm]; exact h2, h3, fun m h8 h9 => h4 m (Nat.le_of_succ_le h8) h9, h7⟩, fun x => ?_, ?_⟩
  · show (w.setCell ⟨L.R, 2, none⟩ _).heap[L.R]? = _
    rw [set_eq _ h1]; rfl
  · rw [set_ne _ _ _ (bell_neT hL x).1]; exact h5 x
  · rw [set_ne _ _ _ hL.RW.symm]; exact h6
theorem mod_ne {n k j m : Nat} (h1 : k ≤ m) (h2 : m < j) (h3 : j < k + n) : m % n ≠ j % n := fun e => by
  have a := Nat.div_add_mod m n
  have b := Nat.div_add_mod j n
  rw [e] at a
  have : n * (m / n) < n * (j / n) := by omega
  have h4 : m / n < j / n := Nat.lt_of_mul_lt_mul_left this
  have h5 : n * (m / n + 1) ≤ n * (j / n) := Nat.mul_le_mul_left n h4
  rw [Nat.mul_add, Nat.mul_one] at h5
  omega
theorem ShAt.setSlot (hL : L.Good) (h : ShAt L D s w) (hjn : s.j < s.k + L.n) : ShAt L D { s with wr := true } (w.setCell (L.slot (s.j % L.n)) (D.val s.j)) := by
  have hn := hL.n
  obtain ⟨h1, ⟨arr, h2, h3, h4, h7⟩, h5, h6⟩ := h
  refine ⟨by rw [set_ne _ _ _ hL.RM]; exact h1, ⟨arr.setIfInBounds (s.j % L.n) (D.val s.j), set_eq _ h2, by simpa using h3, fun m h8 h9 => ?_, fun _ => ?_⟩, fun x => ?_, ?_⟩
  · rw [Array.getElem?_setIfInBounds_ne (mod_ne h8 h9 hjn).symm]; exact h4 m h8 h9
  · rw [Array.getElem?_setIfInBounds_self_of_lt (by rw [h3]; exact Nat.mod_lt _ (by omega))]
  · rw [set_ne _ _ _ (bell_neT hL x).2.1]; exact h5 x
  · rw [set_ne _ _ _ hL.MW.symm]; exact h6
theorem ShAt.slotc (h : ShAt L D s w) {m : Nat} (hm : m < L.n) : ∃ u, w.cell? ⟨L.M, m, none⟩ = some u ∧ w.frozen? ⟨L.M, m, none⟩ = false := by
  obtain ⟨arr, h2, h3, _⟩ := h.room
  exact ⟨arr[m]'(by omega), by simp [World.cell?, h2, h3, hm], by simp [World.frozen?, h2]⟩
theorem ShAt.slotv (h : ShAt L D s w) {m : Nat} (h1 : s.k ≤ m) (h2 : m < s.j) : w.cell? ⟨L.M, m % L.n, none⟩ = some (D.val m) := by
  obtain ⟨arr, h3, h4, h5, _⟩ := h.room
  simp [World.cell?, h3, h5 m h1 h2]
end

/-! ### stops, by the temporaries that are known -/
theorem Tm.live {a : Act} {n : Nat} {g : Gm} {ds : List Deferred} (h : Tm a n g ds) (live : List Nat) {g' : Gm} (e : (live.filterMap fun i => (lkv i g).map fun v => (i, v)) = g') : Tm a n g' ds := e ▸ h.less fun _ _ e => live_lk e
section
variable {P : Program} {x : Bool} {b : Frame} {a : Act} {k : List Item} {cs : List Frame} {w : World} {ops : Array Oper} {i n : Nat} {rest : List Nat} {o : Oper} {g : Gm} {ds : List Deferred}
/-- A plain store of a value of one cell. -/
theorem step_store {X : TypeId} {y z : Operand} (hT : Tm a n g ds) (ho : ops[i]? = some o) (hd : o.dst = none) (hg : o.guard = none) (hk : b.kind ≠ .early) (hop : o.op = .store X y z) (hpl : plainT P X = true) {ti : TypeInfo} (hz1 : P.info? X = some ti) (hz2 : ti.size = 1) {ad : Addr} {u : Value} {kd : IntKind} {v : Int} (hy : evv g y = some (.pointer (some ad))) (hz : evv g z = some (.int kd v)) (hc : w.cell? ad = some u) (hf : w.frozen? ad = false)
    (hq : (P.funcs[b.fn]?).any (·.norace) = false) : stepG P x (G (b.at a (.inRegion ops (i :: rest) :: k)) cs) w = .go (G (b.at a (.inRegion ops rest :: k)) cs) (w.setCell ad (.int kd v)) #[⟨.cell ad, true, false⟩] := by
  have ey := evv_ok hT hy
  have ez := evv_ok hT hz
  have hr : (execOp a.eval o).run P w = .ok .skip (w.setCell ad (.int kd v)) := by
    unfold execOp
    simp only [hop, ey, ez]
    simp [Instr.storeAt, Instr.sureAddr, storeVar, run_plain hpl, run_size hz1, hz2, storeCells, go_sem, stored, hc, hf]
  have he : (execOp a.eval o).events P w #[] = #[⟨.cell ad, true, false⟩] := by
    unfold execOp
    simp only [hop, ey, ez]
    simp [Instr.storeAt, Instr.sureAddr, storeVar, run_plain hpl, run_size hz1, hz2, storeCells, go_sem, storedEv, hc, hf]
  rw [stepG_none ho (by simp [Region.wanted, hg]) hk hr]
  unfold Go.Conc.listed
  rw [he, seen_eq hq (by simp), hd]
  rfl
/-- A plain load of a value of one cell. -/
theorem step_load {X : TypeId} {y : Operand} (hT : Tm a n g ds) (ho : ops[i]? = some o) (hg : o.guard = none) (hk : b.kind ≠ .early) (hop : o.op = .load X y) (hpl : plainT P X = true) {ad : Addr} {v : Value} (hy : evv g y = some (.pointer (some ad))) (hc : w.cell? ad = some v)
    (hq : (P.funcs[b.fn]?).any (·.norace) = false) : stepG P x (G (b.at a (.inRegion ops (i :: rest) :: k)) cs) w = .go (G (b.at (a.put o.dst v) (.inRegion ops rest :: k)) cs) w #[⟨.cell ad, false, false⟩] := by
  have ey := evv_ok hT hy
  have hr : (execOp a.eval o).run P w = .ok (.value v) w := by
    simp [execOp, hop, ey, Instr.loadAt, Instr.sureAddr, loadVar, run_plain hpl, Go.load, Sem.run, hc]
  have he : (execOp a.eval o).events P w #[] = #[⟨.cell ad, false, false⟩] := by
    simp [execOp, hop, ey, Instr.loadAt, Instr.sureAddr, loadVar, run_plain hpl, hc]
  rw [stepG_value ho (by simp [Region.wanted, hg]) hk hr]
  unfold Go.Conc.listed
  rw [he, seen_eq hq (by simp)]
end
end Go.Proofs.Ytdmiilgdkmbmeaa.Rg
namespace Go.Proofs.Ytdmiilgdkmbmeaa.Rg
open Go Go.Conc

section
variable {P : Program} {x : Bool} {b : Frame} {a : Act} {k : List Item} {cs : List Frame} {w : World} {ops : Array Oper} {i n d m : Nat} {rest : List Nat} {o : Oper} {g : Gm} {ds : List Deferred}

theorem op_func {fn : Fn} {cap : Array Operand} {vs : List Value} (hop : o.op = .makeFunc fn #[] cap) (he : evvs g cap.toList = some vs) : ∀ a', Tm a' n g ds → ∀ w, (execOp a'.eval o).run P w = .ok (.value (.func fn #[] vs.toArray)) w ∧ (execOp a'.eval o).events P w #[] = #[] := fun a' hT w => by
  have e : cap.map a'.eval = vs.toArray := by
    apply Array.ext'
    simpa using evvs_ok hT he
  exact ⟨by simp [execOp, hop, Instr.makeFunc, e], by simp [execOp, hop, Instr.makeFunc, e]⟩
theorem op_unit {T : TypeId} {ti : TypeInfo} (hop : o.op = .build T #[]) (hu : P.underlying T = some (.struct #[])) (hi : P.info? T = some ti) (hz : ti.zero = some (.agg #[])) : ∀ a', Tm a' n g ds → ∀ w, (execOp a'.eval o).run P w = .ok (.value (.agg #[])) w ∧ (execOp a'.eval o).events P w #[] = #[] := fun a' hT w => by
  refine ⟨?_, ?_⟩ <;> simp [execOp, hop, Instr.build, zeroValue, typeInfo, hi, hz, run_underlying hu, Instr.fill, Value.cells]
theorem eq_nil {T : TypeId} {ms : Array (String × TypeId)} (hu : P.underlying T = some (.interface ms)) (d : Nat) (w : World) (es : Array Event) : (Op.equalIn (d + 1) T .nilIface .nilIface).run P w = .ok true w ∧ (Op.equalIn (d + 1) T .nilIface .nilIface).events P w es = es := by
  unfold Op.equalIn
  exact ⟨by simp [run_underlying hu], by simp [run_underlying hu]⟩
theorem op_nil {T T' : TypeId} {y : Operand} {ms : Array (String × TypeId)} (hop : o.op = .binOp .neq T y (.const .nilIface) T') (hy : evv g y = some .nilIface) (hu : P.underlying T = some (.interface ms)) : ∀ a', Tm a' n g ds → ∀ w, (execOp a'.eval o).run P w = .ok (.value (.bool false)) w ∧ (execOp a'.eval o).events P w #[] = #[] := fun a' hT w => by
  have e := evv_ok hT hy
  have ec : a'.eval (.const .nilIface) = .nilIface := rfl
  obtain ⟨d, hd⟩ : ∃ d, Op.maxDepth = d + 1 := ⟨_, rfl⟩
  have h1 := fun es => eq_nil (P := P) hu d w es
  rw [← hd] at h1
  exact ⟨by simp [execOp, hop, e, ec, eqGuard, binOp, Op.equal, (h1 #[]).1], by simp [execOp, hop, e, ec, eqGuard, binOp, Op.equal, (h1 #[]).1, (h1 _).2]⟩

section
variable {R : World → World → Prop} {D : World → World → Array Event → Prop} {Stop : Goroutine → World → Prop}
/-- A step that leaves the world alone. -/
theorem Gz.st (T : Tms R D) {g g' : Goroutine} (hs : g.status = .running) (hst : ∀ w₁, R w w₁ → ∃ es, stepG P x g w₁ = .go g' w₁ es ∧ D w₁ w₁ es) (h : Goes P x R D Stop m g' w) : Goes P x R D Stop (m + 1) g w := by
  refine Goes.step hs fun w₁ h₁ => ?_
  obtain ⟨es, e, hD⟩ := hst w₁ h₁
  rw [e]
  exact ⟨hD, h.rely T.trans h₁⟩
/-- A pointer laid bare. -/
theorem Gz.conv (T : Tms R D) (hk : b.kind ≠ .early) (hT : Tm a n g ds) {src dst t : TypeId} {y : Operand} {ad : Addr} (ho : ops[i]? = some o) (hd : o.dst = some d) (hlt : Nat.blt d n = true) (hg : o.guard = none) (hop : o.op = .convert src dst y) (hsrc : P.underlying src = some (.pointer t)) (hdst : P.underlying dst = some .unsafePointer) (hsz : (P.info? t).map (fun i => decide (i.size = 0)) = some false)
    (hy : evv g y = some (.pointer (some ad))) (hC : ∀ w₁, R w w₁ → ∃ v, w₁.cell? ad = some v) (h : ∀ a', Tm a' n ((d, .pointer (some ad)) :: g) ds → Goes P x R D Stop m (G (b.at a' (.inRegion ops rest :: k)) cs) w) : Goes P x R D Stop (m + 1) (G (b.at a (.inRegion ops (i :: rest) :: k)) cs) w := by
  refine Gz.val T ho (by simp [Region.wanted, hg]) hk (v := .pointer (some ad)) (fun w₁ h₁ => ?_) (by rw [hd]; exact h _ (hT.put d (by simpa [Nat.blt_eq] using hlt) _))
  obtain ⟨v, hv⟩ := hC w₁ h₁
  have e := evv_ok hT hy
  have e1 := run_convert_to_unsafe (P := P) hsrc hdst hsz hv
  have e2 := fun es => events_convert_to_unsafe (P := P) hsrc hdst hsz hv es
  refine ⟨by simp [execOp, hop, e, e1], ?_⟩
  have : Go.Conc.listed P b.fn a o w₁ = #[] := by
    unfold Go.Conc.listed
    have : (execOp a.eval o).events P w₁ #[] = #[] := by simp [execOp, hop, e, e1, e2]
    rw [this]; exact seen_none P _
  rw [this]
  exact T.idle w₁
end

/-! ### a bell -/
theorem run_zero {T : TypeId} {ti : TypeInfo} {v : Value} (hi : P.info? T = some ti) (hz : ti.zero = some v) : (zeroValue T).run P w = .ok v w := by simp [zeroValue, typeInfo, hi, hz]
theorem ev_zero {T : TypeId} {ti : TypeInfo} {v : Value} (hi : P.info? T = some ti) (hz : ti.zero = some v) (es : Array Event) : (zeroValue T).events P w es = es := by simp [zeroValue, typeInfo, hi, hz]
theorem step_recv (hT : Tm a n g ds) {T E : TypeId} {cd : ChanDir} {y : Operand} {c : Nat} {ti : TypeInfo} {z : Value} (ho : ops[i]? = some o) (hg : o.guard = none) (hk : b.kind ≠ .early) (hop : o.op = .recv T y false) (hu : P.underlying T = some (.chan cd E)) (hi : P.info? E = some ti) (hz : ti.zero = some z)
    (hy : evv g y = some (.chan (some c))) : stepG P x (G (b.at a (.inRegion ops (i :: rest) :: k)) cs) w = .comm (G (b.at a (.inRegion ops (i :: rest) :: k)) cs) #[rcase c z] true (.recv false) w #[] := by
  have ey := evv_ok hT hy
  have hr : (execOp a.eval o).run P w = .ok (.comm #[rcase c z] true (.recv false)) w := by simp [execOp, hop, ey, run_underlying hu, run_zero hi hz, rcase]
  have he : (execOp a.eval o).events P w #[] = #[] := by simp [execOp, hop, ey, run_underlying hu, run_zero hi hz, ev_zero hi hz]
  rw [stepG_comm ho (by simp [Region.wanted, hg]) hk hr]
  unfold Go.Conc.listed
  rw [he, seen_none]
theorem step_select (hT : Tm a n g ds) {E : TypeId} {y u : Operand} {c : Nat} {v : Value} {ti : TypeInfo} {z : Value} (ho : ops[i]? = some o) (hg : o.guard = none) (hk : b.kind ≠ .early) (hop : o.op = .select #[{ chan := y, send := some u, elem := E }] false) (hi : P.info? E = some ti) (hz : ti.zero = some z)
    (hy : evv g y = some (.chan (some c))) (hv : evv g u = some v) : stepG P x (G (b.at a (.inRegion ops (i :: rest) :: k)) cs) w = .comm (G (b.at a (.inRegion ops (i :: rest) :: k)) cs) #[scase c v z] false .select w #[] := by
  have ey := evv_ok hT hy
  have ev := evv_ok hT hv
  have hr : (execOp a.eval o).run P w = .ok (.comm #[scase c v z] false .select) w := by simp [execOp, hop, ey, ev, run_zero hi hz, scase]
  have he : (execOp a.eval o).events P w #[] = #[] := by simp [execOp, hop, ey, ev, run_zero hi hz, ev_zero hi hz]
  rw [stepG_comm ho (by simp [Region.wanted, hg]) hk hr]
  unfold Go.Conc.listed
  rw [he, seen_none]
theorem fin_comm {cases : Array CommCase} {shape : CommShape} {kk : Int} {v : Value} {ok : Bool} {d : Nat} (hd : (ops[i]?).bind (·.dst) = some d) : (G (b.at a (.inRegion ops (i :: rest) :: k)) cs).finishComm P cases shape kk v ok = G (b.at (a.put (some d) (commResult cases shape kk v ok)) (.inRegion ops rest :: k)) cs := by
  rw [← hd, ← Frame.finish_at]
  rfl

theorem res_select (c : Nat) (v z : Value) (kk : Int) : commResult #[scase c v z] .select kk undef false = .tuple #[.int .i64 kk, .bool false] := by simp [commResult, scase, goInt]
theorem res_recv (c : Nat) (z v : Value) (kk : Int) (ok : Bool) : commResult #[rcase c z] (.recv false) kk v ok = v := rfl
/-! ### a child -/
def bot (P : Program) : Frame := { (default : Frame) with fn := P.funcs.size, defers := [], mode := .panicking [goexitEntry] }
theorem step_born {f : FuncId} {cap : List Value} {fn : Func} {c : Code} (hf : P.funcs[f]? = some fn) (hname : (fn.name == "runtime.NumGoroutine") = false) (hb : fn.body = some c) (w : World) :
    stepG P false (born P (dcap f cap)) w = .go (G ((baseD f).at { tmps := cap.toArray ++ Array.replicate (fn.ntmps - cap.length) undef, defers := [] } [.code c]) [bot P]) w #[] := by
  have h1 : ¬ fn.name = "runtime.NumGoroutine" := by simpa using hname
  have he := enter_atD (f := f) cap.toArray hf hb
  rw [List.size_toArray] at he
  rw [← he]
  simp [born, dcap, stepG, unwind, callDeferred, invoke, callFunc, hf, h1, hb, seen_none, GStep.after, G, bot]
theorem quits_mono : ∀ {n n' d : Nat} {g : Goroutine}, QuitsD P n d g → n ≤ n' → QuitsD P n' d g
  | 0, 0, _, _, h, _ => h
  | 0, _ + 1, _, _, h, _ => .inl h
  | n + 1, 0, _, _, _, hle => absurd hle (Nat.not_succ_le_zero n)
  | n + 1, n' + 1, _, _, h, hle => h.imp id fun ⟨hs, g', es, h1, h2, h3⟩ => ⟨hs, g', es, h1, h2, quits_mono h3 (Nat.le_of_succ_le_succ hle)⟩
theorem quits_end {fn : Func} {todo : List Item} (hk : b.kind = .deferred) (hT : Tm a n g []) (hf : P.funcs[b.fn]? = some fn) (hr : fn.results = #[]) : QuitsD P 2 0 (G { b.at a todo with mode := .returning } [bot P]) := by
  refine QuitsD.ctl (g' := G (bot P) []) rfl (fun w => ?_) ?_
  · simp [G, stepG, unwind, doReturn, Frame.at, hk, hT.dfr, hf, results_none hr _ P w, events_results_none hr _ _, seen_none, GStep.after, bot, goexitEntry]
  · refine QuitsD.ctl (g' := { G (bot P) [] with status := .finished }) rfl (fun w => ?_) ⟨rfl, rfl⟩
    simp [G, stepG, unwind, bot, goexitEntry, Frame.catches]
    rfl
/-! ### the library's stops -/
section
variable {f : FuncId} {fn : Func} {ats : Array TypeId} {kd : IntKind} {ad : Addr}
theorem step_aload {y : Operand} {z : Int} (hk : b.kind ≠ .early) (hT : Tm a n g ds) (ho : ops[i]? = some o) (hd : o.dst = some d) (hlt : Nat.blt d n = true) (hg : o.guard = none) (hop : o.op = .call { callee := .value (.func f), args := #[y], argTypes := ats })
    (hf : P.funcs[f]? = some fn) (hname : (fn.name == "runtime.NumGoroutine") = false) (hb : fn.body.isNone = true) (hx : Extern.findNext fn = none) (he : Extern.find fn = some (Extern.Atomic.loadT (.int kd))) (hy : evv g y = some (.pointer (some ad))) (hc : w.cell? ad = some (.int kd z)) :
    ∃ a', Tm a' n ((d, .int kd z) :: g) ds ∧ stepG P x (G (b.at a (.inRegion ops (i :: rest) :: k)) cs) w = .go (G (b.at a' (.inRegion ops rest :: k)) cs) w #[⟨.cell ad, false, true⟩] :=
  ⟨_, hT.put d (by simpa [Nat.blt_eq] using hlt) _, by rw [stepG_load_atomic (v := z) ho (by simp [Region.wanted, hg]) hk hop hf hname hb hx kd he (evv_ok hT hy) hc, hd]⟩
theorem step_astore {y z : Operand} {v : Int} {u : Value} (hk : b.kind ≠ .early) (hT : Tm a n g ds) (ho : ops[i]? = some o) (hd : o.dst = some d) (hlt : Nat.blt d n = true) (hg : o.guard = none) (hop : o.op = .call { callee := .value (.func f), args := #[y, z], argTypes := ats })
    (hf : P.funcs[f]? = some fn) (hname : (fn.name == "runtime.NumGoroutine") = false) (hb : fn.body.isNone = true) (hx : Extern.findNext fn = none) (he : Extern.find fn = some Extern.Atomic.storeT) (hy : evv g y = some (.pointer (some ad))) (hz : evv g z = some (.int kd v)) (hc : w.cell? ad = some u) (hf2 : w.frozen? ad = false) :
    ∃ a', Tm a' n ((d, .tuple #[]) :: g) ds ∧ stepG P x (G (b.at a (.inRegion ops (i :: rest) :: k)) cs) w = .go (G (b.at a' (.inRegion ops rest :: k)) cs) (w.setCell ad (.int kd v)) #[⟨.cell ad, true, true⟩] :=
  ⟨_, hT.put d (by simpa [Nat.blt_eq] using hlt) _, by rw [stepG_store_atomic ho (by simp [Region.wanted, hg]) hk hop hf hname hb hx he (evv_ok hT hy) (evv_ok hT hz) hc hf2, hd]⟩
theorem step_aadd {y z : Operand} {v e : Int} (hk : b.kind ≠ .early) (hT : Tm a n g ds) (ho : ops[i]? = some o) (hd : o.dst = some d) (hlt : Nat.blt d n = true) (hg : o.guard = none) (hop : o.op = .call { callee := .value (.func f), args := #[y, z], argTypes := ats })
    (hf : P.funcs[f]? = some fn) (hname : (fn.name == "runtime.NumGoroutine") = false) (hb : fn.body.isNone = true) (hx : Extern.findNext fn = none) (he : Extern.find fn = some (Extern.Atomic.update (Op.intArith .add) kd true)) (hy : evv g y = some (.pointer (some ad))) (hz : evv g z = some (.int kd e)) (hc : w.cell? ad = some (.int kd v)) (hf2 : w.frozen? ad = false) (u : Int) (hu : kd.wrap (v + e) = u) :
    ∃ a', Tm a' n ((d, .int kd u) :: g) ds ∧ stepG P x (G (b.at a (.inRegion ops (i :: rest) :: k)) cs) w = .go (G (b.at a' (.inRegion ops rest :: k)) cs) (w.setCell ad (.int kd u)) #[⟨.cell ad, false, true⟩, ⟨.cell ad, true, true⟩] := by
  subst hu
  exact ⟨_, hT.put d (by simpa [Nat.blt_eq] using hlt) _, by rw [stepG_add_atomic ho (by simp [Region.wanted, hg]) hk hop hf hname hb hx kd he (evv_ok hT hy) (evv_ok hT hz) hc hf2, hd]⟩
theorem step_casT {y y' z : Operand} {v u : Int} (hk : b.kind ≠ .early) (hT : Tm a n g ds) (ho : ops[i]? = some o) (hd : o.dst = some d) (hlt : Nat.blt d n = true) (hg : o.guard = none) (hop : o.op = .call { callee := .value (.func f), args := #[y, y', z], argTypes := ats })
    (hf : P.funcs[f]? = some fn) (hname : (fn.name == "runtime.NumGoroutine") = false) (hb : fn.body.isNone = true) (hx : Extern.findNext fn = none) (he : Extern.find fn = some (Extern.Atomic.casT (.int kd))) (hy : evv g y = some (.pointer (some ad))) (hy' : evv g y' = some (.int kd v)) (hz : evv g z = some (.int kd u)) (hc : w.cell? ad = some (.int kd v)) (hf2 : w.frozen? ad = false) :
    ∃ a', Tm a' n ((d, .bool true) :: g) ds ∧ stepG P x (G (b.at a (.inRegion ops (i :: rest) :: k)) cs) w = .go (G (b.at a' (.inRegion ops rest :: k)) cs) (w.setCell ad (.int kd u)) #[⟨.cell ad, false, true⟩, ⟨.cell ad, true, true⟩] :=
  ⟨_, hT.put d (by simpa [Nat.blt_eq] using hlt) _, by rw [stepG_cas_hit ho (by simp [Region.wanted, hg]) hk hop hf hname hb hx kd he (evv_ok hT hy) (evv_ok hT hy') (evv_ok hT hz) hc hf2, hd]⟩
theorem step_casF {y y' z : Operand} {v v' u : Int} (hk : b.kind ≠ .early) (hT : Tm a n g ds) (ho : ops[i]? = some o) (hd : o.dst = some d) (hlt : Nat.blt d n = true) (hg : o.guard = none) (hop : o.op = .call { callee := .value (.func f), args := #[y, y', z], argTypes := ats })
    (hf : P.funcs[f]? = some fn) (hname : (fn.name == "runtime.NumGoroutine") = false) (hb : fn.body.isNone = true) (hx : Extern.findNext fn = none) (he : Extern.find fn = some (Extern.Atomic.casT (.int kd))) (hy : evv g y = some (.pointer (some ad))) (hy' : evv g y' = some (.int kd v)) (hz : evv g z = some (.int kd u)) (hc : w.cell? ad = some (.int kd v')) (hf2 : w.frozen? ad = false) (hne : ¬ v' = v) :
    ∃ a', Tm a' n ((d, .bool false) :: g) ds ∧ stepG P x (G (b.at a (.inRegion ops (i :: rest) :: k)) cs) w = .go (G (b.at a' (.inRegion ops rest :: k)) cs) w #[⟨.cell ad, false, true⟩] :=
  ⟨_, hT.put d (by simpa [Nat.blt_eq] using hlt) _, by rw [stepG_cas_miss ho (by simp [Region.wanted, hg]) hk hop hf hname hb hx kd he (evv_ok hT hy) (evv_ok hT hy') (evv_ok hT hz) hc hf2 hne, hd]⟩
variable {ags : Array Operand}
theorem args0 {y : Operand} {l : List Operand} {v : Value} (hT : Tm a n g ds) (has : ags = (y :: l).toArray) (hy : evv g y = some v) : (ags.map a.eval)[0]? = some v := by
  subst has
  simp [evv_ok hT hy]
theorem step_mark0 (mk : Mark) (hm : ∀ g, mk ≠ .extern g) (hk : b.kind ≠ .early) (hT : Tm a n g ds) (ho : ops[i]? = some o) (hd : o.dst = some d) (hlt : Nat.blt d n = true) (hg : o.guard = none) (hop : o.op = .call { callee := .value (.func f), args := ags, argTypes := ats })
    (hf : P.funcs[f]? = some fn) (hname : (fn.name == "runtime.NumGoroutine") = false) (hb : fn.body.isNone = true) (hx : Extern.findNext fn = none) (he : Extern.find fn = some (fun _ => do mark mk; pure Extern.Race.none_)) :
    ∃ a', Tm a' n ((d, .tuple #[]) :: g) ds ∧ ∀ w, stepG P x (G (b.at a (.inRegion ops (i :: rest) :: k)) cs) w = .go (G (b.at a' (.inRegion ops rest :: k)) cs) w #[⟨.mark mk, false, true⟩] :=
  ⟨_, hT.put d (by simpa [Nat.blt_eq] using hlt) _, fun w => by rw [stepG_mark0 mk hm ho (by simp [Region.wanted, hg]) hk hop hf hname hb hx he, hd]⟩
theorem step_markAt {y : Operand} {l : List Operand} (mk : Addr → Mark) (hm : ∀ ad g, mk ad ≠ .extern g) (hk : b.kind ≠ .early) (hT : Tm a n g ds) (ho : ops[i]? = some o) (hd : o.dst = some d) (hlt : Nat.blt d n = true) (hg : o.guard = none) (hop : o.op = .call { callee := .value (.func f), args := ags, argTypes := ats })
    (hf : P.funcs[f]? = some fn) (hname : (fn.name == "runtime.NumGoroutine") = false) (hb : fn.body.isNone = true) (hx : Extern.findNext fn = none) (he : Extern.find fn = some (Extern.Race.marked mk)) (has : ags = (y :: l).toArray) (hy : evv g y = some (.pointer (some ad))) :
    ∃ a', Tm a' n ((d, .tuple #[]) :: g) ds ∧ ∀ w, stepG P x (G (b.at a (.inRegion ops (i :: rest) :: k)) cs) w = .go (G (b.at a' (.inRegion ops rest :: k)) cs) w #[⟨.mark (mk ad), false, true⟩] :=
  ⟨_, hT.put d (by simpa [Nat.blt_eq] using hlt) _, fun w => by rw [stepG_markAt mk hm ho (by simp [Region.wanted, hg]) hk hop hf hname hb hx he (args0 hT has hy), hd]⟩
theorem step_semacq {y : Operand} {l : List Operand} {z : Int} (hk : b.kind ≠ .early) (hT : Tm a n g ds) (ho : ops[i]? = some o) (hd : o.dst = some d) (hlt : Nat.blt d n = true) (hg : o.guard = none) (hop : o.op = .call { callee := .value (.func f), args := ags, argTypes := ats })
    (hf : P.funcs[f]? = some fn) (hname : (fn.name == "runtime.NumGoroutine") = false) (hb : fn.body.isNone = true) (hx : Extern.findNext fn = none) (he : Extern.find fn = some Extern.Sync.semacquire) (has : ags = (y :: l).toArray) (hy : evv g y = some (.pointer (some ad))) (hc : w.cell? ad = some (.int .u32 z)) (hf2 : w.frozen? ad = false) (hz : z ≠ 0) :
    ∃ a', Tm a' n ((d, .tuple #[]) :: g) ds ∧ stepG P x (G (b.at a (.inRegion ops (i :: rest) :: k)) cs) w = .go (G (b.at a' (.inRegion ops rest :: k)) cs) (w.setCell ad (.int .u32 (z - 1))) (semEvents ad) :=
  ⟨_, hT.put d (by simpa [Nat.blt_eq] using hlt) _, by rw [stepG_semacquire ho (by simp [Region.wanted, hg]) hk hop hf hname hb hx he (args0 hT has hy) hc hz hf2, hd]⟩
theorem step_semwait {y : Operand} {l : List Operand} (hT : Tm a n g ds) (ho : ops[i]? = some o) (hg : o.guard = none) (hop : o.op = .call { callee := .value (.func f), args := ags, argTypes := ats })
    (hf : P.funcs[f]? = some fn) (hname : (fn.name == "runtime.NumGoroutine") = false) (hb : fn.body.isNone = true) (hx : Extern.findNext fn = none) (he : Extern.find fn = some Extern.Sync.semacquire) (has : ags = (y :: l).toArray) (hy : evv g y = some (.pointer (some ad))) (hc : w.cell? ad = some (.int .u32 0)) :
    stepG P x (G (b.at a (.inRegion ops (i :: rest) :: k)) cs) w = .go { G (b.at a (.inRegion ops (i :: rest) :: k)) cs with status := .blocked } w #[] :=
  stepG_semacquire_wait ho (by simp [Region.wanted, hg]) hop hf hname hb hx he (args0 hT has hy) hc
theorem step_semrel {y : Operand} {l : List Operand} {z : Int} (hk : b.kind ≠ .early) (hT : Tm a n g ds) (ho : ops[i]? = some o) (hd : o.dst = some d) (hlt : Nat.blt d n = true) (hg : o.guard = none) (hop : o.op = .call { callee := .value (.func f), args := ags, argTypes := ats })
    (hf : P.funcs[f]? = some fn) (hname : (fn.name == "runtime.NumGoroutine") = false) (hb : fn.body.isNone = true) (hx : Extern.findNext fn = none) (he : Extern.find fn = some Extern.Sync.semrelease) (has : ags = (y :: l).toArray) (hy : evv g y = some (.pointer (some ad))) (hc : w.cell? ad = some (.int .u32 z)) (hf2 : w.frozen? ad = false) (u : Int) (hu : IntKind.u32.wrap (z + 1) = u) :
    ∃ a', Tm a' n ((d, .tuple #[]) :: g) ds ∧ stepG P x (G (b.at a (.inRegion ops (i :: rest) :: k)) cs) w = .go (G (b.at a' (.inRegion ops rest :: k)) cs) (w.setCell ad (.int .u32 u)) (semEvents ad) := by
  subst hu
  exact ⟨_, hT.put d (by simpa [Nat.blt_eq] using hlt) _, by rw [stepG_semrelease ho (by simp [Region.wanted, hg]) hk hop hf hname hb hx he (args0 hT has hy) hc hf2, hd]⟩
/-- A call of an entry: one may try it again. -/
theorem may_wake (hT : Tm a n g ds) (ho : ops[i]? = some o) (hop : o.op = .call { callee := .value (.func f), args := ags, argTypes := ats }) (hf : P.funcs[f]? = some fn) (hb : fn.body.isNone = true) : mayWake P (G (b.at a (.inRegion ops (i :: rest) :: k)) cs) = true := by
  have h2 : fn.body = none := by simpa using hb
  have ef : (b.at a (.inRegion ops (i :: rest) :: k)).eval (.func f) = .func (.func f) #[] #[] := rfl
  simp [mayWake, G, Frame.at, ho, hop] at ef ⊢
  simp [ef, hf, h2]
/-- A pure entry's value. -/
theorem Mz.entry {M : Nat → Goroutine → Prop} (T : Mv P x M) (hk : b.kind ≠ .early) (hT : Tm a n g ds) {v : Value} (ho : ops[i]? = some o) (hd : o.dst = some d) (hlt : Nat.blt d n = true) (hg : o.guard = none) (hop : o.op = .call { callee := .value (.func f), args := ags, argTypes := ats })
    (hf : P.funcs[f]? = some fn) (hname : (fn.name == "runtime.NumGoroutine") = false) (hb : fn.body.isNone = true) (hx : Extern.findNext fn = none) (he : Extern.find fn = some (fun _ => pure v)) (h : ∀ a', Tm a' n ((d, v) :: g) ds → M m (G (b.at a' (.inRegion ops rest :: k)) cs)) : M (m + 1) (G (b.at a (.inRegion ops (i :: rest) :: k)) cs) := by
  refine T.ctl rfl (fun w => ?_) (h (a.put (some d) v) (hT.put d (by simpa [Nat.blt_eq] using hlt) v))
  rw [← hd]
  exact stepG_entry ho (by simp [Region.wanted, hg]) hk hop hf hname hb hx he (by simp) (by simp) (by simp)
end
end
end Go.Proofs.Ytdmiilgdkmbmeaa.Rg
namespace Go.Proofs.Ytdmiilgdkmbmeaa.Rg
open Go Go.Conc

theorem left_le (f : Nat → Bool) : ∀ n, left f n ≤ n
  | 0 => Nat.le_refl _
  | n + 1 => by
    have := left_le f n
    unfold left
    split <;> omega
def upsL (vals : List Value) (ups : List (Nat × Value)) : List Value := ups.foldl (fun v p => v.set p.1 p.2) vals
theorem upsL_same {sp0 : List Nat} {j : Nat} (hj : sp0.contains j = false) : ∀ {ups : List (Nat × Value)} {vals : List Value}, ups.all (fun p => sp0.contains p.1) = true → (upsL vals ups).getD j undef = vals.getD j undef
  | [], _, _ => rfl
  | (k, v) :: r, vals, h => by
    simp only [List.all_cons, Bool.and_eq_true] at h
    have ih := upsL_same (sp0 := sp0) hj (ups := r) (vals := vals.set k v) h.2
    have e : upsL vals ((k, v) :: r) = upsL (vals.set k v) r := rfl
    have hkj : k ≠ j := fun e => by rw [e, hj] at h; cases h.1
    rw [e, ih, List.getD_eq_getElem?_getD, List.getD_eq_getElem?_getD, List.getElem?_set_ne hkj]
section
variable {P : Program} {x : Bool} {R : World → World → Prop} {D : World → World → Array Event → Prop} {Stop : Goroutine → World → Prop} {b : Frame} {a a' : Act} {k : List Item} {cs : List Frame} {w : World} {C : Kn} {l : List Oper} {n : Nat} {H : List (Nat × Hint)} {ds : List Deferred} {g : Gm} {vals : List Value} {bf : List (List Nat)} {rds : List (List Nat)} {qs : List Prop} {i : Nat} {v u : Value}
theorem Gz.backM (T : Tms R D) {m : Nat} {fn : Func} {todo : List Item} {b₀ : Frame} {a₀ : Act} {ops : Array Oper} {d : Nat} {rest : List Nat} (hT : Tm a n g []) {t : Tmp} (hn : b.kind = .normal) (hf : P.funcs[b.fn]? = some fn) (hr : fn.results = #[.tmp t]) (hv : lkv t g = some v) (hd : (ops[i]?).bind (·.dst) = some d)
    (h : Goes P x R D Stop m (G (b₀.at (a₀.put (some d) v) (.inRegion ops rest :: k)) cs) w) : Goes P x R D Stop (m + 1) (G { b.at a todo with mode := .returning } (b₀.at a₀ (.inRegion ops (i :: rest) :: k) :: cs)) w := by
  refine Gz.leave1 T hn hT.dfr hf hr ?_
  rw [hd, hT.val t v hv]
  exact h
theorem Gz.moreE {sp0 : List Nat} (ups : List (Nat × Value)) (m : Nat) {n' : Nat} (T : Tmd R D) (K : Ken P R D C w) (hk : b.kind ≠ .early) (hb : befB l bf = true) (hn : dstsN l = true) (hn2 : dstsB l.toArray n = true) {vals' : List Value} (hd : dra P C l bf [i] H vals' g rds l 0 = some (vals', qs)) (hq : ∀ q ∈ qs, q)
    (hdst : hasD l [i] = true) {fuel t : Nat} {listed : Array Bool} (hM : Mid l n g vals ds i listed a) (hun : ∀ j, sp0.contains j = true → listed.getD j false = false) (hlf : left (fun j => (listed.setIfInBounds i true).getD j false) l.length ≤ fuel)
    {o : Oper} (ho : l[i]? = some o) (ha : a' = a.put o.dst u) (hput : ∀ d, o.dst = some d → vals'.getD i undef = u) (he : vals' = upsL vals ups) (hc : ups.all (fun p => sp0.contains p.1) = true) (hle : Nat.ble (m + l.length) n' = true)
    (hE : ∀ (listed : Array Bool) (a : Act), (∀ i, i < l.length → listed.getD i false = true) → Jd l n g vals' ds listed a → Goes P x R D Stop m (G (b.at a (.inRegion l.toArray [] :: k)) cs) w) :
    Goes P x R D Stop n' (G (b.at a' (.inRegion l.toArray (Region.linearise.go .any l.toArray fuel t (listed.setIfInBounds i true) []) :: k)) cs) w := by
  subst ha
  have := left_le (fun j => (listed.setIfInBounds i true).getD j false) l.length
  have hle' := Nat.le_of_ble_eq_true hle
  refine Goes.mono (Gz.more T K hk hb hn hn2 hd hq (hasD_ok hdst) hM hlf rfl ho hput (fun j hj => ?_) hE) (by omega)
  rw [he]
  refine upsL_same ?_ hc
  cases h : sp0.contains j
  · rfl
  · rw [hun j h] at hj; cases hj
/-- The call of a function as the special operation. -/
theorem Mid.sees (hb : befB l bf = true) {listed : Array Bool} (hM : Mid l n g vals ds i listed a) {o : Oper} (ho : l[i]? = some o) (rd : List Nat) {g' : Gm} (e : rmap l bf vals g rd i = g') : Tm a n g' ds := by
  subst e
  exact hM.jd.sees hb hM.closed ho hM.rdy rd
end
end Go.Proofs.Ytdmiilgdkmbmeaa.Rg
namespace Go.Proofs.Ytdmiilgdkmbmeaa
open Go.RowKit

theorem ret_int {k : IntKind} {a b : Int} (h : a = b) : Ending.returned (.int k a) = .returned (.int k b) := by rw [h]
theorem ret_bool {a b : Bool} (h : a = b) : Ending.returned (.bool a) = .returned (.bool b) := by rw [h]
theorem bcell {W w1 : World} (hb : Below W.heap.size W w1) :
    (∀ b o, b < W.heap.size → w1.cell? ⟨b, o, none⟩ = W.cell? ⟨b, o, none⟩) ∧ (∀ b o, b < W.heap.size → w1.frozen? ⟨b, o, none⟩ = W.frozen? ⟨b, o, none⟩) :=
  ⟨fun b o h => hb.cell (p := ⟨b, o, none⟩) h, fun b o h => hb.frozen (p := ⟨b, o, none⟩) h⟩
theorem below_drewN {B : Nat} {a w : World} (h : Below B a w) (n : Nat) : Below B a (w.drewN n) := ⟨h.os, h.tape, h.output, h.size, h.block⟩
theorem below_then {a w w' : World} (h : Below w.heap.size w w') (k : Below a.heap.size a w) : Below a.heap.size a w' := k.trans (h.mono k.size)
theorem below_new {a w : World} (k : Below a.heap.size a w) (o : Obj) : Below a.heap.size a (w.alloc o) := k.alloc k.size o
theorem size_then {w w' : World} {n : Nat} (h : Below w.heap.size w w') (hn : n ≤ w.heap.size) : n ≤ w'.heap.size := Nat.le_trans hn h.size
theorem cell_then {W w' : World} {a : Addr} {v : Value} (h : W.cell? a = some v) (hb : Below W.heap.size W w') : w'.cell? a = some v :=
  (hb.cell (World.block_lt_of_cell? W _ h)).trans h
/-- A callee that leaves the world alone, met in a quiet region. -/
theorem quiet_left {P : Program} {f : FuncId} {args : Array Value} {w : World} {n : Nat} {v : Value}
    (h : Calls P f args (w.drewN n) fun e w' => e = .returned v ∧ w.drewN n = w') : Calls P f args (w.drewN n) fun e w'' => e = .returned v ∧ ∃ m, w'' = w.drewN m :=
  h.mono fun _ _ ⟨he, hm⟩ => ⟨he, n, hm.symm⟩
theorem quiet_add {P : Program} {f : FuncId} {args : Array Value} {w : World} {a n : Nat} {v : Value}
    (h : Calls P f args (w.drewN (a + n)) fun e w' => e = .returned v ∧ ∃ m, w' = (w.drewN (a + n)).drewN m) :
    Calls P f args (w.drewN (a + n)) fun e w'' => e = .returned v ∧ ∃ m, w'' = w.drewN (a + m) :=
  h.mono fun _ _ ⟨he, m, hm⟩ => ⟨he, n + m, by rw [hm, World.drewN_drewN, Nat.add_assoc]⟩
theorem quiet_add_left {P : Program} {f : FuncId} {args : Array Value} {w : World} {a n : Nat} {v : Value}
    (h : Calls P f args (w.drewN (a + n)) fun e w' => e = .returned v ∧ w.drewN (a + n) = w') :
    Calls P f args (w.drewN (a + n)) fun e w'' => e = .returned v ∧ ∃ m, w'' = w.drewN (a + m) :=
  h.mono fun _ _ ⟨he, hm⟩ => ⟨he, n, hm.symm⟩

end Go.Proofs.Ytdmiilgdkmbmeaa
namespace Go.Proofs.Ytdmiilgdkmbmeaa.Rg
open Go Go.Conc

noncomputable def c203 : Code := (Try.f3).body.getD .skip
noncomputable def c205 : Code := (Try.f5).body.getD .skip
noncomputable def c210 : Code := (Try.f10).body.getD .skip
noncomputable def c4 : Code := (Try.f4).body.getD .skip
noncomputable def c5 : Code := (Try.f6).body.getD .skip
noncomputable def c7 : Code := (Try.f7).body.getD .skip
noncomputable def c8 : Code := (Try.f11).body.getD .skip
noncomputable def c9 : Code := (Try.f12).body.getD .skip
noncomputable def c10 : Code := (Try.f8).body.getD .skip
noncomputable def c11 : Code := (Try.f13).body.getD .skip
noncomputable def c12 : Code := (Try.f9).body.getD .skip
noncomputable def c13 : Code := (Try.f14).body.getD .skip
noncomputable def c14 : Code := (Try.f17).body.getD .skip
noncomputable def c15 : Code := (Try.f18).body.getD .skip
noncomputable def c16 : Code := (Try.f19).body.getD .skip
noncomputable def c17 : Code := (Try.f20).body.getD .skip
noncomputable def c18 : Code := (Try.f15).body.getD .skip
noncomputable def c19 : Code := (Try.f16).body.getD .skip
noncomputable def c21 : Code := (Try.f22).body.getD .skip
noncomputable def c25 : Code := (Try.f26).body.getD .skip
noncomputable def c34 : Code := (Try.f37).body.getD .skip
noncomputable def c36 : Code := (Try.f39).body.getD .skip
theorem mixed : Try.prog.follows .mixedOrders = true := by kernel_rfl
/-- Where the variables stand; the numbers. -/
structure Env where
  bl : Nat
  bR : Nat
  bF : Nat
  bE : Nat
  gw : Nat
  gf : Nat
  lb : Nat
  lo : Nat
  cap : Nat
  la : Option Addr
  z : Nat → Int
structure Hyp (L : Lay) (D : Dat) (Shun : Loc → Prop) (w₀ : World) (e : Env) : Prop where
  good : L.Good
  nb : L.n ≤ 65536
  Nb : D.N ≤ 17592186044416
  sh : ∀ ad : Addr, L.low ≤ ad.block → ¬ Shun (.cell ad)
  hdr : D.hdr = .slice (some ⟨L.M, 0, none⟩) L.n L.n
  unit : D.unit = .agg #[]
  val : ∀ i, D.val i = .int .i64 (e.z i)
  rd : ¬ Shun (.cell ⟨L.R, 0, none⟩)
  la : 0 < D.N → e.la = some ⟨e.lb, e.lo, none⟩
  cl : Cw L D Shun w₀ ⟨e.bl, 0, none⟩ (.slice e.la D.N e.cap)
  cR : Cw L D Shun w₀ ⟨e.bR, 0, none⟩ (.pointer (some ⟨L.R, 0, none⟩))
  cF : Cw L D Shun w₀ ⟨e.bF, 0, none⟩ (.chan (some L.F))
  cE : Cw L D Shun w₀ ⟨e.bE, 0, none⟩ (.chan (some L.E))
  cw : Cw L D Shun w₀ ⟨e.gw, 0, none⟩ (.pointer (some ⟨L.W, 0, none⟩))
  cf : Cw L D Shun w₀ ⟨e.gf, 0, none⟩ (.func (.func 12) #[] #[.pointer (some ⟨e.bl, 0, none⟩), .pointer (some ⟨e.bR, 0, none⟩), .pointer (some ⟨e.bF, 0, none⟩), .pointer (some ⟨e.bE, 0, none⟩)])
  el : ∀ i, i < D.N → Cw L D Shun w₀ ⟨e.lb, i + e.lo, none⟩ (.int .i64 (e.z i))
section
variable {L : Lay} {D : Dat} {Shun : Loc → Prop} {w₀ : World} {e : Env}
theorem Hyp.hR (H : Hyp L D Shun w₀ e) : Cw L D Shun w₀ ⟨L.R, 0, none⟩ (.slice (some ⟨L.M, 0, none⟩) L.n L.n) := ⟨.inl ⟨rfl, H.hdr.symm⟩, H.rd⟩
/-! numbers -/
theorem n_lt {i n : Nat} (h : i < n) : (Value.bool (decide ((i : Int) < (n : Int)))) = .bool true := by
  rw [decide_eq_true (by omega)]
theorem n_nlt {i n : Nat} (h : ¬ i < n) : (Value.bool (decide ((i : Int) < (n : Int)))) = .bool false := by
  rw [decide_eq_false (by omega)]
theorem n_one {z : Int} (h : 1 ≤ z) : (Value.bool (decide (z < 1))) = .bool false := by
  rw [decide_eq_false (by omega)]
theorem n_low {z : Int} (h : z < 1) : (Value.bool (decide (z < 1))) = .bool true := by
  rw [decide_eq_true (by omega)]
theorem n_top {z : Int} (h : z ≤ 65536) : (Value.bool (decide ((65536 : Int) < z))) = .bool false := by
  rw [decide_eq_false (by omega)]
theorem n_high {z : Int} (h : 65536 < z) : (Value.bool (decide ((65536 : Int) < z))) = .bool true := by
  rw [decide_eq_true (by omega)]
theorem n_same {i j : Nat} (h : i = j) : (Value.bool (decide ((i : Int) = (j : Int)))) = .bool true := by
  rw [decide_eq_true (by omega)]
theorem n_other {i j : Nat} (h : i ≠ j) : (Value.bool (decide ((i : Int) = (j : Int)))) = .bool false := by
  rw [decide_eq_false (by omega)]
theorem n_idx {b off i n : Nat} (h : i < n) : (if 0 ≤ (i : Int) ∧ (i : Int) < ((n : Nat) : Int) then some (Value.pointer (some ⟨b, Int.toNat (i : Int) + off, none⟩)) else none) = some (Value.pointer (some ⟨b, i + off, none⟩)) := by
  rw [if_pos ⟨by omega, by omega⟩]; rfl
theorem n_wrap {z : Int} (h1 : -9223372036854775808 ≤ z) (h2 : z < 9223372036854775808) : IntKind.i64.wrap z = z := by
  show (if (true && decide (z % 18446744073709551616 ≥ 9223372036854775808)) = true then z % 18446744073709551616 - 18446744073709551616 else z % 18446744073709551616) = z
  split
  · rename_i h
    have h3 : z % 18446744073709551616 ≥ 9223372036854775808 := of_decide_eq_true h
    omega
  · rename_i h
    have h3 : ¬ z % 18446744073709551616 ≥ 9223372036854775808 := fun e => h (decide_eq_true e)
    omega
theorem n_inc {i : Nat} (h : i < 4611686018427387904) : (some (Value.int .i64 (IntKind.i64.wrap ((i : Int) + 1)))) = some (.int .i64 ((i + 1 : Nat) : Int)) := by
  rw [n_wrap (by omega) (by omega)]; rfl
theorem n_sub {i k : Nat} (hi : i < 4611686018427387904) (hk : k < 4611686018427387905) : (some (Value.int .i64 (IntKind.i64.wrap ((i : Int) - (k : Int))))) = some (.int .i64 ((i : Int) - (k : Int))) := by
  rw [n_wrap (by omega) (by omega)]
theorem n_room {i k n : Nat} (h : i < k + n) : (some (Value.bool (decide ((i : Int) - (k : Int) = (n : Int))))) = some (.bool false) := by
  rw [decide_eq_false (by omega)]
theorem n_full {i k n : Nat} (h : i = k + n) : (some (Value.bool (decide ((i : Int) - (k : Int) = (n : Int))))) = some (.bool true) := by
  rw [decide_eq_true (by omega)]
theorem n_rem {i n : Nat} (hn : 1 ≤ n) : (if (n : Int) = 0 then none else some (Value.int .i64 (Int.tmod (i : Int) (n : Int)))) = some (.int .i64 ((i % n : Nat) : Int)) := by
  rw [if_neg (by omega)]; rfl
end
end Go.Proofs.Ytdmiilgdkmbmeaa.Rg
namespace Go.Proofs.Ytdmiilgdkmbmeaa.Rg
open Go Go.Conc
section
variable {L : Lay} {D : Dat} {Shun : Loc → Prop} {w₀ w : World} {e : Env} {cs : List Frame} {i : Nat} {g : Goroutine} {s : Sh}
def BLd (L : Lay) (D : Dat) (e : Env) (i : Nat) (g : Goroutine) : Prop :=
  ∃ (b15 b9 b10 b18 : Act) (fuel t : Nat) (listed : Array Bool), Tm b15 5 [] [dcap 19 [.pointer (some ⟨e.gw, 0, none⟩)]] ∧ Tm b9 21 [(1, .pointer (some ⟨e.bR, 0, none⟩)), (2, .pointer (some ⟨e.bF, 0, none⟩)), (3, .pointer (some ⟨e.bE, 0, none⟩)), (5, .int .i64 ((e.z i))), (6, .slice (some ⟨e.lb, e.lo, none⟩) D.N e.cap), (7, .int .i64 D.N), (8, .int .i64 i)] [] ∧ Mid c10.pd.pd.pa.pa.po 41 [(5, .int .i64 i), (0, .pointer (some ⟨L.R, 0, none⟩)), (1, .int .i64 ((e.z i)))] [.int .i64 i, .pointer (some ⟨L.R, 0, none⟩), .pointer (some ⟨L.R, 0, none⟩), .pointer (some ⟨L.R, 2, none⟩), undef, undef, .pointer (some ⟨L.R, 0, none⟩), .pointer (some ⟨L.R, 0, none⟩), .pointer (some ⟨L.R, 0, none⟩), .slice (some ⟨L.M, 0, none⟩) L.n L.n, .int .i64 L.n, undef] [] 4 listed b10 ∧ (∀ j, ([4, 5, 11] : List Nat).contains j = true → listed.getD j false = false) ∧ left (fun j => (listed.setIfInBounds 4 true).getD j false) c10.pd.pd.pa.pa.po.length ≤ fuel ∧ Tm b18 7 [(5, .pointer (some ⟨L.R, 2, none⟩))] [] ∧ g = G ((base 15).at b18 [.inRegion c18.pd.pa.po.toArray [3, 4], .code c18.pd.pd]) (((base 8).at b10 [.inRegion c10.pd.pd.pa.pa.po.toArray (4 :: Region.linearise.go .any c10.pd.pd.pa.pa.po.toArray fuel t (listed.setIfInBounds 4 true) []), .code c10.pd.pd.pa.pd, .code c10.pd.pd.pd]) :: ((base 12).at b9 [.inRegion c9.pd.pa.pa.pd.pd.pa.pa.pd.pa.pa.pa.pa.pa.po.toArray [2, 3], .code c9.pd.pa.pa.pd.pd.pa.pa.pd.pa.pa.pa.pa.pd, .code c9.pd.pa.pa.pd.pd.pa.pa.pd.pa.pa.pa.pd, .inLoop c9.pd.pa.pa.pd.pd.pa.pa.pd.pa.pa.pa, .inBlock 2, .code c9.pd.pa.pa.pd.pd.pa.pa.pd.pd, .inBlock 1, .code c9.pd.pa.pa.pd.pd.pd, .inLoop c9.pd.pa.pa, .inBlock 0]) :: ((baseD 18).at b15 [.inRegion c15.pd.po.toArray [1]]) :: [bot Try.prog])
def BSl (L : Lay) (D : Dat) (e : Env) (i : Nat) (g : Goroutine) : Prop :=
  ∃ (b15 b9 b10 : Act) (fuel t : Nat) (listed : Array Bool), Tm b15 5 [] [dcap 19 [.pointer (some ⟨e.gw, 0, none⟩)]] ∧ Tm b9 21 [(1, .pointer (some ⟨e.bR, 0, none⟩)), (2, .pointer (some ⟨e.bF, 0, none⟩)), (3, .pointer (some ⟨e.bE, 0, none⟩)), (5, .int .i64 ((e.z i))), (6, .slice (some ⟨e.lb, e.lo, none⟩) D.N e.cap), (7, .int .i64 D.N), (8, .int .i64 i)] [] ∧ Mid c10.pd.pd.pd.pa.po 41 [(5, .int .i64 i), (0, .pointer (some ⟨L.R, 0, none⟩)), (1, .int .i64 ((e.z i)))] [.pointer (some ⟨L.R, 0, none⟩), .pointer (some ⟨L.R, 0, none⟩), .pointer (some ⟨L.R, 0, none⟩), .slice (some ⟨L.M, 0, none⟩) L.n L.n, .int .i64 i, .pointer (some ⟨L.R, 0, none⟩), .pointer (some ⟨L.R, 0, none⟩), .pointer (some ⟨L.R, 0, none⟩), .slice (some ⟨L.M, 0, none⟩) L.n L.n, .int .i64 L.n, .int .i64 (((i % L.n : Nat) : Int)), .int .i64 ((e.z i)), .pointer (some ⟨L.M, i % L.n, none⟩), undef] [] 13 listed b10 ∧ (∀ j, ([13] : List Nat).contains j = true → listed.getD j false = false) ∧ left (fun j => (listed.setIfInBounds 13 true).getD j false) c10.pd.pd.pd.pa.po.length ≤ fuel ∧ g = G ((base 8).at b10 [.inRegion c10.pd.pd.pd.pa.po.toArray (13 :: Region.linearise.go .any c10.pd.pd.pd.pa.po.toArray fuel t (listed.setIfInBounds 13 true) []), .code c10.pd.pd.pd.pd]) (((base 12).at b9 [.inRegion c9.pd.pa.pa.pd.pd.pa.pa.pd.pa.pa.pa.pa.pa.po.toArray [2, 3], .code c9.pd.pa.pa.pd.pd.pa.pa.pd.pa.pa.pa.pa.pd, .code c9.pd.pa.pa.pd.pd.pa.pa.pd.pa.pa.pa.pd, .inLoop c9.pd.pa.pa.pd.pd.pa.pa.pd.pa.pa.pa, .inBlock 2, .code c9.pd.pa.pa.pd.pd.pa.pa.pd.pd, .inBlock 1, .code c9.pd.pa.pa.pd.pd.pd, .inLoop c9.pd.pa.pa, .inBlock 0]) :: ((baseD 18).at b15 [.inRegion c15.pd.po.toArray [1]]) :: [bot Try.prog])
def BSt (L : Lay) (D : Dat) (e : Env) (i : Nat) (g : Goroutine) : Prop :=
  ∃ (b15 b9 b10 b19 : Act), Tm b15 5 [] [dcap 19 [.pointer (some ⟨e.gw, 0, none⟩)]] ∧ Tm b9 21 [(1, .pointer (some ⟨e.bR, 0, none⟩)), (2, .pointer (some ⟨e.bF, 0, none⟩)), (3, .pointer (some ⟨e.bE, 0, none⟩)), (5, .int .i64 ((e.z i))), (6, .slice (some ⟨e.lb, e.lo, none⟩) D.N e.cap), (7, .int .i64 D.N), (8, .int .i64 i)] [] ∧ Tm b10 41 [] [] ∧ Tm b19 9 [(6, .pointer (some ⟨L.R, 1, none⟩)), (7, .int .i64 (((i + 1 : Nat) : Int)))] [] ∧ g = G ((base 16).at b19 [.inRegion c19.po.toArray [4]]) (((base 8).at b10 [.inRegion c10.pd.pd.pd.pd.pa.po.toArray [5], .code c10.pd.pd.pd.pd.pd]) :: ((base 12).at b9 [.inRegion c9.pd.pa.pa.pd.pd.pa.pa.pd.pa.pa.pa.pa.pa.po.toArray [2, 3], .code c9.pd.pa.pa.pd.pd.pa.pa.pd.pa.pa.pa.pa.pd, .code c9.pd.pa.pa.pd.pd.pa.pa.pd.pa.pa.pa.pd, .inLoop c9.pd.pa.pa.pd.pd.pa.pa.pd.pa.pa.pa, .inBlock 2, .code c9.pd.pa.pa.pd.pd.pa.pa.pd.pd, .inBlock 1, .code c9.pd.pa.pa.pd.pd.pd, .inLoop c9.pd.pa.pa, .inBlock 0]) :: ((baseD 18).at b15 [.inRegion c15.pd.po.toArray [1]]) :: [bot Try.prog])
def BBl (L : Lay) (D : Dat) (e : Env) (i : Nat) (g : Goroutine) : Prop :=
  ∃ (b15 b9 b11 : Act), Tm b15 5 [] [dcap 19 [.pointer (some ⟨e.gw, 0, none⟩)]] ∧ Tm b9 21 [(1, .pointer (some ⟨e.bR, 0, none⟩)), (2, .pointer (some ⟨e.bF, 0, none⟩)), (3, .pointer (some ⟨e.bE, 0, none⟩)), (6, .slice (some ⟨e.lb, e.lo, none⟩) D.N e.cap), (7, .int .i64 D.N), (8, .int .i64 i)] [] ∧ Tm b11 7 [(2, .chan (some L.E)), (3, .agg #[])] [] ∧ g = G ((base 13).at b11 [.inRegion c11.pd.pa.po.toArray [0, 1, 2], .code c11.pd.pd]) (((base 12).at b9 [.inRegion c9.pd.pa.pa.pd.pd.pa.pa.pd.pd.po.toArray [1], .inBlock 1, .code c9.pd.pa.pa.pd.pd.pd, .inLoop c9.pd.pa.pa, .inBlock 0]) :: ((baseD 18).at b15 [.inRegion c15.pd.po.toArray [1]]) :: [bot Try.prog])
def BRc (L : Lay) (D : Dat) (e : Env) (i : Nat) (g : Goroutine) : Prop :=
  ∃ (b15 b9 : Act), Tm b15 5 [] [dcap 19 [.pointer (some ⟨e.gw, 0, none⟩)]] ∧ Tm b9 21 [(1, .pointer (some ⟨e.bR, 0, none⟩)), (2, .pointer (some ⟨e.bF, 0, none⟩)), (3, .pointer (some ⟨e.bE, 0, none⟩)), (5, .int .i64 ((e.z i))), (6, .slice (some ⟨e.lb, e.lo, none⟩) D.N e.cap), (7, .int .i64 D.N), (8, .int .i64 i), (16, .chan (some L.F))] [] ∧ g = G ((base 12).at b9 [.inRegion c9.pd.pa.pa.pd.pd.pa.pa.pd.pa.pa.pa.pd.pa.po.toArray [1], .inBlock 3, .inLoop c9.pd.pa.pa.pd.pd.pa.pa.pd.pa.pa.pa, .inBlock 2, .code c9.pd.pa.pa.pd.pd.pa.pa.pd.pd, .inBlock 1, .code c9.pd.pa.pa.pd.pd.pd, .inLoop c9.pd.pa.pa, .inBlock 0]) (((baseD 18).at b15 [.inRegion c15.pd.po.toArray [1]]) :: [bot Try.prog])
def BD0 (L : Lay) (D : Dat) (e : Env) (i : Nat) (g : Goroutine) : Prop :=
  ∃ (b15 b16 b17 b14 : Act), Tm b15 5 [] [] ∧ Tm b16 8 [] [] ∧ Tm b17 4 [] [] ∧ Tm b14 117 [(0, .pointer (some ⟨L.W, 0, none⟩)), (1, .int .i64 (-1)), (12, .pointer (some ⟨L.W, 0, none⟩))] [] ∧ g = G ((base 17).at b14 [.inRegion c14.pa.pa.pa.pd.pa.po.toArray [2], .code c14.pa.pa.pd, .code c14.pd]) (((base 20).at b17 [.inRegion c17.po.toArray [1]]) :: ((baseD 19).at b16 [.inRegion c16.pd.po.toArray [1]]) :: { (baseD 18).at b15 [] with mode := .returning } :: [bot Try.prog])
def BD1 (L : Lay) (D : Dat) (e : Env) (i : Nat) (g : Goroutine) : Prop :=
  ∃ (b15 b16 b17 b14 : Act), Tm b15 5 [] [] ∧ Tm b16 8 [] [] ∧ Tm b17 4 [] [] ∧ Tm b14 117 [(0, .pointer (some ⟨L.W, 0, none⟩)), (1, .int .i64 (-1))] [] ∧ g = G ((base 17).at b14 [.inRegion c14.pa.pa.pd.pa.po.toArray [0], .code c14.pa.pa.pd.pd, .code c14.pd]) (((base 20).at b17 [.inRegion c17.po.toArray [1]]) :: ((baseD 19).at b16 [.inRegion c16.pd.po.toArray [1]]) :: { (baseD 18).at b15 [] with mode := .returning } :: [bot Try.prog])
def BD2 (L : Lay) (D : Dat) (e : Env) (i : Nat) (g : Goroutine) : Prop :=
  ∃ (b15 b16 b17 b14 b34 : Act), Tm b15 5 [] [] ∧ Tm b16 8 [] [] ∧ Tm b17 4 [] [] ∧ Tm b14 117 [(0, .pointer (some ⟨L.W, 0, none⟩)), (1, .int .i64 (-1)), (4, .bool false)] [dcap 23 []] ∧ Tm b34 10 [(7, .pointer (some ⟨L.W, 0, none⟩)), (8, .int .u64 18446744069414584320)] [] ∧ g = G ((base 37).at b34 [.inRegion c34.pd.pa.po.toArray [4, 5], .code c34.pd.pd]) (((base 17).at b14 [.inRegion c14.pd.pd.pd.pa.po.toArray [6, 7], .code c14.pd.pd.pd.pd]) :: ((base 20).at b17 [.inRegion c17.po.toArray [1]]) :: ((baseD 19).at b16 [.inRegion c16.pd.po.toArray [1]]) :: { (baseD 18).at b15 [] with mode := .returning } :: [bot Try.prog])
def BD3 (L : Lay) (D : Dat) (e : Env) (i : Nat) (g : Goroutine) : Prop :=
  ∃ (b15 b16 b17 b14 b21 : Act), Tm b15 5 [] [] ∧ Tm b16 8 [] [] ∧ Tm b17 4 [] [] ∧ Tm b14 117 [(0, .pointer (some ⟨L.W, 0, none⟩)), (4, .bool false), (6, .int .u64 1), (8, .int .u32 1)] [dcap 23 []] ∧ Tm b21 7 [(5, .pointer (some ⟨L.W, 0, none⟩))] [] ∧ g = G ((base 22).at b21 [.inRegion c21.pd.pa.po.toArray [3, 4], .code c21.pd.pd]) (((base 17).at b14 [.inRegion c14.pd.pd.pd.pd.pd.pd.pd.pd.pd.pd.pd.pa.pa.po.toArray [3, 4, 5], .code c14.pd.pd.pd.pd.pd.pd.pd.pd.pd.pd.pd.pa.pd, .code c14.pd.pd.pd.pd.pd.pd.pd.pd.pd.pd.pd.pd]) :: ((base 20).at b17 [.inRegion c17.po.toArray [1]]) :: ((baseD 19).at b16 [.inRegion c16.pd.po.toArray [1]]) :: { (baseD 18).at b15 [] with mode := .returning } :: [bot Try.prog])
def BD4 (L : Lay) (D : Dat) (e : Env) (i : Nat) (g : Goroutine) : Prop :=
  ∃ (b15 b16 b17 b14 b36 : Act), Tm b15 5 [] [] ∧ Tm b16 8 [] [] ∧ Tm b17 4 [] [] ∧ Tm b14 117 [(0, .pointer (some ⟨L.W, 0, none⟩)), (4, .bool false), (8, .int .u32 1)] [dcap 23 []] ∧ Tm b36 9 [(6, .pointer (some ⟨L.W, 0, none⟩)), (7, .int .u64 0)] [] ∧ g = G ((base 39).at b36 [.inRegion c36.po.toArray [4]]) (((base 17).at b14 [.inRegion c14.pd.pd.pd.pd.pd.pd.pd.pd.pd.pd.pd.pd.pa.po.toArray [3], .code c14.pd.pd.pd.pd.pd.pd.pd.pd.pd.pd.pd.pd.pd]) :: ((base 20).at b17 [.inRegion c17.po.toArray [1]]) :: ((baseD 19).at b16 [.inRegion c16.pd.po.toArray [1]]) :: { (baseD 18).at b15 [] with mode := .returning } :: [bot Try.prog])
def BD5 (L : Lay) (D : Dat) (e : Env) (i : Nat) (g : Goroutine) : Prop :=
  ∃ (b15 b16 b17 b14 : Act), Tm b15 5 [] [] ∧ Tm b16 8 [] [] ∧ Tm b17 4 [] [] ∧ Tm b14 117 [(0, .pointer (some ⟨L.W, 0, none⟩)), (8, .int .u32 1), (115, .pointer (some ⟨L.W, 1, none⟩))] [dcap 23 []] ∧ g = G ((base 17).at b14 [.inRegion c14.pd.pd.pd.pd.pd.pd.pd.pd.pd.pd.pd.pd.pd.pd.pa.pa.pd.pa.pa.po.toArray [3], .inBlock 2, .code c14.pd.pd.pd.pd.pd.pd.pd.pd.pd.pd.pd.pd.pd.pd.pa.pa.pd.pd, .inLoop c14.pd.pd.pd.pd.pd.pd.pd.pd.pd.pd.pd.pd.pd.pd.pa.pa, .inBlock 1]) (((base 20).at b17 [.inRegion c17.po.toArray [1]]) :: ((baseD 19).at b16 [.inRegion c16.pd.po.toArray [1]]) :: { (baseD 18).at b15 [] with mode := .returning } :: [bot Try.prog])

end
end Go.Proofs.Ytdmiilgdkmbmeaa.Rg
namespace Go.Proofs.Ytdmiilgdkmbmeaa.Rg
open Go Go.Conc
section
variable {L : Lay} {D : Dat} {Shun : Loc → Prop} {w₀ w : World} {e : Env} {cs : List Frame} {i : Nat} {g : Goroutine} {s : Sh}
theorem B_push (H : Hyp L D Shun w₀ e) (hi : i < D.N) (hK : KW L D w₀ false i w) {b15 : Act} (hb15 : Tm b15 5 [] [dcap 19 [.pointer (some ⟨e.gw, 0, none⟩)]]) {b9 : Act} (hb9 : Tm b9 21 [(1, .pointer (some ⟨e.bR, 0, none⟩)), (2, .pointer (some ⟨e.bF, 0, none⟩)), (3, .pointer (some ⟨e.bE, 0, none⟩)), (5, .int .i64 ((e.z i))), (6, .slice (some ⟨e.lb, e.lo, none⟩) D.N e.cap), (7, .int .i64 D.N), (8, .int .i64 i)] []) :
    Goes Try.prog false (RX L false) (DX L Shun false .ld) (fun g w => KW L D w₀ false i w ∧ BLd L D e i g) 4000 (G ((base 12).at b9 [.code c9.pd.pa.pa.pd.pd.pa.pa.pd.pa.pa.pa, .inLoop c9.pd.pa.pa.pd.pd.pa.pa.pd.pa.pa.pa, .inBlock 2, .code c9.pd.pa.pa.pd.pd.pa.pa.pd.pd, .inBlock 1, .code c9.pd.pa.pa.pd.pd.pd, .inLoop c9.pd.pa.pa, .inBlock 0]) (((baseD 18).at b15 [.inRegion c15.pd.po.toArray [1]]) :: [bot Try.prog])) w := by
  have TD : Tmd (RX L false) (DX L Shun false .ld) := tmd
  have T := TD.toTms
  have K : Ken Try.prog (RX L false) (DX L Shun false .ld) (Cw L D Shun w₀) w := ken H.good hK rfl
  refine Gz.seqE T (by kernel_rfl : c9.pd.pa.pa.pd.pd.pa.pa.pd.pa.pa.pa = .seq c9.pd.pa.pa.pd.pd.pa.pa.pd.pa.pa.pa.pa c9.pd.pa.pa.pd.pd.pa.pa.pd.pa.pa.pa.pd) ?_
  refine Gz.seqE T (by kernel_rfl : c9.pd.pa.pa.pd.pd.pa.pa.pd.pa.pa.pa.pa = .seq c9.pd.pa.pa.pd.pd.pa.pa.pd.pa.pa.pa.pa.pa c9.pd.pa.pa.pd.pd.pa.pa.pd.pa.pa.pa.pa.pd) ?_
  refine Gz.regionE (id := 3) (l := c9.pd.pa.pa.pd.pd.pa.pa.pd.pa.pa.pa.pa.pa.po) (r := [0, 1, 2, 3]) T (by kernel_rfl) (by kernel_rfl) ?_
  refine Gz.load (o := opq c9.pd.pa.pa.pd.pd.pa.pa.pd.pa.pa.pa.pa.pa 0) (d := 12) (X := 33) (y := .tmp 1) (ad := ⟨e.bR, 0, none⟩) T K (by decide) hb9 (v := .pointer (some ⟨L.R, 0, none⟩)) (by kernel_rfl) (by kernel_rfl) (by decide) (by kernel_rfl) (by kernel_rfl) (by kernel_rfl) (by kernel_rfl) (by kernel_rfl) H.cR (fun a1 hT1 => ?_)
  refine Gz.row T K (by decide) hT1 [] [1] [2, 3] [13, 12, 1, 2, 3, 5, 6, 7, 8] (g' := [(13, .int .i64 ((e.z i))), (12, .pointer (some ⟨L.R, 0, none⟩)), (1, .pointer (some ⟨e.bR, 0, none⟩)), (2, .pointer (some ⟨e.bF, 0, none⟩)), (3, .pointer (some ⟨e.bE, 0, none⟩)), (5, .int .i64 ((e.z i))), (6, .slice (some ⟨e.lb, e.lo, none⟩) D.N e.cap), (7, .int .i64 D.N), (8, .int .i64 i)]) (qs := []) (by kernel_rfl) (by kernel_rfl) (by simp) (fun a2 hT2 => ?_)
  refine Mz.enter (o := opq c9.pd.pa.pa.pd.pd.pa.pa.pd.pa.pa.pa.pa.pa 2) (q := .func 8) (f := 8) (cc := c10) (cap := []) (args := #[.tmp 12, .tmp 13]) (ats := #[33, 3]) (mvG T) hT2 [.pointer (some ⟨L.R, 0, none⟩), .int .i64 ((e.z i))] 41 (by kernel_rfl) (by kernel_rfl) (by decide) (by kernel_rfl) (by kernel_rfl) Try.func8 (by kernel_rfl) (by kernel_rfl) (by kernel_rfl) (by kernel_rfl) (by kernel_rfl) (fun a3 hT3 => ?_)
  refine Gz.seqE T (by kernel_rfl : c10 = .seq c10.pa c10.pd) ?_
  refine Gz.regionE (id := 0) (l := c10.pa.po) (r := [0]) T (by kernel_rfl) (by kernel_rfl) ?_
  refine Gz.row T K (by decide) hT3 [] [0] [] [0, 1] (g' := [(0, .pointer (some ⟨L.R, 0, none⟩)), (1, .int .i64 ((e.z i)))]) (qs := []) (by kernel_rfl) (by kernel_rfl) (by simp) (fun a4 hT4 => ?_)
  refine Gz.rend T ?_
  refine Gz.seqE T (by kernel_rfl : c10.pd = .seq c10.pd.pa c10.pd.pd) ?_
  refine Gz.regionE (id := 1) (l := c10.pd.pa.po) (r := [0, 1, 2, 3, 4]) T (by kernel_rfl) (by kernel_rfl) ?_
  refine Gz.row T K (by decide) hT4 [] [0, 1, 2] [3, 4] [8, 0, 1] (g' := [(8, .pointer (some ⟨L.R, 1, none⟩)), (0, .pointer (some ⟨L.R, 0, none⟩)), (1, .int .i64 ((e.z i)))]) (qs := []) (by kernel_rfl) (by kernel_rfl) (by simp) (fun a5 hT5 => ?_)
  refine Mz.enter (o := opq c10.pd.pa 3) (q := .func 15) (f := 15) (cc := c18) (cap := []) (args := #[.tmp 8]) (ats := #[54]) (mvG T) hT5 [.pointer (some ⟨L.R, 1, none⟩)] 7 (by kernel_rfl) (by kernel_rfl) (by decide) (by kernel_rfl) (by kernel_rfl) Try.func15 (by kernel_rfl) (by kernel_rfl) (by kernel_rfl) (by kernel_rfl) (by kernel_rfl) (fun a6 hT6 => ?_)
  refine Gz.seqE T (by kernel_rfl : c18 = .seq c18.pa c18.pd) ?_
  refine Gz.regionE (id := 0) (l := c18.pa.po) (r := [0]) T (by kernel_rfl) (by kernel_rfl) ?_
  refine Gz.row T K (by decide) hT6 [] [0] [] [0] (g' := [(0, .pointer (some ⟨L.R, 1, none⟩))]) (qs := []) (by kernel_rfl) (by kernel_rfl) (by simp) (fun a7 hT7 => ?_)
  refine Gz.rend T ?_
  refine Gz.seqE T (by kernel_rfl : c18.pd = .seq c18.pd.pa c18.pd.pd) ?_
  refine Gz.regionE (id := 1) (l := c18.pd.pa.po) (r := [0, 1, 2, 3, 4]) T (by kernel_rfl) (by kernel_rfl) ?_
  refine Gz.row T K (by decide) hT7 [] [0, 1, 2] [3, 4] [5] (g' := [(5, .pointer (some ⟨L.R, 1, none⟩))]) (qs := []) (by kernel_rfl) (by kernel_rfl) (by simp) (fun a8 hT8 => ?_)
  refine Gz.aload (o := opq c18.pd.pa 3) (d := 6) (ats := #[72]) (y := .tmp 5) (f := 31) T (by decide) hT8 (by kernel_rfl) (by kernel_rfl) (by decide) (by kernel_rfl) (by kernel_rfl) Try.func31 (by kernel_rfl) (by kernel_rfl) (by kernel_rfl) (by kernel_rfl) (by kernel_rfl) (own_look H.good hK rfl) (fun a9 hT9 => ?_)
  refine Gz.row T K (by decide) hT9 [] [4] [] [2] (g' := [(2, .int .i64 i)]) (qs := []) (by kernel_rfl) (by kernel_rfl) (by simp) (fun a10 hT10 => ?_)
  refine Gz.rend T ?_
  refine Gz.retE T (by kernel_rfl) ?_
  refine Gz.back1 (t := 2) (v := .int .i64 i) (d := 9) T hT10 hT5 rfl Try.func15 (by kernel_rfl) (by kernel_rfl) (by kernel_rfl) (by decide) (fun a11 hT11 => ?_)
  refine Gz.row T K (by decide) hT11 [] [4] [] [5, 0, 1] (g' := [(5, .int .i64 i), (0, .pointer (some ⟨L.R, 0, none⟩)), (1, .int .i64 ((e.z i)))]) (qs := []) (by kernel_rfl) (by kernel_rfl) (by simp) (fun a12 hT12 => ?_)
  refine Gz.rend T ?_
  refine Gz.seqE T (by kernel_rfl : c10.pd.pd = .seq c10.pd.pd.pa c10.pd.pd.pd) ?_
  refine Gz.seqE T (by kernel_rfl : c10.pd.pd.pa = .seq c10.pd.pd.pa.pa c10.pd.pd.pa.pd) ?_
  refine Gz.drawnE (id := 2) 3700 (l := c10.pd.pd.pa.pa.po) (sp := [4, 5, 11]) (H := [(9, .ld ⟨L.R, 0, none⟩ (.slice (some ⟨L.M, 0, none⟩) L.n L.n))]) (vals := [.int .i64 i, .pointer (some ⟨L.R, 0, none⟩), .pointer (some ⟨L.R, 0, none⟩), .pointer (some ⟨L.R, 2, none⟩), undef, undef, .pointer (some ⟨L.R, 0, none⟩), .pointer (some ⟨L.R, 0, none⟩), .pointer (some ⟨L.R, 0, none⟩), .slice (some ⟨L.M, 0, none⟩) L.n L.n, .int .i64 L.n, undef]) (rds := [[5], [0], [11], [12], [13], [10, 14], [0], [16], [17], [18], [19], [15, 20]]) (bf := befs c10.pd.pd.pa.pa.po) (qs := [(some (.pointer (some ⟨L.R, 0, none⟩)) : Option Value) = some (.pointer (some ⟨L.R, 0, none⟩)), (Cw L D Shun w₀) ⟨L.R, 0, none⟩ (.slice (some ⟨L.M, 0, none⟩) L.n L.n)]) TD (by kernel_rfl) mixed K (by decide) hT12 (by kernel_rfl) (by kernel_rfl) (by kernel_rfl) (by kernel_rfl) (Rg.oc rfl (Rg.oc H.hR Rg.on)) (by kernel_rfl) (by kernel_rfl) (fun j fuel t listed a13 hsp hlf hM hun => ?_) (fun listed a13 hall hJ hun => ?_)
  rotate_left
  · have h0 := hun 4 (by kernel_rfl)
    rw [hall 4 (by decide)] at h0
    cases h0
  have hj : j = 4 ∨ j = 5 ∨ j = 11 := by simpa using hsp
  rcases hj with rfl | rfl | rfl
  rotate_left
  · exact (hM.not hun (by kernel_rfl)).elim
  · exact (hM.not hun (by kernel_rfl)).elim
  refine Goes.mono (n := 3700) ?_ (by omega)
  have hS13 := hM.sees (bf := befs c10.pd.pd.pa.pa.po) (by kernel_rfl) (o := opq c10.pd.pd.pa.pa 4) (by kernel_rfl) [13] (g' := [(13, .pointer (some ⟨L.R, 2, none⟩))]) (by kernel_rfl)
  refine Mz.enter (o := opq c10.pd.pd.pa.pa 4) (q := .func 15) (f := 15) (cc := c18) (cap := []) (args := #[.tmp 13]) (ats := #[54]) (mvG T) hS13 [.pointer (some ⟨L.R, 2, none⟩)] 7 (by kernel_rfl) (by kernel_rfl) (by decide) (by kernel_rfl) (by kernel_rfl) Try.func15 (by kernel_rfl) (by kernel_rfl) (by kernel_rfl) (by kernel_rfl) (by kernel_rfl) (fun a14 hT14 => ?_)
  refine Gz.seqE T (by kernel_rfl : c18 = .seq c18.pa c18.pd) ?_
  refine Gz.regionE (id := 0) (l := c18.pa.po) (r := [0]) T (by kernel_rfl) (by kernel_rfl) ?_
  refine Gz.row T K (by decide) hT14 [] [0] [] [0] (g' := [(0, .pointer (some ⟨L.R, 2, none⟩))]) (qs := []) (by kernel_rfl) (by kernel_rfl) (by simp) (fun a15 hT15 => ?_)
  refine Gz.rend T ?_
  refine Gz.seqE T (by kernel_rfl : c18.pd = .seq c18.pd.pa c18.pd.pd) ?_
  refine Gz.regionE (id := 1) (l := c18.pd.pa.po) (r := [0, 1, 2, 3, 4]) T (by kernel_rfl) (by kernel_rfl) ?_
  refine Gz.row T K (by decide) hT15 [] [0, 1, 2] [3, 4] [5] (g' := [(5, .pointer (some ⟨L.R, 2, none⟩))]) (qs := []) (by kernel_rfl) (by kernel_rfl) (by simp) (fun a16 hT16 => ?_)
  have h15BLd := hb15.live [] (g' := []) (by kernel_rfl)
  have h9BLd := hT2.live [1, 2, 3, 5, 6, 7, 8] (g' := [(1, .pointer (some ⟨e.bR, 0, none⟩)), (2, .pointer (some ⟨e.bF, 0, none⟩)), (3, .pointer (some ⟨e.bE, 0, none⟩)), (5, .int .i64 ((e.z i))), (6, .slice (some ⟨e.lb, e.lo, none⟩) D.N e.cap), (7, .int .i64 D.N), (8, .int .i64 i)]) (by kernel_rfl)
  have h18BLd := hT16.live [5] (g' := [(5, .pointer (some ⟨L.R, 2, none⟩))]) (by kernel_rfl)
  exact Goes.stop fun w₁ h₁ => ⟨hK.rely h₁, b15, a2, a13, a16, fuel, t, listed, h15BLd, h9BLd, hM, hun, hlf, h18BLd, rfl⟩
theorem B_head1 (H : Hyp L D Shun w₀ e) (hi : i < D.N) (hK : KW L D w₀ false i w) {b15 : Act} (hb15 : Tm b15 5 [] [dcap 19 [.pointer (some ⟨e.gw, 0, none⟩)]]) {b9 : Act} (hb9 : Tm b9 21 [(1, .pointer (some ⟨e.bR, 0, none⟩)), (2, .pointer (some ⟨e.bF, 0, none⟩)), (3, .pointer (some ⟨e.bE, 0, none⟩)), (6, .slice e.la D.N e.cap), (7, .int .i64 D.N), (8, .int .i64 i)] []) :
    Goes Try.prog false (RX L false) (DX L Shun false .ld) (fun g w => KW L D w₀ false i w ∧ BLd L D e i g) 5000 (G ((base 12).at b9 [.code c9.pd.pa.pa, .inLoop c9.pd.pa.pa, .inBlock 0]) (((baseD 18).at b15 [.inRegion c15.pd.po.toArray [1]]) :: [bot Try.prog])) w := by
  have TD : Tmd (RX L false) (DX L Shun false .ld) := tmd
  have T := TD.toTms
  have K : Ken Try.prog (RX L false) (DX L Shun false .ld) (Cw L D Shun w₀) w := ken H.good hK rfl
  rw [H.la (by omega)] at hb9
  refine Gz.seqE T (by kernel_rfl : c9.pd.pa.pa = .seq c9.pd.pa.pa.pa c9.pd.pa.pa.pd) ?_
  refine Gz.regionE (id := 1) (l := c9.pd.pa.pa.pa.po) (r := [0]) T (by kernel_rfl) (by kernel_rfl) ?_
  refine Gz.hint (o := opq c9.pd.pa.pa.pa 0) (d := 9) T (by decide) hb9 (v := .bool true) (by kernel_rfl) (by kernel_rfl) (by decide) (by kernel_rfl) (by kernel_rfl) (congrArg some (n_lt hi)) (fun a1 hT1 => ?_)
  refine Gz.rend T ?_
  refine Gz.seqE T (by kernel_rfl : c9.pd.pa.pa.pd = .seq c9.pd.pa.pa.pd.pa c9.pd.pa.pa.pd.pd) ?_
  refine Gz.condTE (q := .tmp 9) (y := c9.pd.pa.pa.pd.pa.pa) (z := c9.pd.pa.pa.pd.pa.pd) T (by kernel_rfl) hT1 (by kernel_rfl) ?_
  refine Gz.skipE T (by kernel_rfl) ?_
  refine Gz.seqE T (by kernel_rfl : c9.pd.pa.pa.pd.pd = .seq c9.pd.pa.pa.pd.pd.pa c9.pd.pa.pa.pd.pd.pd) ?_
  refine Gz.blockE (id := 1) (y := c9.pd.pa.pa.pd.pd.pa.pa) T (by kernel_rfl) ?_
  refine Gz.seqE T (by kernel_rfl : c9.pd.pa.pa.pd.pd.pa.pa = .seq c9.pd.pa.pa.pd.pd.pa.pa.pa c9.pd.pa.pa.pd.pd.pa.pa.pd) ?_
  refine Gz.regionE (id := 2) (l := c9.pd.pa.pa.pd.pd.pa.pa.pa.po) (r := [0, 1, 2]) T (by kernel_rfl) (by kernel_rfl) ?_
  refine Gz.hint (o := opq c9.pd.pa.pa.pd.pd.pa.pa.pa 0) (d := 10) T (by decide) hT1 (v := .pointer (some ⟨e.lb, i + e.lo, none⟩)) (by kernel_rfl) (by kernel_rfl) (by decide) (by kernel_rfl) (by kernel_rfl) (n_idx hi) (fun a2 hT2 => ?_)
  refine Gz.load (o := opq c9.pd.pa.pa.pd.pd.pa.pa.pa 1) (d := 11) (X := 3) (y := .tmp 10) (ad := ⟨e.lb, i + e.lo, none⟩) T K (by decide) hT2 (v := .int .i64 ((e.z i))) (by kernel_rfl) (by kernel_rfl) (by decide) (by kernel_rfl) (by kernel_rfl) (by kernel_rfl) (by kernel_rfl) (by kernel_rfl) (H.el i hi) (fun a3 hT3 => ?_)
  refine Gz.row T K (by decide) hT3 [] [2] [] [5, 1, 2, 3, 6, 7, 8] (g' := [(5, .int .i64 ((e.z i))), (1, .pointer (some ⟨e.bR, 0, none⟩)), (2, .pointer (some ⟨e.bF, 0, none⟩)), (3, .pointer (some ⟨e.bE, 0, none⟩)), (6, .slice (some ⟨e.lb, e.lo, none⟩) D.N e.cap), (7, .int .i64 D.N), (8, .int .i64 i)]) (qs := []) (by kernel_rfl) (by kernel_rfl) (by simp) (fun a4 hT4 => ?_)
  refine Gz.rend T ?_
  refine Gz.seqE T (by kernel_rfl : c9.pd.pa.pa.pd.pd.pa.pa.pd = .seq c9.pd.pa.pa.pd.pd.pa.pa.pd.pa c9.pd.pa.pa.pd.pd.pa.pa.pd.pd) ?_
  refine Gz.blockE (id := 2) (y := c9.pd.pa.pa.pd.pd.pa.pa.pd.pa.pa) T (by kernel_rfl) ?_
  refine Gz.loopE (y := c9.pd.pa.pa.pd.pd.pa.pa.pd.pa.pa.pa) T (by kernel_rfl) ?_
  have h15BIn := hb15.live [] (g' := []) (by kernel_rfl)
  have h9BIn := hT4.live [1, 2, 3, 5, 6, 7, 8] (g' := [(1, .pointer (some ⟨e.bR, 0, none⟩)), (2, .pointer (some ⟨e.bF, 0, none⟩)), (3, .pointer (some ⟨e.bE, 0, none⟩)), (5, .int .i64 ((e.z i))), (6, .slice (some ⟨e.lb, e.lo, none⟩) D.N e.cap), (7, .int .i64 D.N), (8, .int .i64 i)]) (by kernel_rfl)
  exact Goes.mono (B_push H hi hK h15BIn h9BIn) (by decide)
theorem B_head0 (H : Hyp L D Shun w₀ e) (hi : i = D.N) (hK : KW L D w₀ false i w) {b15 : Act} (hb15 : Tm b15 5 [] [dcap 19 [.pointer (some ⟨e.gw, 0, none⟩)]]) {b9 : Act} (hb9 : Tm b9 21 [(1, .pointer (some ⟨e.bR, 0, none⟩)), (2, .pointer (some ⟨e.bF, 0, none⟩)), (3, .pointer (some ⟨e.bE, 0, none⟩)), (6, .slice e.la D.N e.cap), (7, .int .i64 D.N), (8, .int .i64 i)] []) :
    Goes Try.prog false (RX L false) (DX L Shun false .d0) (fun g w => KW L D w₀ false i w ∧ BD0 L D e i g) 5000 (G ((base 12).at b9 [.code c9.pd.pa.pa, .inLoop c9.pd.pa.pa, .inBlock 0]) (((baseD 18).at b15 [.inRegion c15.pd.po.toArray [1]]) :: [bot Try.prog])) w := by
  have TD : Tmd (RX L false) (DX L Shun false .d0) := tmd
  have T := TD.toTms
  have K : Ken Try.prog (RX L false) (DX L Shun false .d0) (Cw L D Shun w₀) w := ken H.good hK rfl
  refine Gz.seqE T (by kernel_rfl : c9.pd.pa.pa = .seq c9.pd.pa.pa.pa c9.pd.pa.pa.pd) ?_
  refine Gz.regionE (id := 1) (l := c9.pd.pa.pa.pa.po) (r := [0]) T (by kernel_rfl) (by kernel_rfl) ?_
  refine Gz.hint (o := opq c9.pd.pa.pa.pa 0) (d := 9) T (by decide) hb9 (v := .bool false) (by kernel_rfl) (by kernel_rfl) (by decide) (by kernel_rfl) (by kernel_rfl) (congrArg some (n_nlt (by omega))) (fun a1 hT1 => ?_)
  refine Gz.rend T ?_
  refine Gz.seqE T (by kernel_rfl : c9.pd.pa.pa.pd = .seq c9.pd.pa.pa.pd.pa c9.pd.pa.pa.pd.pd) ?_
  refine Gz.condFE (q := .tmp 9) (y := c9.pd.pa.pa.pd.pa.pa) (z := c9.pd.pa.pa.pd.pa.pd) T (by kernel_rfl) hT1 (by kernel_rfl) ?_
  refine Gz.exitE (id := 0) T (by kernel_rfl) rfl ?_
  refine Gz.fin T ?_
  refine Gz.back0 (d := 4) T hT1 hb15 rfl Try.func12 (by kernel_rfl) (by kernel_rfl) (by decide) (fun a2 hT2 => ?_)
  refine Gz.rend T ?_
  refine Gz.fin T ?_
  refine Mz.unwind (mvG T) hT2 (cc := c16) 8 Try.func19 (by kernel_rfl) (by kernel_rfl) (by kernel_rfl) (by kernel_rfl) (fun a3 a4 hT3 hT4 => ?_)
  refine Gz.seqE T (by kernel_rfl : c16 = .seq c16.pa c16.pd) ?_
  refine Gz.seqE T (by kernel_rfl : c16.pa = .seq c16.pa.pa c16.pa.pd) ?_
  refine Gz.regionE (id := 0) (l := c16.pa.pa.po) (r := [0, 1]) T (by kernel_rfl) (by kernel_rfl) ?_
  refine Mz.recover (o := opq c16.pa.pa 0) (d := 2) (mvG T) hT3 (ats := #[]) (by kernel_rfl) (by kernel_rfl) (by decide) (by kernel_rfl) rfl rfl (by kernel_rfl) (fun a5 hT5 => ?_)
  refine Gz.row T K (by decide) hT5 [] [1] [] [1, 0] (g' := [(1, .nilIface), (0, .pointer (some ⟨e.gw, 0, none⟩))]) (qs := []) (by kernel_rfl) (by kernel_rfl) (by simp) (fun a6 hT6 => ?_)
  refine Gz.rend T ?_
  refine Gz.seqE T (by kernel_rfl : c16.pa.pd = .seq c16.pa.pd.pa c16.pa.pd.pd) ?_
  refine Gz.regionE (id := 1) (l := c16.pa.pd.pa.po) (r := [0, 1]) T (by kernel_rfl) (by kernel_rfl) ?_
  refine Gz.row T K (by decide) hT6 [] [0] [1] [3, 1, 0] (g' := [(3, .nilIface), (1, .nilIface), (0, .pointer (some ⟨e.gw, 0, none⟩))]) (qs := []) (by kernel_rfl) (by kernel_rfl) (by simp) (fun a7 hT7 => ?_)
  refine Mz.opv (o := opq c16.pa.pd.pa 1) (d := 4) (mvG T) (by decide) hT7 (v := .bool false) (by kernel_rfl) (by kernel_rfl) (by decide) (by kernel_rfl) (by kernel_rfl) (op_nil (T := 20) (y := .tmp 3) (ms := #[]) (T' := 20) (by kernel_rfl) (by kernel_rfl) (by kernel_rfl)) (fun a8 hT8 => ?_)
  refine Gz.rend T ?_
  refine Gz.condFE (q := .tmp 4) (y := c16.pa.pd.pd.pa) (z := c16.pa.pd.pd.pd) T (by kernel_rfl) hT8 (by kernel_rfl) ?_
  refine Gz.skipE T (by kernel_rfl) ?_
  refine Gz.regionE (id := 3) (l := c16.pd.po) (r := [0, 1]) T (by kernel_rfl) (by kernel_rfl) ?_
  refine Gz.load (o := opq c16.pd 0) (d := 6) (X := 59) (y := .tmp 0) (ad := ⟨e.gw, 0, none⟩) T K (by decide) hT8 (v := .pointer (some ⟨L.W, 0, none⟩)) (by kernel_rfl) (by kernel_rfl) (by decide) (by kernel_rfl) (by kernel_rfl) (by kernel_rfl) (by kernel_rfl) (by kernel_rfl) H.cw (fun a9 hT9 => ?_)
  refine Mz.enter (o := opq c16.pd 1) (q := .func 20) (f := 20) (cc := c17) (cap := []) (args := #[.tmp 6]) (ats := #[59]) (mvG T) hT9 [.pointer (some ⟨L.W, 0, none⟩)] 4 (by kernel_rfl) (by kernel_rfl) (by decide) (by kernel_rfl) (by kernel_rfl) Try.func20 (by kernel_rfl) (by kernel_rfl) (by kernel_rfl) (by kernel_rfl) (by kernel_rfl) (fun a10 hT10 => ?_)
  refine Gz.regionE (id := 0) (l := c17.po) (r := [0, 1]) T (by kernel_rfl) (by kernel_rfl) ?_
  refine Gz.row T K (by decide) hT10 [] [0] [1] [2] (g' := [(2, .pointer (some ⟨L.W, 0, none⟩))]) (qs := []) (by kernel_rfl) (by kernel_rfl) (by simp) (fun a11 hT11 => ?_)
  refine Mz.enter (o := opq c17 1) (q := .func 17) (f := 17) (cc := c14) (cap := []) (args := #[.tmp 2, .const (.int .i64 (-1))]) (ats := #[59, 3]) (mvG T) hT11 [.pointer (some ⟨L.W, 0, none⟩), .int .i64 (-1)] 117 (by kernel_rfl) (by kernel_rfl) (by decide) (by kernel_rfl) (by kernel_rfl) Try.func17 (by kernel_rfl) (by kernel_rfl) (by kernel_rfl) (by kernel_rfl) (by kernel_rfl) (fun a12 hT12 => ?_)
  refine Gz.seqE T (by kernel_rfl : c14 = .seq c14.pa c14.pd) ?_
  refine Gz.condTE (q := .const (.bool true)) (y := c14.pa.pa) (z := c14.pa.pd) T (by kernel_rfl) hT12 (by kernel_rfl) ?_
  refine Gz.seqE T (by kernel_rfl : c14.pa.pa = .seq c14.pa.pa.pa c14.pa.pa.pd) ?_
  refine Gz.seqE T (by kernel_rfl : c14.pa.pa.pa = .seq c14.pa.pa.pa.pa c14.pa.pa.pa.pd) ?_
  refine Gz.regionE (id := 0) (l := c14.pa.pa.pa.pa.po) (r := [0, 1]) T (by kernel_rfl) (by kernel_rfl) ?_
  refine Gz.row T K (by decide) hT12 [] [0, 1] [] [10, 0, 1] (g' := [(10, .bool true), (0, .pointer (some ⟨L.W, 0, none⟩)), (1, .int .i64 (-1))]) (qs := []) (by kernel_rfl) (by kernel_rfl) (by simp) (fun a13 hT13 => ?_)
  refine Gz.rend T ?_
  refine Gz.condTE (q := .tmp 10) (y := c14.pa.pa.pa.pd.pa) (z := c14.pa.pa.pa.pd.pd) T (by kernel_rfl) hT13 (by kernel_rfl) ?_
  refine Gz.regionE (id := 1) (l := c14.pa.pa.pa.pd.pa.po) (r := [0, 1, 2]) T (by kernel_rfl) (by kernel_rfl) ?_
  refine Gz.row T K (by decide) hT13 [] [0] [1, 2] [11, 0, 1] (g' := [(11, .pointer (some ⟨L.W, 0, none⟩)), (0, .pointer (some ⟨L.W, 0, none⟩)), (1, .int .i64 (-1))]) (qs := []) (by kernel_rfl) (by kernel_rfl) (by simp) (fun a14 hT14 => ?_)
  refine Gz.conv (o := opq c14.pa.pa.pa.pd.pa 1) (d := 12) (src := 59) (dst := 64) (t := 51) (y := .tmp 11) T (by decide) hT14 (ad := ⟨L.W, 0, none⟩) (by kernel_rfl) (by kernel_rfl) (by decide) (by kernel_rfl) (by kernel_rfl) (by kernel_rfl) (by kernel_rfl) (by kernel_rfl) (by kernel_rfl) (fun w₁ h₁ => (hK.rely h₁).grpc.1) (fun a15 hT15 => ?_)
  have h15BD0 := hT4.live [] (g' := []) (by kernel_rfl)
  have h16BD0 := hT9.live [] (g' := []) (by kernel_rfl)
  have h17BD0 := hT11.live [] (g' := []) (by kernel_rfl)
  have h14BD0 := hT15.live [0, 1, 12] (g' := [(0, .pointer (some ⟨L.W, 0, none⟩)), (1, .int .i64 (-1)), (12, .pointer (some ⟨L.W, 0, none⟩))]) (by kernel_rfl)
  exact Goes.stop fun w₁ h₁ => ⟨hK.rely h₁, a4, a9, a11, a15, h15BD0, h16BD0, h17BD0, h14BD0, rfl⟩
theorem B_entry1 (H : Hyp L D Shun w₀ e) (hi : 0 < D.N) (hK : KW L D w₀ false 0 w) {a15 : Act} (h15 : Tm a15 5 [(0, .pointer (some ⟨e.gw, 0, none⟩)), (1, .pointer (some ⟨e.gf, 0, none⟩))] []) :
    Goes Try.prog false (RX L false) (DX L Shun false .ld) (fun g w => KW L D w₀ false 0 w ∧ BLd L D e 0 g) 6000 (G ((baseD 18).at a15 [.code c15]) ([bot Try.prog])) w := by
  have TD : Tmd (RX L false) (DX L Shun false .ld) := tmd
  have T := TD.toTms
  have K : Ken Try.prog (RX L false) (DX L Shun false .ld) (Cw L D Shun w₀) w := ken H.good hK rfl
  refine Gz.seqE T (by kernel_rfl : c15 = .seq c15.pa c15.pd) ?_
  refine Gz.regionE (id := 0) (l := c15.pa.po) (r := [0, 1]) T (by kernel_rfl) (by kernel_rfl) ?_
  refine Mz.opv (o := opq c15.pa 0) (d := 2) (mvG T) (by decide) h15 (v := .func (.func 19) #[] #[.pointer (some ⟨e.gw, 0, none⟩)]) (by kernel_rfl) (by kernel_rfl) (by decide) (by kernel_rfl) (by kernel_rfl) (op_func (fn := .func 19) (cap := #[.tmp 0]) (vs := [.pointer (some ⟨e.gw, 0, none⟩)]) (by kernel_rfl) (by kernel_rfl)) (fun a1 hT1 => ?_)
  refine Mz.defer (o := opq c15.pa 1) (q := .tmp 2) (f := 19) (cap := [.pointer (some ⟨e.gw, 0, none⟩)]) (ats := #[]) (mvG T) hT1 (by kernel_rfl) (by kernel_rfl) (by kernel_rfl) (by decide) rfl (by kernel_rfl) (by kernel_rfl) (fun a2 hT2 => ?_)
  refine Gz.rend T ?_
  refine Gz.regionE (id := 1) (l := c15.pd.po) (r := [0, 1]) T (by kernel_rfl) (by kernel_rfl) ?_
  refine Gz.load (o := opq c15.pd 0) (d := 3) (X := 1) (y := .tmp 1) (ad := ⟨e.gf, 0, none⟩) T K (by decide) hT2 (v := .func (.func 12) #[] #[.pointer (some ⟨e.bl, 0, none⟩), .pointer (some ⟨e.bR, 0, none⟩), .pointer (some ⟨e.bF, 0, none⟩), .pointer (some ⟨e.bE, 0, none⟩)]) (by kernel_rfl) (by kernel_rfl) (by decide) (by kernel_rfl) (by kernel_rfl) (by kernel_rfl) (by kernel_rfl) (by kernel_rfl) H.cf (fun a3 hT3 => ?_)
  refine Mz.enter (o := opq c15.pd 1) (q := .tmp 3) (f := 12) (cc := c9) (cap := [.pointer (some ⟨e.bl, 0, none⟩), .pointer (some ⟨e.bR, 0, none⟩), .pointer (some ⟨e.bF, 0, none⟩), .pointer (some ⟨e.bE, 0, none⟩)]) (args := #[]) (ats := #[]) (mvG T) hT3 [.pointer (some ⟨e.bl, 0, none⟩), .pointer (some ⟨e.bR, 0, none⟩), .pointer (some ⟨e.bF, 0, none⟩), .pointer (some ⟨e.bE, 0, none⟩)] 21 (by kernel_rfl) (by kernel_rfl) (by decide) (by kernel_rfl) (by kernel_rfl) Try.func12 (by kernel_rfl) (by kernel_rfl) (by kernel_rfl) (by kernel_rfl) (by kernel_rfl) (fun a4 hT4 => ?_)
  refine Gz.seqE T (by kernel_rfl : c9 = .seq c9.pa c9.pd) ?_
  refine Gz.regionE (id := 0) (l := c9.pa.po) (r := [0, 1, 2]) T (by kernel_rfl) (by kernel_rfl) ?_
  refine Gz.load (o := opq c9.pa 0) (d := 6) (X := 22) (y := .tmp 0) (ad := ⟨e.bl, 0, none⟩) T K (by decide) hT4 (v := .slice e.la D.N e.cap) (by kernel_rfl) (by kernel_rfl) (by decide) (by kernel_rfl) (by kernel_rfl) (by kernel_rfl) (by kernel_rfl) (by kernel_rfl) H.cl (fun a5 hT5 => ?_)
  refine Gz.row T K (by decide) hT5 [] [1, 2] [] [8, 7, 6, 1, 2, 3] (g' := [(8, .int .i64 0), (7, .int .i64 D.N), (6, .slice e.la D.N e.cap), (1, .pointer (some ⟨e.bR, 0, none⟩)), (2, .pointer (some ⟨e.bF, 0, none⟩)), (3, .pointer (some ⟨e.bE, 0, none⟩))]) (qs := []) (by kernel_rfl) (by kernel_rfl) (by simp) (fun a6 hT6 => ?_)
  refine Gz.rend T ?_
  refine Gz.blockE (id := 0) (y := c9.pd.pa) T (by kernel_rfl) ?_
  refine Gz.loopE (y := c9.pd.pa.pa) T (by kernel_rfl) ?_
  have h15BHead := hT3.live [] (g' := []) (by kernel_rfl)
  have h9BHead := hT6.live [1, 2, 3, 6, 7, 8] (g' := [(1, .pointer (some ⟨e.bR, 0, none⟩)), (2, .pointer (some ⟨e.bF, 0, none⟩)), (3, .pointer (some ⟨e.bE, 0, none⟩)), (6, .slice e.la D.N e.cap), (7, .int .i64 D.N), (8, .int .i64 0)]) (by kernel_rfl)
  exact Goes.mono (B_head1 H hi hK h15BHead h9BHead) (by decide)
theorem B_entry0 (H : Hyp L D Shun w₀ e) (hi : 0 = D.N) (hK : KW L D w₀ false 0 w) {a15 : Act} (h15 : Tm a15 5 [(0, .pointer (some ⟨e.gw, 0, none⟩)), (1, .pointer (some ⟨e.gf, 0, none⟩))] []) :
    Goes Try.prog false (RX L false) (DX L Shun false .d0) (fun g w => KW L D w₀ false 0 w ∧ BD0 L D e 0 g) 6000 (G ((baseD 18).at a15 [.code c15]) ([bot Try.prog])) w := by
  have TD : Tmd (RX L false) (DX L Shun false .d0) := tmd
  have T := TD.toTms
  have K : Ken Try.prog (RX L false) (DX L Shun false .d0) (Cw L D Shun w₀) w := ken H.good hK rfl
  refine Gz.seqE T (by kernel_rfl : c15 = .seq c15.pa c15.pd) ?_
  refine Gz.regionE (id := 0) (l := c15.pa.po) (r := [0, 1]) T (by kernel_rfl) (by kernel_rfl) ?_
  refine Mz.opv (o := opq c15.pa 0) (d := 2) (mvG T) (by decide) h15 (v := .func (.func 19) #[] #[.pointer (some ⟨e.gw, 0, none⟩)]) (by kernel_rfl) (by kernel_rfl) (by decide) (by kernel_rfl) (by kernel_rfl) (op_func (fn := .func 19) (cap := #[.tmp 0]) (vs := [.pointer (some ⟨e.gw, 0, none⟩)]) (by kernel_rfl) (by kernel_rfl)) (fun a1 hT1 => ?_)
  refine Mz.defer (o := opq c15.pa 1) (q := .tmp 2) (f := 19) (cap := [.pointer (some ⟨e.gw, 0, none⟩)]) (ats := #[]) (mvG T) hT1 (by kernel_rfl) (by kernel_rfl) (by kernel_rfl) (by decide) rfl (by kernel_rfl) (by kernel_rfl) (fun a2 hT2 => ?_)
  refine Gz.rend T ?_
  refine Gz.regionE (id := 1) (l := c15.pd.po) (r := [0, 1]) T (by kernel_rfl) (by kernel_rfl) ?_
  refine Gz.load (o := opq c15.pd 0) (d := 3) (X := 1) (y := .tmp 1) (ad := ⟨e.gf, 0, none⟩) T K (by decide) hT2 (v := .func (.func 12) #[] #[.pointer (some ⟨e.bl, 0, none⟩), .pointer (some ⟨e.bR, 0, none⟩), .pointer (some ⟨e.bF, 0, none⟩), .pointer (some ⟨e.bE, 0, none⟩)]) (by kernel_rfl) (by kernel_rfl) (by decide) (by kernel_rfl) (by kernel_rfl) (by kernel_rfl) (by kernel_rfl) (by kernel_rfl) H.cf (fun a3 hT3 => ?_)
  refine Mz.enter (o := opq c15.pd 1) (q := .tmp 3) (f := 12) (cc := c9) (cap := [.pointer (some ⟨e.bl, 0, none⟩), .pointer (some ⟨e.bR, 0, none⟩), .pointer (some ⟨e.bF, 0, none⟩), .pointer (some ⟨e.bE, 0, none⟩)]) (args := #[]) (ats := #[]) (mvG T) hT3 [.pointer (some ⟨e.bl, 0, none⟩), .pointer (some ⟨e.bR, 0, none⟩), .pointer (some ⟨e.bF, 0, none⟩), .pointer (some ⟨e.bE, 0, none⟩)] 21 (by kernel_rfl) (by kernel_rfl) (by decide) (by kernel_rfl) (by kernel_rfl) Try.func12 (by kernel_rfl) (by kernel_rfl) (by kernel_rfl) (by kernel_rfl) (by kernel_rfl) (fun a4 hT4 => ?_)
  refine Gz.seqE T (by kernel_rfl : c9 = .seq c9.pa c9.pd) ?_
  refine Gz.regionE (id := 0) (l := c9.pa.po) (r := [0, 1, 2]) T (by kernel_rfl) (by kernel_rfl) ?_
  refine Gz.load (o := opq c9.pa 0) (d := 6) (X := 22) (y := .tmp 0) (ad := ⟨e.bl, 0, none⟩) T K (by decide) hT4 (v := .slice e.la D.N e.cap) (by kernel_rfl) (by kernel_rfl) (by decide) (by kernel_rfl) (by kernel_rfl) (by kernel_rfl) (by kernel_rfl) (by kernel_rfl) H.cl (fun a5 hT5 => ?_)
  refine Gz.row T K (by decide) hT5 [] [1, 2] [] [8, 7, 6, 1, 2, 3] (g' := [(8, .int .i64 0), (7, .int .i64 D.N), (6, .slice e.la D.N e.cap), (1, .pointer (some ⟨e.bR, 0, none⟩)), (2, .pointer (some ⟨e.bF, 0, none⟩)), (3, .pointer (some ⟨e.bE, 0, none⟩))]) (qs := []) (by kernel_rfl) (by kernel_rfl) (by simp) (fun a6 hT6 => ?_)
  refine Gz.rend T ?_
  refine Gz.blockE (id := 0) (y := c9.pd.pa) T (by kernel_rfl) ?_
  refine Gz.loopE (y := c9.pd.pa.pa) T (by kernel_rfl) ?_
  have h15BHead := hT3.live [] (g' := []) (by kernel_rfl)
  have h9BHead := hT6.live [1, 2, 3, 6, 7, 8] (g' := [(1, .pointer (some ⟨e.bR, 0, none⟩)), (2, .pointer (some ⟨e.bF, 0, none⟩)), (3, .pointer (some ⟨e.bE, 0, none⟩)), (6, .slice e.la D.N e.cap), (7, .int .i64 D.N), (8, .int .i64 0)]) (by kernel_rfl)
  exact Goes.mono (B_head0 H hi hK h15BHead h9BHead) (by decide)

end
end Go.Proofs.Ytdmiilgdkmbmeaa.Rg
namespace Go.Proofs.Ytdmiilgdkmbmeaa.Rg
open Go Go.Conc
section
variable {L : Lay} {D : Dat} {Shun : Loc → Prop} {w₀ w : World} {e : Env} {cs : List Frame} {i : Nat} {g : Goroutine} {s : Sh}
theorem B_bl1_a (H : Hyp L D Shun w₀ e) (hK : KW L D w₀ false (i + 1) w) (hi : i + 1 < D.N) (h : BBl L D e i g) :
    stepG Try.prog false g w = .comm g #[scase (L.bell !false) (.agg #[]) (.agg #[])] false .select w #[] ∧ ∀ w', KW L D w₀ false (i + 1) w' → Goes Try.prog false (RX L false) (DX L Shun false .ld) (fun g w => KW L D w₀ false (i + 1) w ∧ BLd L D e (i + 1) g) 6000 (g.finishComm Try.prog #[scase (L.bell !false) (.agg #[]) (.agg #[])] .select 0 undef false) w' := by
  obtain ⟨b15, b9, b11, hb15, hb9, hb11, rfl⟩ := h
  refine ⟨step_select (P := Try.prog) (x := false) (w := w) (b := (base 13)) (k := [.code c11.pd.pd]) (rest := [1, 2]) (cs := (((base 12).at b9 [.inRegion c9.pd.pa.pa.pd.pd.pa.pa.pd.pd.po.toArray [1], .inBlock 1, .code c9.pd.pa.pa.pd.pd.pd, .inLoop c9.pd.pa.pa, .inBlock 0]) :: ((baseD 18).at b15 [.inRegion c15.pd.po.toArray [1]]) :: [bot Try.prog])) hb11 (o := opq c11.pd.pa 0) (E := 42) (y := .tmp 2) (u := .tmp 3) (v := .agg #[]) (ti := (Try.prog.info? 42).getD default) (z := .agg #[]) (by kernel_rfl) (by kernel_rfl) (by decide) (by kernel_rfl) (by kernel_rfl) (by kernel_rfl) (by kernel_rfl) (by kernel_rfl), ?_⟩
  intro w' hK
  have TD : Tmd (RX L false) (DX L Shun false .ld) := tmd
  have T := TD.toTms
  have K : Ken Try.prog (RX L false) (DX L Shun false .ld) (Cw L D Shun w₀) w' := ken H.good hK rfl
  rw [fin_comm (ops := c11.pd.pa.po.toArray) (i := 0) (d := 4) (by kernel_rfl)]
  have hT1 := hb11.put 4 (by decide) (.tuple #[.int .i64 0, .bool false])
  rw [res_select]
  generalize Act.put _ _ (.tuple #[.int .i64 0, .bool false]) = a1 at hT1 ⊢
  refine Gz.row T K (by decide) hT1 [] [1, 2] [] [6] (g' := [(6, .bool true)]) (qs := []) (by kernel_rfl) (by kernel_rfl) (by simp) (fun a2 hT2 => ?_)
  refine Gz.rend T ?_
  refine Gz.blockE (id := 0) (y := c11.pd.pd.pa) T (by kernel_rfl) ?_
  refine Gz.condTE (q := .tmp 6) (y := c11.pd.pd.pa.pa) (z := c11.pd.pd.pa.pd) T (by kernel_rfl) hT2 (by kernel_rfl) ?_
  refine Gz.skipE T (by kernel_rfl) ?_
  refine Gz.out T ?_
  refine Gz.fin T ?_
  refine Gz.back0 (d := 19) T hT2 hb9 rfl Try.func13 (by kernel_rfl) (by kernel_rfl) (by decide) (fun a3 hT3 => ?_)
  refine Gz.rend T ?_
  refine Gz.out T ?_
  refine Gz.regionE (id := 6) (l := c9.pd.pa.pa.pd.pd.pd.po) (r := [0, 1]) T (by kernel_rfl) (by kernel_rfl) ?_
  refine Gz.hint (o := opq c9.pd.pa.pa.pd.pd.pd 0) (d := 20) T (by decide) hT3 (v := .int .i64 (((i + 1 : Nat) : Int))) (by kernel_rfl) (by kernel_rfl) (by decide) (by kernel_rfl) (by kernel_rfl) (n_inc (by have := H.Nb; omega)) (fun a4 hT4 => ?_)
  refine Gz.row T K (by decide) hT4 [] [1] [] [8, 1, 2, 3, 6, 7] (g' := [(8, .int .i64 (((i + 1 : Nat) : Int))), (1, .pointer (some ⟨e.bR, 0, none⟩)), (2, .pointer (some ⟨e.bF, 0, none⟩)), (3, .pointer (some ⟨e.bE, 0, none⟩)), (6, .slice (some ⟨e.lb, e.lo, none⟩) D.N e.cap), (7, .int .i64 D.N)]) (qs := []) (by kernel_rfl) (by kernel_rfl) (by simp) (fun a5 hT5 => ?_)
  refine Gz.rend T ?_
  refine Gz.again T ?_
  have h15BHead2 := hb15.live [] (g' := []) (by kernel_rfl)
  have h9BHead2 := hT5.live [1, 2, 3, 6, 7, 8] (g' := [(1, .pointer (some ⟨e.bR, 0, none⟩)), (2, .pointer (some ⟨e.bF, 0, none⟩)), (3, .pointer (some ⟨e.bE, 0, none⟩)), (6, .slice (some ⟨e.lb, e.lo, none⟩) D.N e.cap), (7, .int .i64 D.N), (8, .int .i64 (((i + 1 : Nat) : Int)))]) (by kernel_rfl)
  rw [← H.la (by omega)] at h9BHead2
  exact Goes.mono (B_head1 H hi hK h15BHead2 h9BHead2) (by decide)
theorem B_bl1_b (H : Hyp L D Shun w₀ e) (hK : KW L D w₀ false (i + 1) w) (hi : i + 1 < D.N) (h : BBl L D e i g) :
    stepG Try.prog false g w = .comm g #[scase (L.bell !false) (.agg #[]) (.agg #[])] false .select w #[] ∧ ∀ w', KW L D w₀ false (i + 1) w' → Goes Try.prog false (RX L false) (DX L Shun false .ld) (fun g w => KW L D w₀ false (i + 1) w ∧ BLd L D e (i + 1) g) 6000 (g.finishComm Try.prog #[scase (L.bell !false) (.agg #[]) (.agg #[])] .select (-1) undef false) w' := by
  obtain ⟨b15, b9, b11, hb15, hb9, hb11, rfl⟩ := h
  refine ⟨step_select (P := Try.prog) (x := false) (w := w) (b := (base 13)) (k := [.code c11.pd.pd]) (rest := [1, 2]) (cs := (((base 12).at b9 [.inRegion c9.pd.pa.pa.pd.pd.pa.pa.pd.pd.po.toArray [1], .inBlock 1, .code c9.pd.pa.pa.pd.pd.pd, .inLoop c9.pd.pa.pa, .inBlock 0]) :: ((baseD 18).at b15 [.inRegion c15.pd.po.toArray [1]]) :: [bot Try.prog])) hb11 (o := opq c11.pd.pa 0) (E := 42) (y := .tmp 2) (u := .tmp 3) (v := .agg #[]) (ti := (Try.prog.info? 42).getD default) (z := .agg #[]) (by kernel_rfl) (by kernel_rfl) (by decide) (by kernel_rfl) (by kernel_rfl) (by kernel_rfl) (by kernel_rfl) (by kernel_rfl), ?_⟩
  intro w' hK
  have TD : Tmd (RX L false) (DX L Shun false .ld) := tmd
  have T := TD.toTms
  have K : Ken Try.prog (RX L false) (DX L Shun false .ld) (Cw L D Shun w₀) w' := ken H.good hK rfl
  rw [fin_comm (ops := c11.pd.pa.po.toArray) (i := 0) (d := 4) (by kernel_rfl)]
  have hT1 := hb11.put 4 (by decide) (.tuple #[.int .i64 (-1), .bool false])
  rw [res_select]
  generalize Act.put _ _ (.tuple #[.int .i64 (-1), .bool false]) = a1 at hT1 ⊢
  refine Gz.row T K (by decide) hT1 [] [1, 2] [] [6] (g' := [(6, .bool false)]) (qs := []) (by kernel_rfl) (by kernel_rfl) (by simp) (fun a2 hT2 => ?_)
  refine Gz.rend T ?_
  refine Gz.blockE (id := 0) (y := c11.pd.pd.pa) T (by kernel_rfl) ?_
  refine Gz.condFE (q := .tmp 6) (y := c11.pd.pd.pa.pa) (z := c11.pd.pd.pa.pd) T (by kernel_rfl) hT2 (by kernel_rfl) ?_
  refine Gz.skipE T (by kernel_rfl) ?_
  refine Gz.out T ?_
  refine Gz.fin T ?_
  refine Gz.back0 (d := 19) T hT2 hb9 rfl Try.func13 (by kernel_rfl) (by kernel_rfl) (by decide) (fun a3 hT3 => ?_)
  refine Gz.rend T ?_
  refine Gz.out T ?_
  refine Gz.regionE (id := 6) (l := c9.pd.pa.pa.pd.pd.pd.po) (r := [0, 1]) T (by kernel_rfl) (by kernel_rfl) ?_
  refine Gz.hint (o := opq c9.pd.pa.pa.pd.pd.pd 0) (d := 20) T (by decide) hT3 (v := .int .i64 (((i + 1 : Nat) : Int))) (by kernel_rfl) (by kernel_rfl) (by decide) (by kernel_rfl) (by kernel_rfl) (n_inc (by have := H.Nb; omega)) (fun a4 hT4 => ?_)
  refine Gz.row T K (by decide) hT4 [] [1] [] [8, 1, 2, 3, 6, 7] (g' := [(8, .int .i64 (((i + 1 : Nat) : Int))), (1, .pointer (some ⟨e.bR, 0, none⟩)), (2, .pointer (some ⟨e.bF, 0, none⟩)), (3, .pointer (some ⟨e.bE, 0, none⟩)), (6, .slice (some ⟨e.lb, e.lo, none⟩) D.N e.cap), (7, .int .i64 D.N)]) (qs := []) (by kernel_rfl) (by kernel_rfl) (by simp) (fun a5 hT5 => ?_)
  refine Gz.rend T ?_
  refine Gz.again T ?_
  have h15BHead2 := hb15.live [] (g' := []) (by kernel_rfl)
  have h9BHead2 := hT5.live [1, 2, 3, 6, 7, 8] (g' := [(1, .pointer (some ⟨e.bR, 0, none⟩)), (2, .pointer (some ⟨e.bF, 0, none⟩)), (3, .pointer (some ⟨e.bE, 0, none⟩)), (6, .slice (some ⟨e.lb, e.lo, none⟩) D.N e.cap), (7, .int .i64 D.N), (8, .int .i64 (((i + 1 : Nat) : Int)))]) (by kernel_rfl)
  rw [← H.la (by omega)] at h9BHead2
  exact Goes.mono (B_head1 H hi hK h15BHead2 h9BHead2) (by decide)
theorem B_bl0_a (H : Hyp L D Shun w₀ e) (hK : KW L D w₀ false (i + 1) w) (hi : i + 1 = D.N) (h : BBl L D e i g) :
    stepG Try.prog false g w = .comm g #[scase (L.bell !false) (.agg #[]) (.agg #[])] false .select w #[] ∧ ∀ w', KW L D w₀ false (i + 1) w' → Goes Try.prog false (RX L false) (DX L Shun false .d0) (fun g w => KW L D w₀ false (i + 1) w ∧ BD0 L D e (i + 1) g) 6000 (g.finishComm Try.prog #[scase (L.bell !false) (.agg #[]) (.agg #[])] .select 0 undef false) w' := by
  obtain ⟨b15, b9, b11, hb15, hb9, hb11, rfl⟩ := h
  refine ⟨step_select (P := Try.prog) (x := false) (w := w) (b := (base 13)) (k := [.code c11.pd.pd]) (rest := [1, 2]) (cs := (((base 12).at b9 [.inRegion c9.pd.pa.pa.pd.pd.pa.pa.pd.pd.po.toArray [1], .inBlock 1, .code c9.pd.pa.pa.pd.pd.pd, .inLoop c9.pd.pa.pa, .inBlock 0]) :: ((baseD 18).at b15 [.inRegion c15.pd.po.toArray [1]]) :: [bot Try.prog])) hb11 (o := opq c11.pd.pa 0) (E := 42) (y := .tmp 2) (u := .tmp 3) (v := .agg #[]) (ti := (Try.prog.info? 42).getD default) (z := .agg #[]) (by kernel_rfl) (by kernel_rfl) (by decide) (by kernel_rfl) (by kernel_rfl) (by kernel_rfl) (by kernel_rfl) (by kernel_rfl), ?_⟩
  intro w' hK
  have TD : Tmd (RX L false) (DX L Shun false .d0) := tmd
  have T := TD.toTms
  have K : Ken Try.prog (RX L false) (DX L Shun false .d0) (Cw L D Shun w₀) w' := ken H.good hK rfl
  rw [fin_comm (ops := c11.pd.pa.po.toArray) (i := 0) (d := 4) (by kernel_rfl)]
  have hT1 := hb11.put 4 (by decide) (.tuple #[.int .i64 0, .bool false])
  rw [res_select]
  generalize Act.put _ _ (.tuple #[.int .i64 0, .bool false]) = a1 at hT1 ⊢
  refine Gz.row T K (by decide) hT1 [] [1, 2] [] [6] (g' := [(6, .bool true)]) (qs := []) (by kernel_rfl) (by kernel_rfl) (by simp) (fun a2 hT2 => ?_)
  refine Gz.rend T ?_
  refine Gz.blockE (id := 0) (y := c11.pd.pd.pa) T (by kernel_rfl) ?_
  refine Gz.condTE (q := .tmp 6) (y := c11.pd.pd.pa.pa) (z := c11.pd.pd.pa.pd) T (by kernel_rfl) hT2 (by kernel_rfl) ?_
  refine Gz.skipE T (by kernel_rfl) ?_
  refine Gz.out T ?_
  refine Gz.fin T ?_
  refine Gz.back0 (d := 19) T hT2 hb9 rfl Try.func13 (by kernel_rfl) (by kernel_rfl) (by decide) (fun a3 hT3 => ?_)
  refine Gz.rend T ?_
  refine Gz.out T ?_
  refine Gz.regionE (id := 6) (l := c9.pd.pa.pa.pd.pd.pd.po) (r := [0, 1]) T (by kernel_rfl) (by kernel_rfl) ?_
  refine Gz.hint (o := opq c9.pd.pa.pa.pd.pd.pd 0) (d := 20) T (by decide) hT3 (v := .int .i64 (((i + 1 : Nat) : Int))) (by kernel_rfl) (by kernel_rfl) (by decide) (by kernel_rfl) (by kernel_rfl) (n_inc (by have := H.Nb; omega)) (fun a4 hT4 => ?_)
  refine Gz.row T K (by decide) hT4 [] [1] [] [8, 1, 2, 3, 6, 7] (g' := [(8, .int .i64 (((i + 1 : Nat) : Int))), (1, .pointer (some ⟨e.bR, 0, none⟩)), (2, .pointer (some ⟨e.bF, 0, none⟩)), (3, .pointer (some ⟨e.bE, 0, none⟩)), (6, .slice (some ⟨e.lb, e.lo, none⟩) D.N e.cap), (7, .int .i64 D.N)]) (qs := []) (by kernel_rfl) (by kernel_rfl) (by simp) (fun a5 hT5 => ?_)
  refine Gz.rend T ?_
  refine Gz.again T ?_
  have h15BHead2 := hb15.live [] (g' := []) (by kernel_rfl)
  have h9BHead2 := hT5.live [1, 2, 3, 6, 7, 8] (g' := [(1, .pointer (some ⟨e.bR, 0, none⟩)), (2, .pointer (some ⟨e.bF, 0, none⟩)), (3, .pointer (some ⟨e.bE, 0, none⟩)), (6, .slice (some ⟨e.lb, e.lo, none⟩) D.N e.cap), (7, .int .i64 D.N), (8, .int .i64 (((i + 1 : Nat) : Int)))]) (by kernel_rfl)
  rw [← H.la (by omega)] at h9BHead2
  exact Goes.mono (B_head0 H hi hK h15BHead2 h9BHead2) (by decide)
theorem B_bl0_b (H : Hyp L D Shun w₀ e) (hK : KW L D w₀ false (i + 1) w) (hi : i + 1 = D.N) (h : BBl L D e i g) :
    stepG Try.prog false g w = .comm g #[scase (L.bell !false) (.agg #[]) (.agg #[])] false .select w #[] ∧ ∀ w', KW L D w₀ false (i + 1) w' → Goes Try.prog false (RX L false) (DX L Shun false .d0) (fun g w => KW L D w₀ false (i + 1) w ∧ BD0 L D e (i + 1) g) 6000 (g.finishComm Try.prog #[scase (L.bell !false) (.agg #[]) (.agg #[])] .select (-1) undef false) w' := by
  obtain ⟨b15, b9, b11, hb15, hb9, hb11, rfl⟩ := h
  refine ⟨step_select (P := Try.prog) (x := false) (w := w) (b := (base 13)) (k := [.code c11.pd.pd]) (rest := [1, 2]) (cs := (((base 12).at b9 [.inRegion c9.pd.pa.pa.pd.pd.pa.pa.pd.pd.po.toArray [1], .inBlock 1, .code c9.pd.pa.pa.pd.pd.pd, .inLoop c9.pd.pa.pa, .inBlock 0]) :: ((baseD 18).at b15 [.inRegion c15.pd.po.toArray [1]]) :: [bot Try.prog])) hb11 (o := opq c11.pd.pa 0) (E := 42) (y := .tmp 2) (u := .tmp 3) (v := .agg #[]) (ti := (Try.prog.info? 42).getD default) (z := .agg #[]) (by kernel_rfl) (by kernel_rfl) (by decide) (by kernel_rfl) (by kernel_rfl) (by kernel_rfl) (by kernel_rfl) (by kernel_rfl), ?_⟩
  intro w' hK
  have TD : Tmd (RX L false) (DX L Shun false .d0) := tmd
  have T := TD.toTms
  have K : Ken Try.prog (RX L false) (DX L Shun false .d0) (Cw L D Shun w₀) w' := ken H.good hK rfl
  rw [fin_comm (ops := c11.pd.pa.po.toArray) (i := 0) (d := 4) (by kernel_rfl)]
  have hT1 := hb11.put 4 (by decide) (.tuple #[.int .i64 (-1), .bool false])
  rw [res_select]
  generalize Act.put _ _ (.tuple #[.int .i64 (-1), .bool false]) = a1 at hT1 ⊢
  refine Gz.row T K (by decide) hT1 [] [1, 2] [] [6] (g' := [(6, .bool false)]) (qs := []) (by kernel_rfl) (by kernel_rfl) (by simp) (fun a2 hT2 => ?_)
  refine Gz.rend T ?_
  refine Gz.blockE (id := 0) (y := c11.pd.pd.pa) T (by kernel_rfl) ?_
  refine Gz.condFE (q := .tmp 6) (y := c11.pd.pd.pa.pa) (z := c11.pd.pd.pa.pd) T (by kernel_rfl) hT2 (by kernel_rfl) ?_
  refine Gz.skipE T (by kernel_rfl) ?_
  refine Gz.out T ?_
  refine Gz.fin T ?_
  refine Gz.back0 (d := 19) T hT2 hb9 rfl Try.func13 (by kernel_rfl) (by kernel_rfl) (by decide) (fun a3 hT3 => ?_)
  refine Gz.rend T ?_
  refine Gz.out T ?_
  refine Gz.regionE (id := 6) (l := c9.pd.pa.pa.pd.pd.pd.po) (r := [0, 1]) T (by kernel_rfl) (by kernel_rfl) ?_
  refine Gz.hint (o := opq c9.pd.pa.pa.pd.pd.pd 0) (d := 20) T (by decide) hT3 (v := .int .i64 (((i + 1 : Nat) : Int))) (by kernel_rfl) (by kernel_rfl) (by decide) (by kernel_rfl) (by kernel_rfl) (n_inc (by have := H.Nb; omega)) (fun a4 hT4 => ?_)
  refine Gz.row T K (by decide) hT4 [] [1] [] [8, 1, 2, 3, 6, 7] (g' := [(8, .int .i64 (((i + 1 : Nat) : Int))), (1, .pointer (some ⟨e.bR, 0, none⟩)), (2, .pointer (some ⟨e.bF, 0, none⟩)), (3, .pointer (some ⟨e.bE, 0, none⟩)), (6, .slice (some ⟨e.lb, e.lo, none⟩) D.N e.cap), (7, .int .i64 D.N)]) (qs := []) (by kernel_rfl) (by kernel_rfl) (by simp) (fun a5 hT5 => ?_)
  refine Gz.rend T ?_
  refine Gz.again T ?_
  have h15BHead2 := hb15.live [] (g' := []) (by kernel_rfl)
  have h9BHead2 := hT5.live [1, 2, 3, 6, 7, 8] (g' := [(1, .pointer (some ⟨e.bR, 0, none⟩)), (2, .pointer (some ⟨e.bF, 0, none⟩)), (3, .pointer (some ⟨e.bE, 0, none⟩)), (6, .slice (some ⟨e.lb, e.lo, none⟩) D.N e.cap), (7, .int .i64 D.N), (8, .int .i64 (((i + 1 : Nat) : Int)))]) (by kernel_rfl)
  rw [← H.la (by omega)] at h9BHead2
  exact Goes.mono (B_head0 H hi hK h15BHead2 h9BHead2) (by decide)
theorem B_rc (H : Hyp L D Shun w₀ e) (hK : KW L D w₀ false i w) (hi : i < D.N) (h : BRc L D e i g) :
    stepG Try.prog false g w = .comm g #[rcase (L.bell false) (.agg #[])] true (.recv false) w #[] ∧ ∀ w', KW L D w₀ false i w' → Goes Try.prog false (RX L false) (DX L Shun false .ld) (fun g w => KW L D w₀ false i w ∧ BLd L D e i g) 5000 (g.finishComm Try.prog #[rcase (L.bell false) (.agg #[])] (.recv false) 0 (.agg #[]) true) w' := by
  obtain ⟨b15, b9, hb15, hb9, rfl⟩ := h
  refine ⟨step_recv (P := Try.prog) (x := false) (w := w) (b := (base 12)) (k := [.inBlock 3, .inLoop c9.pd.pa.pa.pd.pd.pa.pa.pd.pa.pa.pa, .inBlock 2, .code c9.pd.pa.pa.pd.pd.pa.pa.pd.pd, .inBlock 1, .code c9.pd.pa.pa.pd.pd.pd, .inLoop c9.pd.pa.pa, .inBlock 0]) (rest := []) (cs := (((baseD 18).at b15 [.inRegion c15.pd.po.toArray [1]]) :: [bot Try.prog])) hb9 (o := opq c9.pd.pa.pa.pd.pd.pa.pa.pd.pa.pa.pa.pd.pa 1) (T := 41) (E := 42) (cd := .both) (y := .tmp 16) (ti := (Try.prog.info? 42).getD default) (z := .agg #[]) (by kernel_rfl) (by kernel_rfl) (by decide) (by kernel_rfl) (by kernel_rfl) (by kernel_rfl) (by kernel_rfl) (by kernel_rfl), ?_⟩
  intro w' hK
  have TD : Tmd (RX L false) (DX L Shun false .ld) := tmd
  have T := TD.toTms
  have K : Ken Try.prog (RX L false) (DX L Shun false .ld) (Cw L D Shun w₀) w' := ken H.good hK rfl
  rw [fin_comm (ops := c9.pd.pa.pa.pd.pd.pa.pa.pd.pa.pa.pa.pd.pa.po.toArray) (i := 1) (d := 17) (by kernel_rfl)]
  have hT1 := hb9.put 17 (by decide) (.agg #[])
  rw [res_recv]
  generalize Act.put _ _ (.agg #[]) = a1 at hT1 ⊢
  refine Gz.rend T ?_
  refine Gz.out T ?_
  refine Gz.again T ?_
  have h15BIn2 := hb15.live [] (g' := []) (by kernel_rfl)
  have h9BIn2 := hT1.live [1, 2, 3, 5, 6, 7, 8] (g' := [(1, .pointer (some ⟨e.bR, 0, none⟩)), (2, .pointer (some ⟨e.bF, 0, none⟩)), (3, .pointer (some ⟨e.bE, 0, none⟩)), (5, .int .i64 ((e.z i))), (6, .slice (some ⟨e.lb, e.lo, none⟩) D.N e.cap), (7, .int .i64 D.N), (8, .int .i64 i)]) (by kernel_rfl)
  exact Goes.mono (B_push H hi hK h15BIn2 h9BIn2) (by decide)

end
end Go.Proofs.Ytdmiilgdkmbmeaa.Rg
namespace Go.Proofs.Ytdmiilgdkmbmeaa.Rg
open Go Go.Conc
section
variable {L : Lay} {D : Dat} {Shun : Loc → Prop} {w₀ w : World} {e : Env} {cs : List Frame} {i : Nat} {g : Goroutine} {s : Sh}
theorem B_sl (H : Hyp L D Shun w₀ e) (hK : KW L D w₀ false i w) (hi : i < D.N) (h : BSl L D e i g) (hs : ShAt L D s w) :
    ∃ g', stepG Try.prog false g w = .go g' (w.setCell ⟨L.M, i % L.n, none⟩ (.int .i64 (e.z i))) #[⟨.cell ⟨L.M, i % L.n, none⟩, true, false⟩] ∧ (KW L D w₀ false i (w.setCell ⟨L.M, i % L.n, none⟩ (.int .i64 (e.z i))) → Goes Try.prog false (RX L false) (DX L Shun false .st) (fun g w => KW L D w₀ false i w ∧ BSt L D e i g) 4000 g' (w.setCell ⟨L.M, i % L.n, none⟩ (.int .i64 (e.z i)))) := by
  obtain ⟨b15, b9, b10, fuel, t, listed, hb15, hb9, hM, hun, hlf, rfl⟩ := h
  obtain ⟨u, hu, hf⟩ := hs.slotc (m := i % L.n) (Nat.mod_lt _ H.good.n)
  have hS := hM.sees (bf := befs c10.pd.pd.pd.pa.po) (by kernel_rfl) (o := opq c10.pd.pd.pd.pa 13) (by kernel_rfl) [33, 34] (g' := [(33, .int .i64 ((e.z i))), (34, .pointer (some ⟨L.M, i % L.n, none⟩))]) (by kernel_rfl)
  have hst := step_store (P := Try.prog) (x := false) (w := w) (b := (base 8)) (k := [.code c10.pd.pd.pd.pd]) (rest := Region.linearise.go .any c10.pd.pd.pd.pa.po.toArray fuel t (listed.setIfInBounds 13 true) []) (cs := (((base 12).at b9 [.inRegion c9.pd.pa.pa.pd.pd.pa.pa.pd.pa.pa.pa.pa.pa.po.toArray [2, 3], .code c9.pd.pa.pa.pd.pd.pa.pa.pd.pa.pa.pa.pa.pd, .code c9.pd.pa.pa.pd.pd.pa.pa.pd.pa.pa.pa.pd, .inLoop c9.pd.pa.pa.pd.pd.pa.pa.pd.pa.pa.pa, .inBlock 2, .code c9.pd.pa.pa.pd.pd.pa.pa.pd.pd, .inBlock 1, .code c9.pd.pa.pa.pd.pd.pd, .inLoop c9.pd.pa.pa, .inBlock 0]) :: ((baseD 18).at b15 [.inRegion c15.pd.po.toArray [1]]) :: [bot Try.prog])) hS (ops := c10.pd.pd.pd.pa.po.toArray) (i := 13) (o := opq c10.pd.pd.pd.pa 13) (X := 3) (y := .tmp 34) (z := .tmp 33) (ti := (Try.prog.info? 3).getD default) (kd := .i64) (v := (e.z i)) (by kernel_rfl) (by kernel_rfl) (by kernel_rfl) (by decide) (by kernel_rfl) (by kernel_rfl) (by kernel_rfl) (by kernel_rfl) (by kernel_rfl) (by kernel_rfl) (hu) (hf) (by kernel_rfl)
  refine ⟨_, hst, fun hK => ?_⟩
  have TD : Tmd (RX L false) (DX L Shun false .st) := tmd
  have T := TD.toTms
  have K : Ken Try.prog (RX L false) (DX L Shun false .st) (Cw L D Shun w₀) (w.setCell ⟨L.M, i % L.n, none⟩ (.int .i64 (e.z i))) := ken H.good hK rfl
  refine Gz.moreE (sp0 := [13]) (i := 13) (l := c10.pd.pd.pd.pa.po) (n := 41) (g := [(5, .int .i64 i), (0, .pointer (some ⟨L.R, 0, none⟩)), (1, .int .i64 ((e.z i)))]) (vals := [.pointer (some ⟨L.R, 0, none⟩), .pointer (some ⟨L.R, 0, none⟩), .pointer (some ⟨L.R, 0, none⟩), .slice (some ⟨L.M, 0, none⟩) L.n L.n, .int .i64 i, .pointer (some ⟨L.R, 0, none⟩), .pointer (some ⟨L.R, 0, none⟩), .pointer (some ⟨L.R, 0, none⟩), .slice (some ⟨L.M, 0, none⟩) L.n L.n, .int .i64 L.n, .int .i64 (((i % L.n : Nat) : Int)), .int .i64 ((e.z i)), .pointer (some ⟨L.M, i % L.n, none⟩), undef]) (vals' := [.pointer (some ⟨L.R, 0, none⟩), .pointer (some ⟨L.R, 0, none⟩), .pointer (some ⟨L.R, 0, none⟩), .slice (some ⟨L.M, 0, none⟩) L.n L.n, .int .i64 i, .pointer (some ⟨L.R, 0, none⟩), .pointer (some ⟨L.R, 0, none⟩), .pointer (some ⟨L.R, 0, none⟩), .slice (some ⟨L.M, 0, none⟩) L.n L.n, .int .i64 L.n, .int .i64 (((i % L.n : Nat) : Int)), .int .i64 ((e.z i)), .pointer (some ⟨L.M, i % L.n, none⟩), undef]) (H := [(3, .ld ⟨L.R, 0, none⟩ (.slice (some ⟨L.M, 0, none⟩) L.n L.n)), (8, .ld ⟨L.R, 0, none⟩ (.slice (some ⟨L.M, 0, none⟩) L.n L.n)), (10, .val (.int .i64 (((i % L.n : Nat) : Int)))), (12, .val (.pointer (some ⟨L.M, i % L.n, none⟩)))]) (bf := befs c10.pd.pd.pd.pa.po) (rds := [[0], [22], [23], [24], [5], [0], [27], [28], [29], [30], [26, 31], [1], [25, 32], [34, 33]]) (qs := [(some (.pointer (some ⟨L.R, 0, none⟩)) : Option Value) = some (.pointer (some ⟨L.R, 0, none⟩)), (Cw L D Shun w₀) ⟨L.R, 0, none⟩ (.slice (some ⟨L.M, 0, none⟩) L.n L.n), (some (.pointer (some ⟨L.R, 0, none⟩)) : Option Value) = some (.pointer (some ⟨L.R, 0, none⟩)), (Cw L D Shun w₀) ⟨L.R, 0, none⟩ (.slice (some ⟨L.M, 0, none⟩) L.n L.n), (if (L.n : Int) = 0 then none else some (.int .i64 (Int.tmod (i) (L.n))) : Option Value) = some (.int .i64 (((i % L.n : Nat) : Int))), (if 0 ≤ (((i % L.n : Nat) : Int) : Int) ∧ (((i % L.n : Nat) : Int) : Int) < ((L.n : Nat) : Int) then some (.pointer (some ⟨L.M, Int.toNat (((i % L.n : Nat) : Int)) + 0, none⟩)) else none : Option Value) = some (.pointer (some ⟨L.M, i % L.n, none⟩))]) (ds := []) (u := undef) [] 3700 TD K (by decide) (by kernel_rfl) (by kernel_rfl) (by kernel_rfl) (by kernel_rfl) (Rg.oc rfl (Rg.oc H.hR (Rg.oc rfl (Rg.oc H.hR (Rg.oc (n_rem H.good.n) (Rg.oc (n_idx (off := 0) (Nat.mod_lt _ H.good.n)) Rg.on)))))) (by kernel_rfl) hM hun hlf (o := opq c10.pd.pd.pd.pa 13) (by kernel_rfl) (by rw [show (opq c10.pd.pd.pd.pa 13).dst = none by kernel_rfl]; rfl) (fun _ _ => by kernel_rfl) (by kernel_rfl) (by kernel_rfl) (by kernel_rfl) (fun listed a1 hall hJ => ?_)
  have hT1 := hJ.finE hall [5, 0] (g' := [(5, .int .i64 i), (0, .pointer (some ⟨L.R, 0, none⟩))]) (by kernel_rfl)
  refine Gz.rend T ?_
  refine Gz.seqE T (by kernel_rfl : c10.pd.pd.pd.pd = .seq c10.pd.pd.pd.pd.pa c10.pd.pd.pd.pd.pd) ?_
  refine Gz.regionE (id := 5) (l := c10.pd.pd.pd.pd.pa.po) (r := [0, 1, 2, 3, 4, 5]) T (by kernel_rfl) (by kernel_rfl) ?_
  refine Gz.row T K (by decide) hT1 [] [0, 1, 2, 3] [4, 5] [38, 37] (g' := [(38, .int .i64 i), (37, .pointer (some ⟨L.R, 1, none⟩))]) (qs := []) (by kernel_rfl) (by kernel_rfl) (by simp) (fun a2 hT2 => ?_)
  refine Gz.hint (o := opq c10.pd.pd.pd.pd.pa 4) (d := 39) T (by decide) hT2 (v := .int .i64 (((i + 1 : Nat) : Int))) (by kernel_rfl) (by kernel_rfl) (by decide) (by kernel_rfl) (by kernel_rfl) (n_inc (by have := H.Nb; omega)) (fun a3 hT3 => ?_)
  refine Mz.enter (o := opq c10.pd.pd.pd.pd.pa 5) (q := .func 16) (f := 16) (cc := c19) (cap := []) (args := #[.tmp 37, .tmp 39]) (ats := #[54, 2]) (mvG T) hT3 [.pointer (some ⟨L.R, 1, none⟩), .int .i64 (((i + 1 : Nat) : Int))] 9 (by kernel_rfl) (by kernel_rfl) (by decide) (by kernel_rfl) (by kernel_rfl) Try.func16 (by kernel_rfl) (by kernel_rfl) (by kernel_rfl) (by kernel_rfl) (by kernel_rfl) (fun a4 hT4 => ?_)
  refine Gz.regionE (id := 0) (l := c19.po) (r := [0, 1, 2, 3, 4]) T (by kernel_rfl) (by kernel_rfl) ?_
  refine Gz.row T K (by decide) hT4 [] [0, 1, 2, 3] [4] [7, 6] (g' := [(7, .int .i64 (((i + 1 : Nat) : Int))), (6, .pointer (some ⟨L.R, 1, none⟩))]) (qs := []) (by kernel_rfl) (by kernel_rfl) (by simp) (fun a5 hT5 => ?_)
  have h15BSt := hb15.live [] (g' := []) (by kernel_rfl)
  have h9BSt := hb9.live [1, 2, 3, 5, 6, 7, 8] (g' := [(1, .pointer (some ⟨e.bR, 0, none⟩)), (2, .pointer (some ⟨e.bF, 0, none⟩)), (3, .pointer (some ⟨e.bE, 0, none⟩)), (5, .int .i64 ((e.z i))), (6, .slice (some ⟨e.lb, e.lo, none⟩) D.N e.cap), (7, .int .i64 D.N), (8, .int .i64 i)]) (by kernel_rfl)
  have h10BSt := hT3.live [] (g' := []) (by kernel_rfl)
  have h19BSt := hT5.live [6, 7] (g' := [(6, .pointer (some ⟨L.R, 1, none⟩)), (7, .int .i64 (((i + 1 : Nat) : Int)))]) (by kernel_rfl)
  exact Goes.stop fun w₁ h₁ => ⟨hK.rely h₁, b15, b9, a3, a5, h15BSt, h9BSt, h10BSt, h19BSt, rfl⟩
theorem B_st (H : Hyp L D Shun w₀ e) (hK : KW L D w₀ false i w) (hi : i < D.N) (h : BSt L D e i g) (hs : ShAt L D s w) :
    ∃ g', stepG Try.prog false g w = .go g' (w.setCell ⟨L.R, 1, none⟩ (.int .i64 ((i + 1 : Nat) : Int))) #[wrE (L.ctr false)] ∧ (KW L D w₀ false (i + 1) (w.setCell ⟨L.R, 1, none⟩ (.int .i64 ((i + 1 : Nat) : Int))) → Goes Try.prog false (RX L false) (DX L Shun false .bl) (fun g w => KW L D w₀ false (i + 1) w ∧ BBl L D e i g) 4000 g' (w.setCell ⟨L.R, 1, none⟩ (.int .i64 ((i + 1 : Nat) : Int)))) := by
  obtain ⟨b15, b9, b10, b19, hb15, hb9, hb10, hb19, rfl⟩ := h
  obtain ⟨a1, hT1, hst⟩ := step_astore (P := Try.prog) (x := false) (w := w) (ops := c19.po.toArray) (i := 4) (o := opq c19 4) (d := 8) (f := 32) (ats := #[72, 2]) (y := .tmp 6) (z := .tmp 7) (kd := .i64) (v := ((i + 1 : Nat) : Int)) (k := []) (rest := []) (cs := (((base 8).at b10 [.inRegion c10.pd.pd.pd.pd.pa.po.toArray [5], .code c10.pd.pd.pd.pd.pd]) :: ((base 12).at b9 [.inRegion c9.pd.pa.pa.pd.pd.pa.pa.pd.pa.pa.pa.pa.pa.po.toArray [2, 3], .code c9.pd.pa.pa.pd.pd.pa.pa.pd.pa.pa.pa.pa.pd, .code c9.pd.pa.pa.pd.pd.pa.pa.pd.pa.pa.pa.pd, .inLoop c9.pd.pa.pa.pd.pd.pa.pa.pd.pa.pa.pa, .inBlock 2, .code c9.pd.pa.pa.pd.pd.pa.pa.pd.pd, .inBlock 1, .code c9.pd.pa.pa.pd.pd.pd, .inLoop c9.pd.pa.pa, .inBlock 0]) :: ((baseD 18).at b15 [.inRegion c15.pd.po.toArray [1]]) :: [bot Try.prog])) (b := (base 16)) (by decide) hb19 (by kernel_rfl) (by kernel_rfl) (by decide) (by kernel_rfl) (by kernel_rfl) Try.func32 (by kernel_rfl) (by kernel_rfl) (by kernel_rfl) (by kernel_rfl) (by kernel_rfl) (by kernel_rfl) ((hs.ctr false).1) ((hs.ctr false).2)
  refine ⟨_, hst, fun hK => ?_⟩
  have TD : Tmd (RX L false) (DX L Shun false .bl) := tmd
  have T := TD.toTms
  have K : Ken Try.prog (RX L false) (DX L Shun false .bl) (Cw L D Shun w₀) (w.setCell ⟨L.R, 1, none⟩ (.int .i64 ((i + 1 : Nat) : Int))) := ken H.good hK rfl
  refine Gz.rend T ?_
  refine Gz.fin T ?_
  refine Gz.back0 (d := 40) T hT1 hb10 rfl Try.func16 (by kernel_rfl) (by kernel_rfl) (by decide) (fun a2 hT2 => ?_)
  refine Gz.rend T ?_
  refine Gz.seqE T (by kernel_rfl : c10.pd.pd.pd.pd.pd = .seq c10.pd.pd.pd.pd.pd.pa c10.pd.pd.pd.pd.pd.pd) ?_
  refine Gz.regionE (id := 6) (l := c10.pd.pd.pd.pd.pd.pa.po) (r := [0]) T (by kernel_rfl) (by kernel_rfl) ?_
  refine Gz.row T K (by decide) hT2 [] [0] [] [4] (g' := [(4, .bool true)]) (qs := []) (by kernel_rfl) (by kernel_rfl) (by simp) (fun a3 hT3 => ?_)
  refine Gz.rend T ?_
  refine Gz.retE T (by kernel_rfl) ?_
  refine Gz.back1 (t := 4) (v := .bool true) (d := 14) T hT3 hb9 rfl Try.func8 (by kernel_rfl) (by kernel_rfl) (by kernel_rfl) (by decide) (fun a4 hT4 => ?_)
  refine Gz.row T K (by decide) hT4 [] [3] [] [15, 1, 2, 3, 5, 6, 7, 8] (g' := [(15, .bool false), (1, .pointer (some ⟨e.bR, 0, none⟩)), (2, .pointer (some ⟨e.bF, 0, none⟩)), (3, .pointer (some ⟨e.bE, 0, none⟩)), (5, .int .i64 ((e.z i))), (6, .slice (some ⟨e.lb, e.lo, none⟩) D.N e.cap), (7, .int .i64 D.N), (8, .int .i64 i)]) (qs := []) (by kernel_rfl) (by kernel_rfl) (by simp) (fun a5 hT5 => ?_)
  refine Gz.rend T ?_
  refine Gz.condFE (q := .tmp 15) (y := c9.pd.pa.pa.pd.pd.pa.pa.pd.pa.pa.pa.pa.pd.pa) (z := c9.pd.pa.pa.pd.pd.pa.pa.pd.pa.pa.pa.pa.pd.pd) T (by kernel_rfl) hT5 (by kernel_rfl) ?_
  refine Gz.exitE (id := 2) T (by kernel_rfl) rfl ?_
  refine Gz.regionE (id := 5) (l := c9.pd.pa.pa.pd.pd.pa.pa.pd.pd.po) (r := [0, 1]) T (by kernel_rfl) (by kernel_rfl) ?_
  refine Gz.load (o := opq c9.pd.pa.pa.pd.pd.pa.pa.pd.pd 0) (d := 18) (X := 41) (y := .tmp 3) (ad := ⟨e.bE, 0, none⟩) T K (by decide) hT5 (v := .chan (some L.E)) (by kernel_rfl) (by kernel_rfl) (by decide) (by kernel_rfl) (by kernel_rfl) (by kernel_rfl) (by kernel_rfl) (by kernel_rfl) H.cE (fun a6 hT6 => ?_)
  refine Mz.enter (o := opq c9.pd.pa.pa.pd.pd.pa.pa.pd.pd 1) (q := .func 13) (f := 13) (cc := c11) (cap := []) (args := #[.tmp 18]) (ats := #[41]) (mvG T) hT6 [.chan (some L.E)] 7 (by kernel_rfl) (by kernel_rfl) (by decide) (by kernel_rfl) (by kernel_rfl) Try.func13 (by kernel_rfl) (by kernel_rfl) (by kernel_rfl) (by kernel_rfl) (by kernel_rfl) (fun a7 hT7 => ?_)
  refine Gz.seqE T (by kernel_rfl : c11 = .seq c11.pa c11.pd) ?_
  refine Gz.seqE T (by kernel_rfl : c11.pa = .seq c11.pa.pa c11.pa.pd) ?_
  refine Gz.regionE (id := 0) (l := c11.pa.pa.po) (r := [0]) T (by kernel_rfl) (by kernel_rfl) ?_
  refine Gz.row T K (by decide) hT7 [] [0] [] [2] (g' := [(2, .chan (some L.E))]) (qs := []) (by kernel_rfl) (by kernel_rfl) (by simp) (fun a8 hT8 => ?_)
  refine Gz.rend T ?_
  refine Gz.regionE (id := 1) (l := c11.pa.pd.po) (r := [0]) T (by kernel_rfl) (by kernel_rfl) ?_
  refine Mz.opv (o := opq c11.pa.pd 0) (d := 3) (mvG T) (by decide) hT8 (v := .agg #[]) (by kernel_rfl) (by kernel_rfl) (by decide) (by kernel_rfl) (by kernel_rfl) (op_unit (T := 42) (by kernel_rfl) (by kernel_rfl) (ti := (Try.prog.info? 42).getD default) (by kernel_rfl) (by kernel_rfl)) (fun a9 hT9 => ?_)
  refine Gz.rend T ?_
  refine Gz.seqE T (by kernel_rfl : c11.pd = .seq c11.pd.pa c11.pd.pd) ?_
  refine Gz.regionE (id := 2) (l := c11.pd.pa.po) (r := [0, 1, 2]) T (by kernel_rfl) (by kernel_rfl) ?_
  have h15BBl := hb15.live [] (g' := []) (by kernel_rfl)
  have h9BBl := hT6.live [1, 2, 3, 6, 7, 8] (g' := [(1, .pointer (some ⟨e.bR, 0, none⟩)), (2, .pointer (some ⟨e.bF, 0, none⟩)), (3, .pointer (some ⟨e.bE, 0, none⟩)), (6, .slice (some ⟨e.lb, e.lo, none⟩) D.N e.cap), (7, .int .i64 D.N), (8, .int .i64 i)]) (by kernel_rfl)
  have h11BBl := hT9.live [2, 3] (g' := [(2, .chan (some L.E)), (3, .agg #[])]) (by kernel_rfl)
  exact Goes.stop fun w₁ h₁ => ⟨hK.rely h₁, b15, a6, a9, h15BBl, h9BBl, h11BBl, rfl⟩

end
end Go.Proofs.Ytdmiilgdkmbmeaa.Rg
namespace Go.Proofs.Ytdmiilgdkmbmeaa.Rg
open Go Go.Conc
section
variable {L : Lay} {D : Dat} {Shun : Loc → Prop} {w₀ w : World} {e : Env} {cs : List Frame} {i : Nat} {g : Goroutine} {s : Sh}
theorem B_d0 (H : Hyp L D Shun w₀ e) (hK : KW L D w₀ false i w) (h : BD0 L D e i g) :
    ∃ g', stepG Try.prog false g w = .go g' w #[mkE (.releaseMerge L.grp)] ∧ Goes Try.prog false (RX L false) (DX L Shun false .d1) (fun g w => KW L D w₀ false i w ∧ BD1 L D e i g) 4000 g' w := by
  obtain ⟨b15, b16, b17, b14, hb15, hb16, hb17, hb14, rfl⟩ := h
  obtain ⟨a1, hT1, hst⟩ := step_markAt (P := Try.prog) (x := false) (ops := c14.pa.pa.pa.pd.pa.po.toArray) (i := 2) (o := opq c14.pa.pa.pa.pd.pa 2) (d := 13) (f := 33) (ags := #[.tmp 12]) (ats := #[64]) (y := .tmp 12) (l := []) (k := [.code c14.pa.pa.pd, .code c14.pd]) (rest := []) (cs := (((base 20).at b17 [.inRegion c17.po.toArray [1]]) :: ((baseD 19).at b16 [.inRegion c16.pd.po.toArray [1]]) :: { (baseD 18).at b15 [] with mode := .returning } :: [bot Try.prog])) (b := (base 17)) .releaseMerge (fun _ _ h => by cases h) (by decide) hb14 (by kernel_rfl) (by kernel_rfl) (by decide) (by kernel_rfl) (by kernel_rfl) Try.func33 (by kernel_rfl) (by kernel_rfl) (by kernel_rfl) (by kernel_rfl) rfl (by kernel_rfl)
  refine ⟨_, hst w, ?_⟩
  have TD : Tmd (RX L false) (DX L Shun false .d1) := tmd
  have T := TD.toTms
  have K : Ken Try.prog (RX L false) (DX L Shun false .d1) (fun _ _ => False) w := ken0
  refine Gz.rend T ?_
  refine Gz.seqE T (by kernel_rfl : c14.pa.pa.pd = .seq c14.pa.pa.pd.pa c14.pa.pa.pd.pd) ?_
  refine Gz.regionE (id := 2) (l := c14.pa.pa.pd.pa.po) (r := [0]) T (by kernel_rfl) (by kernel_rfl) ?_
  have h15BD1 := hb15.live [] (g' := []) (by kernel_rfl)
  have h16BD1 := hb16.live [] (g' := []) (by kernel_rfl)
  have h17BD1 := hb17.live [] (g' := []) (by kernel_rfl)
  have h14BD1 := hT1.live [0, 1] (g' := [(0, .pointer (some ⟨L.W, 0, none⟩)), (1, .int .i64 (-1))]) (by kernel_rfl)
  exact Goes.stop fun w₁ h₁ => ⟨hK.rely h₁, b15, b16, b17, a1, h15BD1, h16BD1, h17BD1, h14BD1, rfl⟩
theorem B_d1 (H : Hyp L D Shun w₀ e) (hK : KW L D w₀ false i w) (h : BD1 L D e i g) :
    ∃ g', stepG Try.prog false g w = .go g' w #[mkE .disable] ∧ Goes Try.prog false (RX L false) (DX L Shun false .d2) (fun g w => KW L D w₀ false i w ∧ BD2 L D e i g) 4000 g' w := by
  obtain ⟨b15, b16, b17, b14, hb15, hb16, hb17, hb14, rfl⟩ := h
  obtain ⟨a1, hT1, hst⟩ := step_mark0 (P := Try.prog) (x := false) (ops := c14.pa.pa.pd.pa.po.toArray) (i := 0) (o := opq c14.pa.pa.pd.pa 0) (d := 14) (f := 21) (ags := #[]) (ats := #[]) (k := [.code c14.pa.pa.pd.pd, .code c14.pd]) (rest := []) (cs := (((base 20).at b17 [.inRegion c17.po.toArray [1]]) :: ((baseD 19).at b16 [.inRegion c16.pd.po.toArray [1]]) :: { (baseD 18).at b15 [] with mode := .returning } :: [bot Try.prog])) (b := (base 17)) .disable (fun _ h => by cases h) (by decide) hb14 (by kernel_rfl) (by kernel_rfl) (by decide) (by kernel_rfl) (by kernel_rfl) Try.func21 (by kernel_rfl) (by kernel_rfl) (by kernel_rfl) (by kernel_rfl)
  refine ⟨_, hst w, ?_⟩
  have TD : Tmd (RX L false) (DX L Shun false .d2) := tmd
  have T := TD.toTms
  have K : Ken Try.prog (RX L false) (DX L Shun false .d2) (fun _ _ => False) w := ken0
  refine Gz.rend T ?_
  refine Gz.regionE (id := 3) (l := c14.pa.pa.pd.pd.po) (r := [0]) T (by kernel_rfl) (by kernel_rfl) ?_
  refine Mz.defer (o := opq c14.pa.pa.pd.pd 0) (q := .func 23) (f := 23) (cap := []) (ats := #[]) (mvG T) hT1 (by kernel_rfl) (by kernel_rfl) (by kernel_rfl) (by decide) rfl (by kernel_rfl) (by kernel_rfl) (fun a2 hT2 => ?_)
  refine Gz.rend T ?_
  refine Gz.seqE T (by kernel_rfl : c14.pd = .seq c14.pd.pa c14.pd.pd) ?_
  refine Gz.regionE (id := 4) (l := c14.pd.pa.po) (r := [0]) T (by kernel_rfl) (by kernel_rfl) ?_
  refine Gz.row T K (by decide) hT2 [] [0] [] [4, 0, 1] (g' := [(4, .bool false), (0, .pointer (some ⟨L.W, 0, none⟩)), (1, .int .i64 (-1))]) (qs := []) (by kernel_rfl) (by kernel_rfl) (by simp) (fun a3 hT3 => ?_)
  refine Gz.rend T ?_
  refine Gz.seqE T (by kernel_rfl : c14.pd.pd = .seq c14.pd.pd.pa c14.pd.pd.pd) ?_
  refine Gz.seqE T (by kernel_rfl : c14.pd.pd.pa = .seq c14.pd.pd.pa.pa c14.pd.pd.pa.pd) ?_
  refine Gz.regionE (id := 5) (l := c14.pd.pd.pa.pa.po) (r := [0]) T (by kernel_rfl) (by kernel_rfl) ?_
  refine Mz.entry (o := opq c14.pd.pd.pa.pa 0) (d := 15) (f := 29) (ags := #[]) (ats := #[]) (mvG T) (by decide) hT3 (v := .bool false) (by kernel_rfl) (by kernel_rfl) (by decide) (by kernel_rfl) (by kernel_rfl) Try.func29 (by kernel_rfl) (by kernel_rfl) (by kernel_rfl) (by kernel_rfl) (fun a4 hT4 => ?_)
  refine Gz.rend T ?_
  refine Gz.condFE (q := .tmp 15) (y := c14.pd.pd.pa.pd.pa) (z := c14.pd.pd.pa.pd.pd) T (by kernel_rfl) hT4 (by kernel_rfl) ?_
  refine Gz.skipE T (by kernel_rfl) ?_
  refine Gz.seqE T (by kernel_rfl : c14.pd.pd.pd = .seq c14.pd.pd.pd.pa c14.pd.pd.pd.pd) ?_
  refine Gz.regionE (id := 15) (l := c14.pd.pd.pd.pa.po) (r := [0, 1, 2, 3, 4, 5, 6, 7]) T (by kernel_rfl) (by kernel_rfl) ?_
  refine Gz.row T K (by decide) hT4 [] [0, 1, 2, 3, 4, 5] [6, 7] [42, 39, 4, 0, 1] (g' := [(42, .int .u64 18446744069414584320), (39, .pointer (some ⟨L.W, 0, none⟩)), (4, .bool false), (0, .pointer (some ⟨L.W, 0, none⟩)), (1, .int .i64 (-1))]) (qs := []) (by kernel_rfl) (by kernel_rfl) (by simp) (fun a5 hT5 => ?_)
  refine Mz.enter (o := opq c14.pd.pd.pd.pa 6) (q := .func 37) (f := 37) (cc := c34) (cap := []) (args := #[.tmp 39, .tmp 42]) (ats := #[48, 46]) (mvG T) hT5 [.pointer (some ⟨L.W, 0, none⟩), .int .u64 18446744069414584320] 10 (by kernel_rfl) (by kernel_rfl) (by decide) (by kernel_rfl) (by kernel_rfl) Try.func37 (by kernel_rfl) (by kernel_rfl) (by kernel_rfl) (by kernel_rfl) (by kernel_rfl) (fun a6 hT6 => ?_)
  refine Gz.seqE T (by kernel_rfl : c34 = .seq c34.pa c34.pd) ?_
  refine Gz.regionE (id := 0) (l := c34.pa.po) (r := [0]) T (by kernel_rfl) (by kernel_rfl) ?_
  refine Gz.row T K (by decide) hT6 [] [0] [] [0, 1] (g' := [(0, .pointer (some ⟨L.W, 0, none⟩)), (1, .int .u64 18446744069414584320)]) (qs := []) (by kernel_rfl) (by kernel_rfl) (by simp) (fun a7 hT7 => ?_)
  refine Gz.rend T ?_
  refine Gz.seqE T (by kernel_rfl : c34.pd = .seq c34.pd.pa c34.pd.pd) ?_
  refine Gz.regionE (id := 1) (l := c34.pd.pa.po) (r := [0, 1, 2, 3, 4, 5]) T (by kernel_rfl) (by kernel_rfl) ?_
  refine Gz.row T K (by decide) hT7 [] [0, 1, 2, 3] [4, 5] [8, 7] (g' := [(8, .int .u64 18446744069414584320), (7, .pointer (some ⟨L.W, 0, none⟩))]) (qs := []) (by kernel_rfl) (by kernel_rfl) (by simp) (fun a8 hT8 => ?_)
  have h15BD2 := hb15.live [] (g' := []) (by kernel_rfl)
  have h16BD2 := hb16.live [] (g' := []) (by kernel_rfl)
  have h17BD2 := hb17.live [] (g' := []) (by kernel_rfl)
  have h14BD2 := hT5.live [0, 1, 4] (g' := [(0, .pointer (some ⟨L.W, 0, none⟩)), (1, .int .i64 (-1)), (4, .bool false)]) (by kernel_rfl)
  have h34BD2 := hT8.live [7, 8] (g' := [(7, .pointer (some ⟨L.W, 0, none⟩)), (8, .int .u64 18446744069414584320)]) (by kernel_rfl)
  exact Goes.stop fun w₁ h₁ => ⟨hK.rely h₁, b15, b16, b17, a5, a8, h15BD2, h16BD2, h17BD2, h14BD2, h34BD2, rfl⟩
theorem B_d2a (H : Hyp L D Shun w₀ e) (hK : KW L D w₀ false i w) (h : BD2 L D e i g) (hs : ShAt L D s w) (hg : s.wg = .a) :
    ∃ g', stepG Try.prog false g w = .go g' (w.setCell ⟨L.W, 0, none⟩ (.int .u64 0)) #[rdE L.grp, wrE L.grp] ∧ QuitsD Try.prog 400 1 g' := by
  obtain ⟨b15, b16, b17, b14, b34, hb15, hb16, hb17, hb14, hb34, rfl⟩ := h
  obtain ⟨a1, hT1, hst⟩ := step_aadd (P := Try.prog) (x := false) (w := w) (ops := c34.pd.pa.po.toArray) (i := 4) (o := opq c34.pd.pa 4) (d := 9) (f := 44) (ats := #[82, 46]) (y := .tmp 7) (z := .tmp 8) (kd := .u64) (v := 4294967296) (e := 18446744069414584320) (k := [.code c34.pd.pd]) (rest := [5]) (cs := (((base 17).at b14 [.inRegion c14.pd.pd.pd.pa.po.toArray [6, 7], .code c14.pd.pd.pd.pd]) :: ((base 20).at b17 [.inRegion c17.po.toArray [1]]) :: ((baseD 19).at b16 [.inRegion c16.pd.po.toArray [1]]) :: { (baseD 18).at b15 [] with mode := .returning } :: [bot Try.prog])) (b := (base 37)) (by decide) hb34 (by kernel_rfl) (by kernel_rfl) (by decide) (by kernel_rfl) (by kernel_rfl) Try.func44 (by kernel_rfl) (by kernel_rfl) (by kernel_rfl) (by kernel_rfl) (by kernel_rfl) (by kernel_rfl) ((by have := hs.grpc.1; rw [hg] at this; exact this)) (hs.grpc.2) 0 (by kernel_rfl)
  refine ⟨_, hst, ?_⟩
  show QM Try.prog 1 400 _
  refine Mz.row mvQ (by decide) hT1 [5] [] [4] (g' := [(4, .int .u64 0)]) (by kernel_rfl) (by kernel_rfl) (fun a2 hT2 => ?_)
  refine Mz.rend mvQ ?_
  refine Mz.retE mvQ (by kernel_rfl) ?_
  refine Mz.back1 (t := 4) (v := .int .u64 0) (d := 43) mvQ hT2 hb14 rfl Try.func37 (by kernel_rfl) (by kernel_rfl) (by kernel_rfl) (by decide) (fun a3 hT3 => ?_)
  refine Mz.row mvQ (by decide) hT3 [7] [] [6, 0, 1, 4] (g' := [(6, .int .u64 0), (0, .pointer (some ⟨L.W, 0, none⟩)), (1, .int .i64 (-1)), (4, .bool false)]) (by kernel_rfl) (by kernel_rfl) (fun a4 hT4 => ?_)
  refine Mz.rend mvQ ?_
  refine Mz.seqE mvQ (by kernel_rfl : c14.pd.pd.pd.pd = .seq c14.pd.pd.pd.pd.pa c14.pd.pd.pd.pd.pd) ?_
  refine Mz.seqE mvQ (by kernel_rfl : c14.pd.pd.pd.pd.pa = .seq c14.pd.pd.pd.pd.pa.pa c14.pd.pd.pd.pd.pa.pd) ?_
  refine Mz.regionE (id := 16) (l := c14.pd.pd.pd.pd.pa.pa.po) (r := [0, 1, 2, 3, 4, 5, 6]) mvQ (by kernel_rfl) (by kernel_rfl) ?_
  refine Mz.row mvQ (by decide) hT4 [0, 1, 2, 3, 4, 5, 6] [] [50, 6, 0, 1, 4] (g' := [(50, .bool false), (6, .int .u64 0), (0, .pointer (some ⟨L.W, 0, none⟩)), (1, .int .i64 (-1)), (4, .bool false)]) (by kernel_rfl) (by kernel_rfl) (fun a5 hT5 => ?_)
  refine Mz.rend mvQ ?_
  refine Mz.condFE (q := .tmp 50) (y := c14.pd.pd.pd.pd.pa.pd.pa) (z := c14.pd.pd.pd.pd.pa.pd.pd) mvQ (by kernel_rfl) hT5 (by kernel_rfl) ?_
  refine Mz.skipE mvQ (by kernel_rfl) ?_
  refine Mz.seqE mvQ (by kernel_rfl : c14.pd.pd.pd.pd.pd = .seq c14.pd.pd.pd.pd.pd.pa c14.pd.pd.pd.pd.pd.pd) ?_
  refine Mz.regionE (id := 18) (l := c14.pd.pd.pd.pd.pd.pa.po) (r := [0, 1, 2, 3]) mvQ (by kernel_rfl) (by kernel_rfl) ?_
  refine Mz.row mvQ (by decide) hT5 [0, 1, 2, 3] [] [7, 6, 0, 1, 4] (g' := [(7, .int .i32 0), (6, .int .u64 0), (0, .pointer (some ⟨L.W, 0, none⟩)), (1, .int .i64 (-1)), (4, .bool false)]) (by kernel_rfl) (by kernel_rfl) (fun a6 hT6 => ?_)
  refine Mz.rend mvQ ?_
  refine Mz.seqE mvQ (by kernel_rfl : c14.pd.pd.pd.pd.pd.pd = .seq c14.pd.pd.pd.pd.pd.pd.pa c14.pd.pd.pd.pd.pd.pd.pd) ?_
  refine Mz.regionE (id := 19) (l := c14.pd.pd.pd.pd.pd.pd.pa.po) (r := [0, 1, 2, 3]) mvQ (by kernel_rfl) (by kernel_rfl) ?_
  refine Mz.row mvQ (by decide) hT6 [0, 1, 2, 3] [] [8, 7, 6, 0, 1, 4] (g' := [(8, .int .u32 0), (7, .int .i32 0), (6, .int .u64 0), (0, .pointer (some ⟨L.W, 0, none⟩)), (1, .int .i64 (-1)), (4, .bool false)]) (by kernel_rfl) (by kernel_rfl) (fun a7 hT7 => ?_)
  refine Mz.rend mvQ ?_
  refine Mz.seqE mvQ (by kernel_rfl : c14.pd.pd.pd.pd.pd.pd.pd = .seq c14.pd.pd.pd.pd.pd.pd.pd.pa c14.pd.pd.pd.pd.pd.pd.pd.pd) ?_
  refine Mz.seqE mvQ (by kernel_rfl : c14.pd.pd.pd.pd.pd.pd.pd.pa = .seq c14.pd.pd.pd.pd.pd.pd.pd.pa.pa c14.pd.pd.pd.pd.pd.pd.pd.pa.pd) ?_
  refine Mz.regionE (id := 20) (l := c14.pd.pd.pd.pd.pd.pd.pd.pa.pa.po) (r := [0, 1, 2, 3, 4, 5, 6, 7, 8, 9]) mvQ (by kernel_rfl) (by kernel_rfl) ?_
  refine Mz.row mvQ (by decide) hT7 [0, 1, 2, 3, 4, 5, 6, 7, 8, 9] [] [67, 8, 7, 6, 0, 1, 4] (g' := [(67, .bool false), (8, .int .u32 0), (7, .int .i32 0), (6, .int .u64 0), (0, .pointer (some ⟨L.W, 0, none⟩)), (1, .int .i64 (-1)), (4, .bool false)]) (by kernel_rfl) (by kernel_rfl) (fun a8 hT8 => ?_)
  refine Mz.rend mvQ ?_
  refine Mz.condFE (q := .tmp 67) (y := c14.pd.pd.pd.pd.pd.pd.pd.pa.pd.pa) (z := c14.pd.pd.pd.pd.pd.pd.pd.pa.pd.pd) mvQ (by kernel_rfl) hT8 (by kernel_rfl) ?_
  refine Mz.skipE mvQ (by kernel_rfl) ?_
  refine Mz.seqE mvQ (by kernel_rfl : c14.pd.pd.pd.pd.pd.pd.pd.pd = .seq c14.pd.pd.pd.pd.pd.pd.pd.pd.pa c14.pd.pd.pd.pd.pd.pd.pd.pd.pd) ?_
  refine Mz.seqE mvQ (by kernel_rfl : c14.pd.pd.pd.pd.pd.pd.pd.pd.pa = .seq c14.pd.pd.pd.pd.pd.pd.pd.pd.pa.pa c14.pd.pd.pd.pd.pd.pd.pd.pd.pa.pd) ?_
  refine Mz.regionE (id := 22) (l := c14.pd.pd.pd.pd.pd.pd.pd.pd.pa.pa.po) (r := [0, 1]) mvQ (by kernel_rfl) (by kernel_rfl) ?_
  refine Mz.row mvQ (by decide) hT8 [0, 1] [] [74, 8, 7, 6, 0, 1, 4] (g' := [(74, .bool false), (8, .int .u32 0), (7, .int .i32 0), (6, .int .u64 0), (0, .pointer (some ⟨L.W, 0, none⟩)), (1, .int .i64 (-1)), (4, .bool false)]) (by kernel_rfl) (by kernel_rfl) (fun a9 hT9 => ?_)
  refine Mz.rend mvQ ?_
  refine Mz.condFE (q := .tmp 74) (y := c14.pd.pd.pd.pd.pd.pd.pd.pd.pa.pd.pa) (z := c14.pd.pd.pd.pd.pd.pd.pd.pd.pa.pd.pd) mvQ (by kernel_rfl) hT9 (by kernel_rfl) ?_
  refine Mz.skipE mvQ (by kernel_rfl) ?_
  refine Mz.seqE mvQ (by kernel_rfl : c14.pd.pd.pd.pd.pd.pd.pd.pd.pd = .seq c14.pd.pd.pd.pd.pd.pd.pd.pd.pd.pa c14.pd.pd.pd.pd.pd.pd.pd.pd.pd.pd) ?_
  refine Mz.seqE mvQ (by kernel_rfl : c14.pd.pd.pd.pd.pd.pd.pd.pd.pd.pa = .seq c14.pd.pd.pd.pd.pd.pd.pd.pd.pd.pa.pa c14.pd.pd.pd.pd.pd.pd.pd.pd.pd.pa.pd) ?_
  refine Mz.regionE (id := 24) (l := c14.pd.pd.pd.pd.pd.pd.pd.pd.pd.pa.pa.po) (r := [0, 1, 2, 3, 4, 5, 6, 7, 8, 9, 10, 11]) mvQ (by kernel_rfl) (by kernel_rfl) ?_
  refine Mz.row mvQ (by decide) hT9 [0, 1, 2, 3, 4, 5, 6, 7, 8, 9, 10, 11] [] [87, 8, 7, 6, 0, 4] (g' := [(87, .bool false), (8, .int .u32 0), (7, .int .i32 0), (6, .int .u64 0), (0, .pointer (some ⟨L.W, 0, none⟩)), (4, .bool false)]) (by kernel_rfl) (by kernel_rfl) (fun a10 hT10 => ?_)
  refine Mz.rend mvQ ?_
  refine Mz.condFE (q := .tmp 87) (y := c14.pd.pd.pd.pd.pd.pd.pd.pd.pd.pa.pd.pa) (z := c14.pd.pd.pd.pd.pd.pd.pd.pd.pd.pa.pd.pd) mvQ (by kernel_rfl) hT10 (by kernel_rfl) ?_
  refine Mz.skipE mvQ (by kernel_rfl) ?_
  refine Mz.seqE mvQ (by kernel_rfl : c14.pd.pd.pd.pd.pd.pd.pd.pd.pd.pd = .seq c14.pd.pd.pd.pd.pd.pd.pd.pd.pd.pd.pa c14.pd.pd.pd.pd.pd.pd.pd.pd.pd.pd.pd) ?_
  refine Mz.seqE mvQ (by kernel_rfl : c14.pd.pd.pd.pd.pd.pd.pd.pd.pd.pd.pa = .seq c14.pd.pd.pd.pd.pd.pd.pd.pd.pd.pd.pa.pa c14.pd.pd.pd.pd.pd.pd.pd.pd.pd.pd.pa.pd) ?_
  refine Mz.regionE (id := 26) (l := c14.pd.pd.pd.pd.pd.pd.pd.pd.pd.pd.pa.pa.po) (r := [0, 1, 2, 3, 4, 5]) mvQ (by kernel_rfl) (by kernel_rfl) ?_
  refine Mz.row mvQ (by decide) hT10 [0, 1, 2, 3, 4, 5] [] [94, 8, 6, 0, 4] (g' := [(94, .bool true), (8, .int .u32 0), (6, .int .u64 0), (0, .pointer (some ⟨L.W, 0, none⟩)), (4, .bool false)]) (by kernel_rfl) (by kernel_rfl) (fun a11 hT11 => ?_)
  refine Mz.rend mvQ ?_
  refine Mz.condTE (q := .tmp 94) (y := c14.pd.pd.pd.pd.pd.pd.pd.pd.pd.pd.pa.pd.pa) (z := c14.pd.pd.pd.pd.pd.pd.pd.pd.pd.pd.pa.pd.pd) mvQ (by kernel_rfl) hT11 (by kernel_rfl) ?_
  refine Mz.retE mvQ (by kernel_rfl) ?_
  show QuitsD Try.prog _ 1 _
  refine QuitsD.unwind_mark .enable (by decide) (fun _ h => by cases h) (show _ = dcall 23 #[] :: [] from hT11.dfr) Try.func23 (by kernel_rfl) (by kernel_rfl) (by kernel_rfl) (by kernel_rfl) ?_
  show QM Try.prog 0 _ _
  have hT12 : Tm ⟨a11.tmps, []⟩ 117 [(94, .bool true), (8, .int .u32 0), (6, .int .u64 0), (0, .pointer (some ⟨L.W, 0, none⟩)), (4, .bool false)] [] := ⟨hT11.size, hT11.val, rfl⟩
  refine Mz.back0 (d := 3) mvQ hT12 hb17 rfl Try.func17 (by kernel_rfl) (by kernel_rfl) (by decide) (fun a13 hT13 => ?_)
  refine Mz.rend mvQ ?_
  refine Mz.fin mvQ ?_
  refine Mz.back0 (d := 7) mvQ hT13 hb16 rfl Try.func20 (by kernel_rfl) (by kernel_rfl) (by decide) (fun a14 hT14 => ?_)
  refine Mz.rend mvQ ?_
  refine Mz.fin mvQ ?_
  show QuitsD Try.prog _ 0 _
  refine QuitsD.leaveD rfl hT14.dfr Try.func19 rfl rfl ?_
  show QM Try.prog 0 _ _
  exact quits_mono (quits_end rfl hb15 Try.func18 rfl) (by decide)
theorem B_d2b (H : Hyp L D Shun w₀ e) (hK : KW L D w₀ false i w) (h : BD2 L D e i g) (hs : ShAt L D s w) (hg : s.wg = .b) :
    ∃ g', stepG Try.prog false g w = .go g' (w.setCell ⟨L.W, 0, none⟩ (.int .u64 1)) #[rdE L.grp, wrE L.grp] ∧ (KW L D w₀ false i (w.setCell ⟨L.W, 0, none⟩ (.int .u64 1)) → Goes Try.prog false (RX L false) (DX L Shun false .d3) (fun g w => KW L D w₀ false i w ∧ BD3 L D e i g) 4000 g' (w.setCell ⟨L.W, 0, none⟩ (.int .u64 1))) := by
  obtain ⟨b15, b16, b17, b14, b34, hb15, hb16, hb17, hb14, hb34, rfl⟩ := h
  obtain ⟨a1, hT1, hst⟩ := step_aadd (P := Try.prog) (x := false) (w := w) (ops := c34.pd.pa.po.toArray) (i := 4) (o := opq c34.pd.pa 4) (d := 9) (f := 44) (ats := #[82, 46]) (y := .tmp 7) (z := .tmp 8) (kd := .u64) (v := 4294967297) (e := 18446744069414584320) (k := [.code c34.pd.pd]) (rest := [5]) (cs := (((base 17).at b14 [.inRegion c14.pd.pd.pd.pa.po.toArray [6, 7], .code c14.pd.pd.pd.pd]) :: ((base 20).at b17 [.inRegion c17.po.toArray [1]]) :: ((baseD 19).at b16 [.inRegion c16.pd.po.toArray [1]]) :: { (baseD 18).at b15 [] with mode := .returning } :: [bot Try.prog])) (b := (base 37)) (by decide) hb34 (by kernel_rfl) (by kernel_rfl) (by decide) (by kernel_rfl) (by kernel_rfl) Try.func44 (by kernel_rfl) (by kernel_rfl) (by kernel_rfl) (by kernel_rfl) (by kernel_rfl) (by kernel_rfl) ((by have := hs.grpc.1; rw [hg] at this; exact this)) (hs.grpc.2) 1 (by kernel_rfl)
  refine ⟨_, hst, fun hK => ?_⟩
  have TD : Tmd (RX L false) (DX L Shun false .d3) := tmd
  have T := TD.toTms
  have K : Ken Try.prog (RX L false) (DX L Shun false .d3) (fun _ _ => False) (w.setCell ⟨L.W, 0, none⟩ (.int .u64 1)) := ken0
  refine Gz.row T K (by decide) hT1 [] [5] [] [4] (g' := [(4, .int .u64 1)]) (qs := []) (by kernel_rfl) (by kernel_rfl) (by simp) (fun a2 hT2 => ?_)
  refine Gz.rend T ?_
  refine Gz.retE T (by kernel_rfl) ?_
  refine Gz.back1 (t := 4) (v := .int .u64 1) (d := 43) T hT2 hb14 rfl Try.func37 (by kernel_rfl) (by kernel_rfl) (by kernel_rfl) (by decide) (fun a3 hT3 => ?_)
  refine Gz.row T K (by decide) hT3 [] [7] [] [6, 0, 1, 4] (g' := [(6, .int .u64 1), (0, .pointer (some ⟨L.W, 0, none⟩)), (1, .int .i64 (-1)), (4, .bool false)]) (qs := []) (by kernel_rfl) (by kernel_rfl) (by simp) (fun a4 hT4 => ?_)
  refine Gz.rend T ?_
  refine Gz.seqE T (by kernel_rfl : c14.pd.pd.pd.pd = .seq c14.pd.pd.pd.pd.pa c14.pd.pd.pd.pd.pd) ?_
  refine Gz.seqE T (by kernel_rfl : c14.pd.pd.pd.pd.pa = .seq c14.pd.pd.pd.pd.pa.pa c14.pd.pd.pd.pd.pa.pd) ?_
  refine Gz.regionE (id := 16) (l := c14.pd.pd.pd.pd.pa.pa.po) (r := [0, 1, 2, 3, 4, 5, 6]) T (by kernel_rfl) (by kernel_rfl) ?_
  refine Gz.row T K (by decide) hT4 [] [0, 1, 2, 3, 4, 5, 6] [] [50, 6, 0, 1, 4] (g' := [(50, .bool false), (6, .int .u64 1), (0, .pointer (some ⟨L.W, 0, none⟩)), (1, .int .i64 (-1)), (4, .bool false)]) (qs := []) (by kernel_rfl) (by kernel_rfl) (by simp) (fun a5 hT5 => ?_)
  refine Gz.rend T ?_
  refine Gz.condFE (q := .tmp 50) (y := c14.pd.pd.pd.pd.pa.pd.pa) (z := c14.pd.pd.pd.pd.pa.pd.pd) T (by kernel_rfl) hT5 (by kernel_rfl) ?_
  refine Gz.skipE T (by kernel_rfl) ?_
  refine Gz.seqE T (by kernel_rfl : c14.pd.pd.pd.pd.pd = .seq c14.pd.pd.pd.pd.pd.pa c14.pd.pd.pd.pd.pd.pd) ?_
  refine Gz.regionE (id := 18) (l := c14.pd.pd.pd.pd.pd.pa.po) (r := [0, 1, 2, 3]) T (by kernel_rfl) (by kernel_rfl) ?_
  refine Gz.row T K (by decide) hT5 [] [0, 1, 2, 3] [] [7, 6, 0, 1, 4] (g' := [(7, .int .i32 0), (6, .int .u64 1), (0, .pointer (some ⟨L.W, 0, none⟩)), (1, .int .i64 (-1)), (4, .bool false)]) (qs := []) (by kernel_rfl) (by kernel_rfl) (by simp) (fun a6 hT6 => ?_)
  refine Gz.rend T ?_
  refine Gz.seqE T (by kernel_rfl : c14.pd.pd.pd.pd.pd.pd = .seq c14.pd.pd.pd.pd.pd.pd.pa c14.pd.pd.pd.pd.pd.pd.pd) ?_
  refine Gz.regionE (id := 19) (l := c14.pd.pd.pd.pd.pd.pd.pa.po) (r := [0, 1, 2, 3]) T (by kernel_rfl) (by kernel_rfl) ?_
  refine Gz.row T K (by decide) hT6 [] [0, 1, 2, 3] [] [8, 7, 6, 0, 1, 4] (g' := [(8, .int .u32 1), (7, .int .i32 0), (6, .int .u64 1), (0, .pointer (some ⟨L.W, 0, none⟩)), (1, .int .i64 (-1)), (4, .bool false)]) (qs := []) (by kernel_rfl) (by kernel_rfl) (by simp) (fun a7 hT7 => ?_)
  refine Gz.rend T ?_
  refine Gz.seqE T (by kernel_rfl : c14.pd.pd.pd.pd.pd.pd.pd = .seq c14.pd.pd.pd.pd.pd.pd.pd.pa c14.pd.pd.pd.pd.pd.pd.pd.pd) ?_
  refine Gz.seqE T (by kernel_rfl : c14.pd.pd.pd.pd.pd.pd.pd.pa = .seq c14.pd.pd.pd.pd.pd.pd.pd.pa.pa c14.pd.pd.pd.pd.pd.pd.pd.pa.pd) ?_
  refine Gz.regionE (id := 20) (l := c14.pd.pd.pd.pd.pd.pd.pd.pa.pa.po) (r := [0, 1, 2, 3, 4, 5, 6, 7, 8, 9]) T (by kernel_rfl) (by kernel_rfl) ?_
  refine Gz.row T K (by decide) hT7 [] [0, 1, 2, 3, 4, 5, 6, 7, 8, 9] [] [67, 8, 7, 6, 0, 1, 4] (g' := [(67, .bool false), (8, .int .u32 1), (7, .int .i32 0), (6, .int .u64 1), (0, .pointer (some ⟨L.W, 0, none⟩)), (1, .int .i64 (-1)), (4, .bool false)]) (qs := []) (by kernel_rfl) (by kernel_rfl) (by simp) (fun a8 hT8 => ?_)
  refine Gz.rend T ?_
  refine Gz.condFE (q := .tmp 67) (y := c14.pd.pd.pd.pd.pd.pd.pd.pa.pd.pa) (z := c14.pd.pd.pd.pd.pd.pd.pd.pa.pd.pd) T (by kernel_rfl) hT8 (by kernel_rfl) ?_
  refine Gz.skipE T (by kernel_rfl) ?_
  refine Gz.seqE T (by kernel_rfl : c14.pd.pd.pd.pd.pd.pd.pd.pd = .seq c14.pd.pd.pd.pd.pd.pd.pd.pd.pa c14.pd.pd.pd.pd.pd.pd.pd.pd.pd) ?_
  refine Gz.seqE T (by kernel_rfl : c14.pd.pd.pd.pd.pd.pd.pd.pd.pa = .seq c14.pd.pd.pd.pd.pd.pd.pd.pd.pa.pa c14.pd.pd.pd.pd.pd.pd.pd.pd.pa.pd) ?_
  refine Gz.regionE (id := 22) (l := c14.pd.pd.pd.pd.pd.pd.pd.pd.pa.pa.po) (r := [0, 1]) T (by kernel_rfl) (by kernel_rfl) ?_
  refine Gz.row T K (by decide) hT8 [] [0, 1] [] [74, 8, 7, 6, 0, 1, 4] (g' := [(74, .bool false), (8, .int .u32 1), (7, .int .i32 0), (6, .int .u64 1), (0, .pointer (some ⟨L.W, 0, none⟩)), (1, .int .i64 (-1)), (4, .bool false)]) (qs := []) (by kernel_rfl) (by kernel_rfl) (by simp) (fun a9 hT9 => ?_)
  refine Gz.rend T ?_
  refine Gz.condFE (q := .tmp 74) (y := c14.pd.pd.pd.pd.pd.pd.pd.pd.pa.pd.pa) (z := c14.pd.pd.pd.pd.pd.pd.pd.pd.pa.pd.pd) T (by kernel_rfl) hT9 (by kernel_rfl) ?_
  refine Gz.skipE T (by kernel_rfl) ?_
  refine Gz.seqE T (by kernel_rfl : c14.pd.pd.pd.pd.pd.pd.pd.pd.pd = .seq c14.pd.pd.pd.pd.pd.pd.pd.pd.pd.pa c14.pd.pd.pd.pd.pd.pd.pd.pd.pd.pd) ?_
  refine Gz.seqE T (by kernel_rfl : c14.pd.pd.pd.pd.pd.pd.pd.pd.pd.pa = .seq c14.pd.pd.pd.pd.pd.pd.pd.pd.pd.pa.pa c14.pd.pd.pd.pd.pd.pd.pd.pd.pd.pa.pd) ?_
  refine Gz.regionE (id := 24) (l := c14.pd.pd.pd.pd.pd.pd.pd.pd.pd.pa.pa.po) (r := [0, 1, 2, 3, 4, 5, 6, 7, 8, 9, 10, 11]) T (by kernel_rfl) (by kernel_rfl) ?_
  refine Gz.row T K (by decide) hT9 [] [0, 1, 2, 3, 4, 5, 6, 7, 8, 9, 10, 11] [] [87, 8, 7, 6, 0, 4] (g' := [(87, .bool false), (8, .int .u32 1), (7, .int .i32 0), (6, .int .u64 1), (0, .pointer (some ⟨L.W, 0, none⟩)), (4, .bool false)]) (qs := []) (by kernel_rfl) (by kernel_rfl) (by simp) (fun a10 hT10 => ?_)
  refine Gz.rend T ?_
  refine Gz.condFE (q := .tmp 87) (y := c14.pd.pd.pd.pd.pd.pd.pd.pd.pd.pa.pd.pa) (z := c14.pd.pd.pd.pd.pd.pd.pd.pd.pd.pa.pd.pd) T (by kernel_rfl) hT10 (by kernel_rfl) ?_
  refine Gz.skipE T (by kernel_rfl) ?_
  refine Gz.seqE T (by kernel_rfl : c14.pd.pd.pd.pd.pd.pd.pd.pd.pd.pd = .seq c14.pd.pd.pd.pd.pd.pd.pd.pd.pd.pd.pa c14.pd.pd.pd.pd.pd.pd.pd.pd.pd.pd.pd) ?_
  refine Gz.seqE T (by kernel_rfl : c14.pd.pd.pd.pd.pd.pd.pd.pd.pd.pd.pa = .seq c14.pd.pd.pd.pd.pd.pd.pd.pd.pd.pd.pa.pa c14.pd.pd.pd.pd.pd.pd.pd.pd.pd.pd.pa.pd) ?_
  refine Gz.regionE (id := 26) (l := c14.pd.pd.pd.pd.pd.pd.pd.pd.pd.pd.pa.pa.po) (r := [0, 1, 2, 3, 4, 5]) T (by kernel_rfl) (by kernel_rfl) ?_
  refine Gz.row T K (by decide) hT10 [] [0, 1, 2, 3, 4, 5] [] [94, 8, 6, 0, 4] (g' := [(94, .bool false), (8, .int .u32 1), (6, .int .u64 1), (0, .pointer (some ⟨L.W, 0, none⟩)), (4, .bool false)]) (qs := []) (by kernel_rfl) (by kernel_rfl) (by simp) (fun a11 hT11 => ?_)
  refine Gz.rend T ?_
  refine Gz.condFE (q := .tmp 94) (y := c14.pd.pd.pd.pd.pd.pd.pd.pd.pd.pd.pa.pd.pa) (z := c14.pd.pd.pd.pd.pd.pd.pd.pd.pd.pd.pa.pd.pd) T (by kernel_rfl) hT11 (by kernel_rfl) ?_
  refine Gz.skipE T (by kernel_rfl) ?_
  refine Gz.seqE T (by kernel_rfl : c14.pd.pd.pd.pd.pd.pd.pd.pd.pd.pd.pd = .seq c14.pd.pd.pd.pd.pd.pd.pd.pd.pd.pd.pd.pa c14.pd.pd.pd.pd.pd.pd.pd.pd.pd.pd.pd.pd) ?_
  refine Gz.seqE T (by kernel_rfl : c14.pd.pd.pd.pd.pd.pd.pd.pd.pd.pd.pd.pa = .seq c14.pd.pd.pd.pd.pd.pd.pd.pd.pd.pd.pd.pa.pa c14.pd.pd.pd.pd.pd.pd.pd.pd.pd.pd.pd.pa.pd) ?_
  refine Gz.regionE (id := 27) (l := c14.pd.pd.pd.pd.pd.pd.pd.pd.pd.pd.pd.pa.pa.po) (r := [0, 1, 2, 3, 4, 5]) T (by kernel_rfl) (by kernel_rfl) ?_
  refine Gz.row T K (by decide) hT11 [] [0, 1, 2] [3, 4, 5] [97, 8, 6, 0, 4] (g' := [(97, .pointer (some ⟨L.W, 0, none⟩)), (8, .int .u32 1), (6, .int .u64 1), (0, .pointer (some ⟨L.W, 0, none⟩)), (4, .bool false)]) (qs := []) (by kernel_rfl) (by kernel_rfl) (by simp) (fun a12 hT12 => ?_)
  refine Mz.enter (o := opq c14.pd.pd.pd.pd.pd.pd.pd.pd.pd.pd.pd.pa.pa 3) (q := .func 22) (f := 22) (cc := c21) (cap := []) (args := #[.tmp 97]) (ats := #[48]) (mvG T) hT12 [.pointer (some ⟨L.W, 0, none⟩)] 7 (by kernel_rfl) (by kernel_rfl) (by decide) (by kernel_rfl) (by kernel_rfl) Try.func22 (by kernel_rfl) (by kernel_rfl) (by kernel_rfl) (by kernel_rfl) (by kernel_rfl) (fun a13 hT13 => ?_)
  refine Gz.seqE T (by kernel_rfl : c21 = .seq c21.pa c21.pd) ?_
  refine Gz.regionE (id := 0) (l := c21.pa.po) (r := [0]) T (by kernel_rfl) (by kernel_rfl) ?_
  refine Gz.row T K (by decide) hT13 [] [0] [] [0] (g' := [(0, .pointer (some ⟨L.W, 0, none⟩))]) (qs := []) (by kernel_rfl) (by kernel_rfl) (by simp) (fun a14 hT14 => ?_)
  refine Gz.rend T ?_
  refine Gz.seqE T (by kernel_rfl : c21.pd = .seq c21.pd.pa c21.pd.pd) ?_
  refine Gz.regionE (id := 1) (l := c21.pd.pa.po) (r := [0, 1, 2, 3, 4]) T (by kernel_rfl) (by kernel_rfl) ?_
  refine Gz.row T K (by decide) hT14 [] [0, 1, 2] [3, 4] [5] (g' := [(5, .pointer (some ⟨L.W, 0, none⟩))]) (qs := []) (by kernel_rfl) (by kernel_rfl) (by simp) (fun a15 hT15 => ?_)
  have h15BD3 := hb15.live [] (g' := []) (by kernel_rfl)
  have h16BD3 := hb16.live [] (g' := []) (by kernel_rfl)
  have h17BD3 := hb17.live [] (g' := []) (by kernel_rfl)
  have h14BD3 := hT12.live [0, 4, 6, 8] (g' := [(0, .pointer (some ⟨L.W, 0, none⟩)), (4, .bool false), (6, .int .u64 1), (8, .int .u32 1)]) (by kernel_rfl)
  have h21BD3 := hT15.live [5] (g' := [(5, .pointer (some ⟨L.W, 0, none⟩))]) (by kernel_rfl)
  exact Goes.stop fun w₁ h₁ => ⟨hK.rely h₁, b15, b16, b17, a12, a15, h15BD3, h16BD3, h17BD3, h14BD3, h21BD3, rfl⟩
theorem B_d3 (H : Hyp L D Shun w₀ e) (hK : KW L D w₀ false i w) (h : BD3 L D e i g) (hs : ShAt L D s w) (hg : s.wg = .d) :
    ∃ g', stepG Try.prog false g w = .go g' w #[rdE L.grp] ∧ Goes Try.prog false (RX L false) (DX L Shun false .d4) (fun g w => KW L D w₀ false i w ∧ BD4 L D e i g) 4000 g' w := by
  obtain ⟨b15, b16, b17, b14, b21, hb15, hb16, hb17, hb14, hb21, rfl⟩ := h
  obtain ⟨a1, hT1, hst⟩ := step_aload (P := Try.prog) (x := false) (w := w) (ops := c21.pd.pa.po.toArray) (i := 3) (o := opq c21.pd.pa 3) (d := 6) (f := 41) (ats := #[82]) (y := .tmp 5) (kd := .u64) (z := 1) (k := [.code c21.pd.pd]) (rest := [4]) (cs := (((base 17).at b14 [.inRegion c14.pd.pd.pd.pd.pd.pd.pd.pd.pd.pd.pd.pa.pa.po.toArray [3, 4, 5], .code c14.pd.pd.pd.pd.pd.pd.pd.pd.pd.pd.pd.pa.pd, .code c14.pd.pd.pd.pd.pd.pd.pd.pd.pd.pd.pd.pd]) :: ((base 20).at b17 [.inRegion c17.po.toArray [1]]) :: ((baseD 19).at b16 [.inRegion c16.pd.po.toArray [1]]) :: { (baseD 18).at b15 [] with mode := .returning } :: [bot Try.prog])) (b := (base 22)) (by decide) hb21 (by kernel_rfl) (by kernel_rfl) (by decide) (by kernel_rfl) (by kernel_rfl) Try.func41 (by kernel_rfl) (by kernel_rfl) (by kernel_rfl) (by kernel_rfl) (by kernel_rfl) ((by have := hs.grpc.1; rw [hg] at this; exact this))
  refine ⟨_, hst, ?_⟩
  have TD : Tmd (RX L false) (DX L Shun false .d4) := tmd
  have T := TD.toTms
  have K : Ken Try.prog (RX L false) (DX L Shun false .d4) (fun _ _ => False) w := ken0
  refine Gz.row T K (by decide) hT1 [] [4] [] [2] (g' := [(2, .int .u64 1)]) (qs := []) (by kernel_rfl) (by kernel_rfl) (by simp) (fun a2 hT2 => ?_)
  refine Gz.rend T ?_
  refine Gz.retE T (by kernel_rfl) ?_
  refine Gz.back1 (t := 2) (v := .int .u64 1) (d := 98) T hT2 hb14 rfl Try.func22 (by kernel_rfl) (by kernel_rfl) (by kernel_rfl) (by decide) (fun a3 hT3 => ?_)
  refine Gz.row T K (by decide) hT3 [] [4, 5] [] [100, 0, 4, 8] (g' := [(100, .bool false), (0, .pointer (some ⟨L.W, 0, none⟩)), (4, .bool false), (8, .int .u32 1)]) (qs := []) (by kernel_rfl) (by kernel_rfl) (by simp) (fun a4 hT4 => ?_)
  refine Gz.rend T ?_
  refine Gz.condFE (q := .tmp 100) (y := c14.pd.pd.pd.pd.pd.pd.pd.pd.pd.pd.pd.pa.pd.pa) (z := c14.pd.pd.pd.pd.pd.pd.pd.pd.pd.pd.pd.pa.pd.pd) T (by kernel_rfl) hT4 (by kernel_rfl) ?_
  refine Gz.skipE T (by kernel_rfl) ?_
  refine Gz.seqE T (by kernel_rfl : c14.pd.pd.pd.pd.pd.pd.pd.pd.pd.pd.pd.pd = .seq c14.pd.pd.pd.pd.pd.pd.pd.pd.pd.pd.pd.pd.pa c14.pd.pd.pd.pd.pd.pd.pd.pd.pd.pd.pd.pd.pd) ?_
  refine Gz.regionE (id := 29) (l := c14.pd.pd.pd.pd.pd.pd.pd.pd.pd.pd.pd.pd.pa.po) (r := [0, 1, 2, 3]) T (by kernel_rfl) (by kernel_rfl) ?_
  refine Gz.row T K (by decide) hT4 [] [0, 1, 2] [3] [104, 0, 4, 8] (g' := [(104, .pointer (some ⟨L.W, 0, none⟩)), (0, .pointer (some ⟨L.W, 0, none⟩)), (4, .bool false), (8, .int .u32 1)]) (qs := []) (by kernel_rfl) (by kernel_rfl) (by simp) (fun a5 hT5 => ?_)
  refine Mz.enter (o := opq c14.pd.pd.pd.pd.pd.pd.pd.pd.pd.pd.pd.pd.pa 3) (q := .func 39) (f := 39) (cc := c36) (cap := []) (args := #[.tmp 104, .const (.int .u64 0)]) (ats := #[48, 46]) (mvG T) hT5 [.pointer (some ⟨L.W, 0, none⟩), .int .u64 0] 9 (by kernel_rfl) (by kernel_rfl) (by decide) (by kernel_rfl) (by kernel_rfl) Try.func39 (by kernel_rfl) (by kernel_rfl) (by kernel_rfl) (by kernel_rfl) (by kernel_rfl) (fun a6 hT6 => ?_)
  refine Gz.regionE (id := 0) (l := c36.po) (r := [0, 1, 2, 3, 4]) T (by kernel_rfl) (by kernel_rfl) ?_
  refine Gz.row T K (by decide) hT6 [] [0, 1, 2, 3] [4] [7, 6] (g' := [(7, .int .u64 0), (6, .pointer (some ⟨L.W, 0, none⟩))]) (qs := []) (by kernel_rfl) (by kernel_rfl) (by simp) (fun a7 hT7 => ?_)
  have h15BD4 := hb15.live [] (g' := []) (by kernel_rfl)
  have h16BD4 := hb16.live [] (g' := []) (by kernel_rfl)
  have h17BD4 := hb17.live [] (g' := []) (by kernel_rfl)
  have h14BD4 := hT5.live [0, 4, 8] (g' := [(0, .pointer (some ⟨L.W, 0, none⟩)), (4, .bool false), (8, .int .u32 1)]) (by kernel_rfl)
  have h36BD4 := hT7.live [6, 7] (g' := [(6, .pointer (some ⟨L.W, 0, none⟩)), (7, .int .u64 0)]) (by kernel_rfl)
  exact Goes.stop fun w₁ h₁ => ⟨hK.rely h₁, b15, b16, b17, a5, a7, h15BD4, h16BD4, h17BD4, h14BD4, h36BD4, rfl⟩
theorem B_d4 (H : Hyp L D Shun w₀ e) (hK : KW L D w₀ false i w) (h : BD4 L D e i g) (hs : ShAt L D s w) (hg : s.wg = .d) :
    ∃ g', stepG Try.prog false g w = .go g' (w.setCell ⟨L.W, 0, none⟩ (.int .u64 0)) #[wrE L.grp] ∧ (KW L D w₀ false i (w.setCell ⟨L.W, 0, none⟩ (.int .u64 0)) → Goes Try.prog false (RX L false) (DX L Shun false .d5) (fun g w => KW L D w₀ false i w ∧ BD5 L D e i g) 4000 g' (w.setCell ⟨L.W, 0, none⟩ (.int .u64 0))) := by
  obtain ⟨b15, b16, b17, b14, b36, hb15, hb16, hb17, hb14, hb36, rfl⟩ := h
  obtain ⟨a1, hT1, hst⟩ := step_astore (P := Try.prog) (x := false) (w := w) (ops := c36.po.toArray) (i := 4) (o := opq c36 4) (d := 8) (f := 45) (ats := #[82, 46]) (y := .tmp 6) (z := .tmp 7) (kd := .u64) (v := 0) (k := []) (rest := []) (cs := (((base 17).at b14 [.inRegion c14.pd.pd.pd.pd.pd.pd.pd.pd.pd.pd.pd.pd.pa.po.toArray [3], .code c14.pd.pd.pd.pd.pd.pd.pd.pd.pd.pd.pd.pd.pd]) :: ((base 20).at b17 [.inRegion c17.po.toArray [1]]) :: ((baseD 19).at b16 [.inRegion c16.pd.po.toArray [1]]) :: { (baseD 18).at b15 [] with mode := .returning } :: [bot Try.prog])) (b := (base 39)) (by decide) hb36 (by kernel_rfl) (by kernel_rfl) (by decide) (by kernel_rfl) (by kernel_rfl) Try.func45 (by kernel_rfl) (by kernel_rfl) (by kernel_rfl) (by kernel_rfl) (by kernel_rfl) (by kernel_rfl) ((by have := hs.grpc.1; rw [hg] at this; exact this)) (hs.grpc.2)
  refine ⟨_, hst, fun hK => ?_⟩
  have TD : Tmd (RX L false) (DX L Shun false .d5) := tmd
  have T := TD.toTms
  have K : Ken Try.prog (RX L false) (DX L Shun false .d5) (fun _ _ => False) (w.setCell ⟨L.W, 0, none⟩ (.int .u64 0)) := ken0
  refine Gz.rend T ?_
  refine Gz.fin T ?_
  refine Gz.back0 (d := 105) T hT1 hb14 rfl Try.func39 (by kernel_rfl) (by kernel_rfl) (by decide) (fun a2 hT2 => ?_)
  refine Gz.rend T ?_
  refine Gz.seqE T (by kernel_rfl : c14.pd.pd.pd.pd.pd.pd.pd.pd.pd.pd.pd.pd.pd = .seq c14.pd.pd.pd.pd.pd.pd.pd.pd.pd.pd.pd.pd.pd.pa c14.pd.pd.pd.pd.pd.pd.pd.pd.pd.pd.pd.pd.pd.pd) ?_
  refine Gz.seqE T (by kernel_rfl : c14.pd.pd.pd.pd.pd.pd.pd.pd.pd.pd.pd.pd.pd.pa = .seq c14.pd.pd.pd.pd.pd.pd.pd.pd.pd.pd.pd.pd.pd.pa.pa c14.pd.pd.pd.pd.pd.pd.pd.pd.pd.pd.pd.pd.pd.pa.pd) ?_
  refine Gz.regionE (id := 30) (l := c14.pd.pd.pd.pd.pd.pd.pd.pd.pd.pd.pd.pd.pd.pa.pa.po) (r := [0]) T (by kernel_rfl) (by kernel_rfl) ?_
  refine Gz.row T K (by decide) hT2 [] [0] [] [106, 0, 8] (g' := [(106, .bool false), (0, .pointer (some ⟨L.W, 0, none⟩)), (8, .int .u32 1)]) (qs := []) (by kernel_rfl) (by kernel_rfl) (by simp) (fun a3 hT3 => ?_)
  refine Gz.rend T ?_
  refine Gz.condFE (q := .tmp 106) (y := c14.pd.pd.pd.pd.pd.pd.pd.pd.pd.pd.pd.pd.pd.pa.pd.pa) (z := c14.pd.pd.pd.pd.pd.pd.pd.pd.pd.pd.pd.pd.pd.pa.pd.pd) T (by kernel_rfl) hT3 (by kernel_rfl) ?_
  refine Gz.skipE T (by kernel_rfl) ?_
  refine Gz.blockE (id := 1) (y := c14.pd.pd.pd.pd.pd.pd.pd.pd.pd.pd.pd.pd.pd.pd.pa) T (by kernel_rfl) ?_
  refine Gz.loopE (y := c14.pd.pd.pd.pd.pd.pd.pd.pd.pd.pd.pd.pd.pd.pd.pa.pa) T (by kernel_rfl) ?_
  refine Gz.seqE T (by kernel_rfl : c14.pd.pd.pd.pd.pd.pd.pd.pd.pd.pd.pd.pd.pd.pd.pa.pa = .seq c14.pd.pd.pd.pd.pd.pd.pd.pd.pd.pd.pd.pd.pd.pd.pa.pa.pa c14.pd.pd.pd.pd.pd.pd.pd.pd.pd.pd.pd.pd.pd.pd.pa.pa.pd) ?_
  refine Gz.seqE T (by kernel_rfl : c14.pd.pd.pd.pd.pd.pd.pd.pd.pd.pd.pd.pd.pd.pd.pa.pa.pa = .seq c14.pd.pd.pd.pd.pd.pd.pd.pd.pd.pd.pd.pd.pd.pd.pa.pa.pa.pa c14.pd.pd.pd.pd.pd.pd.pd.pd.pd.pd.pd.pd.pd.pd.pa.pa.pa.pd) ?_
  refine Gz.regionE (id := 32) (l := c14.pd.pd.pd.pd.pd.pd.pd.pd.pd.pd.pd.pd.pd.pd.pa.pa.pa.pa.po) (r := [0, 1]) T (by kernel_rfl) (by kernel_rfl) ?_
  refine Gz.row T K (by decide) hT3 [] [0, 1] [] [110, 0, 8] (g' := [(110, .bool true), (0, .pointer (some ⟨L.W, 0, none⟩)), (8, .int .u32 1)]) (qs := []) (by kernel_rfl) (by kernel_rfl) (by simp) (fun a4 hT4 => ?_)
  refine Gz.rend T ?_
  refine Gz.condTE (q := .tmp 110) (y := c14.pd.pd.pd.pd.pd.pd.pd.pd.pd.pd.pd.pd.pd.pd.pa.pa.pa.pd.pa) (z := c14.pd.pd.pd.pd.pd.pd.pd.pd.pd.pd.pd.pd.pd.pd.pa.pa.pa.pd.pd) T (by kernel_rfl) hT4 (by kernel_rfl) ?_
  refine Gz.skipE T (by kernel_rfl) ?_
  refine Gz.seqE T (by kernel_rfl : c14.pd.pd.pd.pd.pd.pd.pd.pd.pd.pd.pd.pd.pd.pd.pa.pa.pd = .seq c14.pd.pd.pd.pd.pd.pd.pd.pd.pd.pd.pd.pd.pd.pd.pa.pa.pd.pa c14.pd.pd.pd.pd.pd.pd.pd.pd.pd.pd.pd.pd.pd.pd.pa.pa.pd.pd) ?_
  refine Gz.blockE (id := 2) (y := c14.pd.pd.pd.pd.pd.pd.pd.pd.pd.pd.pd.pd.pd.pd.pa.pa.pd.pa.pa) T (by kernel_rfl) ?_
  refine Gz.regionE (id := 34) (l := c14.pd.pd.pd.pd.pd.pd.pd.pd.pd.pd.pd.pd.pd.pd.pa.pa.pd.pa.pa.po) (r := [0, 1, 2, 3]) T (by kernel_rfl) (by kernel_rfl) ?_
  refine Gz.row T K (by decide) hT4 [] [0, 1, 2] [3] [115, 0, 8] (g' := [(115, .pointer (some ⟨L.W, 1, none⟩)), (0, .pointer (some ⟨L.W, 0, none⟩)), (8, .int .u32 1)]) (qs := []) (by kernel_rfl) (by kernel_rfl) (by simp) (fun a5 hT5 => ?_)
  have h15BD5 := hb15.live [] (g' := []) (by kernel_rfl)
  have h16BD5 := hb16.live [] (g' := []) (by kernel_rfl)
  have h17BD5 := hb17.live [] (g' := []) (by kernel_rfl)
  have h14BD5 := hT5.live [0, 8, 115] (g' := [(0, .pointer (some ⟨L.W, 0, none⟩)), (8, .int .u32 1), (115, .pointer (some ⟨L.W, 1, none⟩))]) (by kernel_rfl)
  exact Goes.stop fun w₁ h₁ => ⟨hK.rely h₁, b15, b16, b17, a5, h15BD5, h16BD5, h17BD5, h14BD5, rfl⟩
theorem B_d5 (H : Hyp L D Shun w₀ e) (hK : KW L D w₀ false i w) (h : BD5 L D e i g) (hs : ShAt L D s w) (hg : s.wg = .e) :
    ∃ g', stepG Try.prog false g w = .go g' (w.setCell ⟨L.W, 1, none⟩ (.int .u32 1)) (semEvents L.sem) ∧ QuitsD Try.prog 400 1 g' := by
  obtain ⟨b15, b16, b17, b14, hb15, hb16, hb17, hb14, rfl⟩ := h
  obtain ⟨a1, hT1, hst⟩ := step_semrel (P := Try.prog) (x := false) (w := w) (ops := c14.pd.pd.pd.pd.pd.pd.pd.pd.pd.pd.pd.pd.pd.pd.pa.pa.pd.pa.pa.po.toArray) (i := 3) (o := opq c14.pd.pd.pd.pd.pd.pd.pd.pd.pd.pd.pd.pd.pd.pd.pa.pa.pd.pa.pa 3) (d := 116) (f := 40) (ags := #[.tmp 115, .const (.bool false), .const (.int .i64 0)]) (ats := #[68, 4, 3]) (y := .tmp 115) (l := [.const (.bool false), .const (.int .i64 0)]) (z := 0) (k := [.inBlock 2, .code c14.pd.pd.pd.pd.pd.pd.pd.pd.pd.pd.pd.pd.pd.pd.pa.pa.pd.pd, .inLoop c14.pd.pd.pd.pd.pd.pd.pd.pd.pd.pd.pd.pd.pd.pd.pa.pa, .inBlock 1]) (rest := []) (cs := (((base 20).at b17 [.inRegion c17.po.toArray [1]]) :: ((baseD 19).at b16 [.inRegion c16.pd.po.toArray [1]]) :: { (baseD 18).at b15 [] with mode := .returning } :: [bot Try.prog])) (b := (base 17)) (by decide) hb14 (by kernel_rfl) (by kernel_rfl) (by decide) (by kernel_rfl) (by kernel_rfl) Try.func40 (by kernel_rfl) (by kernel_rfl) (by kernel_rfl) (by kernel_rfl) rfl (by kernel_rfl) ((by have := hs.semc.1; rw [hg] at this; exact this)) (hs.semc.2) 1 (by kernel_rfl)
  refine ⟨_, hst, ?_⟩
  show QM Try.prog 1 400 _
  refine Mz.rend mvQ ?_
  refine Mz.out mvQ ?_
  refine Mz.regionE (id := 33) (l := c14.pd.pd.pd.pd.pd.pd.pd.pd.pd.pd.pd.pd.pd.pd.pa.pa.pd.pd.po) (r := [0, 1, 2]) mvQ (by kernel_rfl) (by kernel_rfl) ?_
  refine Mz.row mvQ (by decide) hT1 [0, 1, 2] [] [8, 0] (g' := [(8, .int .u32 0), (0, .pointer (some ⟨L.W, 0, none⟩))]) (by kernel_rfl) (by kernel_rfl) (fun a2 hT2 => ?_)
  refine Mz.rend mvQ ?_
  refine Mz.again mvQ ?_
  refine Mz.seqE mvQ (by kernel_rfl : c14.pd.pd.pd.pd.pd.pd.pd.pd.pd.pd.pd.pd.pd.pd.pa.pa = .seq c14.pd.pd.pd.pd.pd.pd.pd.pd.pd.pd.pd.pd.pd.pd.pa.pa.pa c14.pd.pd.pd.pd.pd.pd.pd.pd.pd.pd.pd.pd.pd.pd.pa.pa.pd) ?_
  refine Mz.seqE mvQ (by kernel_rfl : c14.pd.pd.pd.pd.pd.pd.pd.pd.pd.pd.pd.pd.pd.pd.pa.pa.pa = .seq c14.pd.pd.pd.pd.pd.pd.pd.pd.pd.pd.pd.pd.pd.pd.pa.pa.pa.pa c14.pd.pd.pd.pd.pd.pd.pd.pd.pd.pd.pd.pd.pd.pd.pa.pa.pa.pd) ?_
  refine Mz.regionE (id := 32) (l := c14.pd.pd.pd.pd.pd.pd.pd.pd.pd.pd.pd.pd.pd.pd.pa.pa.pa.pa.po) (r := [0, 1]) mvQ (by kernel_rfl) (by kernel_rfl) ?_
  refine Mz.row mvQ (by decide) hT2 [0, 1] [] [110, 8, 0] (g' := [(110, .bool false), (8, .int .u32 0), (0, .pointer (some ⟨L.W, 0, none⟩))]) (by kernel_rfl) (by kernel_rfl) (fun a3 hT3 => ?_)
  refine Mz.rend mvQ ?_
  refine Mz.condFE (q := .tmp 110) (y := c14.pd.pd.pd.pd.pd.pd.pd.pd.pd.pd.pd.pd.pd.pd.pa.pa.pa.pd.pa) (z := c14.pd.pd.pd.pd.pd.pd.pd.pd.pd.pd.pd.pd.pd.pd.pa.pa.pa.pd.pd) mvQ (by kernel_rfl) hT3 (by kernel_rfl) ?_
  refine Mz.exitE (id := 1) mvQ (by kernel_rfl) rfl ?_
  refine Mz.fin mvQ ?_
  show QuitsD Try.prog _ 1 _
  refine QuitsD.unwind_mark .enable (by decide) (fun _ h => by cases h) (show _ = dcall 23 #[] :: [] from hT3.dfr) Try.func23 (by kernel_rfl) (by kernel_rfl) (by kernel_rfl) (by kernel_rfl) ?_
  show QM Try.prog 0 _ _
  have hT4 : Tm ⟨a3.tmps, []⟩ 117 [(110, .bool false), (8, .int .u32 0), (0, .pointer (some ⟨L.W, 0, none⟩))] [] := ⟨hT3.size, hT3.val, rfl⟩
  refine Mz.back0 (d := 3) mvQ hT4 hb17 rfl Try.func17 (by kernel_rfl) (by kernel_rfl) (by decide) (fun a5 hT5 => ?_)
  refine Mz.rend mvQ ?_
  refine Mz.fin mvQ ?_
  refine Mz.back0 (d := 7) mvQ hT5 hb16 rfl Try.func20 (by kernel_rfl) (by kernel_rfl) (by decide) (fun a6 hT6 => ?_)
  refine Mz.rend mvQ ?_
  refine Mz.fin mvQ ?_
  show QuitsD Try.prog _ 0 _
  refine QuitsD.leaveD rfl hT6.dfr Try.func19 rfl rfl ?_
  show QM Try.prog 0 _ _
  exact quits_mono (quits_end rfl hb15 Try.func18 rfl) (by decide)

end
end Go.Proofs.Ytdmiilgdkmbmeaa.Rg
namespace Go.Proofs.Ytdmiilgdkmbmeaa.Rg
open Go Go.Conc
section
variable {L : Lay} {D : Dat} {Shun : Loc → Prop} {w₀ w : World} {e : Env} {cs : List Frame} {i : Nat} {g : Goroutine} {s : Sh}
theorem B_ld (H : Hyp L D Shun w₀ e) (hK : KW L D w₀ false i w) (hi : i < D.N) (h : BLd L D e i g) (hs : ShAt L D s w) (hk : s.k ≤ i) (hkn : i ≤ s.k + L.n) :
    ∃ g', stepG Try.prog false g w = .go g' w #[rdE (L.ctr true)] ∧ (i < s.k + L.n → Goes Try.prog false (RX L false) (DX L Shun false .sl) (fun g w => KW L D w₀ false i w ∧ BSl L D e i g) 4000 g' w) ∧ (¬ i < s.k + L.n → Goes Try.prog false (RX L false) (DX L Shun false .rc) (fun g w => KW L D w₀ false i w ∧ BRc L D e i g) 4000 g' w) := by
  obtain ⟨b15, b9, b10, b18, fuel, t, listed, hb15, hb9, hM, hun, hlf, hb18, rfl⟩ := h
  obtain ⟨a1, hT1, hst⟩ := step_aload (P := Try.prog) (x := false) (w := w) (ops := c18.pd.pa.po.toArray) (i := 3) (o := opq c18.pd.pa 3) (d := 6) (f := 31) (ats := #[72]) (y := .tmp 5) (kd := .i64) (z := s.k) (k := [.code c18.pd.pd]) (rest := [4]) (cs := (((base 8).at b10 [.inRegion c10.pd.pd.pa.pa.po.toArray (4 :: Region.linearise.go .any c10.pd.pd.pa.pa.po.toArray fuel t (listed.setIfInBounds 4 true) []), .code c10.pd.pd.pa.pd, .code c10.pd.pd.pd]) :: ((base 12).at b9 [.inRegion c9.pd.pa.pa.pd.pd.pa.pa.pd.pa.pa.pa.pa.pa.po.toArray [2, 3], .code c9.pd.pa.pa.pd.pd.pa.pa.pd.pa.pa.pa.pa.pd, .code c9.pd.pa.pa.pd.pd.pa.pa.pd.pa.pa.pa.pd, .inLoop c9.pd.pa.pa.pd.pd.pa.pa.pd.pa.pa.pa, .inBlock 2, .code c9.pd.pa.pa.pd.pd.pa.pa.pd.pd, .inBlock 1, .code c9.pd.pa.pa.pd.pd.pd, .inLoop c9.pd.pa.pa, .inBlock 0]) :: ((baseD 18).at b15 [.inRegion c15.pd.po.toArray [1]]) :: [bot Try.prog])) (b := (base 15)) (by decide) hb18 (by kernel_rfl) (by kernel_rfl) (by decide) (by kernel_rfl) (by kernel_rfl) Try.func31 (by kernel_rfl) (by kernel_rfl) (by kernel_rfl) (by kernel_rfl) (by kernel_rfl) ((hs.ctr true).1)
  refine ⟨_, hst, fun hc => ?_, fun hc => ?_⟩
  · have TD : Tmd (RX L false) (DX L Shun false .sl) := tmd
    have T := TD.toTms
    have K : Ken Try.prog (RX L false) (DX L Shun false .sl) (Cw L D Shun w₀) w := ken H.good hK rfl
    refine Gz.row T K (by decide) hT1 [] [4] [] [2] (g' := [(2, .int .i64 s.k)]) (qs := []) (by kernel_rfl) (by kernel_rfl) (by simp) (fun a2 hT2 => ?_)
    refine Gz.rend T ?_
    refine Gz.retE T (by kernel_rfl) ?_
    refine Gz.backM (t := 2) (v := .int .i64 s.k) (d := 14) T hT2 rfl Try.func15 (by kernel_rfl) (by kernel_rfl) (by kernel_rfl) ?_
    refine Gz.moreE (sp0 := [4, 5, 11]) (i := 4) (l := c10.pd.pd.pa.pa.po) (n := 41) (g := [(5, .int .i64 i), (0, .pointer (some ⟨L.R, 0, none⟩)), (1, .int .i64 ((e.z i)))]) (vals := [.int .i64 i, .pointer (some ⟨L.R, 0, none⟩), .pointer (some ⟨L.R, 0, none⟩), .pointer (some ⟨L.R, 2, none⟩), undef, undef, .pointer (some ⟨L.R, 0, none⟩), .pointer (some ⟨L.R, 0, none⟩), .pointer (some ⟨L.R, 0, none⟩), .slice (some ⟨L.M, 0, none⟩) L.n L.n, .int .i64 L.n, undef]) (vals' := [.int .i64 i, .pointer (some ⟨L.R, 0, none⟩), .pointer (some ⟨L.R, 0, none⟩), .pointer (some ⟨L.R, 2, none⟩), .int .i64 s.k, .int .i64 (((i : Int) - (s.k : Int))), .pointer (some ⟨L.R, 0, none⟩), .pointer (some ⟨L.R, 0, none⟩), .pointer (some ⟨L.R, 0, none⟩), .slice (some ⟨L.M, 0, none⟩) L.n L.n, .int .i64 L.n, .bool false]) (H := [(5, .val (.int .i64 (((i : Int) - (s.k : Int))))), (9, .ld ⟨L.R, 0, none⟩ (.slice (some ⟨L.M, 0, none⟩) L.n L.n)), (11, .val (.bool false))]) (bf := befs c10.pd.pd.pa.pa.po) (rds := [[5], [0], [11], [12], [13], [10, 14], [0], [16], [17], [18], [19], [15, 20]]) (qs := [(some (.int .i64 (IntKind.i64.wrap (i - s.k))) : Option Value) = some (.int .i64 (((i : Int) - (s.k : Int)))), (some (.pointer (some ⟨L.R, 0, none⟩)) : Option Value) = some (.pointer (some ⟨L.R, 0, none⟩)), (Cw L D Shun w₀) ⟨L.R, 0, none⟩ (.slice (some ⟨L.M, 0, none⟩) L.n L.n), (some (.bool (decide (((i : Int) - (s.k : Int)) = L.n))) : Option Value) = some (.bool false)]) (ds := []) (u := .int .i64 s.k) [(4, .int .i64 s.k), (5, .int .i64 (((i : Int) - (s.k : Int)))), (11, .bool false)] 3700 TD K (by decide) (by kernel_rfl) (by kernel_rfl) (by kernel_rfl) (by kernel_rfl) (Rg.oc (n_sub (by have := H.Nb; omega) (by have := H.Nb; omega)) (Rg.oc rfl (Rg.oc H.hR (Rg.oc (n_room hc) Rg.on)))) (by kernel_rfl) hM hun hlf (o := opq c10.pd.pd.pa.pa 4) (by kernel_rfl) (by rw [show (opq c10.pd.pd.pa.pa 4).dst = some 14 by kernel_rfl]) (fun _ _ => by kernel_rfl) (by kernel_rfl) (by kernel_rfl) (by kernel_rfl) (fun listed a3 hall hJ => ?_)
    have hT3 := hJ.finE hall [5, 0, 1, 21] (g' := [(5, .int .i64 i), (0, .pointer (some ⟨L.R, 0, none⟩)), (1, .int .i64 ((e.z i))), (21, .bool false)]) (by kernel_rfl)
    refine Gz.rend T ?_
    refine Gz.condFE (q := .tmp 21) (y := c10.pd.pd.pa.pd.pa) (z := c10.pd.pd.pa.pd.pd) T (by kernel_rfl) hT3 (by kernel_rfl) ?_
    refine Gz.skipE T (by kernel_rfl) ?_
    refine Gz.seqE T (by kernel_rfl : c10.pd.pd.pd = .seq c10.pd.pd.pd.pa c10.pd.pd.pd.pd) ?_
    have hT4 := hT3.live [5, 0, 1] (g' := [(5, .int .i64 i), (0, .pointer (some ⟨L.R, 0, none⟩)), (1, .int .i64 ((e.z i)))]) (by kernel_rfl)
    refine Gz.drawnE (id := 4) 3400 (l := c10.pd.pd.pd.pa.po) (sp := [13]) (H := [(3, .ld ⟨L.R, 0, none⟩ (.slice (some ⟨L.M, 0, none⟩) L.n L.n)), (8, .ld ⟨L.R, 0, none⟩ (.slice (some ⟨L.M, 0, none⟩) L.n L.n)), (10, .val (.int .i64 (((i % L.n : Nat) : Int)))), (12, .val (.pointer (some ⟨L.M, i % L.n, none⟩)))]) (vals := [.pointer (some ⟨L.R, 0, none⟩), .pointer (some ⟨L.R, 0, none⟩), .pointer (some ⟨L.R, 0, none⟩), .slice (some ⟨L.M, 0, none⟩) L.n L.n, .int .i64 i, .pointer (some ⟨L.R, 0, none⟩), .pointer (some ⟨L.R, 0, none⟩), .pointer (some ⟨L.R, 0, none⟩), .slice (some ⟨L.M, 0, none⟩) L.n L.n, .int .i64 L.n, .int .i64 (((i % L.n : Nat) : Int)), .int .i64 ((e.z i)), .pointer (some ⟨L.M, i % L.n, none⟩), undef]) (rds := [[0], [22], [23], [24], [5], [0], [27], [28], [29], [30], [26, 31], [1], [25, 32], [34, 33]]) (bf := befs c10.pd.pd.pd.pa.po) (qs := [(some (.pointer (some ⟨L.R, 0, none⟩)) : Option Value) = some (.pointer (some ⟨L.R, 0, none⟩)), (Cw L D Shun w₀) ⟨L.R, 0, none⟩ (.slice (some ⟨L.M, 0, none⟩) L.n L.n), (some (.pointer (some ⟨L.R, 0, none⟩)) : Option Value) = some (.pointer (some ⟨L.R, 0, none⟩)), (Cw L D Shun w₀) ⟨L.R, 0, none⟩ (.slice (some ⟨L.M, 0, none⟩) L.n L.n), (if (L.n : Int) = 0 then none else some (.int .i64 (Int.tmod (i) (L.n))) : Option Value) = some (.int .i64 (((i % L.n : Nat) : Int))), (if 0 ≤ (((i % L.n : Nat) : Int) : Int) ∧ (((i % L.n : Nat) : Int) : Int) < ((L.n : Nat) : Int) then some (.pointer (some ⟨L.M, Int.toNat (((i % L.n : Nat) : Int)) + 0, none⟩)) else none : Option Value) = some (.pointer (some ⟨L.M, i % L.n, none⟩))]) TD (by kernel_rfl) mixed K (by decide) hT4 (by kernel_rfl) (by kernel_rfl) (by kernel_rfl) (by kernel_rfl) (Rg.oc rfl (Rg.oc H.hR (Rg.oc rfl (Rg.oc H.hR (Rg.oc (n_rem H.good.n) (Rg.oc (n_idx (off := 0) (Nat.mod_lt _ H.good.n)) Rg.on)))))) (by kernel_rfl) (by kernel_rfl) (fun j fuel t listed a5 hsp hlf hM hun => ?_) (fun listed a5 hall hJ hun => ?_)
    rotate_left
    · have h0 := hun 13 (by kernel_rfl)
      rw [hall 13 (by decide)] at h0
      cases h0
    obtain rfl : j = 13 := by simpa using hsp
    refine Goes.mono (n := 3400) ?_ (by omega)
    have hS5 := hM.sees (bf := befs c10.pd.pd.pd.pa.po) (by kernel_rfl) (o := opq c10.pd.pd.pd.pa 13) (by kernel_rfl) [33, 34] (g' := [(33, .int .i64 ((e.z i))), (34, .pointer (some ⟨L.M, i % L.n, none⟩))]) (by kernel_rfl)
    have h15BSl := hb15.live [] (g' := []) (by kernel_rfl)
    have h9BSl := hb9.live [1, 2, 3, 5, 6, 7, 8] (g' := [(1, .pointer (some ⟨e.bR, 0, none⟩)), (2, .pointer (some ⟨e.bF, 0, none⟩)), (3, .pointer (some ⟨e.bE, 0, none⟩)), (5, .int .i64 ((e.z i))), (6, .slice (some ⟨e.lb, e.lo, none⟩) D.N e.cap), (7, .int .i64 D.N), (8, .int .i64 i)]) (by kernel_rfl)
    exact Goes.stop fun w₁ h₁ => ⟨hK.rely h₁, b15, b9, a5, fuel, t, listed, h15BSl, h9BSl, hM, hun, hlf, rfl⟩
  · have TD : Tmd (RX L false) (DX L Shun false .rc) := tmd
    have T := TD.toTms
    have K : Ken Try.prog (RX L false) (DX L Shun false .rc) (Cw L D Shun w₀) w := ken H.good hK rfl
    refine Gz.row T K (by decide) hT1 [] [4] [] [2] (g' := [(2, .int .i64 s.k)]) (qs := []) (by kernel_rfl) (by kernel_rfl) (by simp) (fun a2 hT2 => ?_)
    refine Gz.rend T ?_
    refine Gz.retE T (by kernel_rfl) ?_
    refine Gz.backM (t := 2) (v := .int .i64 s.k) (d := 14) T hT2 rfl Try.func15 (by kernel_rfl) (by kernel_rfl) (by kernel_rfl) ?_
    refine Gz.moreE (sp0 := [4, 5, 11]) (i := 4) (l := c10.pd.pd.pa.pa.po) (n := 41) (g := [(5, .int .i64 i), (0, .pointer (some ⟨L.R, 0, none⟩)), (1, .int .i64 ((e.z i)))]) (vals := [.int .i64 i, .pointer (some ⟨L.R, 0, none⟩), .pointer (some ⟨L.R, 0, none⟩), .pointer (some ⟨L.R, 2, none⟩), undef, undef, .pointer (some ⟨L.R, 0, none⟩), .pointer (some ⟨L.R, 0, none⟩), .pointer (some ⟨L.R, 0, none⟩), .slice (some ⟨L.M, 0, none⟩) L.n L.n, .int .i64 L.n, undef]) (vals' := [.int .i64 i, .pointer (some ⟨L.R, 0, none⟩), .pointer (some ⟨L.R, 0, none⟩), .pointer (some ⟨L.R, 2, none⟩), .int .i64 s.k, .int .i64 (((i : Int) - (s.k : Int))), .pointer (some ⟨L.R, 0, none⟩), .pointer (some ⟨L.R, 0, none⟩), .pointer (some ⟨L.R, 0, none⟩), .slice (some ⟨L.M, 0, none⟩) L.n L.n, .int .i64 L.n, .bool true]) (H := [(5, .val (.int .i64 (((i : Int) - (s.k : Int))))), (9, .ld ⟨L.R, 0, none⟩ (.slice (some ⟨L.M, 0, none⟩) L.n L.n)), (11, .val (.bool true))]) (bf := befs c10.pd.pd.pa.pa.po) (rds := [[5], [0], [11], [12], [13], [10, 14], [0], [16], [17], [18], [19], [15, 20]]) (qs := [(some (.int .i64 (IntKind.i64.wrap (i - s.k))) : Option Value) = some (.int .i64 (((i : Int) - (s.k : Int)))), (some (.pointer (some ⟨L.R, 0, none⟩)) : Option Value) = some (.pointer (some ⟨L.R, 0, none⟩)), (Cw L D Shun w₀) ⟨L.R, 0, none⟩ (.slice (some ⟨L.M, 0, none⟩) L.n L.n), (some (.bool (decide (((i : Int) - (s.k : Int)) = L.n))) : Option Value) = some (.bool true)]) (ds := []) (u := .int .i64 s.k) [(4, .int .i64 s.k), (5, .int .i64 (((i : Int) - (s.k : Int)))), (11, .bool true)] 3700 TD K (by decide) (by kernel_rfl) (by kernel_rfl) (by kernel_rfl) (by kernel_rfl) (Rg.oc (n_sub (by have := H.Nb; omega) (by have := H.Nb; omega)) (Rg.oc rfl (Rg.oc H.hR (Rg.oc (n_full (by omega)) Rg.on)))) (by kernel_rfl) hM hun hlf (o := opq c10.pd.pd.pa.pa 4) (by kernel_rfl) (by rw [show (opq c10.pd.pd.pa.pa 4).dst = some 14 by kernel_rfl]) (fun _ _ => by kernel_rfl) (by kernel_rfl) (by kernel_rfl) (by kernel_rfl) (fun listed a3 hall hJ => ?_)
    have hT3 := hJ.finE hall [5, 0, 1, 21] (g' := [(5, .int .i64 i), (0, .pointer (some ⟨L.R, 0, none⟩)), (1, .int .i64 ((e.z i))), (21, .bool true)]) (by kernel_rfl)
    refine Gz.rend T ?_
    refine Gz.condTE (q := .tmp 21) (y := c10.pd.pd.pa.pd.pa) (z := c10.pd.pd.pa.pd.pd) T (by kernel_rfl) hT3 (by kernel_rfl) ?_
    refine Gz.seqE T (by kernel_rfl : c10.pd.pd.pa.pd.pa = .seq c10.pd.pd.pa.pd.pa.pa c10.pd.pd.pa.pd.pa.pd) ?_
    refine Gz.regionE (id := 3) (l := c10.pd.pd.pa.pd.pa.pa.po) (r := [0]) T (by kernel_rfl) (by kernel_rfl) ?_
    refine Gz.row T K (by decide) hT3 [] [0] [] [4] (g' := [(4, .bool false)]) (qs := []) (by kernel_rfl) (by kernel_rfl) (by simp) (fun a4 hT4 => ?_)
    refine Gz.rend T ?_
    refine Gz.retE T (by kernel_rfl) ?_
    refine Gz.back1 (t := 4) (v := .bool false) (d := 14) T hT4 hb9 rfl Try.func8 (by kernel_rfl) (by kernel_rfl) (by kernel_rfl) (by decide) (fun a5 hT5 => ?_)
    refine Gz.row T K (by decide) hT5 [] [3] [] [15, 1, 2, 3, 5, 6, 7, 8] (g' := [(15, .bool true), (1, .pointer (some ⟨e.bR, 0, none⟩)), (2, .pointer (some ⟨e.bF, 0, none⟩)), (3, .pointer (some ⟨e.bE, 0, none⟩)), (5, .int .i64 ((e.z i))), (6, .slice (some ⟨e.lb, e.lo, none⟩) D.N e.cap), (7, .int .i64 D.N), (8, .int .i64 i)]) (qs := []) (by kernel_rfl) (by kernel_rfl) (by simp) (fun a6 hT6 => ?_)
    refine Gz.rend T ?_
    refine Gz.condTE (q := .tmp 15) (y := c9.pd.pa.pa.pd.pd.pa.pa.pd.pa.pa.pa.pa.pd.pa) (z := c9.pd.pa.pa.pd.pd.pa.pa.pd.pa.pa.pa.pa.pd.pd) T (by kernel_rfl) hT6 (by kernel_rfl) ?_
    refine Gz.skipE T (by kernel_rfl) ?_
    refine Gz.blockE (id := 3) (y := c9.pd.pa.pa.pd.pd.pa.pa.pd.pa.pa.pa.pd.pa) T (by kernel_rfl) ?_
    refine Gz.regionE (id := 4) (l := c9.pd.pa.pa.pd.pd.pa.pa.pd.pa.pa.pa.pd.pa.po) (r := [0, 1]) T (by kernel_rfl) (by kernel_rfl) ?_
    refine Gz.load (o := opq c9.pd.pa.pa.pd.pd.pa.pa.pd.pa.pa.pa.pd.pa 0) (d := 16) (X := 41) (y := .tmp 2) (ad := ⟨e.bF, 0, none⟩) T K (by decide) hT6 (v := .chan (some L.F)) (by kernel_rfl) (by kernel_rfl) (by decide) (by kernel_rfl) (by kernel_rfl) (by kernel_rfl) (by kernel_rfl) (by kernel_rfl) H.cF (fun a7 hT7 => ?_)
    have h15BRc := hb15.live [] (g' := []) (by kernel_rfl)
    have h9BRc := hT7.live [1, 2, 3, 5, 6, 7, 8, 16] (g' := [(1, .pointer (some ⟨e.bR, 0, none⟩)), (2, .pointer (some ⟨e.bF, 0, none⟩)), (3, .pointer (some ⟨e.bE, 0, none⟩)), (5, .int .i64 ((e.z i))), (6, .slice (some ⟨e.lb, e.lo, none⟩) D.N e.cap), (7, .int .i64 D.N), (8, .int .i64 i), (16, .chan (some L.F))]) (by kernel_rfl)
    exact Goes.stop fun w₁ h₁ => ⟨hK.rely h₁, b15, a7, h15BRc, h9BRc, rfl⟩

end
end Go.Proofs.Ytdmiilgdkmbmeaa.Rg
namespace Go.Proofs.Ytdmiilgdkmbmeaa.Rg
open Go Go.Conc

def outs (D : Dat) (k : Nat) : List Value := (List.range k).map D.val
/-- k have come out; they stand behind this slice. -/
def OutAt (L : Lay) (D : Dat) (E : TypeId) (k : Nat) (oa : Option Addr) (oc : Nat) (w : World) : Prop := w.ownsRow L.low E 1 (.slice oa k oc) k (outs D k)
section
variable {P : Program} {L : Lay} {D : Dat} {Shun : Loc → Prop} {w₀ w w' : World} {E : TypeId} {k : Nat} {oa : Option Addr} {oc : Nat}
theorem outs_len (D : Dat) (k : Nat) : (outs D k).length = k := by simp [outs]
theorem outs_succ (D : Dat) (k : Nat) : outs D (k + 1) = outs D k ++ [D.val k] := by simp [outs, List.range_succ]
theorem row_rely {v : Value} {n : Nat} {xs : List Value} {base : Nat} (h : w.ownsRow base E 1 v n xs) (hb : ∀ b, base ≤ b → b < w.heap.size → w'.heap[b]? = w.heap[b]?) : w'.ownsRow base E 1 v n xs := by
  refine ⟨h.1, h.2.imp id ?_⟩
  rintro ⟨g, cap, cur, h1, h2, h3, h4⟩
  exact ⟨g, cap, cur, h1, h2, (hb g h2 (Array.getElem?_eq_some_iff.1 h3).1).trans h3, h4⟩
theorem OutAt.rely (h : OutAt L D E k oa oc w) (hr : RX L true w w') : OutAt L D E k oa oc w' := row_rely h fun b hb _ => (hr.mine rfl).2.1 b hb
theorem OutAt.turn (h : OutAt L D E k oa oc w) (hL : L.Good) (ht : Turn L w w') : OutAt L D E k oa oc w' := row_rely h fun b hb _ => ht.other b (by
  rintro (e | e | e | e | e)
  · have := hL.R; omega
  · have := hL.M; omega
  · have := hL.F; omega
  · have := hL.E; omega
  · have := hL.W; omega)
theorem OutAt.zero : OutAt L D E 0 none 0 w := World.ownsRow_nil _ _ _ _
theorem row_form {v : Value} {n : Nat} {xs : List Value} {base : Nat} (h : w.ownsRow base E 1 v n xs) : ∃ oa oc, v = .slice oa n oc := by
  rcases h.2 with ⟨rfl, rfl⟩ | ⟨g, cap, _, rfl, _⟩
  · exact ⟨none, 0, rfl⟩
  · exact ⟨_, _, rfl⟩
/-- What it lists of its own cells. -/
theorem evI_mine (hL : L.Good) (hsh : ∀ ad : Addr, L.low ≤ ad.block → ¬ Shun (.cell ad)) {e : Event} {ad : Addr} (he : e.loc = .cell ad) (hb : L.low ≤ ad.block) : EvI L Shun true e := by
  obtain ⟨loc, wr, sy⟩ := e
  simp only at he
  subst he
  have hcl : L.cl (.cell ad) = 2 := by
    have h1 := hL.M; have h2 := hL.W; have h3 := hL.R
    show (if ad.block = L.M then 3 else if ad.block = L.W then 1 else if ad = L.ctr true then 1 else if ad = L.ctr false then 1 else if L.low ≤ ad.block then 2 else 0) = 2
    rw [if_neg (by omega), if_neg (by omega), if_neg (fun e => by rw [e] at hb; exact absurd hb (by show ¬ L.low ≤ L.R; omega)), if_neg (fun e => by rw [e] at hb; exact absurd hb (by show ¬ L.low ≤ L.R; omega)), if_pos hb]
  refine ⟨fun b hb' _ => ?_, fun b hb' => ?_, by simp, by simp, by simp, fun y sync => ?_⟩
  · rw [ofEvent_cell] at hb'
    obtain rfl := Option.some.inj hb'
    have e1 : L.cl (Loc.cell ad) = 2 := hcl
    exact ⟨fun e => absurd e (hsh ad hb), fun e => (by rw [show L.cl (Touch.loc _) = 2 from e1] at e; cases e), fun e => (by rw [show L.cl (Touch.loc _) = 2 from e1] at e; cases e), fun _ => rfl⟩
  · rw [ofEvent_cell] at hb'
    obtain rfl := Option.some.inj hb'
    rw [show L.cl (Touch.loc _) = 2 from hcl]
    decide
  · rw [ofEvent_cell]
    intro e
    have h3 := hL.R
    simp only [MemAct.access.injEq, Event.mk.injEq, Loc.cell.injEq] at e
    rw [e.1] at hb
    exact absurd hb (by show ¬ L.low ≤ L.R; omega)
theorem evI_mark {m : Mark} (h : m = .noRoom) : EvI L Shun true ⟨.mark m, false, true⟩ := by
  subst h
  exact ⟨fun b hb => by simp [MemAct.ofEvent, MemAct.touch?] at hb, fun b hb => by simp [MemAct.ofEvent, MemAct.touch?] at hb, by simp, by simp, by simp, fun y sync => by simp [MemAct.ofEvent]⟩
/-- The said write of the semaphore's word. -/
theorem dx_said (hL : L.Good) (hw : L.low ≤ w.heap.size) {p : Pl} (hp : p.qu = false) : DX L Shun true p w w #[mkE (.write L.sem)] := by
  have hcl : L.cl (.cell L.sem) = 1 := by
    show (if L.W = L.M then 3 else if L.W = L.W then 1 else _) = 1
    rw [if_neg hL.MW.symm, if_pos rfl]
  refine dx_same (fun e he => ?_) (fun e => by rw [hp] at e; cases e)
  rw [show e = mkE (.write L.sem) from by simpa using he]
  refine ⟨⟨fun b hb _ => ?_, fun b hb => ?_, by simp [mkE], by simp [mkE], by simp [mkE], fun y sync => by simp [mkE, MemAct.ofEvent]⟩, ?_⟩
  · simp only [mkE, MemAct.ofEvent, MemAct.touch?, Option.some.injEq] at hb
    subst hb
    exact ⟨fun _ => by simp, fun e => absurd (hcl.symm.trans e) (by decide), fun _ => ⟨by simp, fun _ => rfl⟩, fun e => absurd (hcl.symm.trans e) (by decide)⟩
  · simp only [mkE, MemAct.ofEvent, MemAct.touch?, Option.some.injEq] at hb
    subst hb
    rw [show L.cl (Touch.loc _) = 1 from hcl]
    decide
  · show L.W < _
    have := hL.W; omega
theorem KW.grown {i : Nat} {row : Option Nat} (hL : L.Good) (h : KW L D w₀ true i w) (hg : w.grownBy w' row) (hrow : ∀ b, row = some b → L.low ≤ b) : KW L D w₀ true i w' := by
  have hb : ∀ b, b < L.low → w'.heap[b]? = w.heap[b]? := fun b hb => hg.block b (Nat.lt_of_lt_of_le hb h.size) fun e => by have := hrow b e.symm; omega
  refine ⟨fun b h1 h2 => (hb b h1).trans (h.low b h1 h2), by rw [hb _ hL.R]; exact h.ring, Nat.le_trans h.size hg.size, by rw [hb _ hL.W]; exact h.grp⟩
theorem dx_grown {p : Pl} {row : Option Nat} {es : Array Event} (hlow : L.low ≤ w.heap.size) (hg : w.grownBy w' row) (hrow : ∀ b, row = some b → L.low ≤ b) (hp : p.qu = false) (he : ∀ e ∈ es, EvI L Shun true e ∧ (MemAct.ofEvent e).low w'.heap.size) : DX L Shun true p w w' es :=
  ⟨fun b hb => hg.block b (Nat.lt_of_lt_of_le hb hlow) fun e => (by have := hrow b e.symm; omega), hg.size, hg.os, hg.output, hg.tape, (fun e => by cases e), he, (fun e => by rw [hp] at e; cases e)⟩

section
variable {Stop : Goroutine → World → Prop} {b : Frame} {a : Act} {kk : List Item} {cs : List Frame} {m n : Nat} {g : Gm} {ds : List Deferred} {ops : Array Oper} {rest : List Nat} {p : Pl} {i : Nat}
/-- 'append(out, x)'. -/
theorem Gz.push (T : Tms (RX L true) (DX L Shun true p)) (hL : L.Good) (hsh : ∀ ad : Addr, L.low ≤ ad.block → ¬ Shun (.cell ad)) (hp : p.qu = false) (hK : KW L D w₀ true i w) (hO : OutAt L D E k oa oc w) (hk : b.kind ≠ .early) (hT : Tm a n g ds)
    {X ty : TypeId} {ti : TypeInfo} {i1 i2 d1 d2 : Nat} {o1 o2 : Oper} {y y1 y2 : Operand} {z : Int} (hX : P.underlying X = some (.slice E)) (hi : P.info? E = some ti) (hi1 : ti.size = 1) (hi2 : ti.bytes = 8) (hi3 : ti.zero = some (.int .i64 0)) (hN : (k + 1) * 8 ≤ 140737488355328)
    (ho1 : ops[i1]? = some o1) (hd1 : o1.dst = some d1) (hlt1 : Nat.blt d1 n = true) (hg1 : o1.guard = none) (hop1 : o1.op = .buildSlice X 1 #[(0, y)]) (hy : evv g y = some (.int .i64 z)) (hz : D.val k = .int .i64 z)
    (ho2 : ops[i2]? = some o2) (hd2 : o2.dst = some d2) (hlt2 : Nat.blt d2 n = true) (hg2 : o2.guard = none) (hop2 : o2.op = .call { callee := .builtin .append, args := #[y1, y2], argTypes := #[X, X] }) (hy1 : evv g y1 = some (.slice oa k oc)) (hy2 : y2 = .tmp d1) (hne : ∀ t, y1 = .tmp t → t ≠ d1)
    (h : ∀ a' w' oa' oc', Tm a' n ((d2, .slice oa' (k + 1) oc') :: g) ds → KW L D w₀ true i w' → OutAt L D E (k + 1) oa' oc' w' → Goes P true (RX L true) (DX L Shun true p) Stop m (G (b.at a' (.inRegion ops rest :: kk)) cs) w') :
    (hgd1 : ∀ v, lkv d1 g = some v → False) → Goes P true (RX L true) (DX L Shun true p) Stop (m + 2) (G (b.at a (.inRegion ops (i1 :: i2 :: rest) :: kk)) cs) w := by
  intro hgd1
  refine Goes.step rfl fun w₁ h₁ => ?_
  have hK1 := hK.rely h₁
  have hO1 := hO.rely h₁
  -- the row of one
  have ey := evv_ok hT hy
  have hr1 : (execOp a.eval o1).run P w₁ = .ok (.value (.slice (some ⟨w₁.heap.size, 0, none⟩) 1 1)) (w₁.alloc (.cells #[.int .i64 z] E)) := by
    have := run_buildSlice (P := P) w₁ X E 1 #[(0, .int .i64 z)] #[.int .i64 z] ti (.int .i64 0) hX hi hi3 (by rw [hi1]; decide) (by rw [hi1]; decide) (by rw [hi1]; simp [Instr.fill, Value.cells, show Array.range 1 = #[0] by decide])
    simp [execOp, hop1, ey, this]
  have he1 : (execOp a.eval o1).events P w₁ #[] = #[] := by
    simp [execOp, hop1, ey, Instr.buildSlice, run_underlying hX, run_size hi, hi1, run_zero hi hi3, ev_zero hi hi3, Instr.fill, newRow, Value.cells]
  have hl1 : Go.Conc.listed P b.fn a o1 w₁ = #[] := by unfold Go.Conc.listed; rw [he1]; exact seen_none P _
  have hgA : w₁.grownBy (w₁.alloc (.cells #[.int .i64 z] E)) none := ⟨rfl, rfl, rfl, by show _ ≤ (w₁.heap.push _).size; simp, fun k' hk' _ => heap_alloc_old w₁ _ hk'⟩
  rw [stepG_value ho1 (by simp [Region.wanted, hg1]) hk hr1, hl1, hd1]
  refine ⟨dx_grown hK1.size hgA (fun _ e => by cases e) hp (fun e he => by simp at he), ?_⟩
  -- the append
  refine Goes.step rfl fun w₂ h₂ => ?_
  have hK2 := (hK1.grown hL hgA (fun _ e => by cases e)).rely h₂
  have hO2 : OutAt L D E k oa oc w₂ := OutAt.rely (row_rely hO1 fun b' _ hlt => heap_alloc_old w₁ _ hlt) h₂
  have hT2 := hT.put d1 (by simpa [Nat.blt_eq] using hlt1) (.slice (some ⟨w₁.heap.size, 0, none⟩) 1 1)
  have hnew : w₂.heap[w₁.heap.size]? = some (.cells #[.int .i64 z] E) := by rw [(h₂.mine rfl).2.1 _ hK1.size]; exact heap_alloc_new w₁ _
  have ex : (a.put (some d1) (.slice (some ⟨w₁.heap.size, 0, none⟩) 1 1)).eval y2 = .slice (some ⟨w₁.heap.size, 0, none⟩) 1 1 := by
    subst hy2
    exact hT2.val d1 _ (by simp [lkv])
  have es : (a.put (some d1) (.slice (some ⟨w₁.heap.size, 0, none⟩) 1 1)).eval y1 = .slice oa k oc := by
    refine evv_ok hT2 ?_
    cases y1 with
    | tmp t =>
      have : t ≠ d1 := hne t rfl
      simp only [evv, lkv] at hy1 ⊢
      rw [if_neg (by simpa using this)]
      exact hy1
    | const v => exact hy1
    | global q => exact hy1
    | func q => exact hy1
  have hnews : ∀ j u, [Value.int .i64 z][j]? = some u → w₂.cell? ((⟨w₁.heap.size, 0, none⟩ : Addr).add j) = some u := by
    intro j u hj
    match j, hj with
    | 0, hj =>
      simp at hj
      subst hj
      simp [World.cell?, Addr.add, hnew]
    | j + 1, hj => simp at hj
  obtain ⟨v', w', hrun, hown, hgr, _⟩ := run_append_own (P := P) (w := w₂) L.low X o2.type E ti (.int .i64 0) 1 8 hX hi hi3 hi1 hi2 rfl (by decide) _ k (outs D k) hO2 ⟨w₁.heap.size, 0, none⟩ 1 1 [.int .i64 z] (by simp) hnews (by simp [Value.oneCell']) (by simp only [maxLen]; omega) hN hK2.size
  obtain ⟨oa', oc', rfl⟩ := row_form hown
  have hev := events_append_where (P := P) w₂ L.low X o2.type E ti (.int .i64 0) 1 8 hX hi hi3 hi1 hi2 _ k (outs D k) hO2 ⟨w₁.heap.size, 0, none⟩ 1 1 [.int .i64 z] (by simp) hnews (by simp [Value.oneCell']) (by simp only [maxLen]; omega) hN
  have hrow : ∀ b', (Value.slice oa k oc).ownBlock = some b' → L.low ≤ b' := fun b' hb' => (World.ownsRow.lt hO2 b' hb').1
  have he2 : (execOp (a.put (some d1) (.slice (some ⟨w₁.heap.size, 0, none⟩) 1 1)).eval o2).events P w₂ #[] = _ := events_append_op y1 y2 X hop2 es ex #[]
  have hr2 : (execOp (a.put (some d1) (.slice (some ⟨w₁.heap.size, 0, none⟩) 1 1)).eval o2).run P w₂ = .ok (.value (.slice oa' (k + 1) oc')) w' := by
    unfold execOp
    simp only [hop2, resolve, invoke, builtin, Sem.run_bind, Sem.run_pure, Result.andThen_ok, List.map_toArray, List.map_cons, List.map_nil, es, ex, hrun]
  rw [stepG_value ho2 (by simp [Region.wanted, hg2]) hk hr2, hd2]
  refine ⟨dx_grown hK2.size hgr hrow hp (fun e he => ?_), ?_⟩
  · have hm := mem_listed he
    rw [he2] at hm
    have hlow : ∀ ad : Addr, e.loc = .cell ad → ad.block < w'.heap.size → (MemAct.ofEvent e).low w'.heap.size := fun ad h1 h2 => by
      obtain ⟨loc, wr, sy⟩ := e
      simp only at h1
      subst h1
      rw [ofEvent_cell]
      exact h2
    rcases hev e hm with ⟨ad, h1, h2⟩ | ⟨mk, h1, h2⟩
    · have hb : L.low ≤ ad.block ∧ ad.block < w'.heap.size := by
        rcases h2 with ⟨_, h3⟩ | h3
        · rw [h3]
          exact ⟨hK1.size, Nat.lt_of_lt_of_le (Array.getElem?_eq_some_iff.1 hnew).1 hgr.size⟩
        · have h4 := World.ownsRow.lt hO2 ad.block h3.symm
          exact ⟨h4.1, Nat.lt_of_lt_of_le h4.2 hgr.size⟩
      exact ⟨evI_mine hL hsh h1 hb.1, hlow ad h1 hb.2⟩
    · subst h1
      have h3 : mk = .noRoom := h2
      exact ⟨evI_mark h3, by subst h3; trivial⟩
  · have hd1' := hT2.put d2 (by simpa [Nat.blt_eq] using hlt2) (.slice oa' (k + 1) oc')
    refine h _ w' oa' oc' (hd1'.less fun i v hv => ?_) (hK2.grown hL hgr hrow) (by rw [OutAt, outs_succ, hz]; exact hown)
    simp only [lkv] at hv ⊢
    split
    · rename_i c; rw [if_pos c] at hv; exact hv
    · rename_i c
      rw [if_neg c] at hv
      rw [if_neg (fun e => by rw [Nat.eq_of_beq_eq_true e] at hv; exact hgd1 v hv)]
      exact hv
end
end
end Go.Proofs.Ytdmiilgdkmbmeaa.Rg
