/-
  THE VALUE MACHINE (F): lengths, slices, places, loads. No program in sight.
-/
import Derived.Test.YtgkahjaoajjgcaaPmE
import Derived.Laws.Cells
namespace Go.Proofs.Ytgkahjaoajjgcaa.Pm
open Go

theorem run_size {P : Program} {w : World} {e : TypeId} {i : TypeInfo} (h : P.info? e = some i) : (sizeOf e).run P w = .ok i.size w := by
  simp [sizeOf, typeInfo, h]
theorem cellsOf_info {P : Program} {e : TypeId} {i : TypeInfo} (h : P.info? e = some i) : P.cellsOf e = i.size := by simp [Program.cellsOf, h]

def aLen (u : Option TypeDesc) (x : Operand) : Plan := opd x fun p => match u, p with
  | some .string, .av (.string s) => .done (.av (.int .i64 s.size)) []
  | some (.slice _), .ssl _ _ n => .done (.av (.int .i64 n)) []
  | some (.slice _), .osl _ _ n => .done (.av (.int .i64 n)) []
  | some (.slice _), .av (.slice _ n _) => .done (.av (.int .i64 n)) []
  | some (.array n _), _ => .done (.av (.int .i64 n)) []
  | _, _ => .fail
theorem ssl_len {P : Program} {c : Cx} {v : Value} {cs : List PV} {off n : Nat} (h : Rep P c (.ssl cs off n) v) : ∃ a cap, v = .slice a n cap := by
  rcases rep_ssl h with ⟨a, cap, rfl, rfl⟩ | ⟨b, a, cap, vf, rfl, _⟩
  · exact ⟨_, _, rfl⟩
  · exact ⟨_, _, rfl⟩
theorem osl_len {P : Program} {c : Cx} {v : Value} {id off n : Nat} (h : Rep P c (.osl id off n) v) : ∃ a cap, v = .slice a n cap := by
  obtain ⟨ob, T, _, h⟩ := rep_osl h
  rcases h with ⟨a, rfl, rfl⟩ | ⟨b, cap, cs, _, rfl, _⟩
  · exact ⟨_, _, rfl⟩
  · exact ⟨_, _, rfl⟩
theorem aLen_ok {E : Env} {o : Oper} {id : Nat} {x : Operand} {T : TypeId} {ts : Array TypeId} (ho : o.op = .call { callee := .builtin .len, args := #[x], argTypes := ts }) (ht : ts[0]? = some T) (hd : ∀ x, o.dst = some x → x < E.n) : ActOk E o id (aLen (E.P.underlying T) x) := by
  intro g p wb h nx c a K Q hn hi hK
  obtain ⟨q1, hq1, h1⟩ := Res.opd hi h
  clear h
  split at h1
  · rename_i hu
    obtain ⟨rfl, rfl⟩ := Res.done h1
    exact pure_step hd hi hK (.sh (.av _)) (by simp [execOp, ho, resolve, invoke, builtin, rep_av hq1, Builtin.len_, ht, run_underlying hu, goInt])
  · rename_i hu
    obtain ⟨rfl, rfl⟩ := Res.done h1
    obtain ⟨a', cap, hv⟩ := ssl_len hq1
    exact pure_step hd hi hK (.sh (.av _)) (by simp [execOp, ho, resolve, invoke, builtin, hv, Builtin.len_, ht, run_underlying hu, goInt])
  · rename_i hu
    obtain ⟨rfl, rfl⟩ := Res.done h1
    obtain ⟨a', cap, hv⟩ := osl_len hq1
    exact pure_step hd hi hK (.sh (.av _)) (by simp [execOp, ho, resolve, invoke, builtin, hv, Builtin.len_, ht, run_underlying hu, goInt])
  · rename_i hu
    obtain ⟨rfl, rfl⟩ := Res.done h1
    exact pure_step hd hi hK (.sh (.av _)) (by simp [execOp, ho, resolve, invoke, builtin, rep_av hq1, Builtin.len_, ht, run_underlying hu, goInt])
  · rename_i hu
    obtain ⟨rfl, rfl⟩ := Res.done h1
    exact pure_step hd hi hK (.sh (.av _)) (by simp [execOp, ho, resolve, invoke, builtin, Builtin.len_, ht, run_underlying hu, goInt])
  · exact (Res.fail h1).elim

/-- An operand that may be missing: a number. -/
def opi (x : Option Operand) (d : Int) (k : Int → Plan) : Plan := match x with
  | none => k d
  | some x => opd x fun p => match p with | .av (.int _ n) => k n | _ => .fail
theorem Res.opi {E : Env} {nx : Nat → Prop} {c : Cx} {g : St} {a : Act} (hi : Inv E nx c g a) {x : Option Operand} {d : Int} {k : Int → Plan} {p : PV} {wb : L} (h : Res g (opi x d k) p wb) :
    ∃ n, Res g (k n) p wb ∧ (x = none ∧ n = d ∨ ∃ y kd, x = some y ∧ a.eval y = .int kd n) := by
  cases x with
  | none => exact ⟨d, h, .inl ⟨rfl, rfl⟩⟩
  | some y =>
    obtain ⟨q, hq, h1⟩ := Res.opd hi h
    split at h1
    · exact ⟨_, h1, .inr ⟨y, _, rfl, rep_av hq⟩⟩
    · exact (Res.fail h1).elim
/-- A place, said anew by the answer. -/
def offP (an : Ans) (raw : Nat) (k : Nat → Plan) : Plan := match an with
  | .nat e => .ob (raw = e) (k e)
  | _ => k raw
theorem offP_ok {an : Ans} {raw : Nat} {k : Nat → Plan} {g : St} {p : PV} {wb : L} (h : Res g (offP an raw k) p wb) : Res g (k raw) p wb := by
  unfold offP at h
  split at h
  · obtain ⟨rfl, h1⟩ := Res.ob h
    exact h1
  · exact h
def offP2 (an : Ans) (o n : Nat) (k : Nat → Nat → Plan) : Plan := match an with
  | .nat2 e f => .ob (o = e ∧ n = f) (k e f)
  | _ => k o n
theorem offP2_ok {an : Ans} {o n : Nat} {k : Nat → Nat → Plan} {g : St} {p : PV} {wb : L} (h : Res g (offP2 an o n k) p wb) : Res g (k o n) p wb := by
  unfold offP2 at h
  split at h
  · obtain ⟨⟨rfl, rfl⟩, h1⟩ := Res.ob h
    exact h1
  · exact h
def cut (an : Ans) (off sz : Nat) (l h m len : Int) (k : Nat → Nat → Plan) : Plan := .ob (0 ≤ l ∧ l ≤ h ∧ h ≤ m ∧ m ≤ len) (offP2 an (off + l.toNat * sz) (h.toNat - l.toNat) k)
def cutP (an : Ans) (lo hi mx : Option Operand) (off sz n : Nat) (mk : Nat → Nat → PV) : Plan := opi lo 0 fun l => opi hi n fun h => match mx with
  | none => cut an off sz l h h n fun o k => .done (mk o k) []
  | some m => opi (some m) 0 fun m => match hi with | some _ => cut an off sz l h m n fun o k => .done (mk o k) [] | none => .fail
def aSlice (P : Program) (T : TypeId) (x : Operand) (lo hi mx : Option Operand) (an : Ans) : Plan := opd x fun p => match P.underlying T, p with
  | some .string, .av (.string s) => match mx with
    | none => opi lo 0 fun l => opi hi s.size fun h => .ob (0 ≤ l ∧ l ≤ h ∧ h ≤ s.size) (.done (.av (.string (s.extract l.toNat h.toNat))) [])
    | some _ => .fail
  | some (.slice e), .ssl cs off n => match P.info? e with
    | some i => cutP an lo hi mx off i.size n fun o k => .ssl cs o k
    | none => .fail
  | some (.slice e), .osl id off n => match P.info? e with
    | some i => .look (kb id) fun v => match v with
      | .blk T' _ => match Nat.beq T' e with | true => cutP an lo hi mx off i.size n fun o k => .osl id o k | false => .fail
      | .pv _ => .fail
    | none => .fail
  | _, _ => .fail
theorem addr_add (b o n : Nat) : (⟨b, o, none⟩ : Addr).add n = ⟨b, o + n, none⟩ := by
  unfold Addr.add
  by_cases h : n = 0
  · subst h; simp
  · simp [h]
theorem run_bounds {P : Program} {w : World} {lo hi mx : Option Value} {len cap : Nat} {l h m : Int} (hl : lo = none ∧ l = 0 ∨ ∃ kd, lo = some (.int kd l)) (hh : (hi = none ∧ mx = none ∧ h = len) ∨ ∃ kd, hi = some (.int kd h))
    (hm : (mx = none) ∨ ∃ kd, mx = some (.int kd m)) (hc : len ≤ cap) (h0 : 0 ≤ l) (h1 : l ≤ h) (h2 : h ≤ m) (h3 : m ≤ len) (s : Bool) :
    (Instr.sliceBounds s len cap lo hi mx).run P w = .ok (l.toNat, h.toNat, if mx = none then cap else m.toNat) w := by
  have e1 : h.toNat ≤ m.toNat := by omega
  have hb : ∀ (kd : IntKind) (n : Int) (y : Nat) (cd : BoundsCode), 0 ≤ n → n ≤ y → (Instr.sliceBound (.int kd n) y cd).run P w = .ok n.toNat w := fun kd n y cd hn hy => by
    simp [Instr.sliceBound, asIntOf, hn, hy]
  rcases hm with rfl | ⟨km, rfl⟩ <;> rcases hl with ⟨rfl, rfl⟩ | ⟨kl, rfl⟩ <;> rcases hh with ⟨rfl, hx, rfl⟩ | ⟨kh, rfl⟩
  · simp [Instr.sliceBounds]
  · simp [Instr.sliceBounds, hb kh h cap _ (by omega) (by omega)]
  · simp [Instr.sliceBounds, hb kl l len _ (by omega) (by omega)]
  · simp [Instr.sliceBounds, hb kh h cap _ (by omega) (by omega), hb kl l h.toNat _ (by omega) (by omega)]
  · cases hx
  · simp [Instr.sliceBounds, hb km m cap _ (by omega) (by omega), hb kh h m.toNat _ (by omega) (by omega)]
  · cases hx
  · simp [Instr.sliceBounds, hb km m cap _ (by omega) (by omega), hb kh h m.toNat _ (by omega) (by omega), hb kl l h.toNat _ (by omega) (by omega)]
theorem slice_ok {E : Env} {o : Oper} {id : Nat} {T : TypeId} {x : Operand} {lo hi mx : Option Operand} (ho : o.op = .slice T x lo hi mx) (hd : ∀ x, o.dst = some x → x < E.n) {e : TypeId} {i : TypeInfo} (hu : E.P.underlying T = some (.slice e)) (hin : E.P.info? e = some i)
    {nx : Nat → Prop} {c : Cx} {g : St} {a : Act} {an : Ans} {K : Act → World → Prop} {Q : Exit → Act → World → Prop} (hI : Inv E nx c g a) {mk : Nat → Nat → PV} {off n : Nat} {p : PV} {wb : L}
    (h : Res g (cutP an lo hi mx off i.size n mk) p wb)
    (hv : ∃ (cap : Nat) (ad : Option Addr), a.eval x = .slice ad n cap ∧ n ≤ cap ∧ (∀ l' h' m' : Nat, l' ≤ h' → h' ≤ m' → h' ≤ n → m' ≤ cap → Rep E.P c (mk (off + l' * i.size) (h' - l')) (.slice (if m' = l' then ad else ad.map (·.add (l' * i.size))) (h' - l') (m' - l'))))
    (hK : ∀ c' a', Inv E (fun j => nx j ∨ (id ≤ j ∧ j < id + 8)) c' (over (wd o.dst p) (over wb g)) a' → K a' c'.w) : o.wp E.P a c.w K Q := by
  obtain ⟨cap, ad, hx, hc, hr⟩ := hv
  unfold cutP at h
  obtain ⟨l, h1, hl⟩ := Res.opi hI h
  obtain ⟨hh, h2, hhi⟩ := Res.opi hI h1
  clear h h1
  have hl' : lo.map a.eval = none ∧ l = 0 ∨ ∃ kd, lo.map a.eval = some (.int kd l) := by
    rcases hl with ⟨rfl, rfl⟩ | ⟨y, kd, rfl, h5⟩
    · exact .inl ⟨rfl, rfl⟩
    · exact .inr ⟨kd, by simp [h5]⟩
  cases mx with
  | none =>
    obtain ⟨⟨h3, h4, h5, h6⟩, h7⟩ := Res.ob h2
    obtain ⟨rfl, rfl⟩ := Res.done (offP2_ok h7)
    have hb := run_bounds (P := E.P) (w := c.w) (mx := none) (len := n) (cap := cap) (m := hh) (s := true) (hi := hi.map a.eval) hl' (by
      rcases hhi with ⟨rfl, rfl⟩ | ⟨y, kd, rfl, h5⟩
      · exact .inl ⟨rfl, rfl, rfl⟩
      · exact .inr ⟨kd, by simp [h5]⟩) (.inl rfl) hc h3 h4 h5 h6
    refine pure_step hd hI hK (hr l.toNat hh.toNat cap (by omega) (by omega) (by omega) (by omega)) ?_
    simp [execOp, ho, Instr.sliceAt, Instr.slice, run_underlying hu, hx, hb, run_size hin]
  | some m =>
    obtain ⟨mv, h8, hm⟩ := Res.opi hI h2
    rcases hm with ⟨h9, _⟩ | ⟨y, km, h9, h10⟩
    · cases h9
    cases h9
    cases hi with
    | none => exact (Res.fail h8).elim
    | some y2 =>
      obtain ⟨⟨h3, h4, h5, h6⟩, h7⟩ := Res.ob h8
      obtain ⟨rfl, rfl⟩ := Res.done (offP2_ok h7)
      have hb := run_bounds (P := E.P) (w := c.w) (mx := some (a.eval m)) (len := n) (cap := cap) (m := mv) (s := true) (hi := some (a.eval y2)) hl' (by
        rcases hhi with ⟨h5, _⟩ | ⟨y, kd, h5, h6⟩
        · cases h5
        · cases h5; exact .inr ⟨kd, by rw [h6]⟩) (.inr ⟨km, by rw [h10]⟩) hc h3 h4 h5 h6
      refine pure_step hd hI hK (hr l.toNat hh.toNat mv.toNat (by omega) (by omega) (by omega) (by omega)) ?_
      simp [execOp, ho, Instr.sliceAt, Instr.slice, run_underlying hu, hx, hb, run_size hin]
theorem aSlice_ok {E : Env} {o : Oper} {id : Nat} {T : TypeId} {x : Operand} {lo hi mx : Option Operand} {an : Ans} (ho : o.op = .slice T x lo hi mx) (hd : ∀ x, o.dst = some x → x < E.n) : ActOk E o id (aSlice E.P T x lo hi mx an) := by
  intro g p wb h nx c a K Q hn hI hK
  obtain ⟨q, hq, h1⟩ := Res.opd hI h
  clear h
  split at h1
  · rename_i s hu
    cases mx with
    | some _ => exact (Res.fail h1).elim
    | none =>
      obtain ⟨l, h2, hl⟩ := Res.opi hI h1
      obtain ⟨hh, h3, hhi⟩ := Res.opi hI h2
      obtain ⟨⟨h4, h5, h6⟩, h7⟩ := Res.ob h3
      obtain ⟨rfl, rfl⟩ := Res.done h7
      have hl' : lo.map a.eval = none ∧ l = 0 ∨ ∃ kd, lo.map a.eval = some (.int kd l) := by
        rcases hl with ⟨rfl, rfl⟩ | ⟨y, kd, rfl, h5⟩
        · exact .inl ⟨rfl, rfl⟩
        · exact .inr ⟨kd, by simp [h5]⟩
      have hb := run_bounds (P := E.P) (w := c.w) (mx := none) (len := s.size) (cap := s.size) (m := hh) (s := false) (hi := hi.map a.eval) hl' (by
        rcases hhi with ⟨rfl, rfl⟩ | ⟨y, kd, rfl, h5⟩
        · exact .inl ⟨rfl, rfl, rfl⟩
        · exact .inr ⟨kd, by simp [h5]⟩) (.inl rfl) (Nat.le_refl _) h4 h5 (Int.le_refl _) h6
      refine pure_step hd hI hK (.sh (.av _)) ?_
      simp [execOp, ho, Instr.sliceAt, Instr.slice, run_underlying hu, rep_av hq, hb]
  · rename_i e cs off n hu
    split at h1
    · rename_i i hin
      refine slice_ok (mk := fun o k => .ssl cs o k) ho hd hu hin hI h1 ?_ hK
      rcases rep_ssl hq with ⟨ad, cap, hv, rfl⟩ | ⟨b, a', cap, vf, hv, hS, hc, hr, hone, hl⟩
      · refine ⟨cap, ad, hv, by omega, fun l' h' m' h1 h2 h3 h4 => ?_⟩
        have e1 : h' - l' = 0 := by omega
        rw [e1]
        exact .sh .emp
      · refine ⟨cap, _, hv, hl, fun l' h' m' h1 h2 h3 h4 => ?_⟩
        by_cases e1 : m' = l'
        · have e2 : h' - l' = 0 := by omega
          rw [e2]
          exact .sh .emp
        · rw [if_neg e1]
          simp only [Option.map_some, addr_add, Nat.add_assoc]
          exact .sh (.ssl hS hc hr hone (by omega))
    · exact (Res.fail h1).elim
  · rename_i e id' off n hu
    split at h1
    · rename_i i hin
      obtain ⟨bv, hg, h2⟩ := Res.look h1
      cases bv with
      | pv _ => exact (Res.fail h2).elim
      | blk T' cells =>
        simp only at h2
        split at h2
        · rename_i hT
          have hT := Nat.eq_of_beq_eq_true hT
          subst hT
          refine slice_ok (mk := fun o k => .osl id' o k) ho hd hu hin hI h2 ?_ hK
          obtain ⟨ob, T2, hown, hv⟩ := rep_osl hq
          obtain ⟨ob', hown', _⟩ := hI.blk id' T' cells hg
          rw [hown] at hown'
          cases hown'
          rcases hv with ⟨ad, hv, rfl⟩ | ⟨b, cap, cs, hob, hv, hb, hl, hsz⟩
          · refine ⟨0, ad, hv, by omega, fun l' h' m' h1 h2 h3 h4 => ?_⟩
            have e1 : h' - l' = 0 := by omega
            have e2 : m' - l' = 0 := by omega
            rw [e1, e2]
            exact .osl hown (.inl ⟨_, rfl, rfl⟩)
          · refine ⟨cap, _, hv, hl, fun l' h' m' h1 h2 h3 h4 => ?_⟩
            by_cases e1 : m' = l'
            · have e2 : h' - l' = 0 := by omega
              have e3 : m' - l' = 0 := by omega
              rw [e2, e3]
              exact .osl hown (.inl ⟨_, rfl, rfl⟩)
            · rw [if_neg e1]
              simp only [Option.map_some, addr_add]
              refine .osl hown (.inr ⟨b, m' - l', cs, hob, rfl, hb, by omega, ?_⟩)
              rw [cellsOf_info hin] at hsz ⊢
              have e2 : m' * i.size ≤ cap * i.size := Nat.mul_le_mul_right _ h4
              have e3 : l' * i.size + (m' - l') * i.size = m' * i.size := by rw [← Nat.add_mul]; congr 1; omega
              omega
        · exact (Res.fail h2).elim
    · exact (Res.fail h1).elim
  · exact (Res.fail h1).elim

/-! ### places -/
def aIndexAddr (P : Program) (T : TypeId) (x ix : Operand) (an : Ans) : Plan := opd x fun p => opd ix fun q => match q, P.underlying T, p with
  | .av (.int _ i), some (.slice e), .ssl cs off n => match P.info? e with
    | some ti => .ob (0 ≤ i ∧ i < n) (offP an (off + i.toNat * ti.size) fun e => .done (.spt cs e) [])
    | none => .fail
  | .av (.int _ i), some (.slice e), .osl id off n => match P.info? e with
    | some ti => .ob (0 ≤ i ∧ i < n) (offP an (off + i.toNat * ti.size) fun e => .done (.opt id e) [])
    | none => .fail
  | .av (.int _ i), some (.array n e), .spt cs off => match P.info? e with
    | some ti => .ob (0 ≤ i ∧ i < n) (offP an (off + i.toNat * ti.size) fun e => .done (.spt cs e) [])
    | none => .fail
  | .av (.int _ i), some (.array n e), .opt id off => match P.info? e with
    | some ti => .ob (0 ≤ i ∧ i < n) (offP an (off + i.toNat * ti.size) fun e => .done (.opt id e) [])
    | none => .fail
  | _, _, _ => .fail
theorem aIndexAddr_ok {E : Env} {o : Oper} {id : Nat} {T : TypeId} {x ix : Operand} {an : Ans} (ho : o.op = .indexAddr T x ix) (hd : ∀ x, o.dst = some x → x < E.n) : ActOk E o id (aIndexAddr E.P T x ix an) := by
  intro g p wb h nx c a K Q hn hI hK
  obtain ⟨q, hq, h1⟩ := Res.opd hI h
  obtain ⟨q2, hq2, h2⟩ := Res.opd hI h1
  clear h h1
  split at h2
  · rename_i i e cs off n hu
    split at h2
    · rename_i ti hin
      obtain ⟨h3, h4⟩ := Res.ob h2
      obtain ⟨rfl, rfl⟩ := Res.done (offP_ok h4)
      rcases rep_ssl hq with ⟨ad, cap, hv, rfl⟩ | ⟨b, a', cap, vf, hv, hS, hc, hr, hone, hl⟩
      · exact absurd h3 (by omega)
      · refine pure_step hd hI hK (.sh (.spt hS hc hr hone)) ?_
        simp [execOp, ho, Instr.indexAt, rep_av hq2, asIntOf, run_underlying hu, hv, h3, run_size hin, addr_add, Nat.add_assoc]
    · exact (Res.fail h2).elim
  · rename_i i e id' off n hu
    split at h2
    · rename_i ti hin
      obtain ⟨h3, h4⟩ := Res.ob h2
      obtain ⟨rfl, rfl⟩ := Res.done (offP_ok h4)
      obtain ⟨ob, T2, hown, hv⟩ := rep_osl hq
      rcases hv with ⟨ad, hv, rfl⟩ | ⟨b, cap, cs, rfl, hv, hb, hl, hsz⟩
      · exact absurd h3 (by omega)
      · refine pure_step hd hI hK (.opt hown) ?_
        simp [execOp, ho, Instr.indexAt, rep_av hq2, asIntOf, run_underlying hu, hv, h3, run_size hin, addr_add]
    · exact (Res.fail h2).elim
  · rename_i i n e cs off hu
    split at h2
    · rename_i ti hin
      obtain ⟨h3, h4⟩ := Res.ob h2
      obtain ⟨rfl, rfl⟩ := Res.done (offP_ok h4)
      obtain ⟨b, a', vf, hv, hS, hc, hr, hone⟩ := rep_spt hq
      refine pure_step hd hI hK (.sh (.spt hS hc hr hone)) ?_
      simp [execOp, ho, Instr.indexAt, rep_av hq2, asIntOf, run_underlying hu, hv, Instr.sureAddr, h3, run_size hin, addr_add, Nat.add_assoc]
    · exact (Res.fail h2).elim
  · rename_i i n e id' off hu
    split at h2
    · rename_i ti hin
      obtain ⟨h3, h4⟩ := Res.ob h2
      obtain ⟨rfl, rfl⟩ := Res.done (offP_ok h4)
      obtain ⟨b, T2, hown, hv⟩ := rep_opt hq
      refine pure_step hd hI hK (.opt hown) ?_
      simp [execOp, ho, Instr.indexAt, rep_av hq2, asIntOf, run_underlying hu, hv, Instr.sureAddr, h3, run_size hin, addr_add]
    · exact (Res.fail h2).elim
  · exact (Res.fail h2).elim
def aFieldAddr (P : Program) (T : TypeId) (x : Operand) (f : Nat) : Plan := opd x fun p => match P.underlying T with
  | some (.struct fs) => match fs[f]? with
    | some fd => match P.info? fd.type with
      | some ti => match Nat.beq ti.size 0 with
        | true => .fail
        | false => match p with
          | .spt cs off => .done (.spt cs (off + fd.offset)) []
          | .opt id off => .done (.opt id (off + fd.offset)) []
          | _ => .fail
      | none => .fail
    | none => .fail
  | _ => .fail
theorem aFieldAddr_ok {E : Env} {o : Oper} {id : Nat} {T : TypeId} {x : Operand} {f : Nat} (ho : o.op = .fieldAddr T x f) (hd : ∀ x, o.dst = some x → x < E.n) : ActOk E o id (aFieldAddr E.P T x f) := by
  intro g p wb h nx c a K Q hn hI hK
  obtain ⟨q, hq, h1⟩ := Res.opd hI h
  clear h
  split at h1
  · rename_i fs hu
    split at h1
    · rename_i fd hf
      split at h1
      · rename_i ti hin
        split at h1
        · exact (Res.fail h1).elim
        · rename_i hz
          have hz' : ¬ ti.size = 0 := fun e => by rw [e] at hz; simp at hz
          split at h1
          · obtain ⟨rfl, rfl⟩ := Res.done h1
            obtain ⟨b, a', vf, hv, hS, hc, hr, hone⟩ := rep_spt hq
            refine pure_step hd hI hK (.sh (.spt hS hc hr hone)) ?_
            simp [execOp, ho, Instr.fieldAt, run_underlying hu, hf, hv, Instr.sureAddr, fieldPlace, run_size hin, hz', addr_add, Nat.add_assoc]
          · obtain ⟨rfl, rfl⟩ := Res.done h1
            obtain ⟨b, T2, hown, hv⟩ := rep_opt hq
            refine pure_step hd hI hK (.opt hown) ?_
            simp [execOp, ho, Instr.fieldAt, run_underlying hu, hf, hv, Instr.sureAddr, fieldPlace, run_size hin, hz', addr_add]
          · exact (Res.fail h1).elim
      · exact (Res.fail h1).elim
    · exact (Res.fail h1).elim
  · exact (Res.fail h1).elim
def aNilCheck (x : Operand) : Plan := opd x fun p => match p with
  | .spt cs off => .done (.spt cs off) []
  | .opt id off => .done (.opt id off) []
  | .av (.func (.func f) cs ds) => .done (.av (.func (.func f) cs ds)) []
  | .fn (.func f) cs ds => .done (.fn (.func f) cs ds) []
  | _ => .fail
theorem aNilCheck_ok {E : Env} {o : Oper} {id : Nat} {x : Operand} (ho : o.op = .nilCheck x) (hd : ∀ x, o.dst = some x → x < E.n) : ActOk E o id (aNilCheck x) := by
  intro g p wb h nx c a K Q hn hI hK
  obtain ⟨q, hq, h1⟩ := Res.opd hI h
  clear h
  split at h1
  · obtain ⟨rfl, rfl⟩ := Res.done h1
    obtain ⟨b, a', vf, hv, _⟩ := rep_spt hq
    exact pure_step hd hI hK hq (by simp [execOp, ho, hv])
  · obtain ⟨rfl, rfl⟩ := Res.done h1
    obtain ⟨b, T2, hown, hv⟩ := rep_opt hq
    exact pure_step hd hI hK hq (by simp [execOp, ho, hv])
  · obtain ⟨rfl, rfl⟩ := Res.done h1
    have hv := rep_av hq
    exact pure_step hd hI hK hq (by simp [execOp, ho, hv])
  · obtain ⟨rfl, rfl⟩ := Res.done h1
    obtain ⟨vs, us, hv, _⟩ := rep_fn hq
    exact pure_step hd hI hK hq (by simp [execOp, ho, hv])
  · exact (Res.fail h1).elim

/-! ### loads, parts -/
def isAggD (u : Option TypeDesc) : Option Bool := match u with
  | some (.struct _) => some true
  | some (.array _ _) => some true
  | some _ => some false
  | none => none
theorem run_isAgg {P : Program} {w : World} {T : TypeId} {b : Bool} (h : isAggD (P.underlying T) = some b) : (isAgg T).run P w = .ok b w := by
  cases hu : P.underlying T with
  | none => rw [hu] at h; cases h
  | some d =>
    rw [hu] at h
    cases d <;> simp only [isAggD, Option.some.injEq] at h <;> subst h <;> simp [isAgg, run_underlying hu]
/-- The n cells from off on; said anew by the answer. -/
def seg (cs : List PV) (off n : Nat) (an : Ans) (k : List PV → Plan) : Plan := match an with
  | .cells l => .ob (off + n ≤ cs.length ∧ (cs.drop off).take n = l) (k l)
  | .val p => .ob (off + n ≤ cs.length ∧ (cs.drop off).take n = [p]) (k [p])
  | _ => match Nat.ble (off + n) cs.length with | true => k ((cs.drop off).take n) | false => .fail
theorem seg_ok {cs : List PV} {off n : Nat} {an : Ans} {k : List PV → Plan} {g : St} {p : PV} {wb : L} (h : Res g (seg cs off n an k) p wb) : ∃ l, off + n ≤ cs.length ∧ (cs.drop off).take n = l ∧ Res g (k l) p wb := by
  unfold seg at h
  split at h
  · obtain ⟨⟨h1, h2⟩, h3⟩ := Res.ob h
    exact ⟨_, h1, h2, h3⟩
  · obtain ⟨⟨h1, h2⟩, h3⟩ := Res.ob h
    exact ⟨_, h1, h2, h3⟩
  · split at h
    · rename_i hb
      exact ⟨_, Nat.le_of_ble_eq_true hb, rfl, h⟩
    · exact (Res.fail h).elim
def one1 (l : List PV) (k : PV → Plan) : Plan := match l with | [p] => k p | _ => .fail
def loadCs (cs : List PV) (off n : Nat) (ag : Bool) (an : Ans) : Plan := match ag with
  | true => seg cs off n an fun l => .done (.agg l) []
  | false => seg cs off 1 an fun l => one1 l fun p => .done p []
def aLoad (P : Program) (T : TypeId) (x : Operand) (an : Ans) : Plan := opd x fun p => match isAggD (P.underlying T), P.info? T with
  | some ag, some ti => match p with
    | .spt cs off => loadCs cs off ti.size ag an
    | .opt id off => .look (kb id) fun v => match v with | .blk _ cs => loadCs cs off ti.size ag an | .pv _ => .fail
    | _ => .fail
  | _, _ => .fail
theorem getD_seg {cs l : List PV} {off n : Nat} (h : off + n ≤ cs.length) (he : (cs.drop off).take n = l) : l.length = n ∧ ∀ i, i < n → l.getD i P0 = cs.getD (off + i) P0 := by
  subst he
  refine ⟨by simp; omega, fun i hi => ?_⟩
  simp [List.getD_eq_getElem?_getD, hi]
theorem load_run {P : Program} {c : Cx} {T : TypeId} {ag : Bool} {ti : TypeInfo} (hag : isAggD (P.underlying T) = some ag) (hin : P.info? T = some ti) {cs : List PV} {off a b : Nat} {vf : Nat → Value} {an : Ans} {g : St} {p : PV} {wb : L}
    (h : Res g (loadCs cs off ti.size ag an) p wb) (hc : ∀ j, j < cs.length → c.w.cell? ⟨b, a + j, none⟩ = some (vf j)) (hr : ∀ j, j < cs.length → Rep P c (cs.getD j P0) (vf j)) :
    wb = [] ∧ ∃ v, Rep P c p v ∧ (loadVar T ⟨b, a + off, none⟩).run P c.w = .ok v c.w := by
  cases ag with
  | true =>
    obtain ⟨l, h1, h2, h3⟩ := seg_ok h
    obtain ⟨rfl, rfl⟩ := Res.done h3
    obtain ⟨h4, h5⟩ := getD_seg h1 h2
    have hl := run_loadCells (P := P) c.w ⟨b, a + off, none⟩ ti.size (fun j => vf (off + j)) fun j hj => by rw [addr_add, Nat.add_assoc]; exact hc _ (by omega)
    refine ⟨rfl, .agg ((List.range ti.size).map fun j => vf (off + j)).toArray, .agg (by simp [h4]) fun i hi => ?_, ?_⟩
    · rw [h4] at hi
      rw [h5 i hi]
      have e : (((List.range ti.size).map fun j => vf (off + j)).toArray).getD i undef = vf (off + i) := by
        simp [Array.getD_eq_getD_getElem?, hi]
      rw [e]
      exact hr (off + i) (by omega)
    · simp [loadVar, run_isAgg hag, run_size hin, hl]
  | false =>
    obtain ⟨l, h1, h2, h3⟩ := seg_ok h
    obtain ⟨h4, h5⟩ := getD_seg h1 h2
    unfold one1 at h3
    split at h3
    · rename_i p'
      obtain ⟨rfl, rfl⟩ := Res.done h3
      have e := h5 0 (by omega)
      simp only [List.getD_cons_zero, Nat.add_zero] at e
      rw [e]
      exact ⟨rfl, _, hr off (by omega), by simp [loadVar, run_isAgg hag, load, Sem.run, hc off (by omega)]⟩
    · exact (Res.fail h3).elim
theorem aLoad_ok {E : Env} {o : Oper} {id : Nat} {T : TypeId} {x : Operand} {an : Ans} (ho : o.op = .load T x) (hd : ∀ x, o.dst = some x → x < E.n) : ActOk E o id (aLoad E.P T x an) := by
  intro g p wb h nx c a K Q hn hI hK
  obtain ⟨q, hq, h1⟩ := Res.opd hI h
  clear h
  split at h1
  · rename_i ag ti hag hin
    split at h1
    · rename_i cs off
      obtain ⟨b, a', vf, hv, hS, hc, hr, hone⟩ := rep_spt hq
      obtain ⟨rfl, v, h2, h3⟩ := load_run (c := c) hag hin h1 hc fun j hj => .sh (hr j hj)
      exact pure_step hd hI hK h2 (by simp [execOp, ho, hv, Instr.loadAt, Instr.sureAddr, h3])
    · rename_i id' off
      obtain ⟨bv, hg, h4⟩ := Res.look h1
      cases bv with
      | pv _ => exact (Res.fail h4).elim
      | blk T' cs =>
        simp only at h4
        obtain ⟨b, T2, hown, hv⟩ := rep_opt hq
        obtain ⟨ob', hown', hone, hb⟩ := hI.blk id' T' cs hg
        rw [hown] at hown'
        cases hown'
        rcases hb with ⟨hb, _⟩ | ⟨b', vs, hb1, hb2, hb3, hb4⟩
        · cases hb
        · obtain rfl : b' = b := by simpa using hb1.symm
          obtain ⟨rfl, v, h2, h3⟩ := load_run (c := c) (a := 0) (vf := fun j => vs.getD j undef) hag hin h4 (fun j hj => by
            have : j < vs.size := by omega
            rw [cell_of_row c.w _ _ vs _ _ hb2]
            simp [Array.getD_eq_getD_getElem?, this]) hb4
          rw [Nat.zero_add] at h3
          exact pure_step hd hI hK h2 (by simp [execOp, ho, hv, Instr.loadAt, Instr.sureAddr, h3])
    · exact (Res.fail h1).elim
  · exact (Res.fail h1).elim
def partP (P : Program) (T : TypeId) (cs : List PV) (off : Nat) : Plan := match isAggD (P.underlying T), P.info? T with
  | some ag, some ti => loadCs cs off ti.size ag .no
  | _, _ => .fail
theorem part_run {P : Program} {c : Cx} {T : TypeId} {cs : List PV} {off : Nat} {vs : Array Value} {g : St} {p : PV} {wb : L} (h : Res g (partP P T cs off) p wb) (hn : vs.size = cs.length) (hr : ∀ j, j < cs.length → Rep P c (cs.getD j P0) (vs.getD j undef)) (w : World) :
    wb = [] ∧ ∃ v, Rep P c p v ∧ (part T vs off).run P w = .ok v w := by
  unfold partP at h
  split at h
  · rename_i ag ti hag hin
    cases ag with
    | true =>
      simp only [loadCs] at h
      obtain ⟨l, h1, h2, h3⟩ := seg_ok h
      obtain ⟨rfl, rfl⟩ := Res.done h3
      obtain ⟨h4, h5⟩ := getD_seg h1 h2
      refine ⟨rfl, .agg (vs.extract off (off + ti.size)), .agg (by simp [h4]; omega) fun i hi => ?_, ?_⟩
      · rw [h4] at hi
        rw [h5 i hi]
        have e : (vs.extract off (off + ti.size)).getD i undef = vs.getD (off + i) undef := by
          have h6 : off + i < vs.size := by omega
          have h7 : i < (vs.extract off (off + ti.size)).size := by simp; omega
          rw [Array.getD_eq_getD_getElem?, Array.getD_eq_getD_getElem?, Array.getElem?_eq_getElem h7, Array.getElem?_eq_getElem h6]
          simp
        rw [e]
        exact hr (off + i) (by omega)
      · simp [part, run_isAgg hag, run_size hin]
    | false =>
      simp only [loadCs] at h
      obtain ⟨l, h1, h2, h3⟩ := seg_ok h
      obtain ⟨h4, h5⟩ := getD_seg h1 h2
      unfold one1 at h3
      split at h3
      · obtain ⟨rfl, rfl⟩ := Res.done h3
        have e := h5 0 (by omega)
        simp only [List.getD_cons_zero, Nat.add_zero] at e
        rw [e]
        have h6 : off < vs.size := by omega
        exact ⟨rfl, _, hr off (by omega), by simp [part, run_isAgg hag, h6]⟩
      · exact (Res.fail h3).elim
  · exact (Res.fail h).elim
def aField (P : Program) (T : TypeId) (x : Operand) (f : Nat) : Plan := opd x fun p => match P.underlying T, p with
  | some (.struct fs), .agg cs => match fs[f]? with
    | some fd => partP P fd.type cs fd.offset
    | none => .fail
  | _, _ => .fail
theorem aField_ok {E : Env} {o : Oper} {id : Nat} {T : TypeId} {x : Operand} {f : Nat} (ho : o.op = .field T x f) (hd : ∀ x, o.dst = some x → x < E.n) : ActOk E o id (aField E.P T x f) := by
  intro g p wb h nx c a K Q hn hI hK
  obtain ⟨q, hq, h1⟩ := Res.opd hI h
  clear h
  split at h1
  · rename_i fs cs hu
    split at h1
    · rename_i fd hf
      obtain ⟨vs, hv, hs, hr⟩ := rep_agg hq
      obtain ⟨rfl, v, h2, h3⟩ := part_run h1 hs hr c.w
      exact pure_step hd hI hK h2 (by simp [execOp, ho, Instr.field, run_underlying hu, hf, hv, asAgg, h3])
    · exact (Res.fail h1).elim
  · exact (Res.fail h1).elim
def byteAt (s : ByteArray) (i : Nat) : Int := ((s.data.toList.getD i 0).toNat : Int)
def aIndex (P : Program) (T : TypeId) (x ix : Operand) : Plan := opd x fun p => opd ix fun q => match q, P.underlying T, p with
  | .av (.int _ i), some .string, .av (.string s) => .ob (0 ≤ i ∧ i < s.size) (.done (.av (.int .u8 (byteAt s i.toNat))) [])
  | .av (.int _ i), some (.array n e), .agg cs => match P.info? e with
    | some ti => .ob (0 ≤ i ∧ i < n) (partP P e cs (i.toNat * ti.size))
    | none => .fail
  | _, _, _ => .fail
theorem aIndex_ok {E : Env} {o : Oper} {id : Nat} {T : TypeId} {x ix : Operand} (ho : o.op = .index T x ix) (hd : ∀ x, o.dst = some x → x < E.n) : ActOk E o id (aIndex E.P T x ix) := by
  intro g p wb h nx c a K Q hn hI hK
  obtain ⟨q, hq, h1⟩ := Res.opd hI h
  obtain ⟨q2, hq2, h2⟩ := Res.opd hI h1
  clear h h1
  split at h2
  · rename_i k i s hu
    obtain ⟨h3, h4⟩ := Res.ob h2
    obtain ⟨rfl, rfl⟩ := Res.done h4
    refine pure_step hd hI hK (.sh (.av _)) ?_
    have e : s[i.toNat]? = some (s.data.toList.getD i.toNat 0) := by
      have h5 : i.toNat < s.size := by omega
      have h6 : i.toNat < s.data.size := h5
      rw [getElem?_pos s i.toNat h5]
      rw [List.getD_eq_getElem?_getD, List.getElem?_eq_getElem (by simpa using h6)]
      rfl
    simp [execOp, ho, Instr.index, rep_av hq2, asIntOf, run_underlying hu, rep_av hq, h3.1, e, byteAt]
  · rename_i k i n e cs hu
    split at h2
    · rename_i ti hin
      obtain ⟨h3, h4⟩ := Res.ob h2
      obtain ⟨vs, hv, hs, hr⟩ := rep_agg hq
      obtain ⟨rfl, v, h5, h6⟩ := part_run h4 hs hr c.w
      exact pure_step hd hI hK h5 (by simp [execOp, ho, Instr.index, rep_av hq2, asIntOf, run_underlying hu, hv, h3, run_size hin, h6])
    · exact (Res.fail h2).elim
  · exact (Res.fail h2).elim
end Go.Proofs.Ytgkahjaoajjgcaa.Pm
