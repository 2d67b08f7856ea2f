/-
  THE VALUE MACHINE (P): structs compared. No program in sight.
-/
import Derived.Test.YtgkahjaoajjgcaaPmI
import Derived.Laws.StructEq
namespace Go.Proofs.Ytgkahjaoajjgcaa.Pm
open Go

/-- Are two values of a type the same, by their cells? -/
def eqT (P : Program) : Nat → TypeId → List PV → List PV → Option Bool
  | 0, _, _, _ => none
  | f + 1, T, xs, ys => match P.underlying T with
    | some (.int _) => match xs, ys with
      | [.av (.int k a)], [.av (.int k' b)] => if k = k' then some (decide (a = b)) else none
      | _, _ => none
    | some .bool => match xs, ys with
      | [.av (.bool a)], [.av (.bool b)] => some (a == b)
      | _, _ => none
    | some .string => match xs, ys with
      | [.av (.string a)], [.av (.string b)] => some (a.toList == b.toList)
      | _, _ => none
    | some (.struct fs) => match P.stoodInHeld T with
      | false => eqFs P (eqT P f) xs ys fs.toList
      | true => none
    | _ => none
where
  eqFs (P : Program) (r : TypeId → List PV → List PV → Option Bool) (xs ys : List PV) : List Field → Option Bool
    | [] => some true
    | f :: fs => match f.name == "_", P.info? f.type with
      | false, some ti => match Nat.ble (f.offset + ti.size) xs.length, Nat.ble (f.offset + ti.size) ys.length, Nat.ble 1 ti.size with
        | true, true, true => match r f.type ((xs.drop f.offset).take ti.size) ((ys.drop f.offset).take ti.size), eqFs P r xs ys fs with
          | some a, some b => some (match fs with | [] => a | _ => a && b)
          | _, _ => none
        | _, _, _ => none
      | _, _ => none

def VR (P : Program) (c : Cx) (T : TypeId) (l : List PV) (v : Value) : Prop :=
  (isAggD (P.underlying T) = some true → ∃ arr, v = .agg arr ∧ RL P c l arr) ∧ (isAggD (P.underlying T) = some false → ∀ p, l = [p] → Rep P c p v)
theorem part_vr {P : Program} {c : Cx} {T : TypeId} {ti : TypeInfo} {ag : Bool} (hag : isAggD (P.underlying T) = some ag) (hin : P.info? T = some ti) {xs : List PV} {vs : Array Value} {off : Nat} (h : RL P c xs vs) (hl : off + ti.size ≤ xs.length) (h1 : 1 ≤ ti.size) (w : World) :
    ∃ v, (part T vs off).run P w = .ok v w ∧ VR P c T ((xs.drop off).take ti.size) v := by
  have hs := h.1
  cases ag with
  | true =>
    refine ⟨.agg (vs.extract off (off + ti.size)), by simp [part, run_isAgg hag, run_size hin], fun _ => ⟨_, rfl, by simp; omega, fun i hi => ?_⟩, fun e => by rw [hag] at e; cases e⟩
    have hi' : i < ti.size := by simp at hi; omega
    have h2 := h.2 (off + i) (by omega)
    have h6 : off + i < vs.size := by omega
    have h7 : i < (vs.extract off (off + ti.size)).size := by simp; omega
    have e1 : (vs.extract off (off + ti.size)).getD i undef = vs.getD (off + i) undef := by
      rw [Array.getD_eq_getD_getElem?, Array.getD_eq_getD_getElem?, Array.getElem?_eq_getElem h7, Array.getElem?_eq_getElem h6]
      simp
    have e2 : ((xs.drop off).take ti.size).getD i P0 = xs.getD (off + i) P0 := by simp [List.getD_eq_getElem?_getD, hi']
    rw [e1, e2]
    exact h2
  | false =>
    have h6 : off < vs.size := by omega
    refine ⟨vs[off], by simp [part, run_isAgg hag, h6], fun e => (by rw [hag] at e; cases e), fun _ p hp => ?_⟩
    have h2 := h.2 off (by omega)
    have e1 : xs.getD off P0 = p := by
      have := congrArg (·.getD 0 P0) hp
      simp only [List.getD_cons_zero] at this
      rw [← this]
      simp [List.getD_eq_getElem?_getD, List.getElem?_take, show 0 < ti.size by omega]
    rw [e1] at h2
    simpa [Array.getD_eq_getD_getElem?, h6] using h2
theorem eqFs_ok {P : Program} {c : Cx} {f d : Nat} (w : World) (ih : ∀ (T : TypeId) (xs ys : List PV) (b : Bool), eqT P f T xs ys = some b → ∀ vx vy, VR P c T xs vx → VR P c T ys vy → (Op.equalIn d T vx vy).run P w = .ok b w) {xs ys : List PV} {vx vy : Array Value} (hx : RL P c xs vx) (hy : RL P c ys vy) :
    ∀ (fs : List Field) (b : Bool), eqT.eqFs P (eqT P f) xs ys fs = some b → (∀ g ∈ fs, ∃ ag, isAggD (P.underlying g.type) = some ag) → (Op.eqFields d vx vy fs).run P w = .ok b w
  | [], b, h, _ => by
    simp only [eqT.eqFs, Option.some.injEq] at h
    subst h
    simp [Op.eqFields]
  | g :: fs, b, h, hall => by
    simp only [eqT.eqFs] at h
    split at h
    case h_2 => cases h
    rename_i ti hname hin
    split at h
    case h_2 => cases h
    rename_i h1 h2 h3
    have h1 := Nat.le_of_ble_eq_true h1
    have h2 := Nat.le_of_ble_eq_true h2
    have h3 := Nat.le_of_ble_eq_true h3
    split at h
    case h_2 => cases h
    rename_i a b' ha hb
    obtain ⟨ag, hag⟩ := hall g (by simp)
    obtain ⟨v1, p1, q1⟩ := part_vr hag hin hx h1 h3 w
    obtain ⟨v2, p2, q2⟩ := part_vr hag hin hy h2 h3 w
    have hn : g.name ≠ "_" := by simpa using hname
    have hr := ih _ _ _ _ ha v1 v2 q1 q2
    have hrest := eqFs_ok w ih hx hy fs b' hb fun g' hg' => hall g' (by simp [hg'])
    simp only [Op.eqFields, hn, ne_eq, not_false_eq_true, if_true, Sem.run_bind, p1, p2, hr, Result.andThen_ok]
    simp only [Option.some.injEq] at h
    cases a with
    | true =>
      simp only [Bool.not_true, Bool.false_eq_true, if_false, hrest]
      cases fs with
      | nil =>
        simp only [eqT.eqFs, Option.some.injEq] at hb
        simp only at h
        rw [← h, ← hb]
      | cons x r => simp only [Bool.true_and] at h; rw [h]
    | false =>
      simp only [Bool.not_false, if_true, Sem.run_pure]
      cases fs with
      | nil => simp only at h; rw [← h]
      | cons x r => simp only [Bool.false_and] at h; rw [← h]
theorem eqFs_all {P : Program} {f : Nat} {xs ys : List PV} : ∀ (fs : List Field) (b : Bool), eqT.eqFs P (eqT P f) xs ys fs = some b → ∀ g ∈ fs, ∃ ag, isAggD (P.underlying g.type) = some ag
  | [], _, _, _, hg => by cases hg
  | g0 :: fs, b, h, g, hg => by
    simp only [eqT.eqFs] at h
    split at h
    case h_2 => cases h
    split at h
    case h_2 => cases h
    split at h
    case h_2 => cases h
    rename_i a b' ha hb
    rcases List.mem_cons.1 hg with rfl | hg
    · cases f with
      | zero => simp [eqT] at ha
      | succ f =>
        simp only [eqT] at ha
        cases hu : P.underlying g.type with
        | none => rw [hu] at ha; cases ha
        | some d => cases d <;> first | exact ⟨_, rfl⟩ | (rw [hu] at ha; cases ha)
    · exact eqFs_all fs b' hb g hg
theorem eqT_ok {P : Program} {c : Cx} (w : World) : ∀ (f : Nat) (T : TypeId) (xs ys : List PV) (b : Bool), eqT P f T xs ys = some b → ∀ d, f ≤ d → ∀ vx vy, VR P c T xs vx → VR P c T ys vy → (Op.equalIn d T vx vy).run P w = .ok b w
  | 0, _, _, _, _, h, _, _, _, _, _, _ => by simp [eqT] at h
  | f + 1, T, xs, ys, b, h, d + 1, hd, vx, vy, hx, hy => by
    simp only [eqT] at h
    split at h
    · rename_i k hu
      split at h
      case h_2 => cases h
      rename_i k1 a k2 b2
      have e1 := rep_av (hx.2 (by rw [hu]; rfl) _ rfl)
      have e2 := rep_av (hy.2 (by rw [hu]; rfl) _ rfl)
      subst e1; subst e2
      split at h
      case isFalse => cases h
      rename_i hk
      subst hk
      simp only [Option.some.injEq] at h
      rw [run_equalIn_int w d T k1 k a b2 hu, ← h]
      rfl
    · rename_i hu
      split at h
      case h_2 => cases h
      have e1 := rep_av (hx.2 (by rw [hu]; rfl) _ rfl)
      have e2 := rep_av (hy.2 (by rw [hu]; rfl) _ rfl)
      subst e1; subst e2
      simp only [Option.some.injEq] at h
      rw [run_equalIn_bool' w d T _ _ hu, h]
    · rename_i hu
      split at h
      case h_2 => cases h
      have e1 := rep_av (hx.2 (by rw [hu]; rfl) _ rfl)
      have e2 := rep_av (hy.2 (by rw [hu]; rfl) _ rfl)
      subst e1; subst e2
      simp only [Option.some.injEq] at h
      rw [run_equalIn_string w d T _ _ hu, h]
    · rename_i fs hu
      split at h
      case h_2 => cases h
      rename_i hst
      obtain ⟨ax, rfl, rx⟩ := hx.1 (by rw [hu]; rfl)
      obtain ⟨ay, rfl, ry⟩ := hy.1 (by rw [hu]; rfl)
      have hf : P.fieldsOf T = fs := by simp [Program.fieldsOf, hu]
      rw [run_equalIn_struct w d T ax ay (by rw [hf]; exact hu) hst, hf]
      exact eqFs_ok w (fun T xs ys b h vx vy q1 q2 => eqT_ok w f T xs ys b h d (by omega) vx vy q1 q2) rx ry fs.toList b h (eqFs_all fs.toList b h)
    · cases h
def aEqS (P : Program) (ng : Bool) (T : TypeId) (x y : Operand) : Plan := opd x fun p => opd y fun q => match p, q, P.eqGuardType P.depth T, P.underlying T with
  | .agg xs, .agg ys, false, some (.struct _) => match eqT P 20 T xs ys with | some b => bit (match ng with | true => !b | false => b) | none => .fail
  | _, _, _, _ => .fail
theorem aEqS_ok {E : Env} {o : Oper} {id : Nat} {ng : Bool} {T U : TypeId} {x y : Operand} (ho : o.op = .binOp (match ng with | true => .neq | false => .eql) T x y U) (hd : ∀ x, o.dst = some x → x < E.n) : ActOk E o id (aEqS E.P ng T x y) := by
  intro g p wb h nx c a K Q hn hI hK
  obtain ⟨q1, hq1, h1⟩ := Res.opd hI h
  obtain ⟨q2, hq2, h2⟩ := Res.opd hI h1
  clear h h1
  split at h2
  case h_2 => exact (Res.fail h2).elim
  rename_i xs ys fs hgt hu
  split at h2
  case h_2 => exact (Res.fail h2).elim
  rename_i b hb
  obtain ⟨rfl, rfl⟩ := Res.done h2
  obtain ⟨vx, e1, h3, h4⟩ := rep_agg hq1
  obtain ⟨vy, e2, h5, h6⟩ := rep_agg hq2
  have hr := eqT_ok c.w 20 T xs ys b hb 10000 (by omega) (.agg vx) (.agg vy) ⟨fun _ => ⟨vx, rfl, h3, h4⟩, fun e => by rw [hu] at e; cases e⟩ ⟨fun _ => ⟨vy, rfl, h5, h6⟩, fun e => by rw [hu] at e; cases e⟩
  refine pure_step hd hI hK (.sh (.av _)) ?_
  cases ng with
  | true => simp [execOp, ho, e1, e2, run_eqGuard_agg c.w .neq T x y vx vy hgt, run_neq_struct, hr]
  | false => simp [execOp, ho, e1, e2, run_eqGuard_agg c.w .eql T x y vx vy hgt, run_eql_struct, hr]
end Go.Proofs.Ytgkahjaoajjgcaa.Pm
