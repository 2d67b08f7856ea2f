/-
  A RING BETWEEN TWO GOROUTINES (B): the trace. No program in sight. | A RING BETWEEN TWO GOROUTINES (A): where the two stand, and how they go on: plain. No program in sight. | A RING BETWEEN TWO GOROUTINES (C): what holds of the trace while the two stand so; how it is kept. No program in sight. | A RING BETWEEN TWO GOROUTINES (D): the trace at each stop. No program in sight. | A RING BETWEEN TWO GOROUTINES (E): the trace at each stop, all together. No program in sight. | A RING BETWEEN TWO GOROUTINES (F): what the world holds; what each relies on, what each keeps; what is asked of the two, stop by stop; where each stands. No program in sight. | A RING BETWEEN TWO GOROUTINES (G): what holds of the machine at every moment; a step of one of the two that is its own. No program in sight. | A RING BETWEEN TWO GOROUTINES (H): own steps: between two stops; at a stop; asleep; the join. No program in sight. | A RING BETWEEN TWO GOROUTINES (I): the bells; whoever only leaves; every step; the run. No program in sight. | A RING BETWEEN TWO GOROUTINES (J): a receive at a bell; whoever only leaves; EVERY STEP; THE RUN TO THE JOIN, ON WHATEVER TAPE. No program in sight. | A GOROUTINE's OWN STEPS, RECKONED (K): control; operations that turn nothing, by the temporaries that are known. No program in sight. | A GOROUTINE's OWN STEPS, RECKONED (L): a row of operations that turn nothing, by the temporaries that are known. No program in sight. | A GOROUTINE's OWN STEPS, RECKONED (M): a region whose order the tape picks: the operations that turn nothing yield the same in every order; one that is special is handed on. No program in sight. | A GOROUTINE's OWN STEPS, RECKONED (N): a region that asks the tape, begun and ended; what a special operation meets. No program in sight. | RingThrough (HN): goroutine 0 goes on beside goroutines that only leave, hearing or not: what is kept of the trace; it walks; it takes one step; it starts a child. No program in sight.
-/
import Derived.Conc.CrowdComm
import Derived.Conc.Beside
import Derived.Conc.CrowdTrace
import Derived.Conc.CrowdCom2
import Derived.Conc.EventLaws2
import Derived.Conc.CompanyDraw
import Derived.Conc.TokenTrace
namespace Go.Proofs.Ytdmiilgdkmbmeaa.Rg
open Go Go.Conc
open Go.ConcN (RelBy)

/-- Where the places of one call lie: the child's number; the room; the blocks of the ring, of its room, of the two bells, of the group; from 'low' on: goroutine 0's own. -/
structure Lay where
  c : Nat
  n : Nat
  R : Nat
  M : Nat
  F : Nat
  E : Nat
  W : Nat
  low : Nat
structure Lay.Good (L : Lay) : Prop where
  c : 0 < L.c
  n : 1 ≤ L.n
  R : L.R < L.low
  M : L.M < L.low
  F : L.F < L.low
  E : L.E < L.low
  W : L.W < L.low
  RM : L.R ≠ L.M
  RF : L.R ≠ L.F
  RE : L.R ≠ L.E
  RW : L.R ≠ L.W
  MF : L.M ≠ L.F
  ME : L.M ≠ L.E
  MW : L.M ≠ L.W
  FE : L.F ≠ L.E
  FW : L.F ≠ L.W
  EW : L.E ≠ L.W
/-- true: goroutine 0, who takes out; false: the child, who puts in. -/
def Lay.gr (L : Lay) (x : Bool) : Nat := if x then 0 else L.c
def Lay.ctr (L : Lay) (x : Bool) : Addr := ⟨L.R, if x then 2 else 1, none⟩
def Lay.slot (L : Lay) (i : Nat) : Addr := ⟨L.M, i, none⟩
def Lay.grp (L : Lay) : Addr := ⟨L.W, 0, none⟩
/-- What kind of place: 0 read alone · 1 never touched plainly · 2 goroutine 0's own · 3 a slot. -/
def Lay.cl (L : Lay) : Loc → Nat
  | .cell a => if a.block = L.M then 3 else if a.block = L.W then 1 else if a = L.ctr true then 1 else if a = L.ctr false then 1 else if L.low ≤ a.block then 2 else 0
  | .obj r => if L.low ≤ r then 2 else 0
  | _ => 0
/-- What goroutine g may touch, and how. -/
def Ok (L : Lay) (Shun : Loc → Prop) (g : Nat) (b : Touch) : Prop :=
  (Shun b.loc → b.kind ≠ .plain) ∧ (L.cl b.loc = 0 → b.write = false ∧ b.kind = .plain) ∧ (L.cl b.loc = 1 → b.kind ≠ .plain ∧ (b.kind = .said → g = 0)) ∧ (L.cl b.loc = 2 → g = 0)

structure Tr (L : Lay) (Shun : Loc → Prop) (t : Trace) : Prop where
  clean : ∀ said, ¬ Race said t
  cls : ∀ i a, touchAt t i = some a → a.loc.isMemory = true → (Shun a.loc ∧ a.kind = .atomic) ∨ (Knows t 0 i ∧ Knows t L.c i) ∨ ∃ g, t.g? i = some g ∧ (g = 0 ∨ g = L.c) ∧ Ok L Shun g a
  over : ∀ i g, t.g? i = some g → g ≠ 0 → g ≠ L.c → t.counts i → ∃ j, t.g? j = some 0 ∧ HappensBefore t i j
  norel : NoRelease L.grp t

section
variable {L : Lay} {Shun : Loc → Prop} {t u : Trace}

theorem cl_le (l : Loc) : L.cl l < 4 := by
  unfold Lay.cl
  split
  · repeat' split
    all_goals omega
  · split <;> omega
  · omega

theorem lt_g {i g : Nat} (h : t.g? i = some g) : i < t.size := by
  unfold Trace.g? at h
  obtain ⟨z, hz, _⟩ := Option.map_eq_some_iff.1 h
  exact lt_size_of_getElem? hz
theorem knows_at {i g : Nat} (h : t.g? i = some g) : Knows t g i := by
  unfold Trace.g? at h
  obtain ⟨z, hz, rfl⟩ := Option.map_eq_some_iff.1 h
  exact knows_own hz
theorem g_app {i g : Nat} (h : t.g? i = some g) : (t ++ u).g? i = some g := by rw [g?_old (lt_g h)]; exact h
theorem over_app {c : Nat} (h : ∀ i g, t.g? i = some g → g ≠ 0 → g ≠ c → t.counts i → ∃ j, t.g? j = some 0 ∧ HappensBefore t i j) (hu : ∀ op ∈ u, op.g = 0 ∨ op.g = c ∨ op.act.touch? = none) :
    ∀ i g, (t ++ u).g? i = some g → g ≠ 0 → g ≠ c → (t ++ u).counts i → ∃ j, (t ++ u).g? j = some 0 ∧ HappensBefore (t ++ u) i j := by
  intro i g hg h0 hc hcn
  obtain ⟨x, hx, _⟩ := hcn
  obtain ⟨op, hop, hox⟩ := touch_of hx
  rcases getElem?_append_cases hop with ⟨hi, hop'⟩ | ⟨_, hopu⟩
  · obtain ⟨j, hj, hb⟩ := h i g (by rw [← g?_old (u := u) hi]; exact hg) h0 hc ((counts_old hi).1 ⟨x, hx, ‹_›⟩)
    exact ⟨j, g_app hj, hb_app u hb⟩
  · have e : op.g = g := by simpa [Trace.g?, hop] using hg
    rcases hu op hopu with h1 | h1 | h1
    · exact absurd (e.symm.trans h1) h0
    · exact absurd (e.symm.trans h1) hc
    · rw [h1] at hox; cases hox

/-- Operations that touch nothing, whoever's they are. -/
theorem Tr.quiet (h : Tr L Shun t) (hu : ∀ op ∈ u, op.act.touch? = none) (hn : ∀ op ∈ u, op.act ≠ .mark (.release L.grp)) : Tr L Shun (t ++ u) := by
  have old : ∀ {i a}, touchAt (t ++ u) i = some a → i < t.size ∧ touchAt t i = some a := by
    intro i a ha
    obtain ⟨x, hx, hxa⟩ := touch_of ha
    rcases getElem?_append_cases hx with ⟨hi, hx'⟩ | ⟨_, hxu⟩
    · exact ⟨hi, by rw [touchAt_of hx']; exact hxa⟩
    · rw [hu x hxu] at hxa; cases hxa
  refine ⟨fun said => ?_, fun i a ha hm => ?_, over_app h.over fun op hop => .inr (.inr (hu op hop)), h.norel.app hn⟩
  · rintro ⟨i, j, hij, ⟨a, b, ha, hb, hc⟩, n1, n2⟩
    obtain ⟨_, ha'⟩ := old ha
    obtain ⟨_, hb'⟩ := old hb
    exact h.clean said ⟨i, j, hij, ⟨a, b, ha', hb', hc⟩, fun e => n1 (hb_app u e), fun e => n2 (hb_app u e)⟩
  · obtain ⟨hi, ha'⟩ := old ha
    rcases h.cls i a ha' hm with h1 | ⟨h1, h2⟩ | ⟨g, h1, h2⟩
    · exact .inl h1
    · exact .inr (.inl ⟨h1.app u, h2.app u⟩)
    · exact .inr (.inr ⟨g, g_app h1, h2⟩)

/-- Operations of one of the two. -/
theorem Tr.app (h : Tr L Shun t) {g : Nat} (hg : g = 0 ∨ g = L.c) (hu : ∀ op ∈ u, op.g = g) (hok : ∀ op ∈ u, ∀ b, op.act.touch? = some b → b.loc.isMemory = true → Ok L Shun g b)
    (hsl : ∀ op ∈ u, ∀ b, op.act.touch? = some b → L.cl b.loc = 3 → Perm t g b.loc) (hn : ∀ op ∈ u, op.act ≠ .mark (.release L.grp)) : Tr L Shun (t ++ u) := by
  refine ⟨fun said => noRace_append (h.clean said) hu fun i a ha op hop b hb hc => ?_, fun i a ha hm => ?_, over_app h.over fun op hop => ?_, h.norel.app hn⟩
  · obtain ⟨hl, hm, hw, hk⟩ := hc
    have hob := hok op hop b hb (hl ▸ hm)
    obtain ⟨o1, o2, o3, o4⟩ := hob
    rcases h.cls i a ha hm with ⟨h1, h2⟩ | ⟨h1, h2⟩ | ⟨g', h1, h2, p1, p2, p3, p4⟩
    · have := o1 (hl ▸ h1)
      rw [h2] at hk
      rcases hk with hk | hk | ⟨_, hk, _⟩
      · cases hk
      · exact absurd hk this
      · cases hk
    · rcases hg with rfl | rfl
      · exact h1
      · exact h2
    · have h4 := cl_le (L := L) b.loc
      rw [hl] at p2 p3 p4
      rcases (by omega : L.cl b.loc = 0 ∨ L.cl b.loc = 1 ∨ L.cl b.loc = 2 ∨ L.cl b.loc = 3) with e | e | e | e
      · have q1 := (p2 e).1
        have q2 := (o2 e).1
        rw [q1, q2] at hw
        rcases hw with hw | hw <;> cases hw
      · obtain ⟨q1, q2⟩ := p3 e
        obtain ⟨r1, r2⟩ := o3 e
        rcases hk with hk | hk | ⟨_, hk1, hk2⟩
        · exact absurd hk q1
        · exact absurd hk r1
        · rw [r2 hk2]
          rw [q2 hk1] at h1
          exact knows_at h1
      · rw [o4 e]
        rw [p4 e] at h1
        exact knows_at h1
      · exact hsl op hop b hb e i a ha hl
  · obtain ⟨x, hx, hxa⟩ := touch_of ha
    rcases getElem?_append_cases hx with ⟨hi, hx'⟩ | ⟨_, hxu⟩
    · rcases h.cls i a (by rw [touchAt_of hx']; exact hxa) hm with h1 | ⟨h1, h2⟩ | ⟨g', h1, h2⟩
      · exact .inl h1
      · exact .inr (.inl ⟨h1.app u, h2.app u⟩)
      · exact .inr (.inr ⟨g', g_app h1, h2⟩)
    · exact .inr (.inr ⟨g, by simp [Trace.g?, hx, hu x hxu], hg, hok x hxu a hxa hm⟩)
  · rcases hg with e | e
    · exact .inl ((hu op hop).trans e)
    · exact .inr (.inl ((hu op hop).trans e))

/-! ### slots -/
/-- Slot i is x's for the asking. -/
def Fre (L : Lay) (x : Bool) (t : Trace) (i : Nat) : Prop :=
  ∀ m b, touchAt t m = some b → b.loc = .cell (L.slot i) → Knows t (L.gr x) m ∨ ∃ q, LastWrite t (L.ctr !x) q ∧ t.g? q = some (L.gr !x) ∧ t.heard q ∧ Before t m q
theorem Fre.of_perm {x : Bool} {i : Nat} (h : Perm t (L.gr x) (.cell (L.slot i))) : Fre L x t i := fun m b hm hl => .inl (h m b hm hl)
/-- Kept where nobody else touches the slot and nobody turns the counter. -/
theorem Fre.app {x : Bool} {i : Nat} (h : Fre L x t i) (hu : ∀ op ∈ u, ∀ b, op.act.touch? = some b → b.loc = .cell (L.slot i) → op.g = L.gr x) (hw : ∀ op ∈ u, ∀ sync, op.act ≠ .access ⟨.cell (L.ctr !x), true, sync⟩) : Fre L x (t ++ u) i := by
  intro m b ha hl
  obtain ⟨y, hy, hya⟩ := touch_of ha
  rcases getElem?_append_cases hy with ⟨hi, hy'⟩ | ⟨_, hyu⟩
  · rcases h m b (by rw [touchAt_of hy']; exact hya) hl with h1 | ⟨q, h1, h2, h3, h4⟩
    · exact .inl (h1.app u)
    · exact .inr ⟨q, h1.app hw, g_app h2, (heard_old (lt_g h2)).2 h3, h4.app u⟩
  · have := knows_own hy
    rw [hu y hyu b hya hl] at this
    exact .inl this
/-- x looks at the other's counter: what is its for the asking is its. -/
theorem Fre.look {x : Bool} {i : Nat} {y : MemOp} (h : Fre L x t i) (hg : y.g = L.gr x) (hy : y.act = .access ⟨.cell (L.ctr !x), false, true⟩) (hd : Deaf t (L.gr x) = 0) (hne : L.ctr (!x) ≠ L.slot i) : Perm (t ++ #[y]) (L.gr x) (.cell (L.slot i)) := by
  have hlast : (t ++ #[y])[t.size]? = some y := by simp
  have hh : (t ++ #[y]).heard t.size := ⟨L.gr x, by simp [Trace.g?, hg], by rw [deaf_old (Nat.le_refl _)]; exact hd⟩
  intro m b ha hl
  obtain ⟨z, hz, hza⟩ := touch_of ha
  rcases getElem?_append_cases hz with ⟨hi, hz'⟩ | ⟨_, hzu⟩
  · rcases h m b (by rw [touchAt_of hz']; exact hza) hl with h1 | ⟨q, h1, h2, h3, h4⟩
    · exact h1.app _
    · have hq := lt_of_act? h1.1
      refine ⟨t.size, y, hlast, hg, (h4.app _).trans (.inr (.single (.inr ⟨.atomic (a := L.ctr !x) hq (by rw [act?_old hq]; exact h1.1) (by rw [act?_of hlast, hy]) (fun k sync e1 e2 => by rw [act?_old e2]; exact h1.2 k sync e1), (heard_old hq).2 h3, hh⟩)))⟩
  · have e : z = y := by simpa using hzu
    subst e
    rw [hy] at hza
    simp only [MemAct.touch?, Option.some.injEq] at hza
    subst hza
    exact absurd (Loc.cell.inj hl) hne
/-- The other stores its counter: what was its is x's for the asking; what was x's for the asking is so still. -/
theorem Fre.give {x : Bool} {i : Nat} {y : MemOp} (h : Perm t (L.gr !x) (.cell (L.slot i)) ∨ Fre L x t i) (hg : y.g = L.gr !x) (hy : y.act = .access ⟨.cell (L.ctr !x), true, true⟩) (hd : Deaf t (L.gr !x) = 0) (hne : L.ctr (!x) ≠ L.slot i) : Fre L x (t ++ #[y]) i := by
  have hlast : (t ++ #[y])[t.size]? = some y := by simp
  have hh : (t ++ #[y]).heard t.size := ⟨L.gr !x, by simp [Trace.g?, hg], by rw [deaf_old (Nat.le_refl _)]; exact hd⟩
  have hlw := LastWrite.new t (L.ctr !x) hy
  intro m b ha hl
  obtain ⟨z, hz, hza⟩ := touch_of ha
  rcases getElem?_append_cases hz with ⟨hi, hz'⟩ | ⟨_, hzu⟩
  · have ha' : touchAt t m = some b := by rw [touchAt_of hz']; exact hza
    have new : Knows t (L.gr !x) m → (Knows (t ++ #[y]) (L.gr x) m ∨ ∃ q, LastWrite (t ++ #[y]) (L.ctr !x) q ∧ (t ++ #[y]).g? q = some (L.gr !x) ∧ (t ++ #[y]).heard q ∧ Before (t ++ #[y]) m q) := fun k => Or.inr ⟨t.size, hlw, by simp [Trace.g?, hg], hh, .inr (k.hb_new (Nat.le_refl _) hlast hg)⟩
    rcases h with h | h
    · exact new (h m b ha' hl)
    · rcases h m b ha' hl with h1 | ⟨q, h1, h2, h3, h4⟩
      · exact .inl (h1.app _)
      · exact new (Knows.of_before h4 (knows_at h2))
  · have e : z = y := by simpa using hzu
    subst e
    rw [hy] at hza
    simp only [MemAct.touch?, Option.some.injEq] at hza
    subst hza
    exact absurd (Loc.cell.inj hl) hne
theorem ctr_ne_slot (hL : L.Good) (x : Bool) (i : Nat) : L.ctr x ≠ L.slot i := fun e => hL.RM (congrArg Addr.block e)

/-! ### the join -/
/-- Behind the child's release, heard, and goroutine 0's acquire, heard: all is handed over; goroutine 0 knows every touch but the child's deaf ones at the group. -/
theorem Tr.join (h : Tr L Shun t) (hL : L.Good) {r : Nat} (hr : RelBy L.grp t L.c r) (hW : ∀ i a, r < i → t.g? i = some L.c → touchAt t i = some a → ∃ b, a.loc = .cell b ∧ b.block = L.W ∧ a.kind = .atomic) {y : MemOp} (hg : y.g = 0)
    (hy : y.act = .mark (.acquire L.grp)) (hd : Deaf t 0 = 0) :
    (t ++ #[y]).HandedOver ∧ (∀ i a, touchAt (t ++ #[y]) i = some a → a.loc.isMemory = true → Knows (t ++ #[y]) 0 i ∨ ((Shun a.loc ∨ ∃ b, a.loc = .cell b ∧ b.block = L.W) ∧ a.kind = .atomic)) ∧ ∀ said, ¬ Race said (t ++ #[y]) := by
  have hlast : (t ++ #[y])[t.size]? = some y := by simp
  have hh : (t ++ #[y]).heard t.size := ⟨0, by simp [Trace.g?, hg], by rw [deaf_old (Nat.le_refl _)]; exact hd⟩
  have hrl := lt_of_act? hr.act
  have edge : HappensBefore (t ++ #[y]) r t.size := .single (.inr ⟨.marked hrl (.inr (by rw [act?_old hrl]; exact hr.act)) (by rw [act?_of hlast, hy]) (fun k _ h2 => by rw [act?_old h2]; exact h.norel k), (heard_old hrl).2 hr.heard, hh⟩)
  have g0 : (t ++ #[y]).g? t.size = some 0 := by simp [Trace.g?, hg]
  have known : ∀ i, i ≤ r → t.g? i = some L.c → HappensBefore (t ++ #[y]) i t.size := fun i hi hgi => by
    rcases Nat.lt_or_ge i r with hlt | hge
    · exact .trans (.single (.inl ⟨hlt, L.c, g_app hgi, g_app hr.g⟩)) edge
    · obtain rfl : i = r := by omega
      exact edge
  have one : ∀ op ∈ (#[y] : Trace), op = y := fun op hop => by simpa using hop
  have hT : Tr L Shun (t ++ #[y]) := h.quiet (fun op hop => by rw [one op hop, hy]; rfl) (fun op hop => by rw [one op hop, hy]; simp)
  have old : ∀ {i a}, touchAt (t ++ #[y]) i = some a → i < t.size ∧ touchAt t i = some a := by
    intro i a ha
    obtain ⟨x, hx, hxa⟩ := touch_of ha
    rcases getElem?_append_cases hx with ⟨hi, hx'⟩ | ⟨_, hxu⟩
    · exact ⟨hi, by rw [touchAt_of hx']; exact hxa⟩
    · obtain rfl : x = y := by simpa using hxu
      rw [hy] at hxa; cases hxa
  refine ⟨fun i g hgi hne hc => ?_, fun i a ha hm => ?_, hT.clean⟩
  · by_cases e : g = L.c
    · subst e
      obtain ⟨x, hx, hm, hk⟩ := hc
      obtain ⟨hi, hx'⟩ := old hx
      have hgi' : t.g? i = some L.c := by rw [← g?_old (u := #[y]) hi]; exact hgi
      have hle : i ≤ r := Nat.le_of_not_lt fun hlt => hr.after i hlt hgi' ((counts_old hi).1 ⟨x, hx, hm, hk⟩)
      exact ⟨t.size, g0, known i hle hgi'⟩
    · exact hT.over i g hgi hne e hc
  · obtain ⟨hi, ha'⟩ := old ha
    rcases h.cls i a ha' hm with ⟨h1, h2⟩ | ⟨h1, _⟩ | ⟨g, h1, h2 | h2, _⟩
    · exact .inr ⟨.inl h1, h2⟩
    · exact .inl (h1.app _)
    · subst h2
      exact .inl ((knows_at h1).app _)
    · subst h2
      rcases Nat.lt_or_ge r i with hlt | hge
      · obtain ⟨b, hb, hbw, hk⟩ := hW i a hlt h1 ha'
        exact .inr ⟨.inr ⟨b, hb, hbw⟩, hk⟩
      · exact .inl ⟨t.size, y, hlast, hg, .inr (known i hge h1)⟩
end
end Go.Proofs.Ytdmiilgdkmbmeaa.Rg
namespace Go.Proofs.Ytdmiilgdkmbmeaa.Rg
open Go Go.Conc

inductive Pl where
  | ld | sl | st | bl | rc | w0 | w1 | w2 | w3 | w4 | we | wq | out | d0 | d1 | d2 | d3 | d4 | d5 | gone
  deriving DecidableEq
/-- The wait group: one to come, nobody waits · one to come, one waits · none to come · none to come, one waits · it is taken back · the waiting one may go. -/
inductive Wg where
  | a | b | c | d | e | f
  deriving DecidableEq
def Wg.st : Wg → Int
  | .a => 4294967296
  | .b => 4294967297
  | .d => 1
  | _ => 0
def Wg.sm : Wg → Int
  | .f => 1
  | _ => 0
structure Sh where
  j : Nat
  k : Nat
  wr : Bool
  ta : Bool
  tb : Bool
  wg : Wg
def Sh.cnt (s : Sh) (x : Bool) : Nat := if x then s.k else s.j
def Sh.tok (s : Sh) (x : Bool) : Bool := if x then s.ta else s.tb
def Sh.setTok (s : Sh) (x v : Bool) : Sh := if x then { s with ta := v } else { s with tb := v }
def Sh.can (n : Nat) (s : Sh) (x : Bool) : Bool := if x then decide (s.k < s.j) else decide (s.j < s.k + n)
def Pl.wt : Pl → Bool
  | .w0 | .w1 | .w2 | .w3 | .w4 | .we | .wq | .out => true
  | _ => false
def Pl.dn : Pl → Bool
  | .d0 | .d1 | .d2 | .d3 | .d4 | .d5 | .gone => true
  | _ => false
def Pl.ap : Pl → Nat
  | .w3 => 1
  | .w4 | .we | .wq | .out => 2
  | .d0 | .d1 | .d2 | .d3 | .d4 | .d5 | .gone => 9
  | _ => 0
def Pl.bp : Pl → Nat
  | .d3 | .d4 => 1
  | .d5 => 2
  | .gone => 3
  | .w0 | .w1 | .w2 | .w3 | .w4 | .we | .wq | .out => 9
  | _ => 0
def wgOk : Wg → Nat → Nat → Prop
  | .a, p, q => p = 0 ∧ q = 0
  | .b, p, q => p = 1 ∧ q = 0
  | .c, p, q => (p = 0 ∨ p = 2) ∧ q = 3
  | .d, p, q => p = 1 ∧ q = 1
  | .e, p, q => p = 1 ∧ q = 2
  | .f, p, q => p = 1 ∧ q = 3
structure J (n N : Nat) (s : Sh) (a b : Pl) : Prop where
  kj : s.k ≤ s.j
  jn : s.j ≤ s.k + n
  jN : s.j ≤ N
  wr : s.wr = true ↔ b = .st
  a0 : a = .ld ∨ a = .rc → s.k < N
  a1 : a = .sl ∨ a = .st → s.k < s.j
  a2 : a.wt = true → s.k = N
  b0 : b = .ld ∨ b = .rc ∨ b = .sl ∨ b = .st → s.j < N
  b1 : b = .sl ∨ b = .st → s.j < s.k + n
  b2 : b.dn = true → s.j = N
  ka : b = .rc → s.j < s.k + n → s.tb = true ∨ a = .bl
  kb : a = .rc → s.k < s.j → s.ta = true ∨ b = .bl
  g : wgOk s.wg a.ap b.bp

/-- The places whose step is the goroutine's own. -/
def Pl.go : Pl → Bool
  | .bl | .rc | .out | .gone => false
  | _ => true
def rdE (a : Addr) : Event := ⟨.cell a, false, true⟩
def wrE (a : Addr) : Event := ⟨.cell a, true, true⟩
def mkE (m : Mark) : Event := ⟨.mark m, false, true⟩
def Lay.sem (L : Lay) : Addr := ⟨L.W, 1, none⟩
def nxP (n : Nat) (x : Bool) (s : Sh) : Pl → Pl
  | .ld => if s.can n x then .sl else .rc
  | .sl => .st
  | .st => .bl
  | .w0 => .w1
  | .w1 => match s.wg with | .c => .we | _ => .w2
  | .w2 => match s.wg with | .a => .w3 | _ => .w1
  | .w3 => .w4
  | .w4 => .we
  | .we => .wq
  | .wq => .out
  | .d0 => .d1
  | .d1 => .d2
  | .d2 => match s.wg with | .a => .gone | _ => .d3
  | .d3 => .d4
  | .d4 => .d5
  | .d5 => .gone
  | p => p
def nxS (x : Bool) (s : Sh) : Pl → Sh
  | .sl => if x then s else { s with wr := true }
  | .st => if x then { s with k := s.k + 1 } else { s with j := s.j + 1, wr := false }
  | .w2 => match s.wg with | .a => { s with wg := .b } | _ => s
  | .w3 => { s with wg := .c }
  | .d2 => match s.wg with | .a => { s with wg := .c } | _ => { s with wg := .d }
  | .d4 => { s with wg := .e }
  | .d5 => { s with wg := .f }
  | _ => s
def nxE (L : Lay) (x : Bool) (s : Sh) : Pl → Array Event
  | .ld => #[rdE (L.ctr !x)]
  | .sl => #[⟨.cell (L.slot (s.cnt x % L.n)), !x, false⟩]
  | .st => #[wrE (L.ctr x)]
  | .w0 | .d1 => #[mkE .disable]
  | .w1 | .w4 | .d3 => #[rdE L.grp]
  | .w2 => match s.wg with | .a => #[rdE L.grp, wrE L.grp] | _ => #[rdE L.grp]
  | .w3 | .d5 => semEvents L.sem
  | .we => #[mkE .enable]
  | .wq => #[mkE (.acquire L.grp)]
  | .d0 => #[mkE (.releaseMerge L.grp)]
  | .d2 => #[rdE L.grp, wrE L.grp]
  | .d4 => #[wrE L.grp]
  | _ => #[]

section
variable {n N : Nat} {s : Sh} {a b : Pl}

/-- Goroutine 0 takes a step of its own. -/
theorem J.goA (h : J n N s a b) (hg : a.go = true) (hf : a = .w3 → s.wg = .f) : J n N (nxS true s a) (nxP n true s a) b := by
  obtain ⟨kj, jn, jN, wr, a0, a1, a2, b0, b1, b2, ka, kb, g⟩ := h
  cases a <;> simp only [Pl.go, Bool.false_eq_true] at hg <;> simp only [nxS, nxP, reduceCtorEq, false_or, or_false, true_or, or_true, false_implies, true_implies, Pl.wt, Pl.ap] at *
  case ld =>
    simp only [Sh.can, if_true]
    by_cases c : s.k < s.j
    · simp only [c, decide_true, if_true]
      constructor <;> simp_all [Pl.wt, Pl.ap]
    · simp only [c, decide_false]
      constructor <;> simp_all [Pl.wt, Pl.ap] <;> omega
  case sl => constructor <;> simp_all [Pl.wt, Pl.ap]
  case st =>
    constructor <;> simp_all [Pl.wt, Pl.ap] <;> omega
  case w0 => constructor <;> simp_all [Pl.wt, Pl.ap]
  case w1 => cases e : s.wg <;> (simp only [e] at g ⊢) <;> constructor <;> simp_all [Pl.wt, Pl.ap, wgOk]
  case w2 => cases e : s.wg <;> (simp only [e] at g ⊢) <;> constructor <;> simp_all [Pl.wt, Pl.ap, wgOk]
  case w3 =>
    rw [hf] at g
    constructor <;> simp_all [Pl.wt, Pl.ap, wgOk]
  case w4 => constructor <;> simp_all [Pl.wt, Pl.ap]
  case we => constructor <;> simp_all [Pl.wt, Pl.ap]
  case wq => constructor <;> simp_all [Pl.wt, Pl.ap]
  all_goals (cases e : s.wg <;> simp [e, wgOk] at g)

/-- The child takes a step of its own. -/
theorem J.goB (h : J n N s a b) (hg : b.go = true) : J n N (nxS false s b) a (nxP n false s b) := by
  obtain ⟨kj, jn, jN, wr, a0, a1, a2, b0, b1, b2, ka, kb, g⟩ := h
  cases b <;> simp only [Pl.go, Bool.false_eq_true] at hg <;> simp only [nxS, nxP, reduceCtorEq, false_or, or_false, true_or, or_true, false_implies, true_implies, Pl.dn, Pl.bp] at *
  case ld =>
    simp only [Sh.can, Bool.false_eq_true, if_false]
    by_cases c : s.j < s.k + n
    · simp only [c, decide_true, if_true]
      constructor <;> simp_all [Pl.dn, Pl.bp]
    · simp only [c, decide_false]
      constructor <;> simp_all [Pl.dn, Pl.bp] <;> omega
  case sl => constructor <;> simp_all [Pl.dn, Pl.bp]
  case st =>
    constructor <;> simp_all [Pl.dn, Pl.bp] <;> omega
  case d0 => constructor <;> simp_all [Pl.dn, Pl.bp]
  case d1 => constructor <;> simp_all [Pl.dn, Pl.bp]
  case d2 => cases e : s.wg <;> (simp only [e] at g ⊢) <;> constructor <;> simp_all [Pl.dn, Pl.bp, wgOk]
  case d3 => constructor <;> simp_all [Pl.dn, Pl.bp]
  case d4 => cases e : s.wg <;> (simp only [e] at g ⊢) <;> constructor <;> simp_all [Pl.dn, Pl.bp, wgOk]
  case d5 => cases e : s.wg <;> (simp only [e] at g ⊢) <;> constructor <;> simp_all [Pl.dn, Pl.bp, wgOk]
  all_goals (cases e : s.wg <;> simp [e, wgOk] at g)

/-- Where one goes on who has rung. -/
def aft (N : Nat) (x : Bool) (i : Nat) : Pl := if i = N then (if x then .w0 else .d0) else .ld
theorem J.blA (h : J n N s .bl b) : J n N { s with tb := true } (aft N true s.k) b := by
  obtain ⟨kj, jn, jN, wr, a0, a1, a2, b0, b1, b2, ka, kb, g⟩ := h
  unfold aft
  by_cases c : s.k = N
  · rw [if_pos c]
    constructor <;> simp_all [Pl.wt, Pl.ap]
  · rw [if_neg c]
    have : s.k < N := by omega
    constructor <;> simp_all [Pl.wt, Pl.ap]
theorem J.blB (h : J n N s a .bl) : J n N { s with ta := true } a (aft N false s.j) := by
  obtain ⟨kj, jn, jN, wr, a0, a1, a2, b0, b1, b2, ka, kb, g⟩ := h
  unfold aft
  by_cases c : s.j = N
  · rw [if_pos c]
    constructor <;> simp_all [Pl.dn, Pl.bp]
  · rw [if_neg c]
    have : s.j < N := by omega
    constructor <;> simp_all [Pl.dn, Pl.bp]
theorem J.rcA (h : J n N s .rc b) (v : Bool) : J n N { s with ta := v } .ld b := by
  obtain ⟨kj, jn, jN, wr, a0, a1, a2, b0, b1, b2, ka, kb, g⟩ := h
  constructor <;> simp_all [Pl.wt, Pl.ap]
theorem J.rcB (h : J n N s a .rc) (v : Bool) : J n N { s with tb := v } a .ld := by
  obtain ⟨kj, jn, jN, wr, a0, a1, a2, b0, b1, b2, ka, kb, g⟩ := h
  constructor <;> simp_all [Pl.dn, Pl.bp]

/-! ### the measure -/
def rk (g : Wg) : Pl → Nat
  | .ld => 3
  | .sl => 2
  | .st => 1
  | .rc => 2
  | .bl => 40
  | .w0 => 30
  | .w1 => 20
  | .w2 => match g with | .a => 19 | _ => 21
  | .w3 => 10
  | .w4 => 6
  | .we => 4
  | .wq => 2
  | .d0 => 30
  | .d1 => 29
  | .d2 => 28
  | .d3 => 20
  | .d4 => 18
  | .d5 => 12
  | _ => 0
def mu (N : Nat) (s : Sh) (a b : Pl) : Nat := 100 * (N - s.k) + 100 * (N - s.j) + rk s.wg a + rk s.wg b + (if s.ta then 5 else 0) + (if s.tb then 5 else 0)
theorem rk_up (p : Pl) (g v : Wg) : rk v p ≤ rk g p + 2 := by cases p <;> first | exact Nat.le_add_right _ _ | (cases g <;> cases v <;> decide)
theorem rk_b {p : Pl} (h : p.ap ≠ 0 ∨ p.bp ≠ 9) (g v : Wg) : rk v p = rk g p := by cases p <;> first | rfl | (simp [Pl.ap, Pl.bp] at h)
theorem mu_goA (h : J n N s a b) (hg : a.go = true) (hf : a = .w3 → s.wg = .f) : mu N (nxS true s a) (nxP n true s a) b < mu N s a b := by
  obtain ⟨kj, jn, jN, wr, a0, a1, a2, b0, b1, b2, ka, kb, g⟩ := h
  have hb : b.bp ≠ 9 := fun e => by rw [e] at g; cases hw : s.wg <;> simp [hw, wgOk] at g
  have ub := rk_b (p := b) (.inr hb)
  cases a <;> simp only [Pl.go, Bool.false_eq_true] at hg
  case ld =>
    show 100 * (N - s.k) + 100 * (N - s.j) + rk s.wg (if s.can n true then .sl else .rc) + rk s.wg b + (if s.ta then 5 else 0) + (if s.tb then 5 else 0) < 100 * (N - s.k) + 100 * (N - s.j) + 3 + rk s.wg b + _ + _
    cases s.can n true
    · have : rk s.wg (if false = true then .sl else .rc) = 2 := rfl
      omega
    · have : rk s.wg (if true = true then .sl else .rc) = 2 := rfl
      omega
  case sl =>
    show 100 * (N - s.k) + 100 * (N - s.j) + 1 + rk s.wg b + (if s.ta then 5 else 0) + (if s.tb then 5 else 0) < 100 * (N - s.k) + 100 * (N - s.j) + 2 + rk s.wg b + _ + _
    omega
  case st =>
    show 100 * (N - (s.k + 1)) + 100 * (N - s.j) + 40 + rk s.wg b + (if s.ta then 5 else 0) + (if s.tb then 5 else 0) < 100 * (N - s.k) + 100 * (N - s.j) + 1 + rk s.wg b + _ + _
    have := a1 (.inr rfl)
    omega
  case w0 =>
    show 100 * (N - s.k) + 100 * (N - s.j) + 20 + rk s.wg b + (if s.ta then 5 else 0) + (if s.tb then 5 else 0) < 100 * (N - s.k) + 100 * (N - s.j) + 30 + rk s.wg b + _ + _
    omega
  case w1 =>
    show 100 * (N - s.k) + 100 * (N - s.j) + rk s.wg (match s.wg with | .c => .we | _ => .w2) + rk s.wg b + (if s.ta then 5 else 0) + (if s.tb then 5 else 0) < 100 * (N - s.k) + 100 * (N - s.j) + 20 + rk s.wg b + _ + _
    cases e : s.wg <;> simp only [e, wgOk, Pl.ap] at g <;> first | omega | skip
    · have : rk .a .w2 = 19 := rfl
      simp only
      omega
    · have : rk .c .we = 4 := rfl
      simp only
      omega
  case w2 =>
    show 100 * (N - (nxS true s .w2).k) + 100 * (N - (nxS true s .w2).j) + rk (nxS true s .w2).wg (match s.wg with | .a => .w3 | _ => .w1) + rk (nxS true s .w2).wg b + (if (nxS true s .w2).ta then 5 else 0) + (if (nxS true s .w2).tb then 5 else 0) < 100 * (N - s.k) + 100 * (N - s.j) + rk s.wg .w2 + rk s.wg b + _ + _
    cases e : s.wg <;> simp only [e, wgOk, Pl.ap] at g <;> first | omega | skip
    · have h1 : rk .a .w2 = 19 := rfl
      have h2 : rk .b .w3 = 10 := rfl
      have h3 := ub .a .b
      simp only [nxS, e]
      omega
    · have h1 : rk .c .w2 = 21 := rfl
      have h2 : rk .c .w1 = 20 := rfl
      simp only [nxS, e]
      omega
  case w3 =>
    show 100 * (N - s.k) + 100 * (N - s.j) + 6 + rk .c b + (if s.ta then 5 else 0) + (if s.tb then 5 else 0) < 100 * (N - s.k) + 100 * (N - s.j) + 10 + rk s.wg b + _ + _
    have := ub s.wg .c
    omega
  case w4 =>
    show 100 * (N - s.k) + 100 * (N - s.j) + 4 + rk s.wg b + (if s.ta then 5 else 0) + (if s.tb then 5 else 0) < 100 * (N - s.k) + 100 * (N - s.j) + 6 + rk s.wg b + _ + _
    omega
  case we =>
    show 100 * (N - s.k) + 100 * (N - s.j) + 2 + rk s.wg b + (if s.ta then 5 else 0) + (if s.tb then 5 else 0) < 100 * (N - s.k) + 100 * (N - s.j) + 4 + rk s.wg b + _ + _
    omega
  case wq =>
    show 100 * (N - s.k) + 100 * (N - s.j) + 0 + rk s.wg b + (if s.ta then 5 else 0) + (if s.tb then 5 else 0) < 100 * (N - s.k) + 100 * (N - s.j) + 2 + rk s.wg b + _ + _
    omega
  all_goals (cases e : s.wg <;> simp [e, wgOk, Pl.ap] at g)
theorem mu_goB (h : J n N s a b) (hg : b.go = true) : mu N (nxS false s b) a (nxP n false s b) < mu N s a b := by
  obtain ⟨kj, jn, jN, wr, a0, a1, a2, b0, b1, b2, ka, kb, g⟩ := h
  have up := rk_up a
  cases b <;> simp only [Pl.go, Bool.false_eq_true] at hg
  case ld =>
    show 100 * (N - s.k) + 100 * (N - s.j) + rk s.wg a + rk s.wg (if s.can n false then .sl else .rc) + (if s.ta then 5 else 0) + (if s.tb then 5 else 0) < 100 * (N - s.k) + 100 * (N - s.j) + rk s.wg a + 3 + _ + _
    cases s.can n false
    · have : rk s.wg (if false = true then .sl else .rc) = 2 := rfl
      omega
    · have : rk s.wg (if true = true then .sl else .rc) = 2 := rfl
      omega
  case sl =>
    show 100 * (N - s.k) + 100 * (N - s.j) + rk s.wg a + 1 + (if s.ta then 5 else 0) + (if s.tb then 5 else 0) < 100 * (N - s.k) + 100 * (N - s.j) + rk s.wg a + 2 + _ + _
    omega
  case st =>
    show 100 * (N - s.k) + 100 * (N - (s.j + 1)) + rk s.wg a + 40 + (if s.ta then 5 else 0) + (if s.tb then 5 else 0) < 100 * (N - s.k) + 100 * (N - s.j) + rk s.wg a + 1 + _ + _
    have := b0 (.inr (.inr (.inr rfl)))
    omega
  case d0 =>
    show 100 * (N - s.k) + 100 * (N - s.j) + rk s.wg a + 29 + (if s.ta then 5 else 0) + (if s.tb then 5 else 0) < 100 * (N - s.k) + 100 * (N - s.j) + rk s.wg a + 30 + _ + _
    omega
  case d1 =>
    show 100 * (N - s.k) + 100 * (N - s.j) + rk s.wg a + 28 + (if s.ta then 5 else 0) + (if s.tb then 5 else 0) < 100 * (N - s.k) + 100 * (N - s.j) + rk s.wg a + 29 + _ + _
    omega
  case d2 =>
    have u1 := up s.wg .c
    have u2 := up s.wg .d
    show 100 * (N - (nxS false s .d2).k) + 100 * (N - (nxS false s .d2).j) + rk (nxS false s .d2).wg a + rk (nxS false s .d2).wg (match s.wg with | .a => .gone | _ => .d3) + (if (nxS false s .d2).ta then 5 else 0) + (if (nxS false s .d2).tb then 5 else 0) < 100 * (N - s.k) + 100 * (N - s.j) + rk s.wg a + 28 + _ + _
    have h1 : rk .c .gone = 0 := rfl
    have h2 : rk .d .d3 = 20 := rfl
    cases e : s.wg <;> simp only [e, nxS] at u1 u2 ⊢ <;> omega
  case d3 =>
    show 100 * (N - s.k) + 100 * (N - s.j) + rk s.wg a + 18 + (if s.ta then 5 else 0) + (if s.tb then 5 else 0) < 100 * (N - s.k) + 100 * (N - s.j) + rk s.wg a + 20 + _ + _
    omega
  case d4 =>
    show 100 * (N - s.k) + 100 * (N - s.j) + rk .e a + 12 + (if s.ta then 5 else 0) + (if s.tb then 5 else 0) < 100 * (N - s.k) + 100 * (N - s.j) + rk s.wg a + 18 + _ + _
    have := up s.wg .e
    omega
  case d5 =>
    show 100 * (N - s.k) + 100 * (N - s.j) + rk .f a + 0 + (if s.ta then 5 else 0) + (if s.tb then 5 else 0) < 100 * (N - s.k) + 100 * (N - s.j) + rk s.wg a + 12 + _ + _
    have := up s.wg .f
    omega
  all_goals (cases e : s.wg <;> simp [e, wgOk, Pl.bp] at g)
/-- Whoever rings: its own place falls by more than a token is worth, and more than the other's waking. -/
theorem rk_aft (N : Nat) (x : Bool) (i : Nat) (g : Wg) : rk g (aft N x i) ≤ 30 := by
  unfold aft
  split
  · cases x <;> exact Nat.le_refl 30
  · exact (by decide : 3 ≤ 30)
end
end Go.Proofs.Ytdmiilgdkmbmeaa.Rg
namespace Go.Proofs.Ytdmiilgdkmbmeaa.Rg
open Go Go.Conc
open Go.ConcN (RelBy RelBy.new RelBy.app RelBy.appOwn RelBy.appNot)

def dfA : Pl → Nat
  | .w1 | .w2 | .w3 | .w4 | .we => 1
  | _ => 0
def dfB : Pl → Nat
  | .d2 | .d3 | .d4 | .d5 => 1
  | _ => 0
def Pl.rel : Pl → Bool
  | .d1 | .d2 | .d3 | .d4 | .d5 | .gone => true
  | _ => false
def Rel (L : Lay) (t : Trace) : Prop := ∃ r, RelBy L.grp t L.c r ∧ ∀ i x, r < i → t.g? i = some L.c → touchAt t i = some x → ∃ y, x.loc = .cell y ∧ y.block = L.W ∧ x.kind = .atomic
structure TrS (L : Lay) (Shun : Loc → Prop) (s : Sh) (a b : Pl) (t : Trace) : Prop where
  tr : Tr L Shun t
  fr : ∀ m, s.j ≤ m → m < s.k + L.n → Fre L false t (m % L.n)
  fu : ∀ m, s.k ≤ m → m < s.j → Fre L true t (m % L.n)
  pa : a = .sl ∨ a = .st → Perm t 0 (.cell (L.slot (s.k % L.n)))
  pb : b = .sl ∨ b = .st → Perm t L.c (.cell (L.slot (s.j % L.n)))
  da : Deaf t 0 = dfA a
  db : b ≠ .gone → Deaf t L.c = dfB b
  rel : b.rel = true → Rel L t
/-- What a step of x's between two stops may list. -/
def EvI (L : Lay) (Shun : Loc → Prop) (x : Bool) (e : Event) : Prop :=
  (∀ b, (MemAct.ofEvent e).touch? = some b → b.loc.isMemory = true → Ok L Shun (L.gr x) b) ∧ (∀ b, (MemAct.ofEvent e).touch? = some b → L.cl b.loc ≠ 3) ∧ e.loc ≠ .mark .disable ∧ e.loc ≠ .mark .enable ∧ e.loc ≠ .mark (.release L.grp) ∧
    ∀ y sync, MemAct.ofEvent e ≠ .access ⟨.cell (L.ctr y), true, sync⟩
/-- What is said and done of the group. -/
def EvG (L : Lay) (e : Event) : Prop :=
  e = mkE .disable ∨ e = mkE .enable ∨ e = mkE (.acquire L.grp) ∨ e = mkE (.releaseMerge L.grp) ∨ ∃ i w, e = ⟨.cell ⟨L.W, i, none⟩, w, true⟩

section
variable {L : Lay} {Shun : Loc → Prop} {s s' : Sh} {a a' b b' : Pl} {t u : Trace}

theorem cl_ctr (hL : L.Good) (x : Bool) : L.cl (.cell (L.ctr x)) = 1 := by
  have h1 : (L.ctr x).block = L.R := rfl
  have h2 : L.ctr x = L.ctr true ∨ L.ctr x = L.ctr false := by cases x <;> simp
  show (if (L.ctr x).block = L.M then 3 else if (L.ctr x).block = L.W then 1 else if L.ctr x = L.ctr true then 1 else if L.ctr x = L.ctr false then 1 else if L.low ≤ (L.ctr x).block then 2 else 0) = 1
  rw [h1, if_neg hL.RM, if_neg hL.RW]
  rcases h2 with h2 | h2
  · rw [if_pos h2]
  · split <;> rfl
theorem cl_slot (i : Nat) : L.cl (.cell (L.slot i)) = 3 := by unfold Lay.cl; exact if_pos rfl
theorem cl_grp (hL : L.Good) {y : Addr} (h : y.block = L.W) : L.cl (.cell y) = 1 := by
  show (if y.block = L.M then 3 else if y.block = L.W then 1 else if y = L.ctr true then 1 else if y = L.ctr false then 1 else if L.low ≤ y.block then 2 else 0) = 1
  rw [h, if_neg (Ne.symm hL.MW), if_pos rfl]
theorem slot_inj {i j : Nat} (h : (Loc.cell (L.slot i)) = .cell (L.slot j)) : i = j := by
  have := congrArg Addr.off (Loc.cell.inj h)
  exact this
theorem gr_ne (hL : L.Good) (x : Bool) : L.gr (!x) ≠ L.gr x := by
  have := hL.c
  cases x <;> simp [Lay.gr] <;> omega
theorem ofEvent_cell (y : Addr) (w sy : Bool) : MemAct.ofEvent ⟨.cell y, w, sy⟩ = .access ⟨.cell y, w, sy⟩ := by cases w <;> cases sy <;> rfl
theorem ofEvent_mk (m : Mark) : MemAct.ofEvent (mkE m) = .mark m := rfl
theorem one_ev (g : Nat) (fn : FuncId) (pos : String) (e : Event) : MemOp.ofEvents g fn pos #[e] = #[{ g, fn, pos, act := .ofEvent e }] := by rw [ofEvents_eq]; simp
theorem mem_evs {g : Nat} {fn : FuncId} {pos : String} {es : Array Event} {op : MemOp} (h : op ∈ MemOp.ofEvents g fn pos es) : ∃ e ∈ es, op = { g, fn, pos, act := .ofEvent e } := by
  rw [ofEvents_eq] at h
  obtain ⟨e, he, rfl⟩ := Array.mem_map.1 h
  exact ⟨e, he, rfl⟩

/-- One more look at what is kept: whoever's the operations are, if they touch no slot and turn no counter. -/
theorem TrS.keep (h : TrS L Shun s a b t) (ht : Tr L Shun (t ++ u)) (hs : ∀ op ∈ u, ∀ x, op.act.touch? = some x → L.cl x.loc ≠ 3) (hw : ∀ op ∈ u, ∀ y sync, op.act ≠ .access ⟨.cell (L.ctr y), true, sync⟩)
    (hj : s'.j = s.j) (hk : s'.k = s.k) (ha : a' = .sl ∨ a' = .st → a = .sl ∨ a = .st) (hb : b' = .sl ∨ b' = .st → b = .sl ∨ b = .st) (da : Deaf (t ++ u) 0 = dfA a') (db : b' ≠ .gone → Deaf (t ++ u) L.c = dfB b') (hr : b'.rel = true → Rel L (t ++ u)) :
    TrS L Shun s' a' b' (t ++ u) := by
  have ns : ∀ op ∈ u, ∀ x, op.act.touch? = some x → ∀ i, x.loc ≠ .cell (L.slot i) := fun op hop x hx i e => hs op hop x hx (by rw [e]; exact cl_slot i)
  exact { tr := ht,
          fr := fun m h1 h2 => (h.fr m (by omega) (by omega)).app (fun op hop x hx e => absurd e (ns op hop x hx _)) (fun op hop sync => hw op hop _ sync),
          fu := fun m h1 h2 => (h.fu m (by omega) (by omega)).app (fun op hop x hx e => absurd e (ns op hop x hx _)) (fun op hop sync => hw op hop _ sync),
          pa := fun e => by rw [hk]; exact (h.pa (ha e)).app fun op hop x hx e2 => absurd e2 (ns op hop x hx _),
          pb := fun e => by rw [hj]; exact (h.pb (hb e)).app fun op hop x hx e2 => absurd e2 (ns op hop x hx _),
          da := da, db := db, rel := hr }

theorem Rel.still (h : Rel L t) (hu : ∀ op ∈ u, op.g ≠ L.c ∨ op.act.touch? = none) : Rel L (t ++ u) := by
  obtain ⟨r, h1, h2⟩ := h
  have new : ∀ i x, t.size ≤ i → (t ++ u).g? i = some L.c → touchAt (t ++ u) i = some x → False := fun i x hi hg hx => by
    obtain ⟨op, ho, hox⟩ := touch_of hx
    rcases getElem?_append_cases ho with ⟨h3, _⟩ | ⟨_, hou⟩
    · omega
    · have e : op.g = L.c := by simpa [Trace.g?, ho] using hg
      rcases hu op hou with h4 | h4
      · exact h4 e
      · rw [h4] at hox; cases hox
  refine ⟨r, h1.app fun i hi hg ⟨x, hx, _⟩ => new i x hi hg hx, fun i x hi hg hx => ?_⟩
  rcases Nat.lt_or_ge i t.size with h3 | h3
  · exact h2 i x hi (by rw [← g?_old (u := u) h3]; exact hg) (by rw [← touchAt_old (u := u) h3]; exact hx)
  · exact (new i x h3 hg hx).elim

/-- A step of x's between two stops. -/
theorem TrS.idle (h : TrS L Shun s a b t) (hL : L.Good) (x : Bool) (fn : FuncId) (pos : String) {es : Array Event} (hes : ∀ e ∈ es, EvI L Shun x e) (hq : x = false → b ≠ .gone ∧ (b.rel = true → es = #[])) : TrS L Shun s a b (t ++ MemOp.ofEvents (L.gr x) fn pos es) := by
  by_cases hnil : es = #[]
  · subst hnil
    have : t ++ MemOp.ofEvents (L.gr x) fn pos #[] = t := by simp [MemOp.ofEvents]
    rw [this]; exact h
  have hg : L.gr x = 0 ∨ L.gr x = L.c := by cases x <;> simp [Lay.gr]
  have hd : ∀ d, deafBehind d es = d := deafBehind_still fun e he => ⟨(hes e he).2.2.1, (hes e he).2.2.2.1⟩
  have hmem : ∀ op ∈ MemOp.ofEvents (L.gr x) fn pos es, op.g = L.gr x ∧ ∃ e ∈ es, op.act = .ofEvent e := fun op hop => by
    obtain ⟨e, he, rfl⟩ := mem_evs hop
    exact ⟨rfl, e, he, rfl⟩
  have hrm : ∀ op ∈ MemOp.ofEvents (L.gr x) fn pos es, op.act ≠ .mark (.release L.grp) := fun op hop e2 => by
    obtain ⟨_, e, he, h1⟩ := hmem op hop
    rw [h1] at e2
    have h5 := (hes e he).2.2.2.2.1
    obtain ⟨loc, w, sy⟩ := e
    cases loc with
    | mark m => simp only [MemAct.ofEvent, MemAct.mark.injEq] at e2; exact h5 (congrArg Loc.mark e2)
    | cell y => rw [ofEvent_cell] at e2; cases e2
    | obj r => cases w <;> cases sy <;> cases e2
    | output => cases e2
    | goroutines => cases e2
  refine h.keep (h.tr.app hg (fun op hop => (hmem op hop).1) (fun op hop y hy hm => ?_) (fun op hop y hy e3 => ?_) hrm) (fun op hop y hy => ?_) (fun op hop y sync => ?_) rfl rfl id id ?_ (fun hb => ?_) (fun hb => ?_)
  · obtain ⟨_, e, he, h1⟩ := hmem op hop
    exact (hes e he).1 y (h1 ▸ hy) hm
  · obtain ⟨_, e, he, h1⟩ := hmem op hop
    exact absurd e3 ((hes e he).2.1 y (h1 ▸ hy))
  · obtain ⟨_, e, he, h1⟩ := hmem op hop
    exact (hes e he).2.1 y (h1 ▸ hy)
  · obtain ⟨_, e, he, h1⟩ := hmem op hop
    rw [h1]
    exact (hes e he).2.2.2.2.2 y sync
  · rw [← h.da]
    cases x
    · have hc := hL.c
      exact Deaf_other t (by show L.c ≠ 0; omega) _ fun op hop => (hmem op hop).1
    · exact (Deaf_own t 0 fn pos es).trans (hd _)
  · rw [← h.db hb]
    cases x
    · exact (Deaf_own t L.c fn pos es).trans (hd _)
    · have hc := hL.c
      exact Deaf_other t (by show 0 ≠ L.c; omega) _ fun op hop => (hmem op hop).1
  · cases x
    · exact absurd ((hq rfl).2 hb) hnil
    · have hc := hL.c
      exact (h.rel hb).still fun op hop => .inl (by rw [(hmem op hop).1]; simp [Lay.gr]; omega)

theorem act_of_mute {e : Event} (h : e.mute = true) : MemAct.ofEvent e = .mark .disable ∨ MemAct.ofEvent e = .mark .enable := by
  obtain ⟨loc, w, sy⟩ := e
  cases loc with
  | mark m => cases m <;> simp_all [Event.mute, MemAct.ofEvent]
  | _ => simp_all [Event.mute]
/-- Whoever only leaves. -/
theorem TrS.mute (h : TrS L Shun s a b t) {g : Nat} (h0 : g ≠ 0) (hb : g = L.c → b = .gone) (fn : FuncId) (pos : String) {es : Array Event} (hm : ∀ e ∈ es, e.mute = true) : TrS L Shun s a b (t ++ MemOp.ofEvents g fn pos es) := by
  have hmem : ∀ op ∈ MemOp.ofEvents g fn pos es, op.g = g ∧ op.act.touch? = none ∧ (op.act = .mark .disable ∨ op.act = .mark .enable) := fun op hop => by
    obtain ⟨e, he, rfl⟩ := mem_evs hop
    exact ⟨rfl, touch_mute (hm e he), act_of_mute (hm e he)⟩
  have hno : ∀ op ∈ MemOp.ofEvents g fn pos es, op.act ≠ .mark (.release L.grp) := fun op hop => by
    rcases (hmem op hop).2.2 with e | e <;> rw [e] <;> simp
  refine h.keep (h.tr.quiet (fun op hop => (hmem op hop).2.1) hno) (fun op hop x hx => ?_) (fun op hop y sync => ?_) rfl rfl id id ?_ (fun hb' => ?_) (fun hb' => (h.rel hb').still fun op hop => .inr (hmem op hop).2.1)
  · rw [(hmem op hop).2.1] at hx; cases hx
  · rcases (hmem op hop).2.2 with e | e <;> rw [e] <;> simp
  · rw [← h.da]; exact Deaf_other t h0 _ fun op hop => (hmem op hop).1
  · rw [← h.db hb']; exact Deaf_other t (fun e => hb' (hb e)) _ fun op hop => (hmem op hop).1

/-- A communication: nothing is touched, no word is said. -/
theorem TrS.comm (h : TrS L Shun s a b t) (hu : ∀ op ∈ u, op.act.touch? = none ∧ ∀ m, op.act ≠ .mark m) (hj : s'.j = s.j) (hk : s'.k = s.k) (ha : ¬(a' = .sl ∨ a' = .st)) (hb : b' = b ∨ ¬(b' = .sl ∨ b' = .st)) (da : dfA a' = dfA a) (db : dfB b' = dfB b)
    (hg : b' ≠ .gone → b ≠ .gone) (hr : b'.rel = true → b.rel = true) : TrS L Shun s' a' b' (t ++ u) := by
  have hd : ∀ g, Deaf (t ++ u) g = Deaf t g := fun g => by
    obtain ⟨l⟩ := u
    rw [Deaf_append]
    have : ∀ (l : List MemOp), (∀ op ∈ l, ∀ m, op.act ≠ .mark m) → ∀ d, l.foldl (deafStep g) d = d := by
      intro l
      induction l with
      | nil => intro _ d; rfl
      | cons y l ih =>
        intro hl d
        have hy := hl y (by simp)
        have e1 : deafStep g d y = d := by
          unfold deafStep
          split
          · rename_i e; exact absurd e (hy _)
          · rename_i e; exact absurd e (hy _)
          · rfl
        rw [List.foldl_cons, e1]
        exact ih (fun op hop => hl op (by simp [hop])) d
    exact this l (fun op hop => (hu op (by simpa using hop)).2) _
  refine h.keep (h.tr.quiet (fun op hop => (hu op hop).1) (fun op hop => (hu op hop).2 _)) (fun op hop x hx => ?_) (fun op hop y sync e => ?_) hj hk (fun e => absurd e ha) (fun e => ?_) ((hd 0).trans (h.da.trans da.symm)) (fun hb' => (hd L.c).trans ((h.db (hg hb')).trans db.symm)) (fun hb' => (h.rel (hr hb')).still fun op hop => .inr (hu op hop).1)
  · rw [(hu op hop).1] at hx; cases hx
  · have := (hu op hop).1
    rw [e] at this
    cases this
  · rcases hb with hb | hb
    · rw [← hb]; exact e
    · exact absurd e hb
end
end Go.Proofs.Ytdmiilgdkmbmeaa.Rg
namespace Go.Proofs.Ytdmiilgdkmbmeaa.Rg
open Go Go.Conc
open Go.ConcN (RelBy RelBy.new RelBy.app RelBy.appOwn RelBy.appNot)

section
variable {L : Lay} {Shun : Loc → Prop} {s s' : Sh} {a a' b b' : Pl} {t u : Trace} {n N : Nat}

theorem ok_sync {y : Addr} (h : L.cl (.cell y) = 1) (w : Bool) (g : Nat) : Ok L Shun g ⟨.cell y, w, .atomic⟩ :=
  ⟨fun _ e => (by cases e), fun e => absurd (h.symm.trans e) (by decide), fun _ => ⟨fun e => (by cases e), fun e => (by cases e)⟩, fun e => absurd (h.symm.trans e) (by decide)⟩
theorem ok_slot (hS : ∀ y : Addr, y.block = L.M → ¬ Shun (.cell y)) (i : Nat) (w : Bool) (g : Nat) : Ok L Shun g ⟨.cell (L.slot i), w, .plain⟩ := by
  have h := cl_slot (L := L) i
  refine ⟨fun e => absurd e (hS _ rfl), fun e => ?_, fun e => ?_, fun e => ?_⟩ <;> rw [show (Touch.mk (.cell (L.slot i)) w .plain).loc = .cell (L.slot i) from rfl, h] at e <;> cases e
/-- One operation, at a cell. -/
def opAt (g : Nat) (fn : FuncId) (pos : String) (y : Addr) (w sy : Bool) : MemOp := { g, fn, pos, act := .access ⟨.cell y, w, sy⟩ }
theorem evs_one (g : Nat) (fn : FuncId) (pos : String) (y : Addr) (w sy : Bool) : MemOp.ofEvents g fn pos #[⟨.cell y, w, sy⟩] = #[opAt g fn pos y w sy] := by rw [one_ev, ofEvent_cell]; rfl
theorem in_one {y z : MemOp} (h : z ∈ (#[y] : Trace)) : z = y := by simpa using h
theorem Tr.sync (h : Tr L Shun t) {g : Nat} (hg : g = 0 ∨ g = L.c) (fn : FuncId) (pos : String) {y : Addr} (w : Bool) (hcl : L.cl (.cell y) = 1) : Tr L Shun (t ++ #[opAt g fn pos y w true]) := by
  refine h.app hg (fun op hop => by rw [in_one hop]; rfl) (fun op hop b hb _ => ?_) (fun op hop b hb e => ?_) (fun op hop => by rw [in_one hop]; simp [opAt])
  · rw [in_one hop] at hb
    obtain rfl : ⟨.cell y, w, .atomic⟩ = b := Option.some.inj hb
    exact ok_sync hcl w g
  · rw [in_one hop] at hb
    obtain rfl : ⟨.cell y, w, .atomic⟩ = b := Option.some.inj hb
    rw [show (Touch.mk (.cell y) w .atomic).loc = .cell y from rfl, hcl] at e
    cases e
theorem Tr.slot (h : Tr L Shun t) {g : Nat} (hg : g = 0 ∨ g = L.c) (fn : FuncId) (pos : String) {i : Nat} (w : Bool) (hS : ∀ y : Addr, y.block = L.M → ¬ Shun (.cell y)) (hp : Perm t g (.cell (L.slot i))) : Tr L Shun (t ++ #[opAt g fn pos (L.slot i) w false]) := by
  refine h.app hg (fun op hop => by rw [in_one hop]; rfl) (fun op hop b hb _ => ?_) (fun op hop b hb e => ?_) (fun op hop => by rw [in_one hop]; simp [opAt])
  · rw [in_one hop] at hb
    obtain rfl : ⟨.cell (L.slot i), w, .plain⟩ = b := Option.some.inj hb
    exact ok_slot hS i w g
  · rw [in_one hop] at hb
    obtain rfl : ⟨.cell (L.slot i), w, .plain⟩ = b := Option.some.inj hb
    exact hp
theorem touch_opAt {g : Nat} {fn : FuncId} {pos : String} {y : Addr} {w sy : Bool} {x : Touch} {op : MemOp} (h : op ∈ (#[opAt g fn pos y w sy] : Trace)) (hx : op.act.touch? = some x) : x.loc = .cell y := by
  rw [in_one h] at hx
  cases sy <;> (have := Option.some.inj hx; rw [← this])
theorem deaf_opAt (g g' : Nat) (fn : FuncId) (pos : String) (y : Addr) (w sy : Bool) : Deaf (t ++ #[opAt g fn pos y w sy]) g' = Deaf t g' := by rw [Deaf_push]; rfl
theorem ne_of_cl {l l' : Loc} (h : L.cl l ≠ L.cl l') : l ≠ l' := fun e => h (by rw [e])
theorem slot_ne {i j n : Nat} (hij : i < j) (h : j < i + n) : i % n ≠ j % n := fun e => by
  have h3 := Nat.div_add_mod i n
  have h4 := Nat.div_add_mod j n
  have h5 : i / n ≤ j / n := Nat.div_le_div_right (by omega)
  rcases Nat.lt_or_ge (i / n) (j / n) with h6 | h6
  · have h7 := Nat.mul_le_mul_left n (show i / n + 1 ≤ j / n from h6)
    rw [Nat.mul_add, Nat.mul_one] at h7
    omega
  · have h7 : i / n = j / n := Nat.le_antisymm h5 h6
    rw [h7, e] at h3
    omega
theorem slot_ne' {i j : Nat} (h : i ≠ j) : (Loc.cell (L.slot i)) ≠ .cell (L.slot j) := fun e => h (slot_inj e)

/-! ### goroutine 0 in the ring -/
theorem TrS.ldA (h : TrS L Shun s .ld b t) (hL : L.Good) (hJ : J L.n N s .ld b) (fn : FuncId) (pos : String) : TrS L Shun s (nxP L.n true s .ld) b (t ++ MemOp.ofEvents 0 fn pos (nxE L true s .ld)) := by
  have e : MemOp.ofEvents 0 fn pos (nxE L true s .ld) = #[opAt 0 fn pos (L.ctr false) false true] := evs_one 0 fn pos _ _ _
  rw [e]
  have k := h.keep (a' := .rc) (b' := b) (s' := s) (h.tr.sync (g := 0) (.inl rfl) fn pos false (cl_ctr hL false)) (fun op hop x hx => by rw [touch_opAt hop hx, cl_ctr hL]; decide) (fun op hop y sync => by rw [in_one hop]; simp [opAt]) rfl rfl (by simp) id
    ((deaf_opAt _ _ _ _ _ _ _).trans h.da) (fun hb => (deaf_opAt _ _ _ _ _ _ _).trans (h.db hb)) (fun hb => (h.rel hb).still fun op hop => .inl (by rw [in_one hop]; exact Ne.symm (Nat.ne_of_gt hL.c)))
  simp only [nxP, Sh.can, if_true]
  by_cases c : s.k < s.j
  · simp only [c, decide_true, if_true]
    exact ⟨k.tr, k.fr, k.fu, fun _ => (h.fu s.k (Nat.le_refl _) c).look (x := true) rfl rfl h.da (ctr_ne_slot hL _ _), k.pb, k.da, k.db, k.rel⟩
  · simp only [c, decide_false]
    exact k
theorem TrS.slA (h : TrS L Shun s .sl b t) (hL : L.Good) (hJ : J L.n N s .sl b) (hS : ∀ y : Addr, y.block = L.M → ¬ Shun (.cell y)) (fn : FuncId) (pos : String) : TrS L Shun s .st b (t ++ MemOp.ofEvents 0 fn pos (nxE L true s .sl)) := by
  have e : MemOp.ofEvents 0 fn pos (nxE L true s .sl) = #[opAt 0 fn pos (L.slot (s.k % L.n)) false false] := evs_one 0 fn pos _ _ _
  rw [e]
  have hp := h.pa (.inl rfl)
  have hk := hJ.a1 (.inl rfl)
  refine { tr := h.tr.slot (.inl rfl) fn pos false hS hp, fr := fun m h1 h2 => (h.fr m h1 h2).app (fun op hop x hx e2 => ?_) (fun op hop sync => by rw [in_one hop]; simp [opAt]), fu := fun m h1 h2 => (h.fu m h1 h2).app (fun op hop x hx e2 => by rw [in_one hop]; rfl) (fun op hop sync => by rw [in_one hop]; simp [opAt]),
           pa := fun _ => hp.app fun op hop x hx e2 => by rw [in_one hop]; rfl, pb := fun hb => (h.pb hb).app fun op hop x hx e2 => ?_, da := (deaf_opAt _ _ _ _ _ _ _).trans h.da, db := fun hb => (deaf_opAt _ _ _ _ _ _ _).trans (h.db hb),
           rel := fun hb => (h.rel hb).still fun op hop => .inl (by rw [in_one hop]; exact Ne.symm (Nat.ne_of_gt hL.c)) }
  · rw [touch_opAt hop hx] at e2
    exact absurd (slot_inj e2) (slot_ne (by omega) h2)
  · rw [touch_opAt hop hx] at e2
    exact absurd (slot_inj e2) (slot_ne hk (hJ.b1 hb))
theorem TrS.stA (h : TrS L Shun s .st b t) (hL : L.Good) (hJ : J L.n N s .st b) (fn : FuncId) (pos : String) : TrS L Shun { s with k := s.k + 1 } .bl b (t ++ MemOp.ofEvents 0 fn pos (nxE L true s .st)) := by
  have e : MemOp.ofEvents 0 fn pos (nxE L true s .st) = #[opAt 0 fn pos (L.ctr true) true true] := evs_one 0 fn pos _ _ _
  rw [e]
  have hn := hL.n
  refine { tr := h.tr.sync (g := 0) (.inl rfl) fn pos true (cl_ctr hL true), fr := fun m h1 h2 => ?_, fu := fun m h1 h2 => (h.fu m (Nat.le_of_succ_le h1) h2).app (fun op hop x hx e2 => ?_) (fun op hop sync => ?_),
           pa := fun hb => (by simp at hb), pb := fun hb => (h.pb hb).app fun op hop x hx e2 => ?_, da := (deaf_opAt _ _ _ _ _ _ _).trans h.da, db := fun hb => (deaf_opAt _ _ _ _ _ _ _).trans (h.db hb),
           rel := fun hb => (h.rel hb).still fun op hop => .inl (by rw [in_one hop]; exact Ne.symm (Nat.ne_of_gt hL.c)) }
  · have h1' : s.j ≤ m := h1
    have h2' : m < s.k + 1 + L.n := h2
    refine Fre.give (x := false) ?_ rfl rfl h.da (ctr_ne_slot hL _ _)
    by_cases c : m < s.k + L.n
    · exact .inr (h.fr m h1' c)
    · have : m = s.k + L.n := by omega
      subst this
      rw [Nat.add_mod_right]
      exact .inl (h.pa (.inr rfl))
  · rw [touch_opAt hop hx] at e2
    exact absurd e2 (ne_of_cl (by rw [cl_ctr hL, cl_slot]; decide))
  · rw [in_one hop]
    simp only [opAt, ne_eq, MemAct.access.injEq, Event.mk.injEq, Loc.cell.injEq, not_and]
    intro e2
    exact absurd (congrArg Addr.off e2) (by simp [Lay.ctr])
  · rw [touch_opAt hop hx] at e2
    exact absurd e2 (ne_of_cl (by rw [cl_ctr hL, cl_slot]; decide))

/-! ### the child in the ring -/
theorem TrS.ldB (h : TrS L Shun s a .ld t) (hL : L.Good) (hJ : J L.n N s a .ld) (fn : FuncId) (pos : String) : TrS L Shun s a (nxP L.n false s .ld) (t ++ MemOp.ofEvents L.c fn pos (nxE L false s .ld)) := by
  have e : MemOp.ofEvents L.c fn pos (nxE L false s .ld) = #[opAt L.c fn pos (L.ctr true) false true] := evs_one L.c fn pos _ _ _
  rw [e]
  have k := h.keep (a' := a) (b' := .rc) (s' := s) (h.tr.sync (g := L.c) (.inr rfl) fn pos false (cl_ctr hL true)) (fun op hop x hx => by rw [touch_opAt hop hx, cl_ctr hL]; decide) (fun op hop y sync => by rw [in_one hop]; simp [opAt]) rfl rfl id (by simp)
    ((deaf_opAt _ _ _ _ _ _ _).trans h.da) (fun _ => (deaf_opAt _ _ _ _ _ _ _).trans (h.db (by simp))) (fun hb => by cases hb)
  simp only [nxP, Sh.can, Bool.false_eq_true, if_false]
  by_cases c : s.j < s.k + L.n
  · simp only [c, decide_true, if_true]
    exact ⟨k.tr, k.fr, k.fu, k.pa, fun _ => (h.fr s.j (Nat.le_refl _) c).look (x := false) rfl rfl (h.db (by simp)) (ctr_ne_slot hL _ _), k.da, fun _ => k.db (by simp), fun hb => by cases hb⟩
  · simp only [c, decide_false]
    exact k
theorem TrS.slB (h : TrS L Shun s a .sl t) (hL : L.Good) (hJ : J L.n N s a .sl) (hS : ∀ y : Addr, y.block = L.M → ¬ Shun (.cell y)) (fn : FuncId) (pos : String) : TrS L Shun { s with wr := true } a .st (t ++ MemOp.ofEvents L.c fn pos (nxE L false s .sl)) := by
  have e : MemOp.ofEvents L.c fn pos (nxE L false s .sl) = #[opAt L.c fn pos (L.slot (s.j % L.n)) true false] := evs_one L.c fn pos _ _ _
  rw [e]
  have hp := h.pb (.inl rfl)
  have hk := hJ.b1 (.inl rfl)
  refine { tr := h.tr.slot (.inr rfl) fn pos true hS hp, fu := fun m h1 h2 => (h.fu m h1 h2).app (fun op hop x hx e2 => ?_) (fun op hop sync => by rw [in_one hop]; intro e2; exact absurd (Loc.cell.inj (Event.mk.inj (MemAct.access.inj e2)).1).symm (ctr_ne_slot hL _ _)), fr := fun m h1 h2 => (h.fr m h1 h2).app (fun op hop x hx e2 => by rw [in_one hop]; rfl) (fun op hop sync => by rw [in_one hop]; intro e2; exact absurd (Loc.cell.inj (Event.mk.inj (MemAct.access.inj e2)).1).symm (ctr_ne_slot hL _ _)),
           pb := fun _ => hp.app fun op hop x hx e2 => by rw [in_one hop]; rfl, pa := fun hb => (h.pa hb).app fun op hop x hx e2 => ?_, da := (deaf_opAt _ _ _ _ _ _ _).trans h.da, db := fun _ => (deaf_opAt _ _ _ _ _ _ _).trans (h.db (by simp)), rel := fun hb => by cases hb }
  · rw [touch_opAt hop hx] at e2
    have h1' : s.k ≤ m := h1
    exact absurd (slot_inj e2).symm (slot_ne h2 (by omega))
  · rw [touch_opAt hop hx] at e2
    exact absurd (slot_inj e2).symm (slot_ne (hJ.a1 hb) hk)
theorem TrS.stB (h : TrS L Shun s a .st t) (hL : L.Good) (hJ : J L.n N s a .st) (fn : FuncId) (pos : String) : TrS L Shun { s with j := s.j + 1, wr := false } a .bl (t ++ MemOp.ofEvents L.c fn pos (nxE L false s .st)) := by
  have e : MemOp.ofEvents L.c fn pos (nxE L false s .st) = #[opAt L.c fn pos (L.ctr false) true true] := evs_one L.c fn pos _ _ _
  rw [e]
  have hn := hL.n
  refine { tr := h.tr.sync (g := L.c) (.inr rfl) fn pos true (cl_ctr hL false), fu := fun m h1 h2 => ?_, fr := fun m h1 h2 => (h.fr m (Nat.le_of_succ_le h1) h2).app (fun op hop x hx e2 => ?_) (fun op hop sync => ?_),
           pb := fun hb => (by simp at hb), pa := fun hb => (h.pa hb).app fun op hop x hx e2 => ?_, da := (deaf_opAt _ _ _ _ _ _ _).trans h.da, db := fun _ => (deaf_opAt _ _ _ _ _ _ _).trans (h.db (by simp)), rel := fun hb => by cases hb }
  · rw [touch_opAt hop hx] at e2
    exact absurd e2 (ne_of_cl (by rw [cl_ctr hL, cl_slot]; decide))
  · rw [in_one hop]
    simp only [opAt, ne_eq, MemAct.access.injEq, Event.mk.injEq, Loc.cell.injEq, not_and]
    intro e2
    exact absurd (congrArg Addr.off e2) (by simp [Lay.ctr])
  · have h1' : s.k ≤ m := h1
    have h2' : m < s.j + 1 := h2
    refine Fre.give (x := true) ?_ rfl rfl (h.db (by simp)) (ctr_ne_slot hL _ _)
    by_cases c : m < s.j
    · exact .inr (h.fu m h1' c)
    · have : m = s.j := by omega
      subst this
      exact .inl (h.pb (.inr rfl))
  · rw [touch_opAt hop hx] at e2
    exact absurd e2 (ne_of_cl (by rw [cl_ctr hL, cl_slot]; decide))

/-! ### the group -/
theorem touch_EvG (hL : L.Good) {e : Event} (h : EvG L e) {x : Touch} (hx : (MemAct.ofEvent e).touch? = some x) : ∃ i w, e = ⟨.cell ⟨L.W, i, none⟩, w, true⟩ ∧ x = ⟨.cell ⟨L.W, i, none⟩, w, .atomic⟩ := by
  rcases h with rfl | rfl | rfl | rfl | ⟨i, w, rfl⟩
  · cases hx
  · cases hx
  · cases hx
  · cases hx
  · rw [ofEvent_cell] at hx
    exact ⟨i, w, rfl, (Option.some.inj hx).symm⟩
theorem Tr.book (h : Tr L Shun t) (hL : L.Good) {g : Nat} (hg : g = 0 ∨ g = L.c) (fn : FuncId) (pos : String) {es : Array Event} (hes : ∀ e ∈ es, EvG L e) : Tr L Shun (t ++ MemOp.ofEvents g fn pos es) := by
  refine h.app hg (fun op hop => ?_) (fun op hop b hb _ => ?_) (fun op hop b hb e2 => ?_) (fun op hop e2 => ?_) <;> obtain ⟨e, he, rfl⟩ := mem_evs hop
  · rfl
  · obtain ⟨i, w, rfl, rfl⟩ := touch_EvG hL (hes e he) hb
    exact ok_sync (cl_grp hL rfl) w g
  · obtain ⟨i, w, rfl, rfl⟩ := touch_EvG hL (hes e he) hb
    rw [show (Touch.mk (.cell (⟨L.W, i, none⟩ : Addr)) w .atomic).loc = .cell ⟨L.W, i, none⟩ from rfl, cl_grp hL rfl] at e2
    cases e2
  · rcases hes e he with rfl | rfl | rfl | rfl | ⟨i, w, rfl⟩
    · cases e2
    · cases e2
    · cases e2
    · cases e2
    · simp only [ofEvent_cell] at e2; cases e2
theorem book_cl (hL : L.Good) {g : Nat} {fn : FuncId} {pos : String} {es : Array Event} (hes : ∀ e ∈ es, EvG L e) : ∀ op ∈ MemOp.ofEvents g fn pos es, ∀ x, op.act.touch? = some x → L.cl x.loc ≠ 3 := by
  intro op hop x hx
  obtain ⟨e, he, rfl⟩ := mem_evs hop
  obtain ⟨i, w, rfl, rfl⟩ := touch_EvG hL (hes e he) hx
  rw [show (Touch.mk (.cell (⟨L.W, i, none⟩ : Addr)) w .atomic).loc = .cell ⟨L.W, i, none⟩ from rfl, cl_grp hL rfl]
  decide
theorem book_wr (hL : L.Good) {g : Nat} {fn : FuncId} {pos : String} {es : Array Event} (hes : ∀ e ∈ es, EvG L e) : ∀ op ∈ MemOp.ofEvents g fn pos es, ∀ y sync, op.act ≠ .access ⟨.cell (L.ctr y), true, sync⟩ := by
  intro op hop y sync e2
  obtain ⟨e, he, rfl⟩ := mem_evs hop
  rcases hes e he with rfl | rfl | rfl | rfl | ⟨i, w, rfl⟩
  · cases e2
  · cases e2
  · cases e2
  · cases e2
  · simp only [ofEvent_cell, MemAct.access.injEq, Event.mk.injEq, Loc.cell.injEq] at e2
    exact hL.RW (congrArg Addr.block e2.1).symm
theorem TrS.bookA (h : TrS L Shun s a b t) (hL : L.Good) (fn : FuncId) (pos : String) {es : Array Event} (hes : ∀ e ∈ es, EvG L e) (hj : s'.j = s.j) (hk : s'.k = s.k) (ha : ¬(a' = .sl ∨ a' = .st)) (da : deafBehind (dfA a) es = dfA a') : TrS L Shun s' a' b (t ++ MemOp.ofEvents 0 fn pos es) := by
  have h0 : ∀ op ∈ MemOp.ofEvents 0 fn pos es, op.g = 0 := fun op hop => by obtain ⟨e, _, rfl⟩ := mem_evs hop; rfl
  have hc := hL.c
  refine h.keep (h.tr.book hL (.inl rfl) fn pos hes) (book_cl hL hes) (book_wr hL hes) hj hk (fun e => absurd e ha) id ?_ (fun hb => ?_) (fun hb => (h.rel hb).still fun op hop => .inl (by rw [h0 op hop]; omega))
  · rw [Deaf_own, h.da, da]
  · rw [Deaf_other t (g' := 0) (by omega) _ h0, h.db hb]
theorem Rel.own (h : Rel L t) (hL : L.Good) {d : Nat} (hd : Deaf t L.c = d) (fn : FuncId) (pos : String) {es : Array Event} (hes : ∀ e ∈ es, EvG L e) (hdf : ∀ (j : Nat) e, es[j]? = some e → (MemAct.ofEvent e).touch? = none ∨ 0 < deafBehind d (es.extract 0 j)) : Rel L (t ++ MemOp.ofEvents L.c fn pos es) := by
  obtain ⟨r, h1, h2⟩ := h
  refine ⟨r, h1.appOwn fn pos es fun j e he => ?_, fun i x hi hg hx => ?_⟩
  · rcases hdf j e he with h3 | h3
    · exact .inl h3
    · rcases hes e (Array.mem_of_getElem? he) with rfl | rfl | rfl | rfl | ⟨i, w, rfl⟩
      · exact .inl rfl
      · exact .inl rfl
      · exact .inl rfl
      · exact .inl rfl
      · exact .inr ⟨⟨_, _, rfl⟩, by rw [hd]; exact h3⟩
  · rcases Nat.lt_or_ge i t.size with h3 | h3
    · exact h2 i x hi (by rw [← g?_old (u := MemOp.ofEvents L.c fn pos es) h3]; exact hg) (by rw [← touchAt_old (u := MemOp.ofEvents L.c fn pos es) h3]; exact hx)
    · obtain ⟨op, ho, hox⟩ := touch_of hx
      rcases getElem?_append_cases ho with ⟨h4, _⟩ | ⟨_, hou⟩
      · omega
      · obtain ⟨e, he, rfl⟩ := mem_evs hou
        obtain ⟨i', w, rfl, rfl⟩ := touch_EvG hL (hes e he) hox
        exact ⟨_, rfl, rfl, rfl⟩
theorem TrS.bookB (h : TrS L Shun s a b t) (hL : L.Good) (hb : b ≠ .gone) (fn : FuncId) (pos : String) {es : Array Event} (hes : ∀ e ∈ es, EvG L e) (hj : s'.j = s.j) (hk : s'.k = s.k) (hb' : ¬(b' = .sl ∨ b' = .st)) (db : b' ≠ .gone → deafBehind (dfB b) es = dfB b')
    (hr : b'.rel = true → Rel L (t ++ MemOp.ofEvents L.c fn pos es)) : TrS L Shun s' a b' (t ++ MemOp.ofEvents L.c fn pos es) := by
  have h0 : ∀ op ∈ MemOp.ofEvents L.c fn pos es, op.g = L.c := fun op hop => by obtain ⟨e, _, rfl⟩ := mem_evs hop; rfl
  have hc := hL.c
  refine h.keep (h.tr.book hL (.inr rfl) fn pos hes) (book_cl hL hes) (book_wr hL hes) hj hk id (fun e => absurd e hb') ?_ (fun hg => ?_) hr
  · rw [Deaf_other t (g' := L.c) (by omega) _ h0, h.da]
  · rw [Deaf_own, h.db hb, db hg]
end
end Go.Proofs.Ytdmiilgdkmbmeaa.Rg
namespace Go.Proofs.Ytdmiilgdkmbmeaa.Rg
open Go Go.Conc
open Go.ConcN (RelBy RelBy.new RelBy.app RelBy.appOwn RelBy.appNot)

section
variable {L : Lay} {Shun : Loc → Prop} {s s' : Sh} {a a' b b' : Pl} {t u : Trace} {N : Nat}

theorem evG1 {e : Event} (h : EvG L e) : ∀ x ∈ (#[e] : Array Event), EvG L x := fun x hx => by rw [show x = e by simpa using hx]; exact h
theorem evG2 {e f : Event} (h : EvG L e) (h' : EvG L f) : ∀ x ∈ (#[e, f] : Array Event), EvG L x := fun x hx => by
  have : x = e ∨ x = f := by simpa using hx
  rcases this with rfl | rfl
  · exact h
  · exact h'
theorem evG_rd : EvG L (rdE L.grp) := .inr (.inr (.inr (.inr ⟨0, false, rfl⟩)))
theorem evG_wr : EvG L (wrE L.grp) := .inr (.inr (.inr (.inr ⟨0, true, rfl⟩)))
theorem evG_sem : ∀ x ∈ semEvents L.sem, EvG L x := fun x hx => by
  have : x = mkE .disable ∨ x = ⟨.cell L.sem, false, true⟩ ∨ x = ⟨.cell L.sem, true, true⟩ ∨ x = mkE .enable := by simpa [semEvents, mkE] using hx
  rcases this with rfl | rfl | rfl | rfl
  · exact .inl rfl
  · exact .inr (.inr (.inr (.inr ⟨1, false, rfl⟩)))
  · exact .inr (.inr (.inr (.inr ⟨1, true, rfl⟩)))
  · exact .inr (.inl rfl)
theorem TrS.goA (h : TrS L Shun s a b t) (hL : L.Good) (hJ : J L.n N s a b) (hS : ∀ y : Addr, y.block = L.M → ¬ Shun (.cell y)) (hg : a.go = true) (hf : a = .w3 → s.wg = .f) (fn : FuncId) (pos : String) :
    TrS L Shun (nxS true s a) (nxP L.n true s a) b (t ++ MemOp.ofEvents 0 fn pos (nxE L true s a)) := by
  have hw := hJ.g
  cases a <;> simp only [Pl.go, Bool.false_eq_true] at hg
  case ld => exact h.ldA hL hJ fn pos
  case sl => exact h.slA hL hJ hS fn pos
  case st => exact h.stA hL hJ fn pos
  case w0 => exact h.bookA hL fn pos (evG1 (.inl rfl)) rfl rfl (by simp [nxP]) rfl
  case w1 => cases e : s.wg <;> (simp only [nxP, nxS, e]; exact h.bookA hL fn pos (evG1 evG_rd) rfl rfl (by simp) rfl)
  case w2 =>
    cases e : s.wg
    · simp only [nxP, nxS, nxE, e]; exact h.bookA hL fn pos (evG2 evG_rd evG_wr) rfl rfl (by simp) rfl
    all_goals (simp only [nxP, nxS, nxE, e]; exact h.bookA hL fn pos (evG1 evG_rd) rfl rfl (by simp) rfl)
  case w3 => exact h.bookA hL fn pos evG_sem rfl rfl (by simp [nxP]) rfl
  case w4 => exact h.bookA hL fn pos (evG1 evG_rd) rfl rfl (by simp [nxP]) rfl
  case we => exact h.bookA hL fn pos (evG1 (.inr (.inl rfl))) rfl rfl (by simp [nxP]) rfl
  case wq => exact h.bookA hL fn pos (evG1 (.inr (.inr (.inl rfl)))) rfl rfl (by simp [nxP]) rfl
  all_goals (cases e : s.wg <;> simp [e, wgOk, Pl.ap] at hw)
theorem deaf1 (e : Event) : ∀ (j : Nat) x, (#[e] : Array Event)[j]? = some x → 0 < deafBehind 1 ((#[e] : Array Event).extract 0 j) := fun j x hx => by
  match j, hx with
  | 0, _ => exact (by decide : (0 : Nat) < 1)
  | j + 1, hx => simp at hx
theorem TrS.goB (h : TrS L Shun s a b t) (hL : L.Good) (hJ : J L.n N s a b) (hS : ∀ y : Addr, y.block = L.M → ¬ Shun (.cell y)) (hg : b.go = true) (fn : FuncId) (pos : String) :
    TrS L Shun (nxS false s b) a (nxP L.n false s b) (t ++ MemOp.ofEvents L.c fn pos (nxE L false s b)) := by
  have hw := hJ.g
  cases b <;> simp only [Pl.go, Bool.false_eq_true] at hg
  case ld => exact h.ldB hL hJ fn pos
  case sl => exact h.slB hL hJ hS fn pos
  case st => exact h.stB hL hJ fn pos
  case d0 =>
    refine h.bookB hL (by simp) fn pos (evG1 (.inr (.inr (.inr (.inl rfl))))) rfl rfl (by simp [nxP]) (fun _ => rfl) fun _ => ?_
    refine ⟨t.size, RelBy.new (h.db (by simp)) fn pos, fun i x hi hg hx => ?_⟩
    have h1 : i < (t ++ MemOp.ofEvents L.c fn pos (nxE L false s .d0)).size := lt_g hg
    rw [show MemOp.ofEvents L.c fn pos (nxE L false s .d0) = #[_] from one_ev _ _ _ _] at h1
    simp at h1
    omega
  case d1 => exact h.bookB hL (by simp) fn pos (evG1 (.inl rfl)) rfl rfl (by simp [nxP]) (fun _ => rfl) fun _ => (h.rel rfl).own hL (h.db (by simp)) fn pos (evG1 (.inl rfl)) fun j e he => .inl (by
    match j, he with
    | 0, he => rw [show e = mkE .disable by simpa [nxE] using he.symm]; rfl
    | j + 1, he => simp [nxE] at he)
  case d2 =>
    have hr : Rel L (t ++ MemOp.ofEvents L.c fn pos #[rdE L.grp, wrE L.grp]) := (h.rel rfl).own hL (h.db (by simp)) fn pos (evG2 evG_rd evG_wr) fun j e he => .inr (by
      match j, he with
      | 0, _ => exact (by decide : (0 : Nat) < 1)
      | 1, _ => exact (by decide : (0 : Nat) < 1)
      | j + 2, he => simp at he)
    cases e : s.wg <;> (simp only [nxP, nxS, nxE, e]; exact h.bookB hL (by simp) fn pos (evG2 evG_rd evG_wr) rfl rfl (by simp) (fun _ => (by first | rfl | contradiction)) fun _ => hr)
  case d3 => exact h.bookB hL (by simp) fn pos (evG1 evG_rd) rfl rfl (by simp [nxP]) (fun _ => rfl) fun _ => (h.rel rfl).own hL (h.db (by simp)) fn pos (evG1 evG_rd) fun j e he => .inr (deaf1 _ j e he)
  case d4 => exact h.bookB hL (by simp) fn pos (evG1 evG_wr) rfl rfl (by simp [nxP]) (fun _ => rfl) fun _ => (h.rel rfl).own hL (h.db (by simp)) fn pos (evG1 evG_wr) fun j e he => .inr (deaf1 _ j e he)
  case d5 =>
    refine h.bookB hL (by simp) fn pos evG_sem rfl rfl (by simp [nxP]) (fun hb => absurd rfl hb) fun _ => (h.rel rfl).own hL (h.db (by simp)) fn pos evG_sem fun j e he => ?_
    match j, he with
    | 0, he => exact .inl (by rw [show e = mkE .disable by simpa [nxE, semEvents, mkE] using he.symm]; rfl)
    | 1, _ => exact .inr (by decide : (0 : Nat) < 2)
    | 2, _ => exact .inr (by decide : (0 : Nat) < 2)
    | 3, he => exact .inl (by rw [show e = mkE .enable by simpa [nxE, semEvents, mkE] using he.symm]; rfl)
    | j + 4, he => simp [nxE, semEvents] at he
  all_goals (cases e : s.wg <;> simp [e, wgOk, Pl.bp] at hw)
end
end Go.Proofs.Ytdmiilgdkmbmeaa.Rg
namespace Go.Proofs.Ytdmiilgdkmbmeaa.Rg
open Go Go.Conc

/-- What is handed through: how many; each one's value; the token; the types of the blocks; the ring's first cell. -/
structure Dat where
  N : Nat
  val : Nat → Value
  unit : Value
  hdr : Value
  tR : TypeId
  tM : TypeId
  tW : TypeId
def Lay.bell (L : Lay) (x : Bool) : Nat := if x then L.E else L.F
def Lay.sp (L : Lay) (b : Nat) : Prop := b = L.R ∨ b = L.M ∨ b = L.F ∨ b = L.E ∨ b = L.W
structure ShAt (L : Lay) (D : Dat) (s : Sh) (w : World) : Prop where
  ring : w.heap[L.R]? = some (.cells #[D.hdr, .int .i64 s.j, .int .i64 s.k] D.tR)
  room : ∃ arr, w.heap[L.M]? = some (.cells arr D.tM) ∧ arr.size = L.n ∧ (∀ m, s.k ≤ m → m < s.j → arr[m % L.n]? = some (D.val m)) ∧ (s.wr = true → arr[s.j % L.n]? = some (D.val s.j))
  bell : ∀ x, ∃ u v, w.heap[L.bell x]? = some (.chan 1 (if s.tok x then #[D.unit] else #[]) false u v false)
  grp : w.heap[L.W]? = some (.cells #[.int .u64 s.wg.st, .int .u32 s.wg.sm] D.tW)
/-- What the others may do ahead of a step of x's. -/
structure RX (L : Lay) (x : Bool) (w w' : World) : Prop where
  low : ∀ b, b < L.low → ¬ L.sp b → w'.heap[b]? = w.heap[b]?
  ring : ∀ h p q ty, w.heap[L.R]? = some (.cells #[h, p, q] ty) → ∃ p' q', w'.heap[L.R]? = some (.cells #[h, p', q'] ty) ∧ (if x then q' = q else p' = p)
  mine : x = true → w'.heap.size = w.heap.size ∧ (∀ b, L.low ≤ b → w'.heap[b]? = w.heap[b]?) ∧ w'.os = w.os ∧ w'.output = w.output ∧ w'.tape = w.tape
  grow : w.heap.size ≤ w'.heap.size
  grp : ∀ p q ty, w.heap[L.W]? = some (.cells #[p, q] ty) → ∃ p' q', w'.heap[L.W]? = some (.cells #[p', q'] ty)
def Pl.qu : Pl → Bool
  | .d1 | .d2 | .d3 | .d4 | .d5 | .out => true
  | _ => false
/-- What a step of x's does on its way to the stop p. -/
structure DX (L : Lay) (Shun : Loc → Prop) (x : Bool) (p : Pl) (w w' : World) (es : Array Event) : Prop where
  low : ∀ b, b < L.low → w'.heap[b]? = w.heap[b]?
  size : w.heap.size ≤ w'.heap.size
  os : w'.os = w.os
  output : w'.output = w.output
  tape : w'.tape = w.tape
  mine : x = false → w'.heap = w.heap
  ev : ∀ e ∈ es, EvI L Shun x e ∧ (MemAct.ofEvent e).low w'.heap.size
  quiet : p.qu = true → es = #[]
/-- What a stop does. -/
structure Turn (L : Lay) (w w' : World) : Prop where
  other : ∀ b, ¬ L.sp b → w'.heap[b]? = w.heap[b]?
  size : w'.heap.size = w.heap.size
  os : w'.os = w.os
  output : w'.output = w.output
  tape : w'.tape = w.tape

section
variable {L : Lay} {D : Dat} {Shun : Loc → Prop} {x : Bool} {p : Pl} {s s' : Sh} {w w' w'' : World} {es : Array Event}

theorem RX.refl (w : World) : RX L x w w := ⟨fun _ _ _ => rfl, fun h p q ty e => ⟨p, q, e, by cases x <;> rfl⟩, fun _ => ⟨rfl, fun _ _ => rfl, rfl, rfl, rfl⟩, Nat.le_refl _, fun p q _ e => ⟨p, q, e⟩⟩
theorem RX.trans (a b c : World) (h : RX L x a b) (h' : RX L x b c) : RX L x a c := by
  refine ⟨fun i h1 h2 => (h'.low i h1 h2).trans (h.low i h1 h2), fun hd p q ty e => ?_, fun hx => ?_, Nat.le_trans h.grow h'.grow, fun p q ty e => ?_⟩
  · obtain ⟨p1, q1, e1, f1⟩ := h.ring hd p q ty e
    obtain ⟨p2, q2, e2, f2⟩ := h'.ring hd p1 q1 ty e1
    refine ⟨p2, q2, e2, ?_⟩
    cases x
    · exact (show p2 = p1 from f2).trans (show p1 = p from f1)
    · exact (show q2 = q1 from f2).trans (show q1 = q from f1)
  · obtain ⟨a1, a2, a3, a4, a5⟩ := h.mine hx
    obtain ⟨b1, b2, b3, b4, b5⟩ := h'.mine hx
    exact ⟨b1.trans a1, fun i hi => (b2 i hi).trans (a2 i hi), b3.trans a3, b4.trans a4, b5.trans a5⟩
  · obtain ⟨p1, q1, e1⟩ := h.grp p q ty e
    exact h'.grp p1 q1 ty e1
theorem RX.of_heap (h : w'.heap = w.heap) (h1 : w'.os = w.os) (h2 : w'.output = w.output) (h3 : w'.tape = w.tape) : RX L x w w' :=
  ⟨fun _ _ _ => by rw [h], fun hd p q ty e => ⟨p, q, by rw [h]; exact e, by cases x <;> rfl⟩, fun _ => ⟨by rw [h], fun _ _ => by rw [h], h1, h2, h3⟩, by rw [h]; exact Nat.le_refl _, fun p q _ e => ⟨p, q, by rw [h]; exact e⟩⟩
theorem RX.at (w : World) (d : Nat) : RX L x w (w.at d) := .of_heap rfl rfl rfl rfl
theorem ShAt.of_heap (h : ShAt L D s w) (hh : w'.heap = w.heap) : ShAt L D s w' := by
  refine ⟨by rw [hh]; exact h.ring, by rw [hh]; exact h.room, fun x => by rw [hh]; exact h.bell x, by rw [hh]; exact h.grp⟩
theorem bell_lt (hL : L.Good) (x : Bool) : L.bell x < L.low := by
  cases x
  · exact hL.F
  · exact hL.E
theorem ShAt.idle (h : ShAt L D s w) (hL : L.Good) (hd : DX L Shun x p w w' es) : ShAt L D s w' := by
  refine ⟨by rw [hd.low _ hL.R]; exact h.ring, by rw [hd.low _ hL.M]; exact h.room, fun y => by rw [hd.low _ (bell_lt hL y)]; exact h.bell y, by rw [hd.low _ hL.W]; exact h.grp⟩
theorem DX.rely (hL : L.Good) (hd : DX L Shun x p w w' es) : RX L (!x) w w' := by
  refine ⟨fun b h1 _ => hd.low b h1, fun h p q ty e => ⟨p, q, by rw [hd.low _ hL.R]; exact e, by cases x <;> rfl⟩, fun hx => ?_, hd.size, fun p q ty e => ⟨p, q, by rw [hd.low _ hL.W]; exact e⟩⟩
  have hh := hd.mine (by simpa using hx)
  exact ⟨by rw [hh], fun _ _ => by rw [hh], hd.os, hd.output, hd.tape⟩
theorem Turn.rely (ht : Turn L w w') (hL : L.Good) (h : ShAt L D s w) (h' : ShAt L D s' w') (hc : s'.cnt x = s.cnt x) : RX L x w w' := by
  refine ⟨fun b _ h2 => ht.other b h2, fun hd p q ty e => ?_, fun hx => ⟨ht.size, fun b hb => ht.other b fun e => ?_, ht.os, ht.output, ht.tape⟩, by rw [ht.size]; exact Nat.le_refl _, fun p q ty e => ?_⟩
  · rw [h.ring] at e
    simp only [Option.some.injEq, Obj.cells.injEq, Array.mk.injEq, List.cons.injEq, and_true] at e
    obtain ⟨⟨rfl, rfl, rfl⟩, rfl, _⟩ := e
    refine ⟨_, _, h'.ring, ?_⟩
    cases x
    · show Value.int .i64 s'.j = .int .i64 s.j
      rw [show s'.j = s.j from hc]
    · show Value.int .i64 s'.k = .int .i64 s.k
      rw [show s'.k = s.k from hc]
  · rcases e with e | e | e | e | e
    · have := hL.R; omega
    · have := hL.M; omega
    · have := hL.F; omega
    · have := hL.E; omega
    · have := hL.W; omega
  · rw [h.grp] at e
    simp only [Option.some.injEq, Obj.cells.injEq] at e
    obtain ⟨_, rfl, _⟩ := e
    exact ⟨_, _, h'.grp⟩
end

/-- WHAT IS ASKED OF THE TWO. 'At x p i': x stands at the stop p, having done i. -/
structure Spec (P : Program) (L : Lay) (D : Dat) (Shun : Loc → Prop) (At : Bool → Pl → Nat → Goroutine → World → Prop) : Prop where
  run : ∀ {x p i g w}, At x p i g w → g.status = .running
  go : ∀ {x : Bool} {p : Pl} {g : Goroutine} {w : World} {s : Sh} {a b : Pl}, At x p (s.cnt x) g w → p.go = true → ShAt L D s w → J L.n D.N s a b → (if x then a else b) = p → (p = .w3 → s.wg = .f) →
    ∃ g' w', stepG P x g w = .go g' w' (nxE L x s p) ∧ ShAt L D (nxS x s p) w' ∧ Turn L w w' ∧
      ((x = false ∧ nxP L.n x s p = .gone ∧ ∃ q, QuitsD P q 1 g') ∨ (nxP L.n x s p ≠ .gone ∧ ∃ m, Goes P x (RX L x) (DX L Shun x (nxP L.n x s p)) (At x (nxP L.n x s p) ((nxS x s p).cnt x)) m g' w'))
  wait : ∀ {i g w}, At true .w3 i g w → g.offers = none ∧ ∀ s, ShAt L D s w → s.wg.sm = 0 → stepG P true g w = .go { g with status := .blocked } w #[]
  wake : ∀ {i g w}, At false .d5 i g w → mayWake P g = true
  bl : ∀ {x : Bool} {i : Nat} {g : Goroutine} {w : World}, At x .bl i g w → stepG P x g w = .comm g #[scase (L.bell !x) D.unit D.unit] false .select w #[] ∧
    ∀ k w', (k = 0 ∨ k = -1) → Turn L w w' → w'.heap[L.R]? = w.heap[L.R]? → w'.heap[L.W]? = w.heap[L.W]? → ∃ m, Goes P x (RX L x) (DX L Shun x (aft D.N x i)) (At x (aft D.N x i) i) m (g.finishComm P #[scase (L.bell !x) D.unit D.unit] .select k undef false) w'
  rc : ∀ {x : Bool} {i : Nat} {g : Goroutine} {w : World}, At x .rc i g w → stepG P x g w = .comm g #[rcase (L.bell x) D.unit] true (.recv false) w #[] ∧
    ∀ w', Turn L w w' → w'.heap[L.R]? = w.heap[L.R]? → w'.heap[L.W]? = w.heap[L.W]? → ∃ m, Goes P x (RX L x) (DX L Shun x .ld) (At x .ld i) m (g.finishComm P #[rcase (L.bell x) D.unit] (.recv false) 0 D.unit true) w'

theorem again_asleep {g : Goroutine} (hs : g.status = .running) (ho : g.offers = none) (w : World) : ({ g with status := .blocked } : Goroutine).again w = g := by
  cases g
  simp only at hs ho
  subst hs ho
  simp [Goroutine.again]
/-- Where one of the two stands: on its way to a stop · parked at its bell · asleep at the group · only leaving. -/
inductive Sit (P : Program) (L : Lay) (D : Dat) (Shun : Loc → Prop) (At : Bool → Pl → Nat → Goroutine → World → Prop) (x : Bool) (p : Pl) (s : Sh) (d : Nat) (g : Goroutine) (w : World) : Nat → Prop
  | run (n : Nat) : p ≠ .gone → Goes P x (RX L x) (DX L Shun x p) (At x p (s.cnt x)) n g w → Sit P L D Shun At x p s d g w (n + 1)
  | park (g₀ : Goroutine) : p = .rc → g = parked g₀ #[rcase (L.bell x) D.unit] (.recv false) → s.tok x = false → (∀ w₁, RX L x w w₁ → At x .rc (s.cnt x) g₀ w₁) → Sit P L D Shun At x p s d g w 0
  | sleep (g₀ : Goroutine) : x = true → p = .w3 → g = { g₀ with status := .blocked } → s.wg ≠ .f → (∀ w₁, RX L x w w₁ → At true .w3 (s.cnt true) g₀ w₁) → Sit P L D Shun At x p s d g w 0
  | gone (n : Nat) : x = false → p = .gone → QuitsD P n d g → Sit P L D Shun At x p s d g w n

section
variable {P : Program} {L : Lay} {D : Dat} {Shun : Loc → Prop} {At : Bool → Pl → Nat → Goroutine → World → Prop} {x : Bool} {p : Pl} {s s' : Sh} {d d' n : Nat} {g g₁ g₂ : Goroutine} {w w' : World}

theorem Sit.status (hS : Spec P L D Shun At) (h : Sit P L D Shun At x p s d g w n) : g.status = .running ∨ g.status = .blocked ∨ g.status = .finished := by
  cases h with
  | run n _ h => exact .inl (h.running (fun _ _ a => hS.run a) w (RX.refl w))
  | park g₀ _ e => subst e; exact .inr (.inl rfl)
  | sleep g₀ _ _ e => subst e; exact .inr (.inl rfl)
  | gone n _ _ h => exact h.status.elim .inl fun e => .inr (.inr e)
/-- What it offers, parked or not. -/
theorem Sit.offers (hS : Spec P L D Shun At) (h : Sit P L D Shun At x p s d g w n) (c : Nat) (send : Bool) : offersAt g c send = if (p = .rc ∧ g.status = .blocked) ∧ send = false ∧ c = L.bell x then [0] else [] := by
  cases h with
  | run n _ h =>
    have := h.running (fun _ _ a => hS.run a) w (RX.refl w)
    rw [offersAt_of_not_blocked (by rw [this]; simp)]
    rw [if_neg (by rw [this]; simp)]
  | park g₀ hp e =>
    subst e
    cases send
    · rw [offersAt_parked_recv]
      by_cases hc : L.bell x = c
      · rw [if_pos hc, if_pos ⟨⟨hp, rfl⟩, rfl, hc.symm⟩]
      · rw [if_neg hc, if_neg (fun h => hc h.2.2.symm)]
    · rw [offersAt_parked_recv', if_neg (by simp)]
  | sleep g₀ hx hp e hf hA =>
    subst e
    have := (hS.wait (hA w (RX.refl w))).1
    rw [if_neg (by rw [hp]; simp)]
    simp [offersAt, this]
  | gone n _ hp h =>
    rw [if_neg (by rw [hp]; simp)]
    exact offersAt_of_not_blocked (by rcases h.status with e | e <;> rw [e] <;> simp) c send
/-- Another has moved: it stands as it stood, or is let try again. -/
theorem Sit.other (hS : Spec P L D Shun At) (hL : L.Good) (h : Sit P L D Shun At x p s d g w n) (hr : RX L x w w') (hw : ShAt L D s' w') (hc : s'.cnt x = s.cnt x) (hd : x = false → d' = d)
    (ht : p = .rc → g.status = .blocked → s'.tok x = false) (f : Goroutine → Goroutine) (hf : f = id ∨ ∃ a b, f = woken P a b w') (hk : x = true → s'.wg = .f → s.wg ≠ .f → f = (·.again w')) :
    ∃ n', Sit P L D Shun At x p s' d' (f g) w' n' ∧ (n' = n ∨ (x = true ∧ n = 0 ∧ n' = 1)) := by
  have fid : (g.status = .running ∨ g.status = .finished) → f g = g := fun e => by
    rcases hf with rfl | ⟨a, b, rfl⟩
    · rfl
    · unfold woken
      split
      · exact again_running _ e
      · rfl
  cases h with
  | run n hp h =>
    rw [fid (.inl (h.running (fun _ _ a => hS.run a) w (RX.refl w)))]
    exact ⟨n + 1, .run n hp (by rw [hc]; exact h.rely RX.trans hr), .inl rfl⟩
  | park g₀ hp e htk hA =>
    have : f g = g := by
      rcases hf with rfl | ⟨a, b, rfl⟩
      · rfl
      · subst e
        obtain ⟨u, v, hb⟩ := hw.bell x
        exact woken_recv_open a b hb
    rw [this]
    exact ⟨0, .park g₀ hp e (ht hp (by rw [e]; rfl)) fun w₁ h₁ => by rw [hc]; exact hA w₁ (RX.trans _ _ _ hr h₁), .inl rfl⟩
  | sleep g₀ hx hp e hnf hA =>
    have hA' : ∀ w₁, RX L x w' w₁ → At true .w3 (s'.cnt true) g₀ w₁ := fun w₁ h₁ => by
      rw [hx] at hc
      rw [hc]
      exact hA w₁ (RX.trans _ _ _ hr h₁)
    have hg := hA w (RX.refl w)
    have hrun := hS.run hg
    have hoff := (hS.wait hg).1
    have hag : g.again w' = g₀ := by rw [e]; exact again_asleep hrun hoff w'
    by_cases hfa : f g = g
    · refine ⟨0, ?_, .inl rfl⟩
      rw [hfa]
      refine .sleep g₀ hx hp e (fun e2 => ?_) hA'
      have := hk hx e2 hnf
      rw [this] at hfa
      have h3 : g.again w' = g := hfa
      rw [hag, e] at h3
      have := congrArg Goroutine.status h3
      rw [hrun] at this
      cases this
    · have : f g = g₀ := by
        rcases hf with rfl | ⟨a, b, rfl⟩
        · exact absurd rfl hfa
        · unfold woken at hfa ⊢
          split
          · exact hag
          · rename_i hno
            rw [if_neg hno] at hfa
            exact absurd rfl hfa
      rw [this]
      subst hx
      subst hp
      exact ⟨1, .run 0 (by simp) (fun w₁ h₁ => hA' w₁ h₁), .inr ⟨rfl, rfl, rfl⟩⟩
  | gone n hx hp h =>
    rw [fid h.status, hd hx]
    exact ⟨n, .gone n hx hp h, .inl rfl⟩
end
end Go.Proofs.Ytdmiilgdkmbmeaa.Rg
namespace Go.Proofs.Ytdmiilgdkmbmeaa.Rg
open Go Go.Conc
open Go.ConcN (sumTo upd sumTo_upd upd_ne upd_same)

def set {α : Type} (f : Bool → α) (x : Bool) (v : α) : Bool → α := fun y => if y = x then v else f y
theorem set_same {α : Type} (f : Bool → α) (x : Bool) (v : α) : set f x v x = v := if_pos rfl
theorem set_not {α : Type} (f : Bool → α) (x : Bool) (v : α) : set f x v (!x) = f (!x) := if_neg (by cases x <;> simp)
theorem bool_cases (x y : Bool) : y = x ∨ y = !x := by cases x <;> cases y <;> simp
/-- What has been kept of the world since the child was started. -/
structure Kp (L : Lay) (w₀ w : World) : Prop where
  low : ∀ b, b < L.low → ¬ L.sp b → w.heap[b]? = w₀.heap[b]?
  os : w.os = w₀.os
  output : w.output = w₀.output
  tape : w.tape = w₀.tape
  size : w₀.heap.size ≤ w.heap.size
structure RI (P : Program) (L : Lay) (D : Dat) (Shun : Loc → Prop) (At : Bool → Pl → Nat → Goroutine → World → Prop) (w₀ : World) (gs : Array Goroutine) (w : World) (t : Trace) (q : Nat → Nat) (s : Sh) (p : Bool → Pl) (gg : Bool → Goroutine) (nn : Bool → Nat) : Prop where
  is : ∀ x, gs[L.gr x]? = some (gg x)
  old : ∀ i g, i ≠ 0 → i ≠ L.c → gs[i]? = some g → QuitsD P (q i) (Deaf t i) g
  above : ∀ j, gs.size ≤ j → Deaf t j = 0
  sh : ShAt L D s w
  j : J L.n D.N s (p true) (p false)
  sit : ∀ x, Sit P L D Shun At x (p x) s (Deaf t L.c) (gg x) w (nn x)
  ts : TrS L Shun s (p true) (p false) t
  seen : ∀ op ∈ t, op.act.low w.heap.size
  keep : Kp L w₀ w
  go : p true ≠ .out
/-- Goroutine 0 has heard that the child is done. -/
structure Dn (P : Program) (L : Lay) (D : Dat) (Shun : Loc → Prop) (At : Bool → Pl → Nat → Goroutine → World → Prop) (w₀ : World) (gs : Array Goroutine) (a : Goroutine) (w : World) (t : Trace) (q : Nat → Nat) (s : Sh) : Prop where
  is : gs[0]? = some a
  lv : Leavers P t gs q
  sh : ShAt L D s w
  all : s.k = D.N ∧ s.j = D.N
  goes : ∃ m, Goes P true (RX L true) (DX L Shun true .out) (At true .out D.N) m a w
  past : Past (fun l => Shun l ∨ ∃ b, l = .cell b ∧ b.block = L.W) w.heap.size t
  keep : Kp L w₀ w
  size : L.c < gs.size

section
variable {P : Program} {L : Lay} {D : Dat} {Shun : Loc → Prop} {At : Bool → Pl → Nat → Goroutine → World → Prop} {w₀ : World} {gs : Array Goroutine} {w w' : World} {t : Trace} {q : Nat → Nat} {s s' : Sh} {p : Bool → Pl} {gg : Bool → Goroutine} {nn : Bool → Nat}

theorem gr_main (hL : L.Good) (x : Bool) : (L.gr x == 0) = x := by
  have := hL.c
  cases x
  · simp [Lay.gr]; omega
  · rfl
theorem Kp.turn (hk : Kp L w₀ w) (h : Turn L w w') : Kp L w₀ w' :=
  ⟨fun b h1 h2 => (h.other b h2).trans (hk.low b h1 h2), h.os.trans hk.os, h.output.trans hk.output, h.tape.trans hk.tape, by rw [h.size]; exact hk.size⟩
theorem Kp.idle {x : Bool} {pl : Pl} {es : Array Event} (hk : Kp L w₀ w) (h : DX L Shun x pl w w' es) : Kp L w₀ w' :=
  ⟨fun b h1 h2 => (h.low b h1).trans (hk.low b h1 h2), h.os.trans hk.os, h.output.trans hk.output, h.tape.trans hk.tape, Nat.le_trans hk.size h.size⟩
theorem Sit.rely {x : Bool} {pl : Pl} {d n : Nat} {g : Goroutine} (h : Sit P L D Shun At x pl s d g w n) (hr : RX L x w w') : Sit P L D Shun At x pl s d g w' n := by
  cases h with
  | run n hp h => exact .run n hp (h.rely RX.trans hr)
  | park g₀ hp e htk hA => exact .park g₀ hp e htk fun w₁ h₁ => hA w₁ (RX.trans _ _ _ hr h₁)
  | sleep g₀ hx hp e hf hA => exact .sleep g₀ hx hp e hf fun w₁ h₁ => hA w₁ (RX.trans _ _ _ hr h₁)
  | gone n hx hp h => exact .gone n hx hp h
theorem Sit.tok (hS : Spec P L D Shun At) {x : Bool} {pl : Pl} {d n : Nat} {g : Goroutine} (h : Sit P L D Shun At x pl s d g w n) (hp : pl = .rc) (hb : g.status = .blocked) : s.tok x = false := by
  cases h with
  | run n _ h =>
    have := h.running (fun _ _ a => hS.run a) w (RX.refl w)
    rw [this] at hb; cases hb
  | park g₀ _ e htk hA => exact htk
  | sleep g₀ hx hp' => rw [hp'] at hp; cases hp
  | gone n hx hp' => rw [hp'] at hp; cases hp
theorem RI.at (h : RI P L D Shun At w₀ gs w t q s p gg nn) (d : Nat) : RI P L D Shun At w₀ gs (w.at d) t q s p gg nn :=
  { h with sh := h.sh.of_heap rfl, sit := fun x => (h.sit x).rely (RX.at w d), keep := ⟨h.keep.low, h.keep.os, h.keep.output, h.keep.tape, h.keep.size⟩ }
theorem size_lt {i : Nat} {g : Goroutine} (h : gs[i]? = some g) : i < gs.size := (Array.getElem?_eq_some_iff.1 h).1
theorem get_set (f : Goroutine → Goroutine) {i : Nat} (g' : Goroutine) (hi : i < gs.size) : ((gs.map f).setIfInBounds i g')[i]? = some g' := Array.getElem?_setIfInBounds_self_of_lt (by simpa using hi)
theorem get_set_ne (f : Goroutine → Goroutine) {i j : Nat} (g' : Goroutine) (hij : i ≠ j) : ((gs.map f).setIfInBounds i g')[j]? = (gs[j]?).map f := by rw [Array.getElem?_setIfInBounds_ne hij, Array.getElem?_map]
theorem seen_more {u : Trace} (h : ∀ op ∈ t, op.act.low w.heap.size) (hs : w.heap.size ≤ w'.heap.size) (hu : ∀ op ∈ u, op.act.low w'.heap.size) : ∀ op ∈ t ++ u, op.act.low w'.heap.size := fun op hop => (Array.mem_append.1 hop).elim (fun h1 => MemAct.low_mono hs (h op h1)) (hu op)
theorem gr_not (hL : L.Good) (x : Bool) : L.gr x ≠ L.gr (!x) := fun e => gr_ne hL x e.symm
theorem gr_or (x : Bool) : L.gr x = 0 ∨ L.gr x = L.c := by cases x <;> simp [Lay.gr]

/-- ONE OF THE TWO TAKES A STEP OF ITS OWN. -/
theorem RI.own (hS : Spec P L D Shun At) (hL : L.Good) (h : RI P L D Shun At w₀ gs w t q s p gg nn) (sl : Option (Nat × Nat)) {x : Bool} {g' : Goroutine} {es : Array Event} {px : Pl} {n' : Nat} (hst : stepG P x (gg x) w = .go g' w' es)
    (hsh : ShAt L D s' w') (hr : RX L (!x) w w') (hj : J L.n D.N s' (set p x px true) (set p x px false)) (hself : Sit P L D Shun At x px s' (Deaf (t ++ MemOp.ofEvents (L.gr x) (gg x).frame.fn (gg x).frame.place es) L.c) g' w' n') (hcnt : s'.cnt (!x) = s.cnt (!x))
    (htok : s'.tok (!x) = s.tok (!x)) (hk : x = false → s'.wg = .f → s.wg ≠ .f → mayWake P (gg x) = true ∧ g'.status ≠ .blocked ∧ g'.status ≠ .waiting)
    (hts : TrS L Shun s' (set p x px true) (set p x px false) (t ++ MemOp.ofEvents (L.gr x) (gg x).frame.fn (gg x).frame.place es)) (hev : ∀ e ∈ es, (MemAct.ofEvent e).low w'.heap.size) (hsz : w.heap.size ≤ w'.heap.size) (hkp : Kp L w₀ w') (hgo : set p x px true ≠ .out) :
    ∃ (gs' : Array Goroutine) (go : Goroutine) (no : Nat), runT P (crowd gs w sl) (L.gr x) = (.next (crowd gs' w' sl), MemOp.ofEvents (L.gr x) (gg x).frame.fn (gg x).frame.place es) ∧ gs'.size = gs.size ∧
      RI P L D Shun At w₀ gs' w' (t ++ MemOp.ofEvents (L.gr x) (gg x).frame.fn (gg x).frame.place es) q s' (set p x px) (set (set gg x g') (!x) go) (set (set nn x n') (!x) no) ∧ (no = nn (!x) ∨ x = false) := by
  have hi := h.is x
  have hlt := size_lt hi
  have hrun := runT_crowd_go (P := P) (sl := sl) hi (show stepG P (L.gr x == 0) (gg x) w = _ by rw [gr_main hL]; exact hst)
  have hmem : ∀ op ∈ MemOp.ofEvents (L.gr x) (gg x).frame.fn (gg x).frame.place es, op.g = L.gr x := fun op hop => by obtain ⟨e, _, rfl⟩ := mem_evs hop; rfl
  obtain ⟨no, hso, hno⟩ := (h.sit (!x)).other hS hL (d' := Deaf (t ++ MemOp.ofEvents (L.gr x) (gg x).frame.fn (gg x).frame.place es) L.c) hr hsh hcnt (fun hx => by
      have hx' : x = true := by simpa using hx
      subst hx'
      have hc := hL.c
      exact Deaf_other t (show L.gr true ≠ L.c by show 0 ≠ L.c; omega) _ hmem) (fun hp hb => htok.trans ((h.sit (!x)).tok hS hp hb)) (woken P (gg x) g' w') (.inr ⟨_, _, rfl⟩) (fun hx h1 h2 => by
      have hx' : x = false := by simpa using hx
      obtain ⟨k1, k2, k3⟩ := hk hx' h1 h2
      funext o
      unfold woken
      rw [if_pos (by simp [k1, k2, k3])])
  refine ⟨_, woken P (gg x) g' w' (gg (!x)), no, hrun, by simp, ?_, hno.imp id fun e => by simpa using e.1⟩
  refine { is := fun y => ?_, old := fun i g h0 hc hg => ?_, above := fun j hj => ?_, sh := hsh, j := hj, sit := fun y => ?_, ts := hts, seen := seen_more h.seen hsz fun op hop => ?_, keep := hkp, go := hgo }
  · rcases bool_cases x y with rfl | rfl
    · rw [get_set _ _ hlt]
      show _ = some (if y = !y then _ else if y = y then g' else _)
      cases y <;> rfl
    · rw [get_set_ne _ _ (gr_not hL x), h.is (!x), set_same]
      rfl
  · have hne : L.gr x ≠ i := fun e => by
      rcases gr_or (L := L) x with e2 | e2
      · exact h0 (e.symm.trans e2)
      · exact hc (e.symm.trans e2)
    rw [get_set_ne _ _ hne] at hg
    obtain ⟨y, hy, rfl⟩ := Option.map_eq_some_iff.1 hg
    have hq := h.old i y h0 hc hy
    rw [woken_quitsD hq, Deaf_other t hne _ hmem]
    exact hq
  · have hj' : gs.size ≤ j := by simpa using hj
    rw [Deaf_other t (show L.gr x ≠ j by omega) _ hmem]
    exact h.above j hj'
  · rcases bool_cases x y with rfl | rfl
    · have e1 : set (set gg y g') (!y) (woken P (gg y) g' w' (gg (!y))) y = g' := by cases y <;> rfl
      have e2 : set (set nn y n') (!y) no y = n' := by cases y <;> rfl
      rw [e1, e2, set_same]
      exact hself
    · rw [set_same, set_same, set_not]
      exact hso
  · obtain ⟨e, he, rfl⟩ := mem_evs hop
    exact hev e he
end
end Go.Proofs.Ytdmiilgdkmbmeaa.Rg
namespace Go.Proofs.Ytdmiilgdkmbmeaa.Rg
open Go Go.Conc
open Go.ConcN (sumTo upd sumTo_upd upd_ne upd_same)

section
variable {P : Program} {L : Lay} {D : Dat} {Shun : Loc → Prop} {At : Bool → Pl → Nat → Goroutine → World → Prop} {w₀ : World} {gs : Array Goroutine} {w w' : World} {t : Trace} {q : Nat → Nat} {s s' : Sh} {p : Bool → Pl} {gg : Bool → Goroutine} {nn : Bool → Nat}

/-- How far they are. -/
abbrev Ms := Nat × Nat × Nat
def ms (N : Nat) (s : Sh) (p : Bool → Pl) (nn : Bool → Nat) (l : Nat) : Ms := (mu N s (p true) (p false), nn false + l, nn true)
abbrev Lt : Ms → Ms → Prop := Prod.Lex (· < ·) (Prod.Lex (· < ·) (· < ·))
/-- Behind a step: they go on, nearer; or goroutine 0 has heard. -/
def On (P : Program) (L : Lay) (D : Dat) (Shun : Loc → Prop) (At : Bool → Pl → Nat → Goroutine → World → Prop) (w₀ : World) (z : Nat) (μ : Ms) (m : Machine) (t : Trace) : Prop :=
  (∃ gs w sl q s p gg nn, m = crowd gs w sl ∧ gs.size = z ∧ RI P L D Shun At w₀ gs w t q s p gg nn ∧ Lt (ms D.N s p nn (sumTo gs.size q)) μ) ∨ ∃ gs a w sl q s, m = crowd gs w sl ∧ gs.size = z ∧ Dn P L D Shun At w₀ gs a w t q s

theorem lt_mu {a b : Nat} {x y : Nat × Nat} (h : a < b) : Lt (a, x) (b, y) := .left _ _ h
theorem lt_2 {a b c : Nat} {x y : Nat} (h : b < c) : Lt (a, b, x) (a, c, y) := .right _ (.left _ _ h)
theorem lt_3 {a b x y : Nat} (h : x < y) : Lt (a, b, x) (a, b, y) := .right _ (.right _ h)
theorem set_self {α : Type} (f : Bool → α) (x : Bool) : set f x (f x) = f := by funext y; unfold set; split <;> simp_all
theorem evs_nil (g : Nat) (fn : FuncId) (pos : String) : MemOp.ofEvents g fn pos #[] = #[] := by simp [MemOp.ofEvents]
theorem app_nil (t : Trace) (g : Nat) (fn : FuncId) (pos : String) : t ++ MemOp.ofEvents g fn pos #[] = t := by rw [evs_nil]; simp

theorem pl_ok (hj : J L.n D.N s (p true) (p false)) : (p true).dn = false ∧ (p false).wt = false := by
  have g := hj.g
  constructor
  · cases e : p true <;> first | rfl | (exfalso; rw [e] at g; cases hw : s.wg <;> simp [hw, wgOk, Pl.ap] at g)
  · cases e : p false <;> first | rfl | (exfalso; rw [e] at g; cases hw : s.wg <;> simp [hw, wgOk, Pl.bp] at g)

/-- Between two stops. -/
theorem RI.idle (hS : Spec P L D Shun At) (hL : L.Good) (h : RI P L D Shun At w₀ gs w t q s p gg nn) (sl : Option (Nat × Nat)) {x : Bool} {g' : Goroutine} {es : Array Event} {n : Nat} (hn : nn x = n + 1 + 1) (hp : p x ≠ .gone)
    (hst : stepG P x (gg x) w = .go g' w' es) (hd : DX L Shun x (p x) w w' es) (hG : Goes P x (RX L x) (DX L Shun x (p x)) (At x (p x) (s.cnt x)) n g' w') :
    ∃ m' ops, runT P (crowd gs w sl) (L.gr x) = (.next m', ops) ∧ On P L D Shun At w₀ gs.size (ms D.N s p nn (sumTo gs.size q)) m' (t ++ ops) := by
  have hts : TrS L Shun s (p true) (p false) (t ++ MemOp.ofEvents (L.gr x) (gg x).frame.fn (gg x).frame.place es) := h.ts.idle hL x _ _ (fun e he => (hd.ev e he).1) fun hx => by
    subst hx
    refine ⟨hp, fun hr => hd.quiet ?_⟩
    cases e : p false <;> simp_all [Pl.rel, Pl.qu]
  obtain ⟨gs', go, no, h1, h2, h3, h4⟩ := h.own hS hL sl (x := x) (px := p x) (n' := n + 1) hst (h.sh.idle hL hd) (hd.rely hL) (by rw [set_self]; exact h.j) (.run n hp hG) rfl rfl (fun _ e1 e2 => absurd e1 e2) (by rw [set_self]; exact hts) (fun e he => (hd.ev e he).2) hd.size (h.keep.idle hd) (by rw [set_self]; exact h.go)
  refine ⟨_, _, h1, .inl ⟨gs', w', sl, q, s, _, _, _, rfl, h2, h3, ?_⟩⟩
  rw [set_self, h2]
  cases x
  · exact lt_2 (show n + 1 + sumTo gs.size q < nn false + sumTo gs.size q by omega)
  · rcases h4 with h4 | h4
    · have e : no = nn false := h4
      subst e
      exact lt_3 (show n + 1 < nn true by omega)
    · cases h4

theorem nxS_cnt (x : Bool) (s : Sh) (pl : Pl) : (nxS x s pl).cnt (!x) = s.cnt (!x) := by
  cases x <;> cases pl <;> first | rfl | (simp only [nxS]; cases s.wg <;> rfl)
theorem nxS_tok (x : Bool) (s : Sh) (pl : Pl) (y : Bool) : (nxS x s pl).tok y = s.tok y := by
  cases x <;> cases y <;> cases pl <;> first | rfl | (simp only [nxS]; cases s.wg <;> rfl)
theorem nxE_low (hL : L.Good) (x : Bool) (s : Sh) (pl : Pl) {z : Nat} (hz : L.low ≤ z) : ∀ e ∈ nxE L x s pl, (MemAct.ofEvent e).low z := by
  have hR := hL.R
  have hM := hL.M
  have hW := hL.W
  have c1 : ∀ y : Addr, y.block < L.low → ∀ w sy, (MemAct.ofEvent ⟨.cell y, w, sy⟩).low z := fun y hy w sy => by rw [ofEvent_cell]; show y.block < z; omega
  have l1 : ∀ {e f : Event}, e ∈ (#[f] : Array Event) → (MemAct.ofEvent f).low z → (MemAct.ofEvent e).low z := fun {e f} he hf => by
    have : e = f := by simpa using he
    rw [this]; exact hf
  have l2 : ∀ {e f g : Event}, e ∈ (#[f, g] : Array Event) → (MemAct.ofEvent f).low z → (MemAct.ofEvent g).low z → (MemAct.ofEvent e).low z := fun {e f g} he hf hg => by
    have : e = f ∨ e = g := by simpa using he
    rcases this with rfl | rfl
    · exact hf
    · exact hg
  have sm : ∀ e ∈ semEvents L.sem, (MemAct.ofEvent e).low z := fun e he => by
    have : e = mkE .disable ∨ e = ⟨.cell L.sem, false, true⟩ ∨ e = ⟨.cell L.sem, true, true⟩ ∨ e = mkE .enable := by simpa [semEvents, mkE] using he
    rcases this with rfl | rfl | rfl | rfl
    · trivial
    · exact c1 _ hW _ _
    · exact c1 _ hW _ _
    · trivial
  have hz' : L.W < z := by omega
  intro e he
  have nil : e ∈ (#[] : Array Event) → (MemAct.ofEvent e).low z := fun h => by simp at h
  cases pl
  case ld => exact l1 he (c1 _ hR _ _)
  case sl => exact l1 he (c1 _ hM _ _)
  case st => exact l1 he (c1 _ hR _ _)
  case w0 => exact l1 he trivial
  case d1 => exact l1 he trivial
  case w1 => exact l1 he (c1 _ hW _ _)
  case w4 => exact l1 he (c1 _ hW _ _)
  case d3 => exact l1 he (c1 _ hW _ _)
  case w2 =>
    cases hw : s.wg <;> simp only [nxE, hw] at he
    · exact l2 he (c1 _ hW _ _) (c1 _ hW _ _)
    all_goals exact l1 he (c1 _ hW _ _)
  case w3 => exact sm e he
  case d5 => exact sm e he
  case we => exact l1 he trivial
  case wq => exact l1 he hz'
  case d0 => exact l1 he hz'
  case d2 => exact l2 he (c1 _ hW _ _) (c1 _ hW _ _)
  case d4 => exact l1 he (c1 _ hW _ _)
  all_goals exact nil he
theorem nxP_out {n : Nat} {x : Bool} {pl : Pl} (h : nxP n x s pl = .out) : pl = .wq ∨ pl = .out := by
  cases pl <;> first | exact .inl rfl | exact .inr rfl | (exfalso; revert h; simp only [nxP]; first | (split <;> simp) | simp)
theorem nxP_gone {n : Nat} {x : Bool} {pl : Pl} (h : nxP n x s pl = .gone) : pl = .d2 ∨ pl = .d5 ∨ pl = .gone := by
  cases pl <;> first | exact .inl rfl | exact .inr (.inl rfl) | exact .inr (.inr rfl) | (exfalso; revert h; simp only [nxP]; first | (split <;> simp) | simp)

/-- Goroutine 0 hears that the child is done. -/
theorem RI.join (hS : Spec P L D Shun At) (hL : L.Good) (hS2 : ∀ y : Addr, y.block = L.M → ¬ Shun (.cell y)) (h : RI P L D Shun At w₀ gs w t q s p gg nn) (hlow : L.low ≤ w₀.heap.size) (sl : Option (Nat × Nat)) {g' : Goroutine} (hp : p true = .wq)
    (hst : stepG P true (gg true) w = .go g' w' #[mkE (.acquire L.grp)]) (hsh : ShAt L D s w') (hT : Turn L w w') (hG : ∃ m, Goes P true (RX L true) (DX L Shun true .out) (At true .out (s.cnt true)) m g' w') :
    ∃ m' ops, runT P (crowd gs w sl) 0 = (.next m', ops) ∧ On P L D Shun At w₀ gs.size (ms D.N s p nn (sumTo gs.size q)) m' (t ++ ops) := by
  have hj := h.j
  have hgone : p false = .gone := by
    have g := hj.g
    rw [hp] at g
    cases hw : s.wg <;> simp [hw, wgOk, Pl.ap] at g
    cases e : p false <;> simp [e, Pl.bp] at g
    rfl
  have hi := h.is true
  have hlt := size_lt hi
  have hrun := runT_crowd_go (P := P) (sl := sl) (i := 0) (gs := gs) hi hst
  have e1 : MemOp.ofEvents 0 (gg true).frame.fn (gg true).frame.place #[mkE (.acquire L.grp)] = #[{ g := 0, fn := (gg true).frame.fn, pos := (gg true).frame.place, act := .mark (.acquire L.grp) }] := one_ev _ _ _ _
  rw [e1] at hrun
  obtain ⟨r, hr1, hr2⟩ := h.ts.rel (by rw [hgone]; rfl)
  have d0 : Deaf t 0 = 0 := by rw [h.ts.da, hp]; rfl
  obtain ⟨j1, j2, j3⟩ := h.ts.tr.join hL hr1 hr2 (y := { g := 0, fn := (gg true).frame.fn, pos := (gg true).frame.place, act := .mark (.acquire L.grp) }) rfl rfl d0
  have hc := hL.c
  have dn : ∀ g, Deaf (t ++ #[({ g := 0, fn := (gg true).frame.fn, pos := (gg true).frame.place, act := .mark (.acquire L.grp) } : MemOp)]) g = Deaf t g := fun g => by rw [Deaf_push]; rfl
  have hkq : ∀ i g, 0 < i → ((gs.map (woken P (gg true) g' w')).setIfInBounds 0 g')[i]? = some g → ∃ y, gs[i]? = some y ∧ g = woken P (gg true) g' w' y := fun i g hi hg => by
    rw [get_set_ne _ _ (by omega)] at hg
    obtain ⟨y, hy, rfl⟩ := Option.map_eq_some_iff.1 hg
    exact ⟨y, hy, rfl⟩
  have hcg : gs[L.c]? = some (gg false) := h.is false
  have hqc : QuitsD P (nn false) (Deaf t L.c) (gg false) := by
    have := h.sit false
    generalize hnf : nn false = nf at this ⊢
    generalize hpf : p false = pf at this
    cases this with
    | run n hp' => rw [← hpf] at hp'; exact absurd hgone hp'
    | park g₀ hp' => rw [← hpf, hgone] at hp'; cases hp'
    | sleep g₀ hx => cases hx
    | gone n _ _ hq => exact hq
  have hall := hj.a2 (by rw [hp]; rfl)
  have hallj := hj.b2 (by rw [hgone]; rfl)
  refine ⟨_, _, hrun, .inr ⟨_, g', w', sl, upd q L.c (nn false), s, rfl, by simp, ?_⟩⟩
  refine { is := get_set _ _ hlt, lv := ⟨fun i g hi hg => ?_, fun j hj => ?_⟩, sh := hsh, all := ⟨hall, hallj⟩, goes := by rw [← hall]; exact hG, past := ⟨j3, j2, j1, (dn 0).trans d0, ?_⟩, keep := h.keep.turn hT, size := by simp; exact size_lt hcg }
  · obtain ⟨y, hy, rfl⟩ := hkq i g hi hg
    rw [dn]
    by_cases e : i = L.c
    · subst e
      rw [hcg] at hy
      obtain rfl := Option.some.inj hy
      rw [woken_quitsD hqc, upd_same]
      exact hqc
    · have hq := h.old i y (by omega) e hy
      rw [woken_quitsD hq, upd_ne _ _ e]
      exact hq
  · rw [dn]
    exact h.above j (by simpa using hj)
  · refine seen_more h.seen (by rw [hT.size]; exact Nat.le_refl _) fun op hop => ?_
    rw [in_one hop]
    show L.W < _
    have := hL.W
    have := h.keep.size
    rw [hT.size]
    omega

/-- At a stop whose step is its own. -/
theorem RI.stop (hS : Spec P L D Shun At) (hL : L.Good) (hS2 : ∀ y : Addr, y.block = L.M → ¬ Shun (.cell y)) (h : RI P L D Shun At w₀ gs w t q s p gg nn) (hlow : L.low ≤ w₀.heap.size) (sl : Option (Nat × Nat)) {x : Bool} (hA : At x (p x) (s.cnt x) (gg x) w) (hg : (p x).go = true) (hf : p x = .w3 → s.wg = .f) :
    ∃ m' ops, runT P (crowd gs w sl) (L.gr x) = (.next m', ops) ∧ On P L D Shun At w₀ gs.size (ms D.N s p nn (sumTo gs.size q)) m' (t ++ ops) := by
  obtain ⟨g', w', hst, hsh, hT, hnx⟩ := hS.go hA hg h.sh h.j (by cases x <;> rfl) hf
  by_cases hout : x = true ∧ p x = .wq
  · obtain ⟨rfl, hp⟩ := hout
    have e1 : nxE L true s (p true) = #[mkE (.acquire L.grp)] := by rw [hp]; rfl
    have e2 : nxS true s (p true) = s := by rw [hp]; rfl
    have e3 : nxP L.n true s (p true) = .out := by rw [hp]; rfl
    rw [e1] at hst
    rw [e2] at hsh
    rw [e3, e2] at hnx
    rcases hnx with ⟨h1, _⟩ | ⟨_, h2⟩
    · cases h1
    · exact h.join hS hL hS2 hlow sl hp hst hsh hT h2
  · have hcnt := nxS_cnt x s (p x)
    have hjx : J L.n D.N (nxS x s (p x)) (set p x (nxP L.n x s (p x)) true) (set p x (nxP L.n x s (p x)) false) := by
      cases x
      · exact h.j.goB hg
      · exact h.j.goA hg hf
    have hmu : mu D.N (nxS x s (p x)) (set p x (nxP L.n x s (p x)) true) (set p x (nxP L.n x s (p x)) false) < mu D.N s (p true) (p false) := by
      cases x
      · exact mu_goB h.j hg
      · exact mu_goA h.j hg hf
    have hts : TrS L Shun (nxS x s (p x)) (set p x (nxP L.n x s (p x)) true) (set p x (nxP L.n x s (p x)) false) (t ++ MemOp.ofEvents (L.gr x) (gg x).frame.fn (gg x).frame.place (nxE L x s (p x))) := by
      cases x
      · exact h.ts.goB hL h.j hS2 hg _ _
      · exact h.ts.goA hL h.j hS2 hg hf _ _
    have hself : ∃ n', Sit P L D Shun At x (nxP L.n x s (p x)) (nxS x s (p x)) (Deaf (t ++ MemOp.ofEvents (L.gr x) (gg x).frame.fn (gg x).frame.place (nxE L x s (p x))) L.c) g' w' n' := by
      rcases hnx with ⟨h1, h2, q', h3⟩ | ⟨h1, m, h2⟩
      · refine ⟨q', .gone q' h1 h2 ?_⟩
        subst h1
        have hd : Deaf (t ++ MemOp.ofEvents (L.gr false) (gg false).frame.fn (gg false).frame.place (nxE L false s (p false))) L.c = 1 := by
          rw [show L.gr false = L.c from rfl, Deaf_own, h.ts.db (fun e => by rw [e] at hg; cases hg)]
          rcases nxP_gone h2 with e | e | e <;> rw [e] at hg ⊢
          · rfl
          · rfl
          · cases hg
        rw [hd]
        exact h3
      · exact ⟨m + 1, .run m h1 h2⟩
    obtain ⟨n', hself⟩ := hself
    obtain ⟨gs', go, no, h1, h2, h3, h4⟩ := h.own hS hL sl (x := x) (px := nxP L.n x s (p x)) hst hsh (hT.rely hL h.sh hsh hcnt) hjx hself hcnt (nxS_tok x s _ _) (fun hx e1 e2 => by
        subst hx
        have hd5 : p false = .d5 := by
          cases e : p false <;> rw [e] at e1 <;> first | rfl | (exact absurd e1 e2) | skip
          all_goals (exfalso; revert e1; simp only [nxS]; cases hw : s.wg <;> simp_all)
        rw [hd5] at hA
        refine ⟨hS.wake hA, ?_⟩
        rcases hnx with ⟨_, _, q', hq⟩ | ⟨e3, _⟩
        · rcases hq.status with e | e <;> rw [e] <;> simp
        · rw [hd5] at e3; exact absurd rfl e3) hts (nxE_low hL x s _ (by rw [hT.size]; exact Nat.le_trans hlow h.keep.size)) (by rw [hT.size]; exact Nat.le_refl _) (h.keep.turn hT) (fun e => hout (by
        cases x
        · exact absurd e h.go
        · refine ⟨rfl, ?_⟩
          rcases nxP_out (show nxP L.n true s (p true) = .out from e) with e3 | e3
          · exact e3
          · exact absurd e3 h.go))
    exact ⟨_, _, h1, .inl ⟨gs', w', sl, q, _, _, _, _, rfl, h2, h3, lt_mu hmu⟩⟩

/-- Goroutine 0 falls asleep at the group. -/
theorem RI.doze (hS : Spec P L D Shun At) (hL : L.Good) (h : RI P L D Shun At w₀ gs w t q s p gg nn) (sl : Option (Nat × Nat)) (hp : p true = .w3) (hA : ∀ w₁, RX L true w w₁ → At true .w3 (s.cnt true) (gg true) w₁) (hf : s.wg ≠ .f) (hn : 0 < nn true) :
    ∃ m' ops, runT P (crowd gs w sl) (L.gr true) = (.next m', ops) ∧ On P L D Shun At w₀ gs.size (ms D.N s p nn (sumTo gs.size q)) m' (t ++ ops) := by
  obtain ⟨_, h2⟩ := hS.wait (hA w (RX.refl w))
  have hst := h2 s h.sh (by cases e : s.wg <;> first | rfl | exact absurd e hf)
  have hnil := app_nil t (L.gr true) (gg true).frame.fn (gg true).frame.place
  obtain ⟨gs', go, no, h1, h2, h3, h4⟩ := h.own hS hL sl (x := true) (px := p true) (n' := 0) hst h.sh (RX.refl w) (by rw [set_self]; exact h.j) (.sleep (gg true) rfl hp rfl hf hA) rfl rfl (fun e => by cases e) (by rw [set_self, hnil]; exact h.ts) (fun e he => by simp at he) (Nat.le_refl _) h.keep (by rw [set_self]; exact h.go)
  refine ⟨_, _, h1, .inl ⟨gs', w, sl, q, s, _, _, _, rfl, h2, h3, ?_⟩⟩
  rw [set_self, h2]
  rcases h4 with h4 | h4
  · have e : no = nn false := h4
    subst e
    exact lt_3 (show 0 < nn true by omega)
  · cases h4
end
end Go.Proofs.Ytdmiilgdkmbmeaa.Rg
namespace Go.Proofs.Ytdmiilgdkmbmeaa.Rg
open Go Go.Conc
open Go.ConcN (sumTo upd sumTo_upd upd_ne upd_same)

section
variable {P : Program} {L : Lay} {D : Dat} {Shun : Loc → Prop} {At : Bool → Pl → Nat → Goroutine → World → Prop} {w₀ : World} {gs : Array Goroutine} {w w' : World} {t : Trace} {q : Nat → Nat} {s s' : Sh} {p : Bool → Pl} {gg : Bool → Goroutine} {nn : Bool → Nat}

theorem deaf_plain {u : Trace} (hu : ∀ op ∈ u, ∀ m, op.act ≠ .mark m) (g : Nat) : Deaf (t ++ u) g = Deaf t g := by
  obtain ⟨l⟩ := u
  rw [Deaf_append]
  have : ∀ (l : List MemOp), (∀ op ∈ l, ∀ m, op.act ≠ .mark m) → ∀ d, l.foldl (deafStep g) d = d := by
    intro l
    induction l with
    | nil => intro _ d; rfl
    | cons y l ih =>
      intro hl d
      have hy := hl y (by simp)
      have e1 : deafStep g d y = d := by
        unfold deafStep
        split
        · rename_i e; exact absurd e (hy _)
        · rename_i e; exact absurd e (hy _)
        · rfl
      rw [List.foldl_cons, e1]
      exact ih (fun op hop => hl op (by simp [hop])) d
  exact this l (fun op hop => hu op (by simpa using hop)) _
/-- A communication of theirs. -/
theorem RI.comm (h : RI P L D Shun At w₀ gs w t q s p gg nn) {gs' : Array Goroutine} {u : Trace} {p' : Bool → Pl} {gg' : Bool → Goroutine} {nn' : Bool → Nat} (hsz : gs'.size = gs.size) (his : ∀ y, gs'[L.gr y]? = some (gg' y)) (hot : ∀ i, i ≠ 0 → i ≠ L.c → gs'[i]? = gs[i]?)
    (hsh : ShAt L D s' w') (hT : Turn L w w') (hj : J L.n D.N s' (p' true) (p' false)) (hsit : ∀ y, Sit P L D Shun At y (p' y) s' (Deaf t L.c) (gg' y) w' (nn' y)) (hu : ∀ op ∈ u, op.act.touch? = none ∧ (∀ m, op.act ≠ .mark m) ∧ op.act.low w'.heap.size) (e1 : s'.j = s.j) (e2 : s'.k = s.k)
    (ha : ¬(p' true = .sl ∨ p' true = .st) ∨ p' true = p true) (hb : p' false = p false ∨ ¬(p' false = .sl ∨ p' false = .st)) (da : dfA (p' true) = dfA (p true)) (db : dfB (p' false) = dfB (p false)) (hg : p' false ≠ .gone → p false ≠ .gone) (hr : (p' false).rel = true → (p false).rel = true) (hgo : p' true ≠ .out) :
    RI P L D Shun At w₀ gs' w' (t ++ u) q s' p' gg' nn' := by
  have hd := fun g => deaf_plain (t := t) (fun op hop => (hu op hop).2.1) g
  refine { is := his, old := fun i g h0 hc hgi => ?_, above := fun j hj' => ?_, sh := hsh, j := hj, sit := fun y => by rw [hd]; exact hsit y, ts := ?_, seen := seen_more h.seen (by rw [hT.size]; exact Nat.le_refl _) fun op hop => (hu op hop).2.2, keep := h.keep.turn hT, go := hgo }
  · rw [hd]; exact h.old i g h0 hc (by rw [← hot i h0 hc]; exact hgi)
  · rw [hd]; exact h.above j (by omega)
  · refine h.ts.keep (h.ts.tr.quiet (fun op hop => (hu op hop).1) (fun op hop => (hu op hop).2.1 _)) (fun op hop x hx => ?_) (fun op hop y sync e => ?_) e1 e2 (fun e => ha.elim (fun h1 => absurd e h1) fun h1 => h1 ▸ e) (fun e => hb.elim (fun h1 => h1 ▸ e) fun h1 => absurd e h1) ((hd 0).trans (h.ts.da.trans da.symm)) (fun hb' => (hd L.c).trans ((h.ts.db (hg hb')).trans db.symm)) (fun hb' => (h.ts.rel (hr hb')).still fun op hop => .inr (hu op hop).1)
    · rw [(hu op hop).1] at hx; cases hx
    · have := (hu op hop).1
      rw [e] at this
      cases this
theorem nx (x : Bool) : ¬ ((!x) = x) := by cases x <;> simp
theorem setTok_tok (s : Sh) (x v : Bool) (y : Bool) : (s.setTok x v).tok y = if y = x then v else s.tok y := by cases x <;> cases y <;> rfl
theorem turn_chan (hL : L.Good) (x : Bool) (buf : Array Value) (a b : Nat) : Turn L w (w.setChan (L.bell x) 1 buf false a b false) := by
  refine ⟨fun i hi => ?_, by simp [World.setChan], rfl, rfl, rfl⟩
  have hne : L.bell x ≠ i := fun e => hi (by rw [← e]; cases x <;> simp [Lay.sp, Lay.bell])
  show (w.heap.setIfInBounds _ _)[i]? = _
  exact Array.getElem?_setIfInBounds_ne hne
theorem bell_ne (hL : L.Good) (x : Bool) : L.bell x ≠ L.bell (!x) ∧ L.bell x ≠ L.R ∧ L.bell x ≠ L.M ∧ L.bell x ≠ L.W := by
  cases x
  · exact ⟨hL.FE, hL.RF.symm, hL.MF.symm, hL.FW⟩
  · exact ⟨hL.FE.symm, hL.RE.symm, hL.ME.symm, hL.EW⟩
theorem chan_R (hL : L.Good) (x : Bool) (buf : Array Value) (a b : Nat) : (w.setChan (L.bell x) 1 buf false a b false).heap[L.R]? = w.heap[L.R]? := Array.getElem?_setIfInBounds_ne (bell_ne hL x).2.1
theorem chan_W (hL : L.Good) (x : Bool) (buf : Array Value) (a b : Nat) : (w.setChan (L.bell x) 1 buf false a b false).heap[L.W]? = w.heap[L.W]? := Array.getElem?_setIfInBounds_ne (bell_ne hL x).2.2.2
theorem ShAt.chan (h : ShAt L D s w) (hL : L.Good) (x : Bool) (v : Bool) (a b : Nat) : ShAt L D (s.setTok x v) (w.setChan (L.bell x) 1 (if v then #[D.unit] else #[]) false a b false) := by
  obtain ⟨n1, n2, n3, n4⟩ := bell_ne hL x
  have sj : (s.setTok x v).j = s.j := by cases x <;> rfl
  have sk : (s.setTok x v).k = s.k := by cases x <;> rfl
  have sw : (s.setTok x v).wr = s.wr := by cases x <;> rfl
  have sg : (s.setTok x v).wg = s.wg := by cases x <;> rfl
  have o : ∀ i, L.bell x ≠ i → (w.setChan (L.bell x) 1 (if v then #[D.unit] else #[]) false a b false).heap[i]? = w.heap[i]? := fun i hi => Array.getElem?_setIfInBounds_ne hi
  refine ⟨by rw [o _ n2, sj, sk]; exact h.ring, by rw [o _ n3, sj, sk, sw]; exact h.room, fun y => ?_, by rw [o _ n4, sg]; exact h.grp⟩
  rw [setTok_tok]
  rcases bool_cases x y with rfl | rfl
  · rw [if_pos rfl]
    refine ⟨a, b, ?_⟩
    obtain ⟨u, v', hb⟩ := h.bell y
    show (w.heap.setIfInBounds _ _)[_]? = _
    exact Array.getElem?_setIfInBounds_self_of_lt (Array.getElem?_eq_some_iff.1 hb).1
  · rw [if_neg (nx x), o _ n1]
    exact h.bell (!x)
theorem tok_same (s : Sh) (x : Bool) : s.setTok x (s.tok x) = s := by cases x <;> rfl

/-- Who stands at a bell. -/
theorem RI.alone (hS : Spec P L D Shun At) (h : RI P L D Shun At w₀ gs w t q s p gg nn) {x : Bool} (hr : (gg x).status = .running) (c : Nat) (send : Bool) (hno : ¬((p (!x) = .rc ∧ (gg (!x)).status = .blocked) ∧ send = false ∧ c = L.bell (!x))) :
    partners (gs.setIfInBounds (L.gr x) ph) c send = [] := by
  refine partners_nil fun j g hg => ?_
  rcases getElem?_stand gs (L.gr x) j g hg with ⟨_, rfl⟩ | ⟨hj, hg'⟩
  · rfl
  · by_cases e : j = L.gr (!x)
    · subst e
      rw [h.is (!x)] at hg'
      obtain rfl := Option.some.inj hg'
      rw [(h.sit (!x)).offers hS, if_neg hno]
    · have h0 : j ≠ 0 ∧ j ≠ L.c := by
        cases x
        · exact ⟨e, hj⟩
        · exact ⟨hj, e⟩
      exact offersAt_of_not_blocked (by rcases (h.old j g h0.1 h0.2 hg').status with e | e <;> rw [e] <;> simp) c send
theorem comm_ops {i j : Nat} {f f' : FuncId} {ps ps' : String} {c a b cap z : Nat} (hc : c < z) : ∀ op ∈ (#[{ g := i, fn := f, pos := ps, act := .send c a }, { g := j, fn := f', pos := ps', act := .recv c b cap }, { g := i, fn := f, pos := ps, act := .sendDone c a }, { g := j, fn := f', pos := ps', act := .recvDone c b }] : Trace), op.act.touch? = none ∧ (∀ m, op.act ≠ .mark m) ∧ op.act.low z := by
  intro op hop
  simp only [List.mem_toArray, List.mem_cons, List.not_mem_nil, or_false] at hop
  rcases hop with rfl | rfl | rfl | rfl <;> exact ⟨rfl, fun m => by simp, hc⟩
theorem bell_sz (hL : L.Good) (hlow : L.low ≤ w₀.heap.size) (h : Kp L w₀ w) (x : Bool) : L.bell x < w.heap.size := Nat.lt_of_lt_of_le (bell_lt hL x) (Nat.le_trans hlow h.size)
theorem aft_cases (N : Nat) (x : Bool) (i : Nat) : (aft N x i = .ld ∨ aft N x i = (if x then .w0 else .d0)) := by unfold aft; split <;> simp
theorem set_both {α : Type} (f : Bool → α) (x : Bool) (a b : α) (y : Bool) : set (set f x a) (!x) b y = if y = x then a else b := by cases x <;> cases y <;> rfl
theorem get_two {i j : Nat} (hij : i ≠ j) {a b : Goroutine} (hi : i < gs.size) (hj : j < gs.size) : ((gs.setIfInBounds j b).setIfInBounds i a)[i]? = some a ∧ ((gs.setIfInBounds j b).setIfInBounds i a)[j]? = some b ∧ ∀ k, k ≠ i → k ≠ j → ((gs.setIfInBounds j b).setIfInBounds i a)[k]? = gs[k]? := by
  refine ⟨Array.getElem?_setIfInBounds_self_of_lt (by simpa using hi), ?_, fun k h1 h2 => ?_⟩
  · rw [Array.getElem?_setIfInBounds_ne hij, Array.getElem?_setIfInBounds_self_of_lt hj]
  · rw [Array.getElem?_setIfInBounds_ne (Ne.symm h1), Array.getElem?_setIfInBounds_ne (Ne.symm h2)]

/-- ONE OF THE TWO RINGS. -/
theorem RI.bell (hS : Spec P L D Shun At) (hL : L.Good) (hlow : L.low ≤ w₀.heap.size) (h : RI P L D Shun At w₀ gs w t q s p gg nn) (sl : Option (Nat × Nat)) {x : Bool} (hp : p x = .bl) (hA : At x .bl (s.cnt x) (gg x) w) :
    ∃ m' ops, runT P (crowd gs w sl) (L.gr x) = (.next m', ops) ∧ On P L D Shun At w₀ gs.size (ms D.N s p nn (sumTo gs.size q)) m' (t ++ ops) := by
  have hi := h.is x
  have hlt := size_lt hi
  have hrun := hS.run hA
  obtain ⟨hst, hnx⟩ := hS.bl hA
  have hst' : stepG P (L.gr x == 0) (gg x) w = .comm (gg x) #[scase (L.bell !x) D.unit D.unit] false .select w #[] := by rw [gr_main hL]; exact hst
  obtain ⟨u, v, hb⟩ := h.sh.bell (!x)
  have hj1 : J L.n D.N (s.setTok (!x) true) (set p x (aft D.N x (s.cnt x)) true) (set p x (aft D.N x (s.cnt x)) false) := by
    have hj := h.j
    cases x
    · rw [hp] at hj; exact hj.blB
    · rw [hp] at hj; exact hj.blA
  have hng : aft D.N x (s.cnt x) ≠ .gone := by unfold aft; split <;> (try cases x) <;> simp
  have cnt' : ∀ a b y, (s.setTok a b).cnt y = s.cnt y := fun a b y => by cases a <;> cases y <;> rfl
  have hd : ∀ z, dfA (set p x (aft D.N x (s.cnt x)) true) = dfA (p true) ∧ dfB (set p x (aft D.N x (s.cnt x)) false) = dfB (p false) ∧ ¬ (z = true ∧ False) := fun z => by
    have e := aft_cases D.N x (s.cnt x)
    cases x
    · refine ⟨rfl, ?_, by simp⟩
      rw [hp]; show dfB (aft _ _ _) = 0
      rcases e with e | e <;> rw [e] <;> rfl
    · refine ⟨?_, rfl, by simp⟩
      rw [hp]; show dfA (aft _ _ _) = 0
      rcases e with e | e <;> rw [e] <;> rfl
  have sls : ∀ y : Pl, (y = aft D.N x (s.cnt x)) → ¬(y = .sl ∨ y = .st) := fun y hy => by
    rcases aft_cases D.N x (s.cnt x) with e | e <;> rw [hy, e]
    · simp
    · cases x <;> simp
  have rel0 : (aft D.N x (s.cnt x)).rel = false ∨ x = true := by
    cases x
    · rcases aft_cases D.N false (s.cnt false) with e | e <;> rw [e] <;> exact .inl rfl
    · exact .inr rfl
  have hout : aft D.N x (s.cnt x) ≠ .out := by rcases aft_cases D.N x (s.cnt x) with e | e <;> rw [e] <;> cases x <;> simp
  have rkA := rk_aft D.N x (s.cnt x) s.wg
  have hmem0 : ∀ y, MemOp.ofEvents y (gg x).frame.fn (gg x).frame.place #[] = (#[] : Trace) := fun y => evs_nil _ _ _
  by_cases hpk : p (!x) = .rc ∧ (gg (!x)).status = .blocked
  · -- the other waits there
    have hso := h.sit (!x)
    obtain ⟨hpo, hbo⟩ := hpk
    generalize hno : nn (!x) = no at hso
    generalize hpo' : p (!x) = po at hso
    cases hso with
    | run n _ hG =>
      have := hG.running (fun _ _ a => hS.run a) w (RX.refl w)
      rw [this] at hbo; cases hbo
    | sleep g₀ _ e2 => rw [← hpo', hpo] at e2; cases e2
    | gone n _ e2 => rw [← hpo', hpo] at e2; cases e2
    | park g₀ _ e2 htk hAo =>
      have hij : L.gr (!x) ≠ L.gr x := (gr_not hL x).symm
      have hgo : gs[L.gr (!x)]? = some (parked g₀ #[rcase (L.bell !x) D.unit] (.recv false)) := by rw [h.is (!x), e2]
      have hpt : partners (gs.setIfInBounds (L.gr x) ph) (L.bell !x) false = [(L.gr (!x), 0)] := by
        have h1 := stand_get (gs := gs) (i := L.gr x) hij hgo
        have := partners_one (r := L.bell !x) (send := false) h1 (fun j g hj hg => by
          rcases getElem?_stand gs (L.gr x) j g hg with ⟨_, rfl⟩ | ⟨hj', hg'⟩
          · rfl
          · have h0 : j ≠ 0 ∧ j ≠ L.c := by
              cases x
              · exact ⟨hj, hj'⟩
              · exact ⟨hj', hj⟩
            exact offersAt_of_not_blocked (by rcases (h.old j g h0.1 h0.2 hg').status with e | e <;> rw [e] <;> simp) _ _)
        rw [this, offersAt_parked_recv, if_pos rfl]
        rfl
      rw [htk] at hb
      have hmeet := crowd_send_meets (P := P) (sl := sl) hi hst' (by simpa using hb) hij hgo hpt
      rw [hmem0, Array.empty_append] at hmeet
      have hT : Turn L w (w.setChan (L.bell !x) 1 #[] false (u + 1) (v + 1) false) := turn_chan hL (!x) _ _ _
      have hsh : ShAt L D s (w.setChan (L.bell !x) 1 #[] false (u + 1) (v + 1) false) := by
        have := h.sh.chan hL (!x) false (u + 1) (v + 1)
        rw [show s.setTok (!x) false = s by rw [← htk]; exact tok_same s _] at this
        exact this
      obtain ⟨ops, hops, hmeet⟩ : ∃ ops : Trace, (∀ op ∈ ops, op.act.touch? = none ∧ (∀ m, op.act ≠ .mark m) ∧ op.act.low (w.setChan (L.bell !x) 1 #[] false (u + 1) (v + 1) false).heap.size) ∧ runT P (crowd gs w sl) (L.gr x) = (.next (crowd ((gs.setIfInBounds (L.gr (!x)) (g₀.finishComm P #[rcase (L.bell !x) D.unit] (.recv false) 0 D.unit true)).setIfInBounds (L.gr x) ((gg x).finishComm P #[scase (L.bell !x) D.unit D.unit] .select 0 undef false)) (w.setChan (L.bell !x) 1 #[] false (u + 1) (v + 1) false) sl), ops) :=
        ⟨_, comm_ops (by rw [hT.size]; exact bell_sz hL hlow h.keep (!x)), hmeet⟩
      obtain ⟨m1, hG1⟩ := hnx 0 _ (.inl rfl) hT (chan_R hL (!x) _ _ _) (chan_W hL (!x) _ _ _)
      obtain ⟨_, hnx2⟩ := hS.rc (hAo w (RX.refl w))
      obtain ⟨m2, hG2⟩ := hnx2 _ hT (chan_R hL (!x) _ _ _) (chan_W hL (!x) _ _ _)
      obtain ⟨t1, t2, t3⟩ := get_two (gs := gs) (Ne.symm hij) (a := (gg x).finishComm P #[scase (L.bell !x) D.unit D.unit] .select 0 undef false) (b := g₀.finishComm P #[rcase (L.bell !x) D.unit] (.recv false) 0 D.unit true) hlt (size_lt (h.is (!x)))
      have hR := h.comm (u := ops) (gs' := (gs.setIfInBounds (L.gr (!x)) (g₀.finishComm P #[rcase (L.bell !x) D.unit] (.recv false) 0 D.unit true)).setIfInBounds (L.gr x) ((gg x).finishComm P #[scase (L.bell !x) D.unit D.unit] .select 0 undef false))
        (p' := set (set p x (aft D.N x (s.cnt x))) (!x) .ld) (gg' := fun y => if y = x then (gg x).finishComm P #[scase (L.bell !x) D.unit D.unit] .select 0 undef false else g₀.finishComm P #[rcase (L.bell !x) D.unit] (.recv false) 0 D.unit true) (nn' := fun y => if y = x then m1 + 1 else m2 + 1) (s' := s)
        (by simp) (fun y => by
          rcases bool_cases x y with rfl | rfl
          · rw [if_pos rfl]; exact t1
          · rw [if_neg (nx x)]; exact t2) (fun k k0 kc => t3 k (by cases x <;> assumption) (by cases x <;> assumption)) hsh hT (by
          have hj2 := hj1
          cases x
          · have e3 : p true = .rc := hpo
            have hj3 : J L.n D.N (s.setTok true true) (p true) (aft D.N false (s.cnt false)) := hj2
            rw [e3] at hj3
            have := hj3.rcA (s.tok true)
            rw [show ({ (s.setTok true true) with ta := s.tok true } : Sh) = s by rfl] at this
            exact this
          · have e3 : p false = .rc := hpo
            have hj3 : J L.n D.N (s.setTok false true) (aft D.N true (s.cnt true)) (p false) := hj2
            rw [e3] at hj3
            have := hj3.rcB (s.tok false)
            rw [show ({ (s.setTok false true) with tb := s.tok false } : Sh) = s by rfl] at this
            exact this) (fun y => by
          rcases bool_cases x y with rfl | rfl
          · rw [if_pos rfl, if_pos rfl, set_both, if_pos rfl]
            exact .run m1 hng hG1
          · rw [if_neg (nx x), if_neg (nx x), set_both, if_neg (nx x)]
            exact .run m2 (by simp) hG2) hops rfl rfl (.inl (by
          rw [set_both]
          split
          · exact sls _ rfl
          · simp)) (.inr (by
          rw [set_both]
          split
          · exact sls _ rfl
          · simp)) (by
          rw [set_both]
          cases x
          · rw [if_neg (by simp), show p true = .rc from hpo]; rfl
          · rw [if_pos rfl, hp]; exact ((hd true).1).trans (by rw [hp]) ▸ rfl) (by
          rw [set_both]
          cases x
          · rw [if_pos rfl, hp]; exact ((hd true).2.1).trans (by rw [hp]) ▸ rfl
          · rw [if_neg (by simp), show p false = .rc from hpo]; rfl) (fun _ => by
          cases x
          · rw [hp]; simp
          · rw [show p false = .rc from hpo]; simp) (fun hr => by
          rw [set_both] at hr
          cases x
          · rw [if_pos rfl] at hr
            rcases rel0 with e | e
            · rw [e] at hr; cases hr
            · cases e
          · rw [if_neg (by simp)] at hr; cases hr) (by
          rw [set_both]
          split
          · exact hout
          · simp)
      refine ⟨_, _, hmeet, .inl ⟨_, _, sl, q, s, _, _, _, rfl, by simp, hR, lt_mu ?_⟩⟩
      rw [set_both, set_both]
      have r1 : rk s.wg .rc = 2 := rfl
      have r2 : rk s.wg .ld = 3 := rfl
      have r3 : rk s.wg .bl = 40 := rfl
      unfold mu
      cases x
      · rw [show p true = .rc from hpo, hp, if_neg (by simp), if_pos rfl]; omega
      · rw [show p false = .rc from hpo, hp, if_pos rfl, if_neg (by simp)]; omega
  · have hpt := h.alone hS hrun (L.bell !x) false (by rintro ⟨h1, _⟩; exact hpk h1)
    have mu1 : ∀ s1 : Sh, s1 = s.setTok (!x) true → mu D.N s1 (set p x (aft D.N x (s.cnt x)) true) (set p x (aft D.N x (s.cnt x)) false) < mu D.N s (p true) (p false) := fun s1 e => by
      subst e
      have r3 : rk s.wg .bl = 40 := rfl
      unfold mu
      cases x
      · rw [hp]
        show 100 * (D.N - s.k) + 100 * (D.N - s.j) + rk s.wg (p true) + rk s.wg (aft D.N false (s.cnt false)) + 5 + (if s.tb then 5 else 0) < _
        omega
      · rw [hp]
        show 100 * (D.N - s.k) + 100 * (D.N - s.j) + rk s.wg (aft D.N true (s.cnt true)) + rk s.wg (p false) + (if s.ta then 5 else 0) + 5 < _
        omega
    have fin : ∀ (k : Int) (w' : World) (u : Trace), (k = 0 ∨ k = -1) → Turn L w w' → w'.heap[L.R]? = w.heap[L.R]? → ShAt L D (s.setTok (!x) true) w' → (∀ op ∈ u, op.act.touch? = none ∧ (∀ m, op.act ≠ .mark m) ∧ op.act.low w'.heap.size) →
        On P L D Shun At w₀ gs.size (ms D.N s p nn (sumTo gs.size q)) (crowd (gs.setIfInBounds (L.gr x) ((gg x).finishComm P #[scase (L.bell !x) D.unit D.unit] .select k undef false)) w' sl) (t ++ u) := by
      intro k w' u hk hT hR hsh hu
      obtain ⟨m1, hG1⟩ := hnx k w' hk hT hR (by rw [hsh.grp, h.sh.grp]; cases x <;> rfl)
      have hrl : RX L (!x) w w' := hT.rely hL h.sh hsh (cnt' _ _ _)
      obtain ⟨no, hso, hno⟩ := (h.sit (!x)).other hS hL (d' := Deaf t L.c) hrl hsh (cnt' _ _ _) (fun _ => rfl) (fun h1 h2 => absurd ⟨h1, h2⟩ hpk) id (.inl rfl) (fun _ e1 e2 => absurd (by cases x <;> exact e1) e2)
      have hRI := h.comm (gs' := gs.setIfInBounds (L.gr x) ((gg x).finishComm P #[scase (L.bell !x) D.unit D.unit] .select k undef false)) (p' := set p x (aft D.N x (s.cnt x))) (gg' := set gg x ((gg x).finishComm P #[scase (L.bell !x) D.unit D.unit] .select k undef false))
        (nn' := set (set nn x (m1 + 1)) (!x) no) (by simp) (fun y => by
          rcases bool_cases x y with rfl | rfl
          · rw [set_same]; exact Array.getElem?_setIfInBounds_self_of_lt hlt
          · rw [set_not, Array.getElem?_setIfInBounds_ne (gr_not hL x)]; exact h.is (!x)) (fun i h0 hc => Array.getElem?_setIfInBounds_ne (by cases x <;> (first | exact fun e => hc e.symm | exact fun e => h0 e.symm))) hsh hT hj1 (fun y => by
          rcases bool_cases x y with rfl | rfl
          · rw [set_same, set_same, set_both, if_pos rfl]
            exact .run m1 hng (by rw [cnt']; exact hG1)
          · rw [set_not, set_not, set_both, if_neg (nx x)]
            exact hso) hu (by cases x <;> rfl) (by cases x <;> rfl) (by
          cases x
          · exact .inr rfl
          · exact .inl (sls _ rfl)) (by
          cases x
          · exact .inr (sls _ rfl)
          · exact .inl rfl) (hd true).1 (hd true).2.1 (fun e => by
          cases x
          · rw [hp]; simp
          · exact e) (fun hr => by
          cases x
          · rcases rel0 with e | e
            · have hr' : (aft D.N false (s.cnt false)).rel = true := hr
              rw [e] at hr'; cases hr'
            · cases e
          · exact hr) (by
          cases x
          · exact h.go
          · exact hout)
      exact .inl ⟨_, w', sl, q, _, _, _, _, rfl, by simp, hRI, lt_mu (mu1 _ rfl)⟩
    cases htk : s.tok (!x)
    · rw [htk] at hb
      have hroom := crowd_send_room (P := P) (sl := sl) hi hst' (by simpa using hb) (by decide) hpt
      rw [hmem0, Array.empty_append] at hroom
      refine ⟨_, _, hroom, fin 0 _ _ (.inl rfl) (turn_chan hL (!x) _ _ _) (chan_R hL (!x) _ _ _) (h.sh.chan hL (!x) true (u + 1) v) fun op hop => ?_⟩
      have hc : L.bell (!x) < (w.setChan (L.bell !x) 1 (#[].push D.unit) false (u + 1) v false).heap.size := by rw [(turn_chan (w := w) hL (!x) _ _ _).size]; exact bell_sz hL hlow h.keep _
      simp only [List.mem_toArray, List.mem_cons, List.not_mem_nil, or_false] at hop
      rcases hop with rfl | rfl <;> exact ⟨rfl, fun m => by simp, hc⟩
    · rw [htk] at hb
      have hdef := crowd_default (P := P) (sl := sl) hi hst' (fun cc hcc => by
        rw [show cc = scase (L.bell !x) D.unit D.unit by simpa using hcc]
        exact ways_send_none (by simpa using hb) (Nat.le_refl 1) hpt)
      rw [hmem0] at hdef
      refine ⟨_, _, hdef, fin (-1) w #[] (.inr rfl) ⟨fun _ _ => rfl, rfl, rfl, rfl, rfl⟩ rfl ?_ (by simp)⟩
      rw [← htk, tok_same]
      exact h.sh
end
end Go.Proofs.Ytdmiilgdkmbmeaa.Rg
namespace Go.Proofs.Ytdmiilgdkmbmeaa.Rg
open Go Go.Conc
open Go.ConcN (sumTo upd sumTo_upd upd_ne upd_same)

section
variable {P : Program} {L : Lay} {D : Dat} {Shun : Loc → Prop} {At : Bool → Pl → Nat → Goroutine → World → Prop} {w₀ : World} {gs : Array Goroutine} {w w' : World} {t : Trace} {q : Nat → Nat} {s s' : Sh} {p : Bool → Pl} {gg : Bool → Goroutine} {nn : Bool → Nat}

/-- ONE OF THE TWO WANTS ITS TOKEN. -/
theorem RI.recv (hS : Spec P L D Shun At) (hL : L.Good) (hlow : L.low ≤ w₀.heap.size) (h : RI P L D Shun At w₀ gs w t q s p gg nn) (sl : Option (Nat × Nat)) {x : Bool} (hp : p x = .rc) (hA : ∀ w₁, RX L x w w₁ → At x .rc (s.cnt x) (gg x) w₁) (hn : 0 < nn x) :
    ∃ m' ops, runT P (crowd gs w sl) (L.gr x) = (.next m', ops) ∧ On P L D Shun At w₀ gs.size (ms D.N s p nn (sumTo gs.size q)) m' (t ++ ops) := by
  have hi := h.is x
  have hlt := size_lt hi
  have hA0 := hA w (RX.refl w)
  have hrun := hS.run hA0
  obtain ⟨hst, hnx⟩ := hS.rc hA0
  have hst' : stepG P (L.gr x == 0) (gg x) w = .comm (gg x) #[rcase (L.bell x) D.unit] true (.recv false) w #[] := by rw [gr_main hL]; exact hst
  obtain ⟨u, v, hb⟩ := h.sh.bell x
  have cnt' : ∀ a b y, (s.setTok a b).cnt y = s.cnt y := fun a b y => by cases a <;> cases y <;> rfl
  have hmem0 : ∀ y, MemOp.ofEvents y (gg x).frame.fn (gg x).frame.place #[] = (#[] : Trace) := fun y => evs_nil _ _ _
  have hpt := h.alone hS hrun (L.bell x) true (by rintro ⟨_, h1, _⟩; cases h1)
  have hpd := pl_ok h.j
  cases htk : s.tok x
  · -- it waits
    rw [htk] at hb
    have hw := crowd_waits (P := P) (sl := sl) hi hst' (fun cc hcc => by
      rw [show cc = rcase (L.bell x) D.unit by simpa using hcc]
      exact ways_recv_none (by simpa using hb) hpt)
    rw [hmem0] at hw
    have hRI := h.comm (u := #[]) (gs' := gs.setIfInBounds (L.gr x) (parked (gg x) #[rcase (L.bell x) D.unit] (.recv false))) (s' := s) (w' := w) (p' := p) (gg' := set gg x (parked (gg x) #[rcase (L.bell x) D.unit] (.recv false))) (nn' := set nn x 0) (by simp) (fun y => by
        rcases bool_cases x y with rfl | rfl
        · rw [set_same]; exact Array.getElem?_setIfInBounds_self_of_lt hlt
        · rw [set_not, Array.getElem?_setIfInBounds_ne (gr_not hL x)]; exact h.is (!x)) (fun i h0 hc => Array.getElem?_setIfInBounds_ne (by cases x <;> (first | exact fun e => hc e.symm | exact fun e => h0 e.symm))) h.sh ⟨fun _ _ => rfl, rfl, rfl, rfl, rfl⟩ h.j (fun y => by
        rcases bool_cases x y with rfl | rfl
        · rw [set_same, set_same]
          exact .park (gg y) hp rfl htk hA
        · rw [set_not, set_not]
          exact h.sit (!x)) (by simp) rfl rfl (.inr rfl) (.inl rfl) rfl rfl id id h.go
    refine ⟨_, _, hw, .inl ⟨_, w, sl, q, s, p, _, _, rfl, by simp, hRI, ?_⟩⟩
    rw [Array.size_setIfInBounds]
    cases x
    · exact lt_2 (show 0 + sumTo gs.size q < nn false + sumTo gs.size q by omega)
    · exact lt_3 (show 0 < nn true from hn)
  · -- it is there
    rw [htk] at hb
    have hr := crowd_recv_buf (P := P) (sl := sl) hi hst' (by simpa using hb) (by exact Nat.one_pos) hpt
    rw [hmem0, Array.empty_append] at hr
    have e1 : (#[D.unit] : Array Value).extract 1 (#[D.unit] : Array Value).size = #[] := by simp
    have e2 : (#[D.unit] : Array Value).getD 0 undef = D.unit := rfl
    rw [e1, e2] at hr
    have hT : Turn L w (w.setChan (L.bell x) 1 #[] false u (v + 1) false) := turn_chan hL x _ _ _
    have hsh : ShAt L D (s.setTok x false) (w.setChan (L.bell x) 1 #[] false u (v + 1) false) := h.sh.chan hL x false u (v + 1)
    obtain ⟨ops, hops, hr⟩ : ∃ ops : Trace, (∀ op ∈ ops, op.act.touch? = none ∧ (∀ m, op.act ≠ .mark m) ∧ op.act.low (w.setChan (L.bell x) 1 #[] false u (v + 1) false).heap.size) ∧ runT P (crowd gs w sl) (L.gr x) = (.next (crowd (gs.setIfInBounds (L.gr x) ((gg x).finishComm P #[rcase (L.bell x) D.unit] (.recv false) 0 D.unit true)) (w.setChan (L.bell x) 1 #[] false u (v + 1) false) sl), ops) := by
      refine ⟨_, fun op hop => ?_, hr⟩
      have hc : L.bell x < (w.setChan (L.bell x) 1 #[] false u (v + 1) false).heap.size := by rw [hT.size]; exact bell_sz hL hlow h.keep _
      simp only [List.mem_toArray, List.mem_cons, List.not_mem_nil, or_false] at hop
      rcases hop with rfl | rfl <;> exact ⟨rfl, fun m => by simp, hc⟩
    obtain ⟨m1, hG1⟩ := hnx _ hT (chan_R hL x _ _ _) (chan_W hL x _ _ _)
    have hrl : RX L (!x) w (w.setChan (L.bell x) 1 #[] false u (v + 1) false) := hT.rely hL h.sh hsh (cnt' _ _ _)
    obtain ⟨no, hso, hno⟩ := (h.sit (!x)).other hS hL (d' := Deaf t L.c) hrl hsh (cnt' _ _ _) (fun _ => rfl) (fun h1 h2 => by rw [setTok_tok, if_neg (nx x)]; exact (h.sit (!x)).tok hS h1 h2) id (.inl rfl) (fun _ e1 e2 => absurd (by cases x <;> exact e1) e2)
    have hRI := h.comm (u := ops) (gs' := gs.setIfInBounds (L.gr x) ((gg x).finishComm P #[rcase (L.bell x) D.unit] (.recv false) 0 D.unit true)) (s' := s.setTok x false) (p' := set p x .ld) (gg' := set gg x ((gg x).finishComm P #[rcase (L.bell x) D.unit] (.recv false) 0 D.unit true)) (nn' := set (set nn x (m1 + 1)) (!x) no) (by simp) (fun y => by
        rcases bool_cases x y with rfl | rfl
        · rw [set_same]; exact Array.getElem?_setIfInBounds_self_of_lt hlt
        · rw [set_not, Array.getElem?_setIfInBounds_ne (gr_not hL x)]; exact h.is (!x)) (fun i h0 hc => Array.getElem?_setIfInBounds_ne (by cases x <;> (first | exact fun e => hc e.symm | exact fun e => h0 e.symm))) hsh hT (by
        have hj := h.j
        cases x
        · rw [hp] at hj; exact hj.rcB false
        · rw [hp] at hj; exact hj.rcA false) (fun y => by
        rcases bool_cases x y with rfl | rfl
        · rw [set_same, set_same, set_both, if_pos rfl]
          exact .run m1 (by simp) (by rw [cnt']; exact hG1)
        · rw [set_not, set_not, set_both, if_neg (nx x)]
          exact hso) hops (by cases x <;> rfl) (by cases x <;> rfl) (by
        cases x
        · exact .inr rfl
        · exact .inl (by simp [set])) (by
        cases x
        · exact .inr (by simp [set])
        · exact .inl rfl) (by
        cases x
        · rfl
        · rw [hp]; rfl) (by
        cases x
        · rw [hp]; rfl
        · rfl) (fun e => by
        cases x
        · rw [hp]; simp
        · exact e) (fun hr => by
        cases x
        · cases hr
        · exact hr) (by
        cases x
        · exact h.go
        · simp [set])
    refine ⟨_, _, hr, .inl ⟨_, _, sl, q, _, _, _, _, rfl, by simp, hRI, lt_mu ?_⟩⟩
    have r1 : rk s.wg .rc = 2 := rfl
    have r2 : rk s.wg .ld = 3 := rfl
    unfold mu
    cases x
    · have e : s.tb = true := htk
      rw [hp, e]
      show 100 * (D.N - s.k) + 100 * (D.N - s.j) + rk s.wg (p true) + rk s.wg .ld + (if s.ta then 5 else 0) + 0 < _
      simp only [if_true]
      omega
    · have e : s.ta = true := htk
      rw [hp, e]
      show 100 * (D.N - s.k) + 100 * (D.N - s.j) + rk s.wg .ld + rk s.wg (p false) + 0 + (if s.tb then 5 else 0) < _
      simp only [if_true]
      omega

/-- Whoever only leaves: another, or the child that is done. -/
theorem RI.slip (hS : Spec P L D Shun At) (hL : L.Good) (h : RI P L D Shun At w₀ gs w t q s p gg nn) (sl : Option (Nat × Nat)) {i : Nat} {g : Goroutine} (hi : gs[i]? = some g) (h0 : i ≠ 0) (hic : i = L.c → p false = .gone) (hrun : g.status = .running) :
    ∃ m' ops, runT P (crowd gs w sl) i = (.next m', ops) ∧ On P L D Shun At w₀ gs.size (ms D.N s p nn (sumTo gs.size q)) m' (t ++ ops) := by
  have hlt := size_lt hi
  have hi0 : (i == 0) = false := by simpa using h0
  -- how many steps it has
  have hq : ∃ n, QuitsD P n (Deaf t i) g ∧ ((i ≠ L.c ∧ n = q i) ∨ (i = L.c ∧ n = nn false)) := by
    by_cases e : i = L.c
    · subst e
      have := h.sit false
      have hgg : g = gg false := Option.some.inj (hi.symm.trans (h.is false))
      generalize hnf : nn false = nf at this ⊢
      generalize hpf : p false = pf at this
      cases this with
      | run n hp' => rw [← hpf] at hp'; exact absurd (hic rfl) hp'
      | park g₀ hp' => rw [← hpf, hic rfl] at hp'; cases hp'
      | sleep g₀ hx => cases hx
      | gone n _ _ hq => exact ⟨nf, by rw [hgg]; exact hq, .inr ⟨rfl, rfl⟩⟩
    · exact ⟨q i, h.old i g h0 e hi, .inl ⟨e, rfl⟩⟩
  obtain ⟨n, hq, hn⟩ := hq
  cases n with
  | zero => rw [hq.1] at hrun; cases hrun
  | succ k =>
    rcases hq with ⟨hf, _⟩ | ⟨_, g', es, hm, hstp, hq'⟩
    · rw [hf] at hrun; cases hrun
    have hrunT := runT_crowd_go (P := P) (sl := sl) hi (by rw [hi0]; exact hstp w)
    have hmem : ∀ op ∈ MemOp.ofEvents i g.frame.fn g.frame.place es, op.g = i := fun op hop => by obtain ⟨e, _, rfl⟩ := mem_evs hop; rfl
    have hts := h.ts.mute (g := i) h0 hic g.frame.fn g.frame.place hm
    have hlow : ∀ op ∈ MemOp.ofEvents i g.frame.fn g.frame.place es, op.act.low w.heap.size := fun op hop => by
      obtain ⟨e, he, rfl⟩ := mem_evs hop
      exact low_mute (hm e he) _
    -- goroutine 0
    obtain ⟨na, hsa, _⟩ := (h.sit true).other hS hL (d' := Deaf (t ++ MemOp.ofEvents i g.frame.fn g.frame.place es) L.c) (RX.refl w) h.sh rfl (fun e => by cases e) (fun h1 h2 => (h.sit true).tok hS h1 h2) (woken P g g' w) (.inr ⟨_, _, rfl⟩) (fun _ e1 e2 => absurd e1 e2)
    by_cases e : i = L.c
    · subst e
      obtain ⟨hne, _⟩ | ⟨_, hnk⟩ := hn
      · exact absurd rfl hne
      refine ⟨_, _, hrunT, .inl ⟨_, w, sl, q, s, p, set (set gg true (woken P g g' w (gg true))) false g', set (set nn true na) false k, rfl, by simp, ?_, ?_⟩⟩
      · refine { is := fun y => ?_, old := fun j z hj0 hjc hz => ?_, above := fun j hj => ?_, sh := h.sh, j := h.j, sit := fun y => ?_, ts := hts, seen := seen_more h.seen (Nat.le_refl _) hlow, keep := h.keep, go := h.go }
        · cases y
          · exact get_set _ _ hlt
          · show ((gs.map (woken P g g' w)).setIfInBounds L.c g')[0]? = _
            rw [get_set_ne _ _ (show L.c ≠ 0 from h0), show gs[0]? = _ from h.is true]
            rfl
        · rw [get_set_ne _ _ (Ne.symm hjc)] at hz
          obtain ⟨y, hy, rfl⟩ := Option.map_eq_some_iff.1 hz
          have hqj := h.old j y hj0 hjc hy
          rw [woken_quitsD hqj, Deaf_other t (Ne.symm hjc) _ hmem]
          exact hqj
        · have hj' : gs.size ≤ j := by simpa using hj
          rw [Deaf_other t (show L.c ≠ j by omega) _ hmem]
          exact h.above j hj'
        · cases y
          · exact .gone k rfl (hic rfl) (by rw [Deaf_own]; exact hq')
          · exact hsa
      · rw [Array.size_setIfInBounds, Array.size_map]
        exact lt_2 (show k + sumTo gs.size q < nn false + sumTo gs.size q by omega)
    · obtain ⟨_, hnk⟩ | ⟨hc, _⟩ := hn
      case inr => exact absurd hc e
      have hd : Deaf (t ++ MemOp.ofEvents i g.frame.fn g.frame.place es) L.c = Deaf t L.c := Deaf_other t e _ hmem
      obtain ⟨nb, hsb, hnb⟩ := (h.sit false).other hS hL (d' := Deaf (t ++ MemOp.ofEvents i g.frame.fn g.frame.place es) L.c) (RX.refl w) h.sh rfl (fun _ => hd) (fun h1 h2 => (h.sit false).tok hS h1 h2) (woken P g g' w) (.inr ⟨_, _, rfl⟩) (fun hx => by cases hx)
      have hnb' : nb = nn false := hnb.elim id fun e => by cases e.1
      refine ⟨_, _, hrunT, .inl ⟨_, w, sl, upd q i k, s, p, fun y => woken P g g' w (gg y), set (set nn true na) false nb, rfl, by simp, ?_, ?_⟩⟩
      · refine { is := fun y => ?_, old := fun j z hj0 hjc hz => ?_, above := fun j hj => ?_, sh := h.sh, j := h.j, sit := fun y => ?_, ts := hts, seen := seen_more h.seen (Nat.le_refl _) hlow, keep := h.keep, go := h.go }
        · have hne : i ≠ L.gr y := by
            cases y
            · exact e
            · exact h0
          rw [get_set_ne _ _ hne, h.is y]
          rfl
        · by_cases hji : j = i
          · subst hji
            rw [get_set _ _ hlt] at hz
            obtain rfl := Option.some.inj hz
            rw [upd_same, Deaf_own]
            exact hq'
          · rw [get_set_ne _ _ (Ne.symm hji)] at hz
            obtain ⟨y, hy, rfl⟩ := Option.map_eq_some_iff.1 hz
            have hqj := h.old j y hj0 hjc hy
            rw [woken_quitsD hqj, upd_ne _ _ hji, Deaf_other t (Ne.symm hji) _ hmem]
            exact hqj
        · have hj' : gs.size ≤ j := by simpa using hj
          rw [Deaf_other t (show i ≠ j by omega) _ hmem]
          exact h.above j hj'
        · cases y
          · exact hsb
          · exact hsa
      · rw [Array.size_setIfInBounds, Array.size_map]
        have hsum := sumTo_upd q k id hlt
        simp only [id] at hsum
        exact lt_2 (show nb + sumTo gs.size (fun a => upd q i k a) < nn false + sumTo gs.size q by
          have : sumTo gs.size (fun a => q a) = sumTo gs.size q := rfl
          omega)

/-- Somebody can run. -/
theorem RI.someone (hS : Spec P L D Shun At) (hL : L.Good) (h : RI P L D Shun At w₀ gs w t q s p gg nn) : ∃ (i : Nat) (g : Goroutine), gs[i]? = some g ∧ g.status = .running := by
  have hj := h.j
  have hn := hL.n
  have run : ∀ x n, p x ≠ .gone → Goes P x (RX L x) (DX L Shun x (p x)) (At x (p x) (s.cnt x)) n (gg x) w → ∃ (i : Nat) (g : Goroutine), gs[i]? = some g ∧ g.status = .running := fun x n _ hG => ⟨_, _, h.is x, hG.running (fun _ _ a => hS.run a) w (RX.refl w)⟩
  have ha := h.sit true
  have hb := h.sit false
  generalize hpa : p true = pa at ha
  generalize hna : nn true = na at ha
  generalize hpb : p false = pb at hb
  generalize hnb : nn false = nb at hb
  cases ha with
  | run n h1 h2 => exact run true n (by rw [hpa]; exact h1) (by rw [hpa]; exact h2)
  | gone n e => cases e
  | park g₀ e1 _ e2 _ =>
    rw [hpa, e1, hpb] at hj
    cases hb with
    | run n h1 h2 => exact run false n (by rw [hpb]; exact h1) (by rw [hpb]; exact h2)
    | sleep g₀ e => cases e
    | park g₁ f1 _ f2 _ =>
      rw [f1] at hj
      exfalso
      have k1 := hj.ka rfl
      have k2 := hj.kb rfl
      have e2' : s.ta = false := e2
      have f2' : s.tb = false := f2
      rw [e2'] at k2
      rw [f2'] at k1
      simp at k1 k2
      have := hj.kj
      omega
    | gone n _ f1 _ =>
      rw [f1] at hj
      exfalso
      have k2 := hj.kb rfl
      have e2' : s.ta = false := e2
      rw [e2'] at k2
      simp at k2
      have a0 := hj.a0 (.inr rfl)
      have b2 := hj.b2 rfl
      omega
  | sleep g₀ _ e1 _ e2 _ =>
    rw [hpa, e1, hpb] at hj
    cases hb with
    | run n h1 h2 => exact run false n (by rw [hpb]; exact h1) (by rw [hpb]; exact h2)
    | sleep g₀ e => cases e
    | park g₁ f1 _ f2 _ =>
      rw [f1] at hj
      exfalso
      have := hj.b0 (.inr (.inl rfl))
      have a2 := hj.a2 rfl
      have := hj.kj
      omega
    | gone n _ f1 _ =>
      rw [f1] at hj
      exfalso
      have g := hj.g
      cases hw : s.wg <;> simp [hw, wgOk, Pl.ap, Pl.bp] at g
      exact e2 hw

/-- ████ EVERY STEP. ████ -/
theorem RI.step (hS : Spec P L D Shun At) (hL : L.Good) (hS2 : ∀ y : Addr, y.block = L.M → ¬ Shun (.cell y)) (hlow : L.low ≤ w₀.heap.size) (h : RI P L D Shun At w₀ gs w t q s p gg nn) (sl : Option (Nat × Nat)) :
    ∃ m' ops, stepT P (crowd gs w sl) = (.next m', ops) ∧ On P L D Shun At w₀ gs.size (ms D.N s p nn (sumTo gs.size q)) m' (t ++ ops) := by
  have haw : ∀ g ∈ gs, awake g := fun g hg => by
    obtain ⟨i, hi, rfl⟩ := Array.mem_iff_getElem.1 hg
    have hgi : gs[i]? = some gs[i] := Array.getElem?_eq_getElem hi
    by_cases e0 : i = 0
    · have : gs[i] = gg true := by
        have := h.is true
        rw [show L.gr true = i from e0.symm, hgi] at this
        exact Option.some.inj this
      rw [this]; exact awake_of ((h.sit true).status hS)
    · by_cases ec : i = L.c
      · have : gs[i] = gg false := by
          have := h.is false
          rw [show L.gr false = i from ec.symm, hgi] at this
          exact Option.some.inj this
        rw [this]; exact awake_of ((h.sit false).status hS)
      · exact awake_of ((h.old i _ e0 ec hgi).status.elim .inl fun x => .inr (.inr x))
  obtain ⟨i, g, d, sl', hi, hg, hst⟩ := crowd_pick (P := P) (w := w) (sl := sl) haw (h.someone hS hL)
  rw [hst]
  have hw := h.at d
  have two : ∀ x, i = L.gr x → (x = false → p false ≠ .gone) → ∃ m' ops, runT P (crowd gs (w.at d) sl') i = (.next m', ops) ∧ On P L D Shun At w₀ gs.size (ms D.N s p nn (sumTo gs.size q)) m' (t ++ ops) := fun x hx hng => by
    subst hx
    have hgg : g = gg x := Option.some.inj (hi.symm.trans (h.is x))
    subst hgg
    have hs := hw.sit x
    generalize hn : nn x = n at hs
    generalize hp : p x = px at hs
    cases hs with
    | park g₀ _ e => rw [e] at hg; cases hg
    | sleep g₀ _ _ e => rw [e] at hg; cases hg
    | gone n e1 e2 => subst e1; exact absurd (hp.trans e2) (hng rfl)
    | run n hpg hG =>
      subst hp
      have stop : (∀ w₁, RX L x (w.at d) w₁ → At x (p x) (s.cnt x) (gg x) w₁) → ∃ m' ops, runT P (crowd gs (w.at d) sl') (L.gr x) = (.next m', ops) ∧ On P L D Shun At w₀ gs.size (ms D.N s p nn (sumTo gs.size q)) m' (t ++ ops) := fun hA => by
        have hA0 := hA _ (RX.refl _)
        by_cases hgo : (p x).go = true
        · by_cases h3 : p x = .w3 ∧ s.wg ≠ .f
          · have hx : x = true := by
              cases x
              · exfalso
                have := (pl_ok h.j).2
                rw [h3.1] at this
                cases this
              · rfl
            subst hx
            exact hw.doze hS hL sl' h3.1 (by rw [← h3.1]; exact hA) h3.2 (by omega)
          · exact hw.stop hS hL hS2 hlow sl' hA0 hgo fun e => Classical.byContradiction fun hf => h3 ⟨e, hf⟩
        · cases e : p x <;> rw [e] at hgo hpg <;> simp only [Pl.go, not_true_eq_false] at hgo
          · exact hw.bell hS hL hlow sl' e (by rw [← e]; exact hA0)
          · exact hw.recv hS hL hlow sl' e (by rw [← e]; exact hA) (by omega)
          · exfalso
            cases x
            · have := (pl_ok h.j).2
              rw [e] at this
              cases this
            · exact h.go e
          · exact absurd rfl hpg
      cases n with
      | zero => exact stop hG
      | succ n =>
        rcases hG with hA | ⟨_, hstep⟩
        · exact stop hA
        · have hs := hstep _ (RX.refl _)
          cases hgo : stepG P x (gg x) (w.at d) with
          | go g' w' es =>
            rw [hgo, goes_go] at hs
            exact hw.idle hS hL sl' hn hpg hgo hs.1 hs.2
          | _ => rw [hgo] at hs; exact hs.elim
  by_cases e0 : i = 0
  · exact two true e0 fun e => by cases e
  · by_cases ec : i = L.c
    · by_cases hgn : p false = .gone
      · exact hw.slip hS hL sl' hi e0 (fun _ => hgn) hg
      · exact two false ec fun _ => hgn
    · exact hw.slip hS hL sl' hi e0 (fun e => absurd e ec) hg

theorem lt_wf : WellFounded Lt := (Prod.lex Nat.lt_wfRel (Prod.lex Nat.lt_wfRel Nat.lt_wfRel)).wf
/-- ████ THE RUN TO THE JOIN, ON WHATEVER TAPE. ████ -/
theorem RI.runs (hS : Spec P L D Shun At) (hL : L.Good) (hS2 : ∀ y : Addr, y.block = L.M → ¬ Shun (.cell y)) (hlow : L.low ≤ w₀.heap.size) : ∀ (μ : Ms) (gs : Array Goroutine) (w : World) (sl : Option (Nat × Nat)) (t : Trace) (q : Nat → Nat) (s : Sh) (p : Bool → Pl) (gg : Bool → Goroutine) (nn : Bool → Nat),
    ms D.N s p nn (sumTo gs.size q) = μ → RI P L D Shun At w₀ gs w t q s p gg nn → ∃ (n : Nat) (gs' : Array Goroutine) (a : Goroutine) (w' : World) (sl' : Option (Nat × Nat)) (t' : Trace) (q' : Nat → Nat) (s' : Sh), runNT P n (crowd gs w sl) t = (.next (crowd gs' w' sl'), t') ∧ gs'.size = gs.size ∧ Dn P L D Shun At w₀ gs' a w' t' q' s' := by
  intro μ
  induction μ using lt_wf.induction with
  | _ μ ih =>
    intro gs w sl t q s p gg nn hμ h
    obtain ⟨m', ops, h1, h2⟩ := h.step hS hL hS2 hlow sl
    rcases h2 with ⟨gs', w', sl', q', s', p', gg', nn', rfl, hz, hR, hlt⟩ | ⟨gs', a, w', sl', q', s', rfl, hz, hD⟩
    · rw [hμ] at hlt
      obtain ⟨n, gs'', a, w'', sl'', t'', q'', s'', h3, h4, h5⟩ := ih _ hlt gs' w' sl' _ q' s' p' gg' nn' rfl hR
      exact ⟨n + 1, gs'', a, w'', sl'', t'', q'', s'', by rw [runNT_succ_next h1]; exact h3, h4.trans hz, h5⟩
    · exact ⟨1, gs', a, w', sl', _, q', s', by rw [runNT_succ_next h1]; rfl, hz, hD⟩
end
#print axioms RI.runs
end Go.Proofs.Ytdmiilgdkmbmeaa.Rg
namespace Go.Proofs.Ytdmiilgdkmbmeaa.Rg
open Go Go.Conc

structure Tms (R : World → World → Prop) (D : World → World → Array Event → Prop) : Prop where
  trans : ∀ a b c, R a b → R b c → R a c
  idle : ∀ w, D w w #[]

section
variable {P : Program} {x : Bool} {R : World → World → Prop} {D : World → World → Array Event → Prop} {Stop : Goroutine → World → Prop} {b : Frame} {a : Act} {k : List Item} {cs : List Frame} {w : World} {m : Nat}

theorem Gz.ctl (T : Tms R D) {g g' : Goroutine} (hs : g.status = .running) (hst : ∀ w, stepG P x g w = .go g' w) (h : Goes P x R D Stop m g' w) : Goes P x R D Stop (m + 1) g w := by
  exact Goes.step hs fun w₁ h₁ => by rw [hst]; exact ⟨T.idle _, h.rely T.trans h₁⟩
theorem Gz.seq (T : Tms R D) {c d : Code} (h : Goes P x R D Stop m (G (b.at a (.code c :: .code d :: k)) cs) w) : Goes P x R D Stop (m + 1) (G (b.at a (.code (.seq c d) :: k)) cs) w := Gz.ctl T rfl (fun _ => stepG_seq) h
theorem Gz.skip (T : Tms R D) (h : Goes P x R D Stop m (G (b.at a k) cs) w) : Goes P x R D Stop (m + 1) (G (b.at a (.code .skip :: k)) cs) w := Gz.ctl T rfl (fun _ => stepG_skip) h
theorem Gz.block (T : Tms R D) {id : Nat} {c : Code} (h : Goes P x R D Stop m (G (b.at a (.code c :: .inBlock id :: k)) cs) w) : Goes P x R D Stop (m + 1) (G (b.at a (.code (.block id c) :: k)) cs) w := Gz.ctl T rfl (fun _ => stepG_block) h
theorem Gz.loop (T : Tms R D) {c : Code} (h : Goes P x R D Stop m (G (b.at a (.code c :: .inLoop c :: k)) cs) w) : Goes P x R D Stop (m + 1) (G (b.at a (.code (.loop c) :: k)) cs) w := Gz.ctl T rfl (fun _ => stepG_loop) h
theorem Gz.again (T : Tms R D) {c : Code} (h : Goes P x R D Stop m (G (b.at a (.code c :: .inLoop c :: k)) cs) w) : Goes P x R D Stop (m + 1) (G (b.at a (.inLoop c :: k)) cs) w := Gz.ctl T rfl (fun _ => stepG_inLoop) h
theorem Gz.out (T : Tms R D) {id : Nat} (h : Goes P x R D Stop m (G (b.at a k) cs) w) : Goes P x R D Stop (m + 1) (G (b.at a (.inBlock id :: k)) cs) w := Gz.ctl T rfl (fun _ => stepG_inBlock) h
theorem Gz.cond (T : Tms R D) {c : Operand} {y z : Code} {t : Bool} (hc : a.eval c = .bool t) (h : Goes P x R D Stop m (G (b.at a (.code (if t then y else z) :: k)) cs) w) : Goes P x R D Stop (m + 1) (G (b.at a (.code (.cond c y z) :: k)) cs) w := Gz.ctl T rfl (fun _ => stepG_cond hc) h
theorem Gz.exit (T : Tms R D) {id : Nat} {k' : List Item} (hk : exitTo id k = some k') (h : Goes P x R D Stop m (G (b.at a k') cs) w) : Goes P x R D Stop (m + 1) (G (b.at a (.code (.exit id) :: k)) cs) w := Gz.ctl T rfl (fun _ => stepG_exit hk) h
theorem Gz.region (T : Tms R D) {id : Nat} {ops : Array Oper} {l : List Nat} (hl : List.range ops.size = l) (h : Goes P x R D Stop m (G (b.at a (.inRegion ops l :: k)) cs) w) : Goes P x R D Stop (m + 1) (G (b.at a (.code (.region id ops false) :: k)) cs) w :=
  Gz.ctl T rfl (fun _ => stepG_region) (by rw [hl]; exact h)
theorem Gz.rend (T : Tms R D) {ops : Array Oper} (h : Goes P x R D Stop m (G (b.at a k) cs) w) : Goes P x R D Stop (m + 1) (G (b.at a (.inRegion ops [] :: k)) cs) w := Gz.ctl T rfl (fun _ => stepG_region_end) h
theorem Gz.ret (T : Tms R D) (h : Goes P x R D Stop m (G { b.at a (.code .ret :: k) with mode := .returning } cs) w) : Goes P x R D Stop (m + 1) (G (b.at a (.code .ret :: k)) cs) w := Gz.ctl T rfl (fun _ => stepG_ret') h
theorem Gz.fin (T : Tms R D) (h : Goes P x R D Stop m (G { b.at a [] with mode := .returning } cs) w) : Goes P x R D Stop (m + 1) (G (b.at a []) cs) w := Gz.ctl T rfl (fun _ => stepG_end) h

/-- A function of the program's is called. -/
theorem Gz.call (T : Tms R D) {ops : Array Oper} {i : Nat} {rest : List Nat} {o : Oper} {f : FuncId} {fn : Func} {c : Code} {args : Array Operand} {ats : Array TypeId} (ho : ops[i]? = some o) (hw : Region.wanted o (yielded ops a.tmps) = true) (hk : b.kind ≠ .early)
    (hop : o.op = .call { callee := .value (.func f), args, argTypes := ats }) (hf : P.funcs[f]? = some fn) (hname : (fn.name == "runtime.NumGoroutine") = false) (hb : fn.body = some c)
    (h : Goes P x R D Stop m (G ((base f).at { tmps := args.map a.eval ++ Array.replicate (fn.ntmps - (args.map a.eval).size) undef, defers := [] } [.code c]) (b.at a (.inRegion ops (i :: rest) :: k) :: cs)) w) :
    Goes P x R D Stop (m + 1) (G (b.at a (.inRegion ops (i :: rest) :: k)) cs) w := by
  exact Goes.step rfl fun w₁ h₁ => goes_call ho hw hk hop hf hname hb ⟨T.idle _, h.rely T.trans h₁⟩
section
variable {fn : Func} {todo : List Item} {b₀ : Frame} {a₀ : Act} {ops : Array Oper} {i : Nat} {rest : List Nat}
theorem Gz.leave1 (T : Tms R D) {t : Tmp} (hn : b.kind = .normal) (hd : a.defers = []) (hf : P.funcs[b.fn]? = some fn) (hr : fn.results = #[.tmp t])
    (h : Goes P x R D Stop m (G (b₀.at (a₀.put ((ops[i]?).bind (·.dst)) (a.tmps.getD t undef)) (.inRegion ops rest :: k)) cs) w) : Goes P x R D Stop (m + 1) (G { b.at a todo with mode := .returning } (b₀.at a₀ (.inRegion ops (i :: rest) :: k) :: cs)) w := by
  exact Goes.step rfl fun w₁ h₁ => goes_leave1 hn hd hf hr ⟨T.idle _, h.rely T.trans h₁⟩
theorem Gz.leave0 (T : Tms R D) (hn : b.kind = .normal) (hd : a.defers = []) (hf : P.funcs[b.fn]? = some fn) (hr : fn.results = #[])
    (h : Goes P x R D Stop m (G (b₀.at (a₀.put ((ops[i]?).bind (·.dst)) (.tuple #[])) (.inRegion ops rest :: k)) cs) w) : Goes P x R D Stop (m + 1) (G { b.at a todo with mode := .returning } (b₀.at a₀ (.inRegion ops (i :: rest) :: k) :: cs)) w := by
  exact Goes.step rfl fun w₁ h₁ => goes_leave0 hn hd hf hr ⟨T.idle _, h.rely T.trans h₁⟩
theorem Gz.leave2 (T : Tms R D) {t u : Tmp} (hn : b.kind = .normal) (hd : a.defers = []) (hf : P.funcs[b.fn]? = some fn) (hr : fn.results = #[.tmp t, .tmp u])
    (h : Goes P x R D Stop m (G (b₀.at (a₀.put ((ops[i]?).bind (·.dst)) (.tuple #[a.tmps.getD t undef, a.tmps.getD u undef])) (.inRegion ops rest :: k)) cs) w) : Goes P x R D Stop (m + 1) (G { b.at a todo with mode := .returning } (b₀.at a₀ (.inRegion ops (i :: rest) :: k) :: cs)) w := by
  exact Goes.step rfl fun w₁ h₁ => goes_leave2 hn hd hf hr ⟨T.idle _, h.rely T.trans h₁⟩
end
end

/-! ### temporaries that are known -/
abbrev Gm := List (Nat × Value)
def lkv (i : Nat) : Gm → Option Value
  | [] => none
  | (j, v) :: g => if Nat.beq i j then some v else lkv i g
structure Tm (a : Act) (n : Nat) (g : Gm) (ds : List Deferred) : Prop where
  size : a.tmps.size = n
  val : ∀ i v, lkv i g = some v → a.tmps.getD i undef = v
  dfr : a.defers = ds
theorem Tm.put {a : Act} {n : Nat} {g : Gm} {ds : List Deferred} (h : Tm a n g ds) (d : Nat) (hd : d < n) (v : Value) : Tm (a.put (some d) v) n ((d, v) :: g) ds := by
  refine ⟨by show (a.tmps.setIfInBounds d v).size = n; simp [h.size], fun i u hu => ?_, h.dfr⟩
  show (a.tmps.setIfInBounds d v).getD i undef = u
  simp only [lkv] at hu
  rw [Array.getD_eq_getD_getElem?]
  by_cases e : i = d
  · subst e
    rw [if_pos (by simp)] at hu
    rw [Array.getElem?_setIfInBounds_self_of_lt (by rw [h.size]; exact hd)]
    exact Option.some.inj hu
  · rw [if_neg (by simpa using e)] at hu
    rw [Array.getElem?_setIfInBounds_ne (Ne.symm e), ← Array.getD_eq_getD_getElem?]
    exact h.val i u hu
theorem Tm.less {a : Act} {n : Nat} {g g' : Gm} {ds : List Deferred} (h : Tm a n g ds) (hs : ∀ i v, lkv i g' = some v → lkv i g = some v) : Tm a n g' ds := ⟨h.size, fun i v e => h.val i v (hs i v e), h.dfr⟩
def evv (g : Gm) : Operand → Option Value
  | .tmp t => lkv t g
  | .const v => some v
  | .global _ => none
  | .func f => some (.func (.func f) #[] #[])
theorem evv_ok {a : Act} {n : Nat} {g : Gm} {ds : List Deferred} (h : Tm a n g ds) {o : Operand} {v : Value} (e : evv g o = some v) : a.eval o = v := by
  cases o with
  | tmp t => exact h.val t v e
  | const u => exact Option.some.inj e
  | global _ => cases e
  | func f => exact Option.some.inj e

/-! ### operations -/
/-- Two numbers. -/
def intV (op : BinOp) (k : IntKind) (a b : Int) : Option Value := match op with
  | .add => some (.int k (k.wrap (a + b)))
  | .sub => some (.int k (k.wrap (a - b)))
  | .rem => if b = 0 then none else some (.int k (a.tmod b))
  | .and => some (.int k (k.wrap (BitVec.ofInt k.bits a &&& BitVec.ofInt k.bits b).toNat))
  | .eql => some (.bool (decide (a = b)))
  | .neq => some (.bool (!decide (a = b)))
  | .lss => some (.bool (decide (a < b)))
  | .gtr => some (.bool (decide (b < a)))
  | .geq => some (.bool (decide (b ≤ a)))
  | _ => none
def shV (op : BinOp) (k : IntKind) (a b : Int) : Option Value := match op with
  | .shl => if 0 ≤ b ∧ b ≤ k.bits then some (.int k (k.wrap (a * 2 ^ b.toNat))) else none
  | .shr => if 0 ≤ b ∧ b ≤ k.bits then some (.int k (a.fdiv (2 ^ b.toNat))) else none
  | _ => none
/-- v, in whatever world, and nothing is listed. -/
def Yi (P : Program) (s : Sem Value) (v : Value) : Prop := ∀ w es, s.run P w = .ok v w ∧ s.events P w es = es
theorem yi_int {P : Program} {op : BinOp} {k : IntKind} {a b : Int} {v : Value} (h : intV op k a b = some v) (T : TypeId) : Yi P (binOp op T (.int k a) (.int k b)) v := by
  intro w es
  cases op <;> simp only [intV, reduceCtorEq] at h
  case rem =>
    split at h
    · cases h
    · rename_i h0
      cases h
      exact ⟨by simp [binOp, Op.intDiv, h0], by simp [binOp, Op.intDiv, h0]⟩
  all_goals
    cases h
    refine ⟨?_, ?_⟩ <;> first
      | (simp [binOp, Op.intArith]; done)
      | (simp [binOp, Op.intBits]; done)
      | (simp [binOp, Op.intCmp]; done)
      | (simp [binOp, Op.intCmp]; rfl)
      | (simp [binOp, Op.intCmp, Int.beq_eq_decide_eq, bne])
theorem yi_sh {P : Program} {op : BinOp} {k k' : IntKind} {a b : Int} {v : Value} (h : shV op k a b = some v) (T : TypeId) : Yi P (binOp op T (.int k a) (.int k' b)) v := by
  intro w es
  cases op <;> simp only [shV, reduceCtorEq] at h
  all_goals
    split at h
    · rename_i h3
      cases h
      have e : min (Int.toNat b) (IntKind.bits k) = Int.toNat b := Nat.min_eq_left (Int.toNat_le.2 h3.2)
      exact ⟨by simp [binOp, Op.shift, Int.not_lt.2 h3.1, e], by simp [binOp, Op.shift, Int.not_lt.2 h3.1, e]⟩
    · cases h
end Go.Proofs.Ytdmiilgdkmbmeaa.Rg
namespace Go.Proofs.Ytdmiilgdkmbmeaa.Rg
open Go Go.Conc

theorem yi_pure {P : Program} (v : Value) : Yi P (pure v) v := fun _ _ => ⟨rfl, rfl⟩
theorem run_size {P : Program} {w : World} {e : TypeId} {i : TypeInfo} (h : P.info? e = some i) : (sizeOf e).run P w = .ok i.size w := by
  simp [sizeOf, typeInfo, h]
theorem addr_add (b o n : Nat) : (⟨b, o, none⟩ : Addr).add n = ⟨b, o + n, none⟩ := by
  unfold Addr.add
  by_cases h : n = 0
  · subst h; simp
  · simp [h]
theorem yi_guard {P : Program} {op : BinOp} {T : TypeId} {x y : Operand} {k k' : IntKind} {a b : Int} {v : Value} (h : Yi P (binOp op T (.int k a) (.int k' b)) v) : Yi P (do eqGuard op T x y (.int k a) (.int k' b); binOp op T (.int k a) (.int k' b)) v := by
  intro w es
  have e1 : (eqGuard op T x y (.int k a) (.int k' b)).run P w = .ok () w := by cases op <;> simp [eqGuard]
  have e2 : (eqGuard op T x y (.int k a) (.int k' b)).events P w es = es := by cases op <;> simp [eqGuard]
  obtain ⟨h1, h2⟩ := h w es
  exact ⟨by simp only [Sem.run_bind, e1, Result.andThen_ok]; exact h1, by simp only [Sem.events_bind, e1, e2, Result.evThen_ok]; exact h2⟩
/-- What an operation yields that looks at no memory. -/
def pv (P : Program) (g : Gm) (o : Oper) : Option Value := match o.op with
  | .move y => evv g y
  | .assign y => evv g y
  | .pick c y z => match evv g c with
    | some (.bool true) => evv g y
    | some (.bool false) => evv g z
    | _ => none
  | .nilCheck y => match evv g y with
    | some (.pointer (some a)) => some (.pointer (some a))
    | _ => none
  | .extract t i => match evv g t with
    | some (.tuple vs) => vs[i]?
    | _ => none
  | .unOp .not _ y => match evv g y with
    | some (.bool b) => some (.bool (!b))
    | _ => none
  | .binOp op _ y z _ => match evv g y, evv g z with
    | some (.int k a), some (.int k' b) => match op with
      | .shl => shV .shl k a b
      | .shr => shV .shr k a b
      | op => if k = k' then intV op k a b else none
    | _, _ => none
  | .convert s d y => match P.underlying s, P.underlying d, evv g y with
    | some (.int _), some (.int k), some (.int _ n) => some (.int k (k.wrap n))
    | _, _, _ => none
  | .fieldAddr T y f => match P.underlying T with
    | some (.struct fs) => match fs[f]? with
      | some fd => match P.info? fd.type with
        | some ti => match Nat.beq ti.size 0 with
          | true => none
          | false => match evv g y with
            | some (.pointer (some ⟨b, off, none⟩)) => some (.pointer (some ⟨b, off + fd.offset, none⟩))
            | _ => none
        | none => none
      | none => none
    | _ => none
  | .indexAddr T y z => match P.underlying T, evv g y, evv g z with
    | some (.slice e), some (.slice (some ⟨b, off, none⟩) len _), some (.int _ i) => match P.info? e with
      | some ti => match Nat.beq ti.size 1 with
        | true => if 0 ≤ i ∧ i < (len : Int) then some (.pointer (some ⟨b, i.toNat + off, none⟩)) else none
        | false => none
      | none => none
    | _, _, _ => none
  | .call { callee := .builtin .len, args := ⟨[y]⟩, argTypes := ⟨T :: _⟩ } => match P.underlying T, evv g y with
    | some (.slice _), some (.slice _ n _) => some (.int .i64 n)
    | _, _ => none
  | _ => none

section
variable {P : Program} {a : Act} {n : Nat} {g : Gm} {ds : List Deferred} {o : Oper} {v : Value}
theorem of_yi {s : Sem Value} (he : execOp a.eval o = (do pure (.value (← s)))) (h : Yi P s v) (w : World) : (execOp a.eval o).run P w = .ok (.value v) w ∧ (execOp a.eval o).events P w #[] = #[] := by
  obtain ⟨h1, h2⟩ := h w #[]
  rw [he]
  exact ⟨by simp only [Sem.run_bind, h1, Result.andThen_ok]; rfl, by simp only [Sem.events_bind, h1, h2, Result.evThen_ok]; rfl⟩
theorem pv_ok (T : Tm a n g ds) (h : pv P g o = some v) (w : World) : (execOp a.eval o).run P w = .ok (.value v) w ∧ (execOp a.eval o).events P w #[] = #[] := by
  unfold pv at h
  split at h
  · rename_i ho
    have e := evv_ok T h
    exact ⟨by simp [execOp, ho, e], by simp [execOp, ho]⟩
  · rename_i ho
    have e := evv_ok T h
    exact ⟨by simp [execOp, ho, e], by simp [execOp, ho]⟩
  · rename_i ho
    split at h
    · rename_i hc
      have e := evv_ok T h
      have ec := evv_ok T hc
      exact ⟨by simp [execOp, ho, e, ec, asBool], by simp [execOp, ho, ec, asBool]⟩
    · rename_i hc
      have e := evv_ok T h
      have ec := evv_ok T hc
      exact ⟨by simp [execOp, ho, e, ec, asBool], by simp [execOp, ho, ec, asBool]⟩
    · cases h
  · rename_i ho
    split at h
    · rename_i hc
      cases h
      have e := evv_ok T hc
      exact ⟨by simp [execOp, ho, e], by simp [execOp, ho, e]⟩
    · cases h
  · rename_i t i ho
    split at h
    · rename_i vs hc
      have e := evv_ok T hc
      exact of_yi (s := Instr.extract (a.eval t) i) (by simp [execOp, ho]) (fun w es => by rw [e]; exact ⟨by simp [Instr.extract, h], by simp [Instr.extract, h]⟩) w
    · cases h
  · rename_i ho
    split at h
    · rename_i hc
      cases h
      have e := evv_ok T hc
      exact ⟨by simp [execOp, ho, e, Op.unary], by simp [execOp, ho, e, Op.unary]⟩
    · cases h
  · rename_i op X y z U ho
    split at h
    · rename_i k i k' j h1 h2
      have e1 := evv_ok T h1
      have e2 := evv_ok T h2
      have key : Yi P (binOp op X (.int k i) (.int k' j)) v → (execOp a.eval o).run P w = .ok (.value v) w ∧ (execOp a.eval o).events P w #[] = #[] := fun hy =>
        of_yi (s := do eqGuard op X y z (.int k i) (.int k' j); binOp op X (.int k i) (.int k' j)) (by simp [execOp, ho, e1, e2]) (yi_guard hy) w
      split at h
      · exact key (yi_sh h X)
      · exact key (yi_sh h X)
      · split at h
        · rename_i hk
          subst hk
          exact key (yi_int h X)
        · cases h
    · cases h
  · rename_i s d y ho
    split at h
    · rename_i h1 h2 h3
      cases h
      have e := evv_ok T h3
      exact of_yi (s := convert s d (a.eval y)) (by simp [execOp, ho]) (fun w es => by rw [e]; exact ⟨by simp [convert, run_underlying h1, run_underlying h2, Conv.intToInt], by simp [convert, run_underlying h1, run_underlying h2, Conv.intToInt]⟩) w
    · cases h
  · rename_i X y f ho
    split at h
    · rename_i fs hu
      split at h
      · rename_i fd hf
        split at h
        · rename_i ti hin
          split at h
          · cases h
          · rename_i hz
            have hz' : ¬ ti.size = 0 := fun e => by rw [e] at hz; simp at hz
            split at h
            · rename_i b off hy
              cases h
              have e := evv_ok T hy
              exact of_yi (s := Instr.fieldAt X (a.eval y) f) (by simp [execOp, ho]) (fun w es => by rw [e]; exact ⟨by simp [Instr.fieldAt, run_underlying hu, hf, Instr.sureAddr, fieldPlace, run_size hin, hz', addr_add], by simp [Instr.fieldAt, run_underlying hu, hf, Instr.sureAddr, fieldPlace, run_size hin, hz', addr_add]⟩) w
            · cases h
        · cases h
      · cases h
    · cases h
  · rename_i X y z ho
    split at h
    · rename_i e b off len c kk i hu hy hz
      split at h
      · rename_i ti hin
        split at h
        · rename_i h1
          have h1' : ti.size = 1 := Nat.eq_of_beq_eq_true h1
          split at h
          · rename_i hi
            cases h
            have e1 := evv_ok T hy
            have e2 := evv_ok T hz
            exact of_yi (s := Instr.indexAt X (a.eval y) (a.eval z)) (by simp [execOp, ho]) (fun w es => by
              rw [e1, e2]
              exact ⟨by simp [Instr.indexAt, asIntOf, run_underlying hu, run_size hin, h1', addr_add, hi, Nat.add_comm], by simp [Instr.indexAt, asIntOf, run_underlying hu, run_size hin, h1', addr_add, hi, Nat.add_comm]⟩) w
          · cases h
        · cases h
      · cases h
    · cases h
  · rename_i y X r ho
    split at h
    · rename_i hu hy
      cases h
      have e := evv_ok T hy
      exact ⟨by simp [execOp, ho, resolve, invoke, builtin, e, Builtin.len_, run_underlying hu, goInt], by simp [execOp, ho, resolve, invoke, builtin, e, Builtin.len_, run_underlying hu, goInt]⟩
    · cases h
  · cases h
end

/-! ### a row of operations -/
inductive Hint where
  | val (v : Value)
  | ld (ad : Addr) (v : Value)
def hintAt (i : Nat) : List (Nat × Hint) → Option Hint
  | [] => none
  | (j, h) :: l => if Nat.beq i j then some h else hintAt i l
def plainT (P : Program) (T : TypeId) : Bool := match P.underlying T with
  | some (.struct _) => false
  | some (.array _ _) => false
  | some _ => true
  | none => false
/-- What is known of memory. -/
abbrev Kn := Addr → Value → Prop
def stepV (P : Program) (C : Kn) (g : Gm) (o : Oper) : Option Hint → Option (Value × List Prop)
  | none => match pv P g o with
    | some v => some (v, [])
    | none => none
  | some (.val v) => some (v, [pv P g o = some v])
  | some (.ld ad v) => match o.op with
    | .load T y => match plainT P T with
      | true => some (v, [evv g y = some (.pointer (some ad)), C ad v])
      | false => none
    | _ => none
def wantedV (ops : Array Oper) (g : Gm) (o : Oper) : Option Bool := match o.guard with
  | none => some true
  | some (j, want) => match (ops[j]?).bind (·.dst) with
    | some d => match lkv d g with
      | some (.bool t) => some (t == want)
      | some (.tuple _) => some false
      | _ => none
    | none => none
def evs (P : Program) (C : Kn) (ops : Array Oper) (n : Nat) (H : List (Nat × Hint)) : List Nat → Gm → Option (Gm × List Prop)
  | [], g => some (g, [])
  | i :: r, g => match ops[i]? with
    | none => none
    | some o => match o.dst, wantedV ops g o with
      | some d, some true => match Nat.blt d n with
        | true => match stepV P C g o (hintAt i H) with
          | some (v, q) => match evs P C ops n H r ((d, v) :: g) with
            | some (g', qs) => some (g', q ++ qs)
            | none => none
          | none => none
        | false => none
      | some d, some false => match Nat.blt d n with
        | true => evs P C ops n H r ((d, undef) :: g)
        | false => none
      | _, _ => none
def evr (P : Program) (C : Kn) (ops : Array Oper) (n : Nat) (H : List (Nat × Hint)) (l : List Nat) (live : List Nat) (g : Gm) : Option (Gm × List Prop) := match evs P C ops n H l g with
  | some (g', qs) => some (live.filterMap fun i => (lkv i g').map fun v => (i, v), qs)
  | none => none
theorem live_lk {g : Gm} : ∀ {live : List Nat} {i : Nat} {v : Value}, lkv i (live.filterMap fun i => (lkv i g).map fun v => (i, v)) = some v → lkv i g = some v
  | [], _, _, h => by cases h
  | j :: l, i, v, h => by
    simp only [List.filterMap_cons] at h
    cases hj : lkv j g with
    | none => rw [hj] at h; exact live_lk h
    | some u =>
      rw [hj] at h
      simp only [Option.map_some, lkv] at h
      split at h
      · rename_i e
        rw [Nat.eq_of_beq_eq_true e, hj]
        exact h
      · exact live_lk h
theorem wanted_ok {ops : Array Oper} {a : Act} {n : Nat} {g : Gm} {ds : List Deferred} {o : Oper} (T : Tm a n g ds) {t : Bool} (h : wantedV ops g o = some t) (hn : ∀ (j : Nat) (d : Nat), (ops[j]?).bind (·.dst) = some d → d < n) : Region.wanted o (yielded ops a.tmps) = t := by
  unfold wantedV at h
  split at h
  · rename_i hg
    cases h
    simp [Region.wanted, hg]
  · rename_i j want hg
    split at h
    · rename_i d hj
      have hd := hn j d hj
      have hlt : d < a.tmps.size := by rw [T.size]; exact hd
      have get : ∀ {v}, lkv d g = some v → a.tmps[d]? = some v := fun e => by
        have := T.val d _ e
        rw [Array.getD_eq_getD_getElem?, Array.getElem?_eq_getElem hlt] at this
        rw [Array.getElem?_eq_getElem hlt, ← this]; rfl
      have hy : ∀ {v}, lkv d g = some v → yielded ops a.tmps j = match v with | .bool b => some b | _ => none := fun e => by
        unfold yielded
        rw [hj]
        simp only [Option.bind_some, get e]
        rename_i v
        cases v <;> rfl
      split at h
      · rename_i t' hl
        cases h
        have := hy hl
        unfold Region.wanted
        simp only [hg, this]
        cases t' <;> cases want <;> rfl
      · rename_i us hl
        cases h
        have := hy hl
        unfold Region.wanted
        simp only [hg, this]
        rfl
      · cases h
    · cases h
theorem run_plain {P : Program} {w : World} {T : TypeId} (h : plainT P T = true) : (isAgg T).run P w = .ok false w := by
  unfold plainT at h
  cases hu : P.underlying T with
  | none => rw [hu] at h; cases h
  | some d =>
    rw [hu] at h
    cases d <;> simp only [reduceCtorEq] at h <;> simp [isAgg, run_underlying hu]

/-- What the walker may look at. -/
structure Ken (P : Program) (R : World → World → Prop) (D : World → World → Array Event → Prop) (C : Kn) (w : World) : Prop where
  cell : ∀ ad v, C ad v → ∀ w₁, R w w₁ → w₁.cell? ad = some v ∧ ∀ es : Array Event, (∀ e ∈ es, e = ⟨.cell ad, false, false⟩) → D w₁ w₁ es

section
variable {P : Program} {x : Bool} {R : World → World → Prop} {D : World → World → Array Event → Prop} {Stop : Goroutine → World → Prop} {b : Frame} {k : List Item} {cs : List Frame} {w : World} {C : Kn} {ops : Array Oper} {n : Nat} {H : List (Nat × Hint)} {ds : List Deferred} {m : Nat}

theorem Gz.val (T : Tms R D) {a : Act} {i : Nat} {rest : List Nat} {o : Oper} {v : Value} (ho : ops[i]? = some o) (hw : Region.wanted o (yielded ops a.tmps) = true) (hk : b.kind ≠ .early)
    (hy : ∀ w₁, R w w₁ → (execOp a.eval o).run P w₁ = .ok (.value v) w₁ ∧ D w₁ w₁ (listed P b.fn a o w₁)) (h : Goes P x R D Stop m (G (b.at (a.put o.dst v) (.inRegion ops rest :: k)) cs) w) :
    Goes P x R D Stop (m + 1) (G (b.at a (.inRegion ops (i :: rest) :: k)) cs) w := by
  exact Goes.step rfl fun w₁ h₁ => by rw [stepG_value ho hw hk (hy w₁ h₁).1]; exact ⟨(hy w₁ h₁).2, h.rely T.trans h₁⟩
theorem Gz.not (T : Tms R D) {a : Act} {i : Nat} {rest : List Nat} {o : Oper} (ho : ops[i]? = some o) (hw : Region.wanted o (yielded ops a.tmps) = false) (h : Goes P x R D Stop m (G (b.at (a.put o.dst undef) (.inRegion ops rest :: k)) cs) w) :
    Goes P x R D Stop (m + 1) (G (b.at a (.inRegion ops (i :: rest) :: k)) cs) w := Gz.ctl T rfl (fun _ => stepG_unwanted ho hw) h

theorem evs_ok (T : Tms R D) (K : Ken P R D C w) (hk : b.kind ≠ .early) (hn : ∀ (j : Nat) (d : Nat), (ops[j]?).bind (·.dst) = some d → d < n) : ∀ {l : List Nat} {rest : List Nat} {g g' : Gm} {qs : List Prop} {a : Act}, evs P C ops n H l g = some (g', qs) → (∀ q ∈ qs, q) → Tm a n g ds →
    (∀ a', Tm a' n g' ds → Goes P x R D Stop m (G (b.at a' (.inRegion ops rest :: k)) cs) w) → Goes P x R D Stop (m + l.length) (G (b.at a (.inRegion ops (l ++ rest) :: k)) cs) w
  | [], rest, g, g', qs, a, h, hq, hT, hK => by
    simp only [evs, Option.some.injEq, Prod.mk.injEq] at h
    obtain ⟨rfl, rfl⟩ := h
    exact hK a hT
  | i :: r, rest, g, g', qs, a, h, hq, hT, hK => by
    simp only [evs] at h
    split at h
    · cases h
    · rename_i o ho
      split at h
      · rename_i d hd hw
        have hwt := wanted_ok hT hw hn
        split at h
        · rename_i hlt
          have hlt' : d < n := by simpa [Nat.blt_eq] using hlt
          split at h
          · rename_i v q hs
            split at h
            · rename_i g2 qs2 he
              simp only [Option.some.injEq, Prod.mk.injEq] at h
              obtain ⟨rfl, rfl⟩ := h
              have hq0 : ∀ z ∈ q, z := fun z hz => hq z (by simp [hz])
              refine Gz.val T ho hwt hk (v := v) (fun w₁ h₁ => ?_) (by rw [hd]; exact evs_ok T K hk hn he (fun q' h' => hq q' (by simp [h'])) (hT.put d hlt' v) hK)
              have nl : ∀ {es : Array Event}, es = #[] → D w₁ w₁ es := fun e => by rw [e]; exact T.idle w₁
              have base : pv P g o = some v → _ := fun e => (show (execOp a.eval o).run P w₁ = .ok (.value v) w₁ ∧ D w₁ w₁ (listed P b.fn a o w₁) from by
                obtain ⟨e1, e2⟩ := pv_ok hT e w₁
                exact ⟨e1, nl (by unfold listed; rw [e2]; exact seen_none P _)⟩)
              unfold stepV at hs
              split at hs
              · split at hs
                · rename_i u hp
                  cases hs
                  exact base hp
                · cases hs
              · cases hs
                exact base (hq0 _ (by simp))
              · rename_i ad u _
                split at hs
                · rename_i X y hop
                  split at hs
                  · rename_i hpl
                    cases hs
                    have hy := hq0 (evv g y = some (.pointer (some ad))) (by simp)
                    have hc := hq0 (C ad v) (by simp)
                    have e := evv_ok hT hy
                    obtain ⟨hcell, hD⟩ := K.cell ad v hc w₁ h₁
                    refine ⟨by simp [execOp, hop, e, Instr.loadAt, Instr.sureAddr, loadVar, run_plain hpl, load, Sem.run, hcell], hD _ fun ev hev => ?_⟩
                    have := mem_listed hev
                    simp [execOp, hop, e, Instr.loadAt, Instr.sureAddr, loadVar, run_plain hpl, hcell] at this
                    exact this
                  · cases hs
                · cases hs
            · cases h
          · cases h
        · cases h
      · rename_i d hd hw
        have hwt := wanted_ok hT hw hn
        split at h
        · rename_i hlt
          have hlt' : d < n := by simpa [Nat.blt_eq] using hlt
          exact Gz.not T ho hwt (by rw [hd]; exact evs_ok T K hk hn h hq (hT.put d hlt' undef) hK)
        · cases h
      · cases h
def dstsB (ops : Array Oper) (n : Nat) : Bool := ops.all fun o => match o.dst with | some d => Nat.blt d n | none => true
theorem dsts_ok (h : dstsB ops n = true) : ∀ (j : Nat) (d : Nat), (ops[j]?).bind (·.dst) = some d → d < n := by
  intro j d hj
  obtain ⟨o, ho, hd⟩ := Option.bind_eq_some_iff.1 hj
  unfold dstsB at h
  rw [Array.all_eq_true_iff_forall_mem] at h
  have := h o (Array.mem_of_getElem? ho)
  rw [hd] at this
  simpa [Nat.blt_eq] using this
/-- ████ A ROW OF OPERATIONS. ████ -/
theorem Gz.row (T : Tms R D) (K : Ken P R D C w) (hk : b.kind ≠ .early) {a : Act} {g : Gm} (hT : Tm a n g ds) (H : List (Nat × Hint)) (l rest live : List Nat) {g' : Gm} {qs : List Prop} (hn : dstsB ops n = true) (he : evr P C ops n H l live g = some (g', qs)) (hq : ∀ q ∈ qs, q)
    (hK : ∀ a', Tm a' n g' ds → Goes P x R D Stop m (G (b.at a' (.inRegion ops rest :: k)) cs) w) : Goes P x R D Stop (m + l.length) (G (b.at a (.inRegion ops (l ++ rest) :: k)) cs) w := by
  unfold evr at he
  split at he
  · rename_i g2 qs2 h2
    simp only [Option.some.injEq, Prod.mk.injEq] at he
    obtain ⟨rfl, rfl⟩ := he
    exact evs_ok T K hk (dsts_ok hn) h2 hq hT fun a' h' => hK a' (h'.less fun i v e => live_lk e)
  · cases he
end
end Go.Proofs.Ytdmiilgdkmbmeaa.Rg
namespace Go.Proofs.Ytdmiilgdkmbmeaa.Rg
open Go Go.Conc

def befs (ops : List Oper) : List (List Nat) := ops.foldl (fun acc o => acc ++ [o.after.toList.flatMap fun e => if Region.binds .any e then e.on :: acc.getD e.on [] else []]) []
def befB (ops : List Oper) (bf : List (List Nat)) : Bool := (List.range ops.length).all fun j => (ops[j]?).all fun o =>
  (o.after.all fun e => !Region.binds .any e || decide (e.on < j)) && (bf.getD j []).all fun i => o.after.any fun e => Region.binds .any e && (Nat.beq e.on i || (bf.getD e.on []).contains i)
def Closed (ops : Array Oper) (p : Nat → Bool) : Prop := ∀ j o, ops[j]? = some o → p j = true → ∀ e ∈ o.after, Region.binds .any e = true → p e.on = true
theorem bef_done {l : List Oper} {bf : List (List Nat)} (hb : befB l bf = true) {p : Nat → Bool} (hp : Closed l.toArray p) : ∀ (j : Nat) (o : Oper), l[j]? = some o → (∀ e ∈ o.after, Region.binds .any e = true → p e.on = true) → ∀ i ∈ bf.getD j [], p i = true := by
  intro j
  induction j using Nat.strongRecOn with
  | ind j ih =>
    intro o ho hd i hi
    simp only [befB, List.all_eq_true, List.mem_range] at hb
    have h1 := hb j (List.getElem?_eq_some_iff.1 ho).1
    rw [ho] at h1
    simp only [Option.all_some, Bool.and_eq_true, Array.all_eq_true_iff_forall_mem, List.all_eq_true] at h1
    have h2 := h1.2 i hi
    rw [Array.any_eq_true'] at h2
    obtain ⟨e, he, h3⟩ := h2
    simp only [Bool.and_eq_true, Bool.or_eq_true] at h3
    have hpe := hd e he h3.1
    rcases h3.2 with h4 | h4
    · rw [← Nat.eq_of_beq_eq_true h4]; exact hpe
    · have hlt : e.on < j := by have := h1.1 e he; rw [h3.1] at this; simpa using this
      have hil : e.on < l.length := by have := (List.getElem?_eq_some_iff.1 ho).1; omega
      exact ih e.on hlt l[e.on] (by simp [hil]) (fun e' he' hb' => hp e.on l[e.on] (by simp [hil]) hpe e' he' hb') i (by simpa using h4)

def left (f : Nat → Bool) : Nat → Nat
  | 0 => 0
  | n + 1 => left f n + (if f n then 0 else 1)
theorem left_zero {f : Nat → Bool} : ∀ {n : Nat}, left f n = 0 → ∀ i, i < n → f i = true
  | n + 1, h, i, hi => by
    unfold left at h
    by_cases e : i = n
    · subst e
      by_cases hf : f i = true
      · exact hf
      · simp [hf] at h
    · exact left_zero (n := n) (by omega) i (by omega)
theorem left_congr {f g : Nat → Bool} : ∀ {n : Nat}, (∀ i, i < n → f i = g i) → left f n = left g n
  | 0, _ => rfl
  | n + 1, h => by rw [left, left, h n (by omega), left_congr fun i hi => h i (by omega)]
theorem left_set {listed : Array Bool} {i : Nat} (hf : listed.getD i false = false) (hs : i < listed.size) : ∀ {n : Nat}, i < n → left (fun j => listed.getD j false) n = left (fun j => (listed.setIfInBounds i true).getD j false) n + 1
  | n + 1, h => by
    by_cases e : i = n
    · subst e
      rw [left, left, hf, left_congr (f := fun j => (listed.setIfInBounds i true).getD j false) (g := fun j => listed.getD j false) (fun j hj => getD_set_ne _ (by omega))]
      simp [Array.getD_eq_getD_getElem?, hs]
    · have e2 : (listed.setIfInBounds i true).getD n false = listed.getD n false := getD_set_ne _ e
      rw [left, left, left_set hf hs (n := n) (by omega), e2]
      omega
/-- Which operation leaves its value in t. -/
def dstIx : List Oper → Nat → Nat → Option Nat
  | [], _, _ => none
  | o :: l, i, t => match o.dst with
    | some d => if Nat.beq d t then some i else dstIx l (i + 1) t
    | none => dstIx l (i + 1) t
theorem dstIx_some : ∀ {l : List Oper} {i t j : Nat}, dstIx l i t = some j → i ≤ j ∧ ∃ o, l[j - i]? = some o ∧ o.dst = some t
  | [], _, _, _, h => by cases h
  | o :: l, i, t, j, h => by
    simp only [dstIx] at h
    have back : dstIx l (i + 1) t = some j → i ≤ j ∧ ∃ o', (o :: l)[j - i]? = some o' ∧ o'.dst = some t := fun h => by
      obtain ⟨h1, o', h2, h3⟩ := dstIx_some h
      refine ⟨by omega, o', ?_, h3⟩
      rw [show j - i = (j - (i + 1)) + 1 by omega, List.getElem?_cons_succ]
      exact h2
    split at h
    · rename_i d hd
      split at h
      · rename_i e
        cases h
        exact ⟨Nat.le_refl _, o, by simp, by rw [hd, Nat.eq_of_beq_eq_true e]⟩
      · exact back h
    · exact back h
theorem dstIx_none : ∀ {l : List Oper} {i t : Nat}, dstIx l i t = none → ∀ (j : Nat) (o : Oper), l[j]? = some o → o.dst ≠ some t
  | [], _, _, _, j, o, h => by simp at h
  | o :: l, i, t, h, j, o', hj => by
    simp only [dstIx] at h
    have h2 : o.dst ≠ some t ∧ dstIx l (i + 1) t = none := by
      split at h
      · rename_i d hd
        split at h
        · cases h
        · rename_i e
          exact ⟨fun e2 => e (by rw [hd] at e2; rw [Option.some.inj e2]; simp), h⟩
      · rename_i hd
        exact ⟨fun e2 => (by rw [hd] at e2; cases e2), h⟩
    match j, hj with
    | 0, hj =>
      have e : o = o' := by simpa using hj
      rw [← e]; exact h2.1
    | j + 1, hj => exact dstIx_none h2.2 j o' (by simpa using hj)
/-- No two operations leave their values in one place. -/
def dstsN (l : List Oper) : Bool := (List.range l.length).all fun j => match (l[j]?).bind (·.dst) with
  | some d => match dstIx l 0 d with
    | some i => Nat.beq i j
    | none => false
  | none => true
/-- What operation i sees. -/
def rmap (l : List Oper) (bf : List (List Nat)) (vals : List Value) (g : Gm) (rd : List Nat) (i : Nat) : Gm := rd.filterMap fun t => match dstIx l 0 t with
  | some j => if (bf.getD i []).contains j then some (t, vals.getD j undef) else none
  | none => match lkv t g with
    | some v => some (t, v)
    | none => none
/-- All operations but the special ones, reckoned again each by what it sees. -/
def dra (P : Program) (C : Kn) (l : List Oper) (bf : List (List Nat)) (sp : List Nat) (H : List (Nat × Hint)) (vals : List Value) (g : Gm) (rds : List (List Nat)) : List Oper → Nat → Option (List Value × List Prop)
  | [], _ => some ([], [])
  | o :: r, i => match dra P C l bf sp H vals g rds r (i + 1) with
    | some (vs, qs) => match sp.contains i with
      | true => some (vals.getD i undef :: vs, qs)
      | false => match wantedV l.toArray (rmap l bf vals g (rds.getD i []) i) o with
        | some true => match stepV P C (rmap l bf vals g (rds.getD i []) i) o (hintAt i H) with
          | some (v, q) => some (v :: vs, q ++ qs)
          | none => none
        | some false => some (undef :: vs, qs)
        | none => none
    | none => none
theorem dra_spec {P : Program} {C : Kn} {l : List Oper} {bf : List (List Nat)} {sp : List Nat} {H : List (Nat × Hint)} {vals : List Value} {g : Gm} {rds : List (List Nat)} : ∀ {r : List Oper} {i : Nat} {vs : List Value} {qs : List Prop}, dra P C l bf sp H vals g rds r i = some (vs, qs) →
    ∀ (j : Nat) (o : Oper), r[j]? = some o → sp.contains (i + j) = false → (wantedV l.toArray (rmap l bf vals g (rds.getD (i + j) []) (i + j)) o = some true ∧ ∃ q, stepV P C (rmap l bf vals g (rds.getD (i + j) []) (i + j)) o (hintAt (i + j) H) = some (vs.getD j undef, q) ∧ ∀ z ∈ q, z ∈ qs) ∨
      (wantedV l.toArray (rmap l bf vals g (rds.getD (i + j) []) (i + j)) o = some false ∧ vs.getD j undef = undef)
  | [], _, _, _, _, j, o, hj, _ => by simp at hj
  | p :: r, i, vs, qs, h, j, o, hj, hs => by
    simp only [dra] at h
    split at h
    case h_2 => cases h
    rename_i vs' qs' hrec
    match j, hj with
    | 0, hj =>
      obtain rfl : p = o := by simpa using hj
      simp only [Nat.add_zero] at hs ⊢
      rw [hs] at h
      simp only at h
      split at h
      · rename_i hw
        split at h
        · rename_i v q hst
          cases h
          exact .inl ⟨hw, q, hst, fun z hz => by simp [hz]⟩
        · cases h
      · rename_i hw
        cases h
        exact .inr ⟨hw, rfl⟩
      · cases h
    | j + 1, hj =>
      have ih := dra_spec hrec j o (by simpa using hj) (by rw [show i + 1 + j = i + (j + 1) by omega]; exact hs)
      rw [show i + 1 + j = i + (j + 1) by omega] at ih
      have key : ∀ v qs2, vs = v :: vs' → (∀ q ∈ qs', q ∈ qs2) → qs = qs2 → _ := fun v qs2 e1 e2 e3 => (show (wantedV l.toArray (rmap l bf vals g (rds.getD (i + (j + 1)) []) (i + (j + 1))) o = some true ∧ ∃ q, stepV P C (rmap l bf vals g (rds.getD (i + (j + 1)) []) (i + (j + 1))) o (hintAt (i + (j + 1)) H) = some (vs.getD (j + 1) undef, q) ∧ ∀ z ∈ q, z ∈ qs) ∨
          (wantedV l.toArray (rmap l bf vals g (rds.getD (i + (j + 1)) []) (i + (j + 1))) o = some false ∧ vs.getD (j + 1) undef = undef) from by
        subst e1; subst e3
        rcases ih with ⟨h1, q, h2, h3⟩ | ⟨h1, h2⟩
        · exact .inl ⟨h1, q, by simpa using h2, fun z hz => e2 z (h3 z hz)⟩
        · exact .inr ⟨h1, by simpa using h2⟩)
      split at h
      · cases h
        exact key _ _ rfl (fun q hq => hq) rfl
      · split at h
        · split at h
          · cases h
            exact key _ _ rfl (fun q hq => by simp [hq]) rfl
          · cases h
        · cases h
          exact key _ _ rfl (fun q hq => hq) rfl
        · cases h

/-- Those that are listed have left their values; all else is as it was. -/
structure Jd (l : List Oper) (n : Nat) (g : Gm) (vals : List Value) (ds : List Deferred) (listed : Array Bool) (a : Act) : Prop where
  size : a.tmps.size = n
  dfr : a.defers = ds
  old : ∀ t v, dstIx l 0 t = none → lkv t g = some v → a.tmps.getD t undef = v
  new : ∀ (j : Nat) (o : Oper) (d : Nat), l[j]? = some o → o.dst = some d → listed.getD j false = true → a.tmps.getD d undef = vals.getD j undef

section
variable {P : Program} {x : Bool} {R : World → World → Prop} {D : World → World → Array Event → Prop} {Stop : Goroutine → World → Prop} {b : Frame} {k : List Item} {cs : List Frame} {w : World} {C : Kn} {l : List Oper} {n : Nat} {H : List (Nat × Hint)} {ds : List Deferred} {g : Gm} {vals : List Value} {bf : List (List Nat)} {sp : List Nat} {rds : List (List Nat)} {qs : List Prop} {m : Nat}

theorem lin_cases (ops : Array Oper) (fuel t : Nat) (listed : Array Bool) : Region.linearise.go .any ops (fuel + 1) t listed [] = (match (Region.ready .any ops listed)[t % (Region.ready .any ops listed).length]? with
    | some i => i :: Region.linearise.go .any ops fuel (t / (Region.ready .any ops listed).length) (listed.setIfInBounds i true) []
    | none => []) := by
  simp only [Region.linearise.go]
  change (match (Region.ready .any ops listed)[t % (Region.ready .any ops listed).length]? with
    | some i => Region.linearise.go .any ops fuel (t / (Region.ready .any ops listed).length) (listed.setIfInBounds i true) [i]
    | none => [].reverse) = _
  cases (Region.ready .any ops listed)[t % (Region.ready .any ops listed).length]? with
  | none => rfl
  | some i => simp only []; rw [linearise_go_acc, List.reverse_singleton, List.singleton_append]
theorem ready_empty {ops : Array Oper} {listed : Array Bool} {t : Nat} (h : (Region.ready .any ops listed)[t % (Region.ready .any ops listed).length]? = none) : Region.ready .any ops listed = [] := by
  cases hr : Region.ready .any ops listed with
  | nil => rfl
  | cons y ys =>
    rw [hr] at h
    have hlt : t % (y :: ys).length < (y :: ys).length := Nat.mod_lt _ (by simp)
    simp at h
    simp at hlt
    omega
theorem all_listed (hb : befB l bf = true) {listed : Array Bool} (hsz : listed.size = l.length) (hr : Region.ready .any l.toArray listed = []) : ∀ i, i < l.length → listed.getD i false = true := by
  intro i
  induction i using Nat.strongRecOn with
  | ind i ih =>
    intro hi
    by_cases hl : listed.getD i false = true
    · exact hl
    · exfalso
      have hgd : ∀ b c : Bool, listed.getD i b = listed.getD i c := fun b c => by rw [Array.getD_eq_getD_getElem?, Array.getD_eq_getD_getElem?, Array.getElem?_eq_getElem (by omega)]; rfl
      have hm : i ∈ Region.ready .any l.toArray listed := mem_ready.2 ⟨by rw [hgd true false]; simpa using hl, l[i], by simp [hi], fun e he hbd => by
        simp only [befB, List.all_eq_true, List.mem_range] at hb
        have h1 := hb i hi
        rw [List.getElem?_eq_getElem hi] at h1
        simp only [Option.all_some, Bool.and_eq_true, Array.all_eq_true_iff_forall_mem] at h1
        have h2 : e.on < i := by have := h1.1 e he; rw [hbd] at this; simpa using this
        exact ih e.on h2 (by omega)⟩
      rw [hr] at hm
      cases hm
/-- What an operation that comes up sees is known. -/
theorem Jd.sees (hb : befB l bf = true) {listed : Array Bool} {a : Act} (hJ : Jd l n g vals ds listed a) (hc : Closed l.toArray (fun i => listed.getD i false)) {i : Nat} {o : Oper} (ho : l[i]? = some o) (hr : i ∈ Region.ready .any l.toArray listed) (rd : List Nat) : Tm a n (rmap l bf vals g rd i) ds := by
  obtain ⟨_, o', ho', hdeps⟩ := mem_ready.1 hr
  have e : o' = o := by
    have : l[i]? = some o' := by simpa using ho'
    rw [ho] at this
    exact (Option.some.inj this).symm
  subst e
  have hbef := bef_done hb hc i o' ho hdeps
  refine ⟨hJ.size, fun t v ht => ?_, hJ.dfr⟩
  have : ∀ (rd : List Nat), lkv t (rmap l bf vals g rd i) = some v → a.tmps.getD t undef = v := by
    intro rd
    induction rd with
    | nil => intro h; cases h
    | cons t' rd ih =>
      intro h
      unfold rmap at h ih
      rw [List.filterMap_cons] at h
      split at h
      · exact ih h
      · rename_i y hy
        split at hy
        · rename_i j hd
          split at hy
          · rename_i hcont
            cases hy
            simp only [lkv] at h
            split at h
            · rename_i e
              have e' := Nat.eq_of_beq_eq_true e
              subst e'
              rw [← Option.some.inj h]
              obtain ⟨_, oj, hoj, hdj⟩ := dstIx_some hd
              exact hJ.new j oj t (by simpa using hoj) hdj (hbef j (by simpa using hcont))
            · exact ih h
          · cases hy
        · rename_i hd
          split at hy
          · rename_i u hg
            cases hy
            simp only [lkv] at h
            split at h
            · rename_i e
              have e' := Nat.eq_of_beq_eq_true e
              subst e'
              rw [← Option.some.inj h]
              exact hJ.old t u hd hg
            · exact ih h
          · cases hy
  exact this rd ht
/-- One more has left its value. -/
theorem Jd.put (hn : dstsN l = true) {listed : Array Bool} {a : Act} (hJ : Jd l n g vals ds listed a) {i : Nat} {o : Oper} {d : Nat} (ho : l[i]? = some o) (hd : o.dst = some d) (hlt : d < n) (hls : listed.size = l.length) : Jd l n g vals ds (listed.setIfInBounds i true) (a.put (some d) (vals.getD i undef)) := by
  have hil : i < l.length := (List.getElem?_eq_some_iff.1 ho).1
  have hix : ∀ (j : Nat) (oj : Oper) (dj : Nat), l[j]? = some oj → oj.dst = some dj → dstIx l 0 dj = some j := fun j oj dj hj hdj => by
    unfold dstsN at hn
    rw [List.all_eq_true] at hn
    have := hn j (by simp; exact (List.getElem?_eq_some_iff.1 hj).1)
    rw [hj] at this
    simp only [Option.bind_some, hdj] at this
    split at this
    · rename_i i' h'
      rw [h', Nat.eq_of_beq_eq_true this]
    · cases this
  have get : ∀ t, (a.put (some d) (vals.getD i undef)).tmps.getD t undef = if t = d then vals.getD i undef else a.tmps.getD t undef := fun t => by
    show (a.tmps.setIfInBounds d _).getD t undef = _
    rw [Array.getD_eq_getD_getElem?]
    by_cases e : t = d
    · subst e
      rw [if_pos rfl, Array.getElem?_setIfInBounds_self_of_lt (by rw [hJ.size]; exact hlt)]
      rfl
    · rw [if_neg e, Array.getElem?_setIfInBounds_ne (Ne.symm e), ← Array.getD_eq_getD_getElem?]
  refine ⟨by show (a.tmps.setIfInBounds d _).size = n; simp [hJ.size], hJ.dfr, fun t v ht hg => ?_, fun j oj dj hj hdj hl => ?_⟩
  · rw [get, if_neg (fun e => by rw [e] at ht; exact dstIx_none ht i o ho hd)]
    exact hJ.old t v ht hg
  · rw [get]
    by_cases e : dj = d
    · have h1 := hix j oj dj hj hdj
      have h2 := hix i o d ho hd
      rw [e, h2] at h1
      rw [if_pos e, Option.some.inj h1]
    · rw [if_neg e]
      refine hJ.new j oj dj hj hdj ?_
      have hij : i ≠ j := fun e2 => by
        subst e2
        rw [ho] at hj
        rw [← Option.some.inj hj, hd] at hdj
        exact e (Option.some.inj hdj).symm
      rwa [getD_set_ne _ hij] at hl
theorem closed_put {listed : Array Bool} (hc : Closed l.toArray (fun i => listed.getD i false)) {i : Nat} (hr : i ∈ Region.ready .any l.toArray listed) : Closed l.toArray (fun j => (listed.setIfInBounds i true).getD j false) := by
  obtain ⟨_, o, ho, hdeps⟩ := mem_ready.1 hr
  intro j oj hj hjl e' he' hb'
  by_cases ej : j = i
  · subst ej
    rw [ho] at hj
    cases hj
    exact getD_set_true (hdeps e' he' hb')
  · have hjl' : listed.getD j false = true := by
      have h2 : (listed.setIfInBounds i true).getD j false = true := hjl
      rwa [getD_set_ne _ (Ne.symm ej)] at h2
    exact getD_set_true (hc j oj hj hjl' e' he' hb')

/-- ████ IN WHATEVER ORDER. ████ -/
theorem Gz.any (T : Tms R D) (K : Ken P R D C w) (hk : b.kind ≠ .early) (hb : befB l bf = true) (hn : dstsN l = true) (hn2 : dstsB l.toArray n = true) (hd : dra P C l bf sp H vals g rds l 0 = some (vals, qs)) (hq : ∀ q ∈ qs, q) (hdst : ∀ (i : Nat) (o : Oper), l[i]? = some o → sp.contains i = false → ∃ d, o.dst = some d)
    (V : Array Bool → Prop) (hV : ∀ listed i, sp.contains i = false → V listed → V (listed.setIfInBounds i true)) (hS : ∀ (i : Nat) (fuel t : Nat) (listed : Array Bool) (a : Act), sp.contains i = true → i ∈ Region.ready .any l.toArray listed → listed.size = l.length → left (fun j => (listed.setIfInBounds i true).getD j false) l.length ≤ fuel → Closed l.toArray (fun j => listed.getD j false) → Jd l n g vals ds listed a → V listed →
      Goes P x R D Stop (m + left (fun j => (listed.setIfInBounds i true).getD j false) l.length + 1) (G (b.at a (.inRegion l.toArray (i :: Region.linearise.go .any l.toArray fuel t (listed.setIfInBounds i true) []) :: k)) cs) w)
    (hE : ∀ (listed : Array Bool) (a : Act), (∀ i, i < l.length → listed.getD i false = true) → Jd l n g vals ds listed a → V listed → Goes P x R D Stop m (G (b.at a (.inRegion l.toArray [] :: k)) cs) w) :
    ∀ (fuel t : Nat) (listed : Array Bool) (a : Act), listed.size = l.length → left (fun j => listed.getD j false) l.length ≤ fuel → Closed l.toArray (fun j => listed.getD j false) → Jd l n g vals ds listed a → V listed → Goes P x R D Stop (m + left (fun j => listed.getD j false) l.length) (G (b.at a (.inRegion l.toArray (Region.linearise.go .any l.toArray fuel t listed []) :: k)) cs) w := by
  intro fuel
  induction fuel with
  | zero =>
    intro t listed a hsz hlf hc hJ hVl
    have e : Region.linearise.go .any l.toArray 0 t listed [] = [] := rfl
    rw [e]
    rw [Nat.le_zero.1 hlf]
    exact hE listed a (left_zero (Nat.le_zero.1 hlf)) hJ hVl
  | succ fuel ih =>
    intro t listed a hsz hlf hc hJ hVl
    rw [lin_cases]
    split
    · rename_i i hi
      have hr := List.mem_of_getElem? hi
      have hlf' : left (fun j => (listed.setIfInBounds i true).getD j false) l.length ≤ fuel := by
        obtain ⟨h1, o, ho, _⟩ := mem_ready.1 hr
        have hi' : i < l.length := by simpa using (Array.getElem?_eq_some_iff.1 ho).1
        have hl0 : listed.getD i false = false := by
          rw [Array.getD_eq_getD_getElem?, Array.getElem?_eq_getElem (by omega)] at h1 ⊢
          exact h1
        have := left_set hl0 (by omega) hi'
        omega
      have hone : m + left (fun j => listed.getD j false) l.length = m + left (fun j => (listed.setIfInBounds i true).getD j false) l.length + 1 := by
        obtain ⟨h1, o, ho, _⟩ := mem_ready.1 hr
        have hi' : i < l.length := by simpa using (Array.getElem?_eq_some_iff.1 ho).1
        have hl0 : listed.getD i false = false := by
          rw [Array.getD_eq_getD_getElem?, Array.getElem?_eq_getElem (by omega)] at h1 ⊢
          exact h1
        have := left_set hl0 (by omega) hi'
        omega
      rw [hone]
      by_cases hsp : sp.contains i = true
      · exact hS i fuel _ listed a hsp hr hsz hlf' hc hJ hVl
      · have hsp' : sp.contains i = false := by simpa using hsp
        obtain ⟨_, o, ho', _⟩ := mem_ready.1 hr
        have ho : l[i]? = some o := by simpa using ho'
        obtain ⟨d, hdo⟩ := hdst i o ho hsp'
        have hlt : d < n := dsts_ok hn2 i d (by rw [ho']; exact hdo)
        have hsee := hJ.sees hb hc ho hr (rds.getD i [])
        have hspec := dra_spec hd i o ho (by rw [Nat.zero_add]; exact hsp')
        rw [Nat.zero_add] at hspec
        have hnext := ih (t / (Region.ready .any l.toArray listed).length) (listed.setIfInBounds i true) (a.put (some d) (vals.getD i undef)) (by simpa using hsz) hlf' (closed_put hc hr) (hJ.put hn ho hdo hlt hsz) (hV _ _ hsp' hVl)
        have hgw : ∀ {t : Bool}, wantedV l.toArray (rmap l bf vals g (rds.getD i []) i) o = some t → Region.wanted o (yielded l.toArray a.tmps) = t := fun e => wanted_ok hsee e (dsts_ok hn2)
        rcases hspec with ⟨hw, q, hst, hqm⟩ | ⟨hw, hv⟩
        · have hq0 : ∀ z ∈ q, z := fun z hz => hq z (hqm z hz)
          refine Gz.val T ho' (hgw hw) hk (v := vals.getD i undef) (fun w₁ h₁ => ?_) (by rw [hdo]; exact hnext)
          have base : pv P (rmap l bf vals g (rds.getD i []) i) o = some (vals.getD i undef) → _ := fun e => (show (execOp a.eval o).run P w₁ = .ok (.value (vals.getD i undef)) w₁ ∧ D w₁ w₁ (Go.Conc.listed P b.fn a o w₁) from by
            obtain ⟨e1, e2⟩ := pv_ok hsee e w₁
            refine ⟨e1, ?_⟩
            have : Go.Conc.listed P b.fn a o w₁ = #[] := by unfold Go.Conc.listed; rw [e2]; exact seen_none P _
            rw [this]
            exact T.idle w₁)
          generalize hvv : vals.getD i undef = vv at hst base
          unfold stepV at hst
          split at hst
          · split at hst
            · rename_i u hp
              cases hst
              exact base hp
            · cases hst
          · cases hst
            exact base (hq0 _ (by simp))
          · rename_i ad u _
            split at hst
            · rename_i X y hop
              split at hst
              · rename_i hpl
                cases hst
                have hy := hq0 (evv (rmap l bf vals g (rds.getD i []) i) y = some (.pointer (some ad))) (by simp)
                have hcc := hq0 (C ad vv) (by simp)
                have e := evv_ok hsee hy
                obtain ⟨hcell, hD⟩ := K.cell ad vv hcc w₁ h₁
                refine ⟨by simp [execOp, hop, e, Instr.loadAt, Instr.sureAddr, loadVar, run_plain hpl, load, Sem.run, hcell], hD _ fun ev hev => ?_⟩
                have := mem_listed hev
                simp [execOp, hop, e, Instr.loadAt, Instr.sureAddr, loadVar, run_plain hpl, hcell] at this
                exact this
              · cases hst
            · cases hst
        · rw [hv] at hnext
          exact Gz.not T ho' (hgw hw) (by rw [hdo]; exact hnext)
    · rename_i hi
      have hall := all_listed hb hsz (ready_empty hi)
      have h0 : left (fun j => listed.getD j false) l.length = 0 := by
        have : ∀ n, n ≤ l.length → left (fun j => listed.getD j false) n = 0 := fun n => by
          induction n with
          | zero => intro _; rfl
          | succ n ih2 => intro hn2; rw [left, ih2 (by omega), hall n (by omega)]; rfl
        exact this _ (Nat.le_refl _)
      rw [h0]
      exact hE listed a hall hJ hVl
end
end Go.Proofs.Ytdmiilgdkmbmeaa.Rg
namespace Go.Proofs.Ytdmiilgdkmbmeaa.Rg
open Go Go.Conc

structure Tmd (R : World → World → Prop) (D : World → World → Array Event → Prop) : Prop extends Tms R D where
  draw : ∀ (w : World) (d : Nat), R w { w with drawn := d }
  letd : ∀ w : World, D w { w with drawn := w.drawn + 1 } #[]
/-- What is known behind the region. -/
def dfin (l : List Oper) (vals : List Value) (g : Gm) (live : List Nat) : Gm := live.filterMap fun t => match dstIx l 0 t with
  | some j => some (t, vals.getD j undef)
  | none => match lkv t g with
    | some v => some (t, v)
    | none => none
/-- Operation i has come up. -/
structure Mid (l : List Oper) (n : Nat) (g : Gm) (vals : List Value) (ds : List Deferred) (i : Nat) (listed : Array Bool) (a : Act) : Prop where
  rdy : i ∈ Region.ready .any l.toArray listed
  size : listed.size = l.length
  closed : Closed l.toArray (fun j => listed.getD j false)
  jd : Jd l n g vals ds listed a

section
variable {P : Program} {x : Bool} {R : World → World → Prop} {D : World → World → Array Event → Prop} {Stop : Goroutine → World → Prop} {b : Frame} {k : List Item} {cs : List Frame} {w : World} {C : Kn} {l : List Oper} {n : Nat} {H : List (Nat × Hint)} {ds : List Deferred} {g : Gm} {vals : List Value} {bf : List (List Nat)} {sp : List Nat} {rds : List (List Nat)} {qs : List Prop} {m : Nat}

theorem repl_false (m j : Nat) : (Array.replicate m false).getD j false = false := by
  rw [Array.getD_eq_getD_getElem?, Array.getElem?_replicate]
  by_cases h : j < m <;> simp [h]
theorem left_false : ∀ n, left (fun _ => false) n = n
  | 0 => rfl
  | n + 1 => by rw [left, left_false n]; simp
theorem Jd.begin {a : Act} (hT : Tm a n g ds) : Jd l n g vals ds (Array.replicate l.length false) a :=
  ⟨hT.size, hT.dfr, fun t v _ h => hT.val t v h, fun j o d _ _ hl => by rw [repl_false] at hl; cases hl⟩
theorem Jd.fin {listed : Array Bool} {a : Act} (hJ : Jd l n g vals ds listed a) (hall : ∀ i, i < l.length → listed.getD i false = true) (live : List Nat) : Tm a n (dfin l vals g live) ds := by
  refine ⟨hJ.size, fun t v ht => ?_, hJ.dfr⟩
  induction live with
  | nil => cases ht
  | cons t' live ih =>
    unfold dfin at ht ih
    rw [List.filterMap_cons] at ht
    split at ht
    · exact ih ht
    · rename_i y hy
      split at hy
      · rename_i j hd
        cases hy
        simp only [lkv] at ht
        split at ht
        · rename_i e
          have e' := Nat.eq_of_beq_eq_true e
          subst e'
          rw [← Option.some.inj ht]
          obtain ⟨_, oj, hoj, hdj⟩ := dstIx_some hd
          have hoj' : l[j]? = some oj := by simpa using hoj
          exact hJ.new j oj t hoj' hdj (hall j (List.getElem?_eq_some_iff.1 hoj').1)
        · exact ih ht
      · rename_i hd
        split at hy
        · rename_i u hg
          cases hy
          simp only [lkv] at ht
          split at ht
          · rename_i e
            have e' := Nat.eq_of_beq_eq_true e
            subst e'
            rw [← Option.some.inj ht]
            exact hJ.old t u hd hg
          · exact ih ht
        · cases hy
/-- The values that are still to come may be told anew. -/
theorem Jd.tell {listed : Array Bool} {a : Act} (hJ : Jd l n g vals ds listed a) {vals' : List Value} (h : ∀ (j : Nat) (o : Oper) (d : Nat), l[j]? = some o → o.dst = some d → listed.getD j false = true → vals'.getD j undef = vals.getD j undef) : Jd l n g vals' ds listed a :=
  ⟨hJ.size, hJ.dfr, hJ.old, fun j o d h1 h2 h3 => (hJ.new j o d h1 h2 h3).trans (h j o d h1 h2 h3).symm⟩

/-- THE BEGINNING. -/
theorem Gz.draw (T : Tmd R D) (hm : P.follows .mixedOrders = true) (K : Ken P R D C w) (hk : b.kind ≠ .early) {a : Act} (hT : Tm a n g ds) (hb : befB l bf = true) (hn : dstsN l = true) (hn2 : dstsB l.toArray n = true) (hd : dra P C l bf sp H vals g rds l 0 = some (vals, qs)) (hq : ∀ q ∈ qs, q)
    (hdst : ∀ (i : Nat) (o : Oper), l[i]? = some o → sp.contains i = false → ∃ d, o.dst = some d) {id : Nat}
    (hS : ∀ (i : Nat) (fuel t : Nat) (listed : Array Bool) (a : Act), sp.contains i = true → left (fun j => (listed.setIfInBounds i true).getD j false) l.length ≤ fuel → Mid l n g vals ds i listed a → (∀ j, sp.contains j = true → listed.getD j false = false) →
      Goes P x R D Stop (m + left (fun j => (listed.setIfInBounds i true).getD j false) l.length + 1) (G (b.at a (.inRegion l.toArray (i :: Region.linearise.go .any l.toArray fuel t (listed.setIfInBounds i true) []) :: k)) cs) w)
    (hE : ∀ (listed : Array Bool) (a : Act), (∀ i, i < l.length → listed.getD i false = true) → Jd l n g vals ds listed a → (∀ j, sp.contains j = true → listed.getD j false = false) → Goes P x R D Stop m (G (b.at a (.inRegion l.toArray [] :: k)) cs) w) :
    Goes P x R D Stop (m + l.length + 1) (G (b.at a (.code (.region id l.toArray true) :: k)) cs) w := by
  refine Goes.step rfl fun w₁ h₁ => ?_
  rw [stepG_region_draw]
  refine ⟨T.letd _, ?_⟩
  simp only [Region.schedule, hm, Bool.true_or, if_true]
  have := Gz.any T.toTms K hk hb hn hn2 hd hq hdst (fun listed => ∀ j, sp.contains j = true → listed.getD j false = false) (fun listed i hi h j hj => by
      have hij : i ≠ j := fun e => by rw [e, hj] at hi; cases hi
      rw [getD_set_ne _ hij]; exact h j hj) (fun i fuel t listed a h1 h2 h3 h4 h5 h6 h7 => hS i fuel t listed a h1 h4 ⟨h2, h3, h5, h6⟩ h7) hE l.toArray.size (w₁.tape w₁.drawn (.order b.fn id)) (Array.replicate l.toArray.size false) a (by simp) (by
      rw [left_congr (g := fun _ => false) fun i _ => repl_false _ _, left_false]; simp) (fun j o _ hj => by
      have hj' : (Array.replicate l.toArray.size false).getD j false = true := hj
      rw [repl_false] at hj'
      cases hj') (by simpa using Jd.begin (vals := vals) hT) (fun j _ => repl_false _ _)
  rw [left_congr (g := fun _ => false) fun i _ => repl_false _ _, left_false] at this
  exact this.rely T.trans (T.trans _ _ _ h₁ (T.draw _ _))
/-- BEHIND A SPECIAL OPERATION: on, with the values told anew. -/
theorem Gz.more (T : Tmd R D) (K : Ken P R D C w) (hk : b.kind ≠ .early) (hb : befB l bf = true) (hn : dstsN l = true) (hn2 : dstsB l.toArray n = true) {vals' : List Value} (hd : dra P C l bf sp H vals' g rds l 0 = some (vals', qs)) (hq : ∀ q ∈ qs, q)
    (hdst : ∀ (i : Nat) (o : Oper), l[i]? = some o → sp.contains i = false → ∃ d, o.dst = some d) {i : Nat} {fuel t : Nat} {listed : Array Bool} {a : Act} (hM : Mid l n g vals ds i listed a) (hlf : left (fun j => (listed.setIfInBounds i true).getD j false) l.length ≤ fuel)
    (hone : sp = [i]) {o : Oper} (ho : l[i]? = some o) {u : Value} (hput : ∀ d, o.dst = some d → vals'.getD i undef = u) (hsame : ∀ (j : Nat), listed.getD j false = true → vals'.getD j undef = vals.getD j undef)
    (hE : ∀ (listed : Array Bool) (a : Act), (∀ i, i < l.length → listed.getD i false = true) → Jd l n g vals' ds listed a → Goes P x R D Stop m (G (b.at a (.inRegion l.toArray [] :: k)) cs) w) :
    Goes P x R D Stop (m + left (fun j => (listed.setIfInBounds i true).getD j false) l.length) (G (b.at (a.put o.dst u) (.inRegion l.toArray (Region.linearise.go .any l.toArray fuel t (listed.setIfInBounds i true) []) :: k)) cs) w := by
  have hJ1 : Jd l n g vals' ds listed a := hM.jd.tell fun j o d _ _ h3 => hsame j h3
  have hil : i < l.length := (List.getElem?_eq_some_iff.1 ho).1
  have hJ2 : Jd l n g vals' ds (listed.setIfInBounds i true) (a.put o.dst u) := by
    cases hdo : o.dst with
    | none =>
      refine ⟨hJ1.size, hJ1.dfr, hJ1.old, fun j oj d hj hdj hl => ?_⟩
      have hij : i ≠ j := fun e => by
        subst e
        rw [ho] at hj
        rw [← Option.some.inj hj, hdo] at hdj
        cases hdj
      rw [getD_set_ne _ hij] at hl
      exact hJ1.new j oj d hj hdj hl
    | some d =>
      have := hJ1.put hn ho hdo (dsts_ok hn2 i d (by simp [ho, hdo])) hM.size
      rw [hput d hdo] at this
      exact this
  refine Gz.any T.toTms K hk hb hn hn2 hd hq hdst (fun listed => i < listed.size ∧ listed.getD i false = true) (fun listed j _ h => ⟨by simpa using h.1, ?_⟩) (fun i' fuel t listed' a h1 h2 h3 h4 h5 h6 h7 => ?_) (fun listed a h1 h2 _ => hE listed a h1 h2) fuel t (listed.setIfInBounds i true) (a.put o.dst u) (by simpa using hM.size) hlf (closed_put hM.closed hM.rdy) hJ2 ⟨by simpa using (by rw [hM.size]; exact hil), ?_⟩
  · by_cases e : j = i
    · subst e
      rw [Array.getD_eq_getD_getElem?, Array.getElem?_setIfInBounds_self_of_lt h.1]; rfl
    · rw [getD_set_ne _ e]; exact h.2
  · have e : i' = i := by rw [hone] at h1; simpa using h1
    subst e
    obtain ⟨h8, _⟩ := mem_ready.1 h2
    have h9 := h7.2
    rw [Array.getD_eq_getD_getElem?, Array.getElem?_eq_getElem h7.1] at h8 h9
    rw [Option.getD_some] at h8 h9
    rw [h8] at h9
    cases h9
  · rw [Array.getD_eq_getD_getElem?, Array.getElem?_setIfInBounds_self_of_lt (by rw [hM.size]; exact hil)]; rfl
end
end Go.Proofs.Ytdmiilgdkmbmeaa.Rg
namespace Go.Proofs.Ytdmiilgdkmbmeaa.Rg
open Go Go.Conc
open Go.ConcN (sumTo upd sumTo_upd upd_ne upd_same)

structure Pd (Shun : Loc → Prop) (B W d : Nat) (t : Trace) : Prop where
  clean : ∀ said, ¬ Race said t
  known : ∀ i a, touchAt t i = some a → a.loc.isMemory = true → Knows t 0 i ∨ (Shun a.loc ∧ a.kind = .atomic)
  over : t.HandedOver
  deaf : Deaf t 0 = d
  seen : ∀ op ∈ t, op.act.low B
  norel : NoRelease ⟨W, 0, none⟩ t
def EvD (Shun : Loc → Prop) (B W : Nat) (e : Event) : Prop := (∀ x, (MemAct.ofEvent e).touch? = some x → Shun x.loc → x.kind ≠ .plain) ∧ (MemAct.ofEvent e).low B ∧ e.loc ≠ .mark (.release ⟨W, 0, none⟩)
section
variable {P : Program} {Shun : Loc → Prop} {B W d : Nat} {t u : Trace}

theorem rel_of_act {e : Event} {a : Addr} (h : MemAct.ofEvent e = .mark (.release a)) : e.loc = .mark (.release a) := by
  obtain ⟨loc, wr, sy⟩ := e
  cases loc <;> cases wr <;> cases sy <;> simp_all [MemAct.ofEvent]
theorem Pd.of_past (h : Past Shun B t) (hW : B ≤ W) {B' : Nat} (hB : B ≤ B') : Pd Shun B' W 0 t :=
  ⟨h.clean, h.known, h.over, h.hears, fun op hop => MemAct.low_mono hB (h.seen op hop), fun i hi => by
    unfold Trace.act? at hi
    obtain ⟨op, hop, e⟩ := Option.map_eq_some_iff.1 hi
    have := h.seen op (Array.mem_of_getElem? hop)
    rw [e] at this
    have h2 : W < B := this
    omega⟩
theorem Pd.past (h : Pd Shun B W 0 t) : Past Shun B t := ⟨h.clean, h.known, h.over, h.deaf, h.seen⟩
theorem over0 (h : t.HandedOver) (hu : ∀ op ∈ u, op.g = 0 ∨ op.act.touch? = none) : (t ++ u).HandedOver := by
  intro i g hg hne hc
  obtain ⟨x, hx, hm⟩ := hc
  obtain ⟨op, hop, hox⟩ := touch_of hx
  rcases getElem?_append_cases hop with ⟨hi, _⟩ | ⟨_, hopu⟩
  · obtain ⟨j, hj, hb⟩ := h i g (by rw [← g?_old (u := u) hi]; exact hg) hne ((counts_old hi).1 ⟨x, hx, hm⟩)
    exact ⟨j, g_app hj, hb_app u hb⟩
  · rcases hu op hopu with h1 | h1
    · have e : (t ++ u).g? i = some op.g := by simp [Trace.g?, hop]
      rw [hg, h1] at e
      exact absurd (Option.some.inj e) hne
    · rw [h1] at hox; cases hox
/-- Its own operations. -/
theorem Pd.own (h : Pd Shun B W d t) (fn : FuncId) (pos : String) {es : Array Event} (hes : ∀ e ∈ es, EvD Shun B W e) : Pd Shun B W (deafBehind d es) (t ++ MemOp.ofEvents 0 fn pos es) := by
  have g0 : ∀ op ∈ MemOp.ofEvents 0 fn pos es, op.g = 0 := fun op hop => by obtain ⟨e, _, rfl⟩ := mem_evs hop; rfl
  refine ⟨fun said => noRace_append (h.clean said) g0 fun i a ha op hop b hb hc => ?_, fun i a ha hm => ?_, over0 h.over fun op hop => .inl (g0 op hop), ?_, fun op hop => ?_, h.norel.app fun op hop e => ?_⟩
  · obtain ⟨e, he, rfl⟩ := mem_evs hop
    rcases h.known i a ha hc.2.1 with hk | ⟨h1, h2⟩
    · exact hk
    · have h3 := (hes e he).1 b hb (hc.1 ▸ h1)
      obtain ⟨_, _, _, h4⟩ := hc
      rw [h2] at h4
      rcases h4 with x | x | ⟨_, x, _⟩
      · cases x
      · exact absurd x h3
      · cases x
  · obtain ⟨x, hx, hxa⟩ := touch_of ha
    rcases getElem?_append_cases hx with ⟨_, hx'⟩ | ⟨_, hxu⟩
    · exact (h.known i a (by rw [touchAt_of hx']; exact hxa) hm).imp (·.app _) id
    · have := knows_own hx
      rw [g0 x hxu] at this
      exact .inl this
  · rw [Deaf_own, h.deaf]
  · rcases Array.mem_append.1 hop with hop | hop
    · exact h.seen op hop
    · obtain ⟨e, he, rfl⟩ := mem_evs hop
      exact (hes e he).2.1
  · obtain ⟨ev, he, rfl⟩ := mem_evs hop
    exact (hes ev he).2.2 (rel_of_act e)
/-- Others' that touch nothing. -/
theorem Pd.mute (h : Pd Shun B W d t) {g : Nat} (hg : g ≠ 0) (fn : FuncId) (pos : String) {es : Array Event} (hm : ∀ e ∈ es, e.mute = true) : Pd Shun B W d (t ++ MemOp.ofEvents g fn pos es) := by
  have hn : ∀ op ∈ MemOp.ofEvents g fn pos es, op.act.touch? = none := fun op hop => by obtain ⟨e, he, rfl⟩ := mem_evs hop; exact touch_mute (hm e he)
  refine ⟨fun said => noRace_appendMute (h.clean said) hn, fun i a ha hmm => ?_, over0 h.over fun op hop => .inr (hn op hop), ?_, fun op hop => ?_, h.norel.app fun op hop e => ?_⟩
  · obtain ⟨x, hx, hxa⟩ := touch_of ha
    rcases getElem?_append_cases hx with ⟨_, hx'⟩ | ⟨_, hxu⟩
    · exact (h.known i a (by rw [touchAt_of hx']; exact hxa) hmm).imp (·.app _) id
    · rw [hn x hxu] at hxa; cases hxa
  · rw [Deaf_other t hg _ (fun op hop => by obtain ⟨e, _, rfl⟩ := mem_evs hop; rfl), h.deaf]
  · rcases Array.mem_append.1 hop with hop | hop
    · exact h.seen op hop
    · obtain ⟨e, he, rfl⟩ := mem_evs hop
      exact low_mute (hm e he) _
  · obtain ⟨ev, he, rfl⟩ := mem_evs hop
    have h1 := rel_of_act e
    have h2 := hm ev he
    obtain ⟨loc, wr, sy⟩ := ev
    simp only at h1
    subst h1
    simp [Event.mute] at h2

section
variable {gs : Array Goroutine} {a : Goroutine} {w : World} {q : Nat → Nat}
/-- The machine's next step: goroutine 0's, or another one's that only leaves. -/
theorem lone_pick (h0 : gs[0]? = some a) (hrun : a.status = .running) (hL : Leavers P t gs q) (sl : Option (Nat × Nat)) : ∃ (dr : Nat) (sl' : Option (Nat × Nat)), stepT P (crowd gs w sl) = runT P (crowd gs (w.at dr) sl') 0 ∨
    ∃ (gs' : Array Goroutine) (q' : Nat → Nat) (g : Nat) (fn : FuncId) (pos : String) (es : Array Event), stepT P (crowd gs w sl) = (.next (crowd gs' (w.at dr) sl'), MemOp.ofEvents g fn pos es) ∧ gs'.size = gs.size ∧ gs'[0]? = some a ∧ g ≠ 0 ∧ (∀ e ∈ es, e.mute = true) ∧
      Leavers P (t ++ MemOp.ofEvents g fn pos es) gs' q' ∧ sumTo gs.size q' < sumTo gs.size q := by
  have haw : ∀ g ∈ gs, awake g := by
    intro g hg
    obtain ⟨i, hi⟩ := Array.mem_iff_getElem?.1 hg
    rcases Nat.eq_zero_or_pos i with rfl | hpos
    · rw [h0] at hi
      rw [← Option.some.inj hi]
      exact awake_of (.inl hrun)
    · exact awake_of ((hL.old i g hpos hi).status.elim .inl fun x => .inr (.inr x))
  obtain ⟨i, g, dr, sl', hi, hg, hst⟩ := crowd_pick (P := P) (w := w) (sl := sl) haw ⟨0, a, h0, hrun⟩
  rcases Nat.eq_zero_or_pos i with rfl | hpos
  · exact ⟨dr, sl', .inl hst⟩
  · have hq := hL.old i g hpos hi
    have hlt := size_lt hi
    have hi0 : (i == 0) = false := by simp; omega
    cases hqi : q i with
    | zero => rw [hqi] at hq; rw [hq.1] at hg; cases hg
    | succ k =>
      rw [hqi] at hq
      rcases hq with ⟨hf, _⟩ | ⟨_, g', es, hm, hstp, hq'⟩
      · rw [hf] at hg; cases hg
      have hrunT := runT_crowd_go (P := P) (sl := sl') (i := i) hi (by rw [hi0]; exact hstp (w.at dr))
      have hmem : ∀ op ∈ MemOp.ofEvents i g.frame.fn g.frame.place es, op.g = i := fun op hop => by obtain ⟨e, _, rfl⟩ := mem_evs hop; rfl
      refine ⟨dr, sl', .inr ⟨_, upd q i k, i, g.frame.fn, g.frame.place, es, hst.trans hrunT, by simp, ?_, by omega, hm, ⟨fun j x hj hx => ?_, fun j hj => ?_⟩, ?_⟩⟩
      · rw [get_set_ne _ _ (show i ≠ 0 by omega), h0]
        simp [woken_run hrun]
      · by_cases e : i = j
        · subst e
          rw [get_set _ _ hlt] at hx
          obtain rfl := Option.some.inj hx
          rw [upd_same, Deaf_own]
          exact hq'
        · rw [get_set_ne _ _ e] at hx
          obtain ⟨y, hy, rfl⟩ := Option.map_eq_some_iff.1 hx
          have h2 := hL.old j y hj hy
          rw [woken_quitsD h2, upd_ne q k (Ne.symm e), Deaf_other t e _ hmem]
          exact h2
      · have hj' : gs.size ≤ j := by simpa using hj
        rw [Deaf_other t (show i ≠ j by omega) _ hmem]
        exact hL.above j hj'
      · have h2 : sumTo gs.size (upd q i k) + q i = sumTo gs.size q + k := sumTo_upd q k id hlt
        omega
/-- Goroutine 0's own step. -/
theorem lone_own (h0 : gs[0]? = some a) (hL : Leavers P t gs q) {a' : Goroutine} {w' : World} {es : Array Event} (sl : Option (Nat × Nat)) (hgo : stepG P true a w = .go a' w' es) :
    ∃ gs', runT P (crowd gs w sl) 0 = (.next (crowd gs' w' sl), MemOp.ofEvents 0 a.frame.fn a.frame.place es) ∧ gs'.size = gs.size ∧ gs'[0]? = some a' ∧ Leavers P (t ++ MemOp.ofEvents 0 a.frame.fn a.frame.place es) gs' q := by
  have hlt := size_lt h0
  have hmem : ∀ op ∈ MemOp.ofEvents 0 a.frame.fn a.frame.place es, op.g = 0 := fun op hop => by obtain ⟨e, _, rfl⟩ := mem_evs hop; rfl
  refine ⟨_, runT_crowd_go (P := P) (sl := sl) (i := 0) h0 (show stepG P (0 == 0) a w = _ from hgo), by simp, get_set _ _ hlt, fun j x hj hx => ?_, fun j hj => ?_⟩
  · rw [get_set_ne _ _ (show 0 ≠ j by omega)] at hx
    obtain ⟨y, hy, rfl⟩ := Option.map_eq_some_iff.1 hx
    have h2 := hL.old j y hj hy
    rw [woken_quitsD h2, Deaf_other t (show 0 ≠ j by omega) _ hmem]
    exact h2
  · have hj' : gs.size ≤ j := by simpa using hj
    rw [Deaf_other t (show 0 ≠ j by omega) _ hmem]
    exact hL.above j hj'

/-- What a walk's step may list, where nobody's hearing turns. -/
def DL (Shun : Loc → Prop) (B W : Nat) (_ _ : World) (es : Array Event) : Prop := ∀ e ∈ es, EvD Shun B W e ∧ e.loc ≠ .mark .disable ∧ e.loc ≠ .mark .enable
theorem tmdL : Tmd AtRel (DL Shun B W) where
  trans := atRel_trans
  idle := fun w e he => by simp at he
  draw := fun w d => by exact ⟨_, rfl⟩
  letd := fun w e he => by simp at he
/-- IT WALKS. -/
theorem lone_walk {Stop : Goroutine → World → Prop} : ∀ (M n : Nat) (gs : Array Goroutine) (a : Goroutine) (w : World) (sl : Option (Nat × Nat)) (t : Trace) (q : Nat → Nat), n + sumTo gs.size q ≤ M → gs[0]? = some a → Leavers P t gs q → Pd Shun B W d t → Goes P true AtRel (DL Shun B W) Stop n a w → (∀ g w, Stop g w → g.status = .running) →
    ∃ (N : Nat) (gs' : Array Goroutine) (a' : Goroutine) (w' : World) (sl' : Option (Nat × Nat)) (t' : Trace) (q' : Nat → Nat), runNT P N (crowd gs w sl) t = (.next (crowd gs' w' sl'), t') ∧ gs'.size = gs.size ∧ gs'[0]? = some a' ∧ (∀ w₁, AtRel w' w₁ → Stop a' w₁) ∧ Leavers P t' gs' q' ∧ Pd Shun B W d t' := by
  intro M
  induction M with
  | zero =>
    intro n gs a w sl t q hM h0 hL hP hG _
    obtain rfl : n = 0 := by omega
    exact ⟨0, gs, a, w, sl, t, q, rfl, rfl, h0, hG, hL, hP⟩
  | succ M ih =>
    intro n gs a w sl t q hM h0 hL hP hG hR
    by_cases hs : ∀ w₁, AtRel w w₁ → Stop a w₁
    · exact ⟨0, gs, a, w, sl, t, q, rfl, rfl, h0, hs, hL, hP⟩
    cases n with
    | zero => exact absurd hG hs
    | succ n =>
      rcases hG with hs' | ⟨hrun, hstep⟩
      · exact absurd hs' hs
      obtain ⟨dr, sl', hp⟩ := lone_pick (w := w) h0 hrun hL sl
      rcases hp with hp | ⟨gs', q', g, fn, pos, es, hp, hz, h0', hg, hm, hL', hlt⟩
      · have hk := hstep (w.at dr) ⟨dr, rfl⟩
        obtain ⟨a', w', es, hgo, hD, hG'⟩ := goes_elim hk
        obtain ⟨gs', hr, hz, h0', hL'⟩ := lone_own h0 hL sl' hgo
        have hP' := hP.own a.frame.fn a.frame.place (es := es) fun e he => (hD e he).1
        rw [deafBehind_still (fun e he => (hD e he).2) d] at hP'
        obtain ⟨N, gs'', a'', w'', sl'', t'', q'', h1, h2, h3, h4, h5, h6⟩ := ih n gs' a' w' sl' _ q (by rw [hz]; omega) h0' hL' hP' hG' hR
        exact ⟨N + 1, gs'', a'', w'', sl'', t'', q'', by rw [runNT_succ_next (hp.trans hr)]; exact h1, h2.trans hz, h3, h4, h5, h6⟩
      · obtain ⟨N, gs'', a'', w'', sl'', t'', q'', h1, h2, h3, h4, h5, h6⟩ := ih (n + 1) gs' a (w.at dr) sl' _ q' (by rw [hz]; omega) h0' hL' (hP.mute hg fn pos hm) (Goes.rely atRel_trans (.inr ⟨hrun, hstep⟩) ⟨dr, rfl⟩) hR
        exact ⟨N + 1, gs'', a'', w'', sl'', t'', q'', by rw [runNT_succ_next hp]; exact h1, h2.trans hz, h3, h4, h5, h6⟩
/-- ITS NEXT STEP, whatever it is: the machine comes to it. -/
theorem lone_turn (hrun : a.status = .running) : ∀ (M : Nat) (gs : Array Goroutine) (w : World) (sl : Option (Nat × Nat)) (t : Trace) (q : Nat → Nat), sumTo gs.size q ≤ M → gs[0]? = some a → Leavers P t gs q → Pd Shun B W d t →
    ∃ (N : Nat) (gs' : Array Goroutine) (dr : Nat) (sl₁ sl' : Option (Nat × Nat)) (t' : Trace) (q' : Nat → Nat), runNT P N (crowd gs w sl) t = (.next (crowd gs' (w.at dr) sl₁), t') ∧ gs'.size = gs.size ∧ gs'[0]? = some a ∧ Leavers P t' gs' q' ∧ Pd Shun B W d t' ∧
      ∃ dr', stepT P (crowd gs' (w.at dr) sl₁) = runT P (crowd gs' (w.at dr') sl') 0 := by
  intro M
  induction M with
  | zero =>
    intro gs w sl t q hM h0 hL hP
    obtain ⟨dr, sl', hp⟩ := lone_pick (w := w) h0 hrun hL sl
    rcases hp with hp | ⟨gs', q', g, fn, pos, es, hp, hz, h0', hg, hm, hL', hlt⟩
    · exact ⟨0, gs, w.drawn, sl, sl', t, q, rfl, rfl, h0, hL, hP, dr, hp⟩
    · omega
  | succ M ih =>
    intro gs w sl t q hM h0 hL hP
    obtain ⟨dr, sl', hp⟩ := lone_pick (w := w) h0 hrun hL sl
    rcases hp with hp | ⟨gs', q', g, fn, pos, es, hp, hz, h0', hg, hm, hL', hlt⟩
    · exact ⟨0, gs, w.drawn, sl, sl', t, q, rfl, rfl, h0, hL, hP, dr, hp⟩
    · obtain ⟨N, gs'', dr2, sl₁, sl'', t'', q'', h1, h2, h3, h4, h5, dr3, h6⟩ := ih gs' (w.at dr) sl' _ q' (by rw [hz]; omega) h0' hL' (hP.mute hg fn pos hm)
      exact ⟨N + 1, gs'', dr2, sl₁, sl'', t'', q'', by rw [runNT_succ_next hp]; exact h1, h2.trans hz, h3, h4, h5, dr3, h6⟩
/-- A step that says a word. -/
theorem lone_say (hrun : a.status = .running) {a' : Goroutine} {es : Array Event} (hgo : ∀ w, stepG P true a w = .go a' w es) (hes : ∀ e ∈ es, EvD Shun B W e) (h0 : gs[0]? = some a) (hL : Leavers P t gs q) (hP : Pd Shun B W d t) (sl : Option (Nat × Nat)) :
    ∃ (N : Nat) (gs' : Array Goroutine) (dr : Nat) (sl' : Option (Nat × Nat)) (t' : Trace) (q' : Nat → Nat), runNT P N (crowd gs w sl) t = (.next (crowd gs' (w.at dr) sl'), t') ∧ gs'.size = gs.size ∧ gs'[0]? = some a' ∧ Leavers P t' gs' q' ∧ Pd Shun B W (deafBehind d es) t' := by
  obtain ⟨N, gs', dr, sl₁, sl', t', q', h1, h2, h3, h4, h5, dr', h6⟩ := lone_turn hrun _ gs w sl t q (Nat.le_refl _) h0 hL hP
  obtain ⟨gs'', hr, hz, h0', hL'⟩ := lone_own h3 h4 sl' (hgo (w.at dr'))
  refine ⟨N + 1, gs'', dr', sl', _, q', ?_, hz.trans h2, h0', hL', h5.own _ _ hes⟩
  rw [runNT_add, h1]
  simp only
  rw [runNT_succ_next (h6.trans hr)]
  rfl
end
end
end Go.Proofs.Ytdmiilgdkmbmeaa.Rg
