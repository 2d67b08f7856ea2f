/-
  SCORE: a text read: the whole. Plain ones. (Printed by wip/pm.) | SCORE: strings.IndexAny at ASCII texts; one plain text read. | ScoreMoved: walk. (Printed by wip/pm.) | THE VALUE MACHINE (Open): whatever came in, by its type: numbers, truth values, floats, strings, slices and structs of such, as deep as they are. | What came in, at its types: lists of numbers, lists of such; how much they hold. | SCORE: items, bars, voices that came in.
-/
import Derived.Test.YtmlnilkbolcknaaGreatDoorJLawSVMoved5
import Derived.Test.YtmlnilkbolcknaaGreatDoorJLawSVMoved2
import Derived.Shelf.Strings.IndexAnyAll
import Derived.Test.YtmlnilkbolcknaaGreatDoorJLawSVMoved4
import Derived.Test.YtmlnilkbolcknaaGreatDoorJLawSVMoved3
namespace Go.Proofs.YtmlnilkbolcknaaGreatDoor.Pm
open Go Go.Proofs.YtmlnilkbolcknaaGreatDoor.Pi

/-- What comes out of a reading. -/
def resR (q : Int × List Vo × Nat) : PV := .tup [.ssl (vos q.2.1) 0 q.2.1.length, .agg [iv q.1, iv ((q.2.2 : Nat) : Int)]]
def RF (s : Txt) (c0 : Cx) (Bor : Nat → Prop) : Ending → World → Prop := fun e w' => ∃ v c', e = .returned v ∧ c'.w = w' ∧ Heap ⟨Tryz.prog, 0, c0, ⟨Bor, []⟩⟩ (· < 0) c' (fun _ => none) ∧ Rep Tryz.prog c' (resR (qoe s)) v
/-- How it ends, the literal and all. -/
def QF (s : Txt) (c0 : Cx) (Bor : Nat → Prop) : Post := fun e cx a => match e with
 | .normal => Leaves Tryz.prog Tryz.f15 a.tmps (RF s c0 Bor) a.defers .returning cx.w
 | .ret => Leaves Tryz.prog Tryz.f15 a.tmps (RF s c0 Bor) a.defers .returning cx.w
 | .panic ch => Leaves Tryz.prog Tryz.f15 a.tmps (RF s c0 Bor) a.defers (.panicking ch) cx.w
 | _ => False
theorem fin_ret {s : Txt} {c0 : Cx} {Bor : Nat → Prop} {m : Nat} {cx : Cx} {a : Act} {l : L} {r : PV} (hc0 : ∀ i x, c0.own i = some x → i < 0) (hI : Inv ⟨Tryz.prog, Tryz.f15.ntmps, c0, ⟨Bor, []⟩⟩ (· < m) cx (get l) a)
  (hr : runv (get l) (resP Tryz.prog Tryz.f15.results.toList fun ps => .done (qzo ps) []) = some (r, [])) (hd : dsh r = true) (he : r = resR (qoe s)) : QF s c0 Bor .ret cx a := by
 obtain ⟨v, h1, h2⟩ := qbc hr cx a hI
 show Leaves Tryz.prog Tryz.f15 a.tmps (RF s c0 Bor) a.defers .returning cx.w
 rw [show a.defers = [] from hI.dfr]
 exact ⟨v, h1, v, ⟨cx.w, cx.S, c0.own⟩, rfl, rfl, (hI.toHeap.bare hc0).envD, by rw [← he]; exact .sh (qzs (c := cx) h2 hd)⟩
theorem rf_of {s : Txt} {c0 : Cx} {Bor : Nat → Prop} {c' : Cx} {r : PV} {v : Value} {own2 : Nat → Option (Option Nat × TypeId)} (h : Heap ⟨Tryz.prog, 0, c0, ⟨Bor, []⟩⟩ (· < 0) ⟨c'.w, c'.S, c0.own⟩ (fun _ => none)) (hr : Rep Tryz.prog ⟨c'.w, c'.S, own2⟩ r v) (hd : dsh r = true) (he : r = resR (qoe s)) : RF s c0 Bor (.returned v) c'.w :=
 ⟨v, ⟨c'.w, c'.S, c0.own⟩, rfl, rfl, h, by rw [← he]; exact .sh (qzs (c := ⟨c'.w, c'.S, own2⟩) hr hd)⟩
set_option maxRecDepth 100000 in
set_option maxHeartbeats 4000000 in
theorem qxh {s : Txt} (hs : s.length ≤ 65536) (hr : RdyP s) {o0 o1 o3 : Array Oper} {c2 rest : Code} (hb : Tryz.f15.body = some (.seq (.region 0 o0 false) (.seq (.seq (.region 1 o1 false) c2) (.seq (.region 3 o3 false) rest)))) {c0 : Cx} {Bor : Nat → Prop} (hc0 : ∀ i x, c0.own i = some x → i < 0)
  {n0 i1 : Nat} {l : L} (hi1 : Nat.blt 0 i1 = true) (g0 : get l (ks 0) = some (.pv (sv (st s)))) (g2 : get l (ks 2) = some (.pv (.opt 0 0))) (g3 : get l (ks 3) = some (.pv (.opt i1 0))) (g9 : get l (ks 9) = none) (gb0 : get l (kb 0) = some (.blk 22 [.av (.slice none 0 0)])) (gb1 : get l (kb i1) = some (.blk 33 [iv 0, iv 0])) :
  T Tryz.prog Tryz.f15.ntmps c0 ⟨Bor, []⟩ (QF s c0 Bor) n0 l [.code (.seq (.region 3 o3 false) rest)] := by
 intro cx a hI
 have ho3 : o3 = #[{ dst := some 9, op := .makeFunc (.func 37) #[] #[.tmp 2, .tmp 3], type := 1, pos := "read.go:213", after := #[], guard := none }, { dst := none, op := .defer { callee := .value (.tmp 9), args := #[], argTypes := #[] }, type := 0, pos := "read.go:213", after := #[{ on := 0, ground := .data }], guard := none }] := by cases hb; rfl
 have hv2 : ∃ b T, cx.own 0 = some (some b, T) ∧ a.tmps.getD 2 undef = .pointer (some ⟨b, 0, none⟩) := qdk (hI.slot 2 _ g2)
 have hv3 : ∃ b T, cx.own i1 = some (some b, T) ∧ a.tmps.getD 3 undef = .pointer (some ⟨b, 0, none⟩) := qdk (hI.slot 3 _ g3)
 obtain ⟨b2, T2, hown2, hp2⟩ := hv2
 obtain ⟨b3, T3, hown3, hp3⟩ := hv3
 have hsz : a.tmps.size = Tryz.f15.ntmps := hI.tmps
 show (Code.seq (.region 3 o3 false) rest).wp Tryz.prog _ a cx.w
 refine wp_seq (wp_region ?_)
 subst ho3
 show wpOps Tryz.prog _ _ [0, 1] a cx.w
 refine wp_one (o := { dst := some 9, op := .makeFunc (.func 37) #[] #[.tmp 2, .tmp 3], type := 1, pos := "read.go:213", after := #[], guard := none }) rfl rfl ?_
 unfold Oper.wp
 rw [show (execOp a.eval ({ dst := some 9, op := .makeFunc (.func 37) #[] #[.tmp 2, .tmp 3], type := 1, pos := "read.go:213", after := #[], guard := none } : Oper)).run Tryz.prog cx.w = .ok (.value (.func (.func 37) #[] #[a.tmps.getD 2 undef, a.tmps.getD 3 undef])) cx.w from by simp [execOp, Instr.makeFunc, Act.eval], Oper.upon_value]
 refine wp_one (o := { dst := none, op := .defer { callee := .value (.tmp 9), args := #[], argTypes := #[] }, type := 0, pos := "read.go:213", after := #[{ on := 0, ground := .data }], guard := none }) rfl rfl ?_
 unfold Oper.wp
 generalize hd : ({ target := .fn (.func 37) #[a.tmps.getD 2 undef, a.tmps.getD 3 undef], args := #[] } : Deferred) = d
 have he9 : (a.put (some 9) (.func (.func 37) #[] #[a.tmps.getD 2 undef, a.tmps.getD 3 undef])).eval (.tmp 9) = .func (.func 37) #[] #[a.tmps.getD 2 undef, a.tmps.getD 3 undef] := by
  show (a.put (some 9) _).tmps.getD 9 undef = _
  rw [qse _ _ _ _ (by rw [hsz]; exact Nat.lt_of_lt_of_le (Nat.lt_succ_self 9) (Nat.le_of_ble_eq_true rfl)), if_pos rfl]
 rw [qzl (f := .func 37) (fs := #[]) (cs := #[a.tmps.getD 2 undef, a.tmps.getD 3 undef]) rfl he9, hd, Oper.upon_defer]
 show rest.wp Tryz.prog _ _ cx.w
 have hdf : a.defers = [] := hI.dfr
 have hsame : ∀ s p, get l (ks s) = some (.pv p) → (a.put (some 9) (.func (.func 37) #[] #[a.tmps.getD 2 undef, a.tmps.getD 3 undef])).tmps.getD s undef = a.tmps.getD s undef := fun s p hp => by
  rw [qse _ _ _ _ (by rw [hsz]; exact Nat.lt_of_lt_of_le (Nat.lt_succ_self 9) (Nat.le_of_ble_eq_true rfl)), if_neg (fun e => by subst e; rw [g9] at hp; cases hp)]
 have hI1 := lend_two (a2 := { a.put (some 9) (.func (.func 37) #[] #[a.tmps.getD 2 undef, a.tmps.getD 3 undef]) with defers := d :: a.defers }) (rest := [((0 : Nat), (sv (st s)))]) hI hi1 gb0 gb1 (fun _ => rfl) (fun _ => rfl) g2 g3 (qui _ _ _) hsame (fun x hx => by rw [List.mem_singleton.1 hx]; exact ⟨g0, fun _ => rfl⟩)
 have hc1 : ∀ i x, (cx.via (sigi [0, i1] n0)).own i = some x → i < 2 := fun i x hx => hI1.ids i x (hI1.keep.own i x hx)
 have key := qzw s hs hr hb _ _ hc1 _ _ hI1
 refine wp_mono key ?_
 rintro e a3 w3 ⟨cx3, rfl, m, l3, hI3, q2, q3, q1, hcase⟩
 rw [hdf] at hI3
 have hbk : ∀ (nx : Nat → Prop) (c' : Cx) (g' : St), Heap ⟨Tryz.prog, Tryz.f15.ntmps, cx.via (sigi [0, i1] n0), ⟨(cEnv Tryz.prog (cx.via (sigi [0, i1] n0)) [some (22, [.av (.slice none 0 0)]), some (33, [iv 0, iv 0])]).Bor.bor, [d]⟩⟩ nx c' g' → Heap ⟨Tryz.prog, 0, c0, ⟨Bor, []⟩⟩ (· < 0) ⟨c'.w, c'.S, c0.own⟩ (fun _ => none) := fun nx c' g' h => back_two hI hi1 gb0 gb1 (fun _ => rfl) (fun _ => rfl) hc0 h
 have hold : ∀ i b T, (cx.via (sigi [0, i1] n0)).own i = some (some b, T) → cx3.own i = some (some b, T) := fun i b T h => hI3.keep.own i _ h
 have hw2 : a3.tmps.getD 2 undef = a.tmps.getD 2 undef := by
  obtain ⟨b, T, h1, h2⟩ := qdk (hI3.slot 2 _ q2)
  rw [hold 0 b2 T2 hown2] at h1
  cases h1
  rw [h2, hp2]
 have hw3 : a3.tmps.getD 3 undef = a.tmps.getD 3 undef := by
  obtain ⟨b, T, h1, h2⟩ := qdk (hI3.slot 3 _ q3)
  rw [hold 1 b3 T3 hown3] at h1
  cases h1
  rw [h2, hp3]
 have hP : qoe s = rdP s := if_neg (by omega)
 refine ⟨cx3, rfl, ?_⟩
 rcases hcase with ⟨rfl, hok, q0⟩ | ⟨rfl, hno, p, q0⟩
 ·show Leaves Tryz.prog Tryz.f15 a3.tmps (RF s c0 Bor) a3.defers .returning cx3.w
  refine qqw (fl := 37) (t0 := 2) (t1 := 3) (T0 := 22) (T1 := 33) (Y0 := [.ssl (vos (rdP s).2.1) 0 (rdP s).2.1.length]) (Y1 := [iv 0, iv 0]) (r := .tup [.ssl (vos (rdP s).2.1) 0 (rdP s).2.1.length, .agg [iv 0, iv 0]]) hI3 hd.symm hw2 hw3 q2 q3 q0 q1 (fun _ => rfl) (fun _ => rfl) (fun _ => rfl) (fun _ => rfl) (lit_nil (rdP s).2.1) (fun h => by cases h) rfl (by kernel_rfl) ?_
  intro v own2 c' hh hrep
  refine rf_of (c' := c') (hbk _ ⟨c'.w, c'.S, own2⟩ _ hh) hrep rfl ?_
  rw [hP]
  show _ = PV.tup [.ssl (vos (rdP s).2.1) 0 (rdP s).2.1.length, .agg [iv (rdP s).1, iv (((rdP s).2.2 : Nat) : Int)]]
  rw [hok, rdL_ok hok]
  rfl
 ·show Leaves Tryz.prog Tryz.f15 a3.tmps (RF s c0 Bor) a3.defers (.panicking _) cx3.w
  obtain ⟨v, hv, hh4⟩ := cell_av hI3.toHeap q0
  have hI4 : Inv ⟨Tryz.prog, Tryz.f15.ntmps, cx.via (sigi [0, i1] n0), ⟨(cEnv Tryz.prog (cx.via (sigi [0, i1] n0)) [some (22, [.av (.slice none 0 0)]), some (33, [iv 0, iv 0])]).Bor.bor, [d]⟩⟩ (· < m) cx3 (get ([(kb 0, some (.blk 22 [.av v]))] ++ l3)) a3 := by
   rw [qcg]
   exact hI3.keeps (Keep.refl _) hh4 fun s => by rw [qld]
  have hne : ∀ k, k ≠ kb 0 → get ([(kb 0, some (.blk 22 [.av v]))] ++ l3) k = get l3 k := fun k hk => by
   rw [qcg]
   exact qdl (by unfold hits lk; rw [if_neg (fun e => hk (Nat.eq_of_beq_eq_true e))]; rfl) _
  refine qqw (fl := 37) (t0 := 2) (t1 := 3) (T0 := 22) (T1 := 33) (X0 := [.av v]) (X1 := [iv 0, iv 0]) (Y0 := [.av (.slice none 0 0)]) (Y1 := [iv (rdP s).1, iv (((rdP s).2.2 : Nat) : Int)]) (r := .tup [.ssl [] 0 0, .agg [iv (rdP s).1, iv (((rdP s).2.2 : Nat) : Int)]]) hI4 hd.symm hw2 hw3 ((hne _ (by decide)).trans q2) ((hne _ (by decide)).trans q3) (by rw [qcg]; rfl) ((hne _ (by decide)).trans q1) (fun _ => rfl) (fun _ => rfl) (fun _ => rfl) (fun _ => rfl) (lit_pan v (rdP s).1 (((rdP s).2.2 : Nat) : Int)) (fun h => by cases h) rfl (by kernel_rfl) ?_
  intro v own2 c' hh hrep
  refine rf_of (c' := c') (hbk _ ⟨c'.w, c'.S, own2⟩ _ hh) hrep rfl ?_
  rw [hP]
  show _ = PV.tup [.ssl (vos (rdP s).2.1) 0 (rdP s).2.1.length, .agg [iv (rdP s).1, iv (((rdP s).2.2 : Nat) : Int)]]
  rw [rdL_no hno]
  rfl
set_option maxRecDepth 100000 in
set_option maxHeartbeats 4000000 in
theorem read_T (s : Txt) (hl : s.length ≤ 140737488351232) (hr : s.length ≤ 65536 → RdyP s) {code : Code} (hb : Tryz.f15.body = some code) (c0 : Cx) (Bor : Nat → Prop) (hc0 : ∀ i x, c0.own i = some x → i < 0) :
  T Tryz.prog Tryz.f15.ntmps c0 ⟨Bor, []⟩ (QF s c0 Bor) 0 [ps 0 (sv (st s))] [.code code] := by
 have hb0 := hb
 cases hb
 refine qaa ?_
 refine T_r mixed [] [ps 0 (sv (st s)), ps 2 (.opt 0 0), ps 3 (.opt 8 0), pb 0 22 [(.av (.slice none 0 0))], pb 8 33 [(iv 0), (iv 0)]] (oz) ?_
 refine qaa <| qaa ?_
 refine T_r mixed [] [ps 0 (sv (st s)), ps 2 (.opt 0 0), ps 3 (.opt 8 0), ps 7 (bv (decide (65536 < ((s.length : Nat) : Int)))), pb 0 22 [(.av (.slice none 0 0))], pb 8 33 [(iv 0), (iv 0)]] (oz) ?_
 by_cases h1 : 65536 < ((s.length : Nat) : Int)
 ·refine T_th (dty h1) ?_
  refine qaa ?_
  refine T_r mixed [] [ps 2 (.opt 0 0), ps 3 (.opt 8 0), pb 0 22 [(.av (.slice none 0 0))], pb 8 33 [(iv 4), (iv 0)]] (oz) ?_
  exact qai fun cx_ a_ hI_ => fin_ret hc0 hI_ (by kernel_rfl) rfl (by rw [show qoe s = (4, [], 0) from if_pos (by omega)])
 refine T_el (dtn h1) ?_
 refine qag ?_
 exact qxh (by omega) (hr (by omega)) hb0 hc0 (i1 := 8) (by rfl) (by rfl) (by rfl) (by rfl) (by rfl) (by rfl) (by rfl)
theorem qod (s : Txt) (hl : s.length ≤ 140737488351232) (hr : s.length ≤ 65536 → RdyP s) : PC Tryz.prog 15 [sv (st s)] [] (resR (qoe s)) [] := by
 refine ⟨qdo Tryz.func15 (by kernel_rfl) (by kernel_rfl), Nat.le_refl _, fun c vs hh hrl => calls_of_wp_defers Tryz.func15 rfl (wp_mono (qjg (H := []) (Q := QF s) (by kernel_rfl) rfl (fun c0 Bor hc0 => read_T s hl hr rfl c0 Bor hc0) c vs hh hrl) ?_)⟩
 have hR : ∀ e w', RF s c (cEnv Tryz.prog c []).Bor.bor e w' → ∃ v c', e = .returned v ∧ c'.w = w' ∧ Heap (cEnv Tryz.prog c []) (· < ([] : Hp).length) c' (hSt []) ∧ Rep Tryz.prog c' (resR (qoe s)) v := by
  rintro e w' ⟨v, c', rfl, rfl, h1, h2⟩
  exact ⟨v, c', rfl, rfl, h1.less fun i T cs hx => absurd hx (qvn (fun i => by simp) i T cs), h2⟩
 rintro e a' w' ⟨cx', rfl, h⟩
 cases e with
 | normal => exact qed hR h
 | ret => exact qed hR h
 | panic ch => exact qed hR h
 | exit id => exact h.elim
 | goto l => exact h.elim
 | outgrown => exact h.elim
end Go.Proofs.YtmlnilkbolcknaaGreatDoor.Pm
namespace Go.Proofs
open Go.Shelf

def Tryz.lays153_ren : Go.Shelf.Ren := ⟨fun | 153 => 106 | 152 => 135 | 226 => 136 | 227 => 84 | 228 => 115 | 137 => 156 | 119 => 157 | 224 => 158 | 225 => 159 | 217 => 172 | 266 => 184 | n => n, fun | 9 => 9 | 3 => 3 | 4 => 4 | 5 => 5 | 21 => 21 | 117 => 145 | 116 => 144 | 0 => 0 | 46 => 191 | 124 => 148 | n => n, fun | n => n⟩
theorem Tryz.lays153 : Go.Proofs.Lays.n153 Tryz.prog Tryz.lays153_ren := {
  mixed := by kernel_rfl,
  f119 := Tryz.func157.trans (congrArg some (by kernel_rfl)),
  f137 := Tryz.func156.trans (congrArg some (by kernel_rfl)),
  f152 := Tryz.func135.trans (congrArg some (by kernel_rfl)),
  f153 := Tryz.func106.trans (congrArg some (by kernel_rfl)),
  f217 := Tryz.func172.trans (congrArg some (by kernel_rfl)),
  f224 := Tryz.func158.trans (congrArg some (by kernel_rfl)),
  f225 := Tryz.func159.trans (congrArg some (by kernel_rfl)),
  f226 := Tryz.func136.trans (congrArg some (by kernel_rfl)),
  f227 := Tryz.func84.trans (congrArg some (by kernel_rfl)),
  f228 := Tryz.func115.trans (congrArg some (by kernel_rfl)),
  f266 := Tryz.func184.trans (congrArg some (by kernel_rfl)),
  t0 := Tryz.underlying0,
  a0 := Tryz.isAgg0,
  z0 := Tryz.sizeOf0,
  v0 := Tryz.zeroValue0,
  t3 := Tryz.underlying3,
  a3 := Tryz.isAgg3,
  z3 := Tryz.sizeOf3,
  v3 := Tryz.zeroValue3,
  t4 := Tryz.underlying4,
  a4 := Tryz.isAgg4,
  z4 := Tryz.sizeOf4,
  v4 := Tryz.zeroValue4,
  t5 := Tryz.underlying5,
  a5 := Tryz.isAgg5,
  z5 := Tryz.sizeOf5,
  v5 := Tryz.zeroValue5,
  t9 := Tryz.underlying9,
  a9 := Tryz.isAgg9,
  z9 := Tryz.sizeOf9,
  v9 := Tryz.zeroValue9,
  t21 := Tryz.underlying21,
  a21 := Tryz.isAgg21,
  z21 := Tryz.sizeOf21,
  v21 := Tryz.zeroValue21,
  t46 := Tryz.underlying191,
  a46 := Tryz.isAgg191,
  z46 := Tryz.sizeOf191,
  v46 := Tryz.zeroValue191,
  t116 := Tryz.underlying144,
  a116 := Tryz.isAgg144,
  z116 := Tryz.sizeOf144,
  t117 := Tryz.underlying145,
  a117 := Tryz.isAgg145,
  z117 := Tryz.sizeOf145,
  v117 := Tryz.zeroValue145,
  t124 := Tryz.underlying148,
  a124 := Tryz.isAgg148,
  z124 := Tryz.sizeOf148,
  v124 := Tryz.zeroValue148 }
end Go.Proofs
namespace Go.Proofs.YtmlnilkbolcknaaGreatDoor.Pm
open Go Go.RowKit Go.Proofs.YtmlnilkbolcknaaGreatDoor.Pi

theorem any_pc (s cs : List UInt8) (hs : s.length < 4294967281) (hc : cs.length < 4294967281) (h1 : ∀ (j : Nat) b, s[j]? = some b → b.toNat < 128) (h2 : ∀ (j : Nat) b, cs[j]? = some b → b.toNat < 128) : PC Tryz.prog 106 [sv (st s), sv (st cs)] [] (iv (Lib.indexAny s cs)) [] :=
 qcc (qdo Tryz.func106 (by kernel_rfl) (by kernel_rfl)) rfl rfl fun w => Any.strings_IndexAny_laid Tryz.lays153 (by kernel_rfl) (st s) (st cs) w hs hc h1 h2
theorem qwo {l : List UInt8} (h : l.all (fun b => decide (b.toNat < 128)) = true) : ∀ (j : Nat) b, l[j]? = some b → b.toNat < 128 := fun j b hb => by
 have := List.all_eq_true.1 h b (List.mem_of_getElem? hb)
 simpa using this
/-- A short text of ASCII can be read. -/
theorem qzx {s : Txt} (h : s.all (fun b => decide (b.toNat < 128)) = true) (hl : s.length ≤ 18) : Rdy s where
 any := fun a _ => any_pc _ _ (by rw [List.length_drop]; omega) (by decide) (fun j b hb => qwo h (a + j) b (by rw [List.getElem?_drop] at hb; exact hb)) (qwo (by decide))
 ato := fun w h1 h2 => absurd h2 (by omega)
 atr := fun w h1 h2 => absurd h2 (by omega)
/-- voice a | 1/1 C4 -/
def aT : Txt := [118, 111, 105, 99, 101, 32, 97, 32, 124, 32, 49, 47, 49, 32, 67, 52]
theorem al_c4 : qaz [67, 52] = ((0, 0, 4), 0, 0) := by
 have h := qxg (l := 0) (a := 0) (o := 4) (by decide)
 rwa [show (quj 0 0 4).1 = [67, 52] from by decide +kernel] at h
theorem al_num1 : numR aT 9 = (0, 1, 11) := by decide +kernel
theorem al_num2 : numR aT 12 = (0, 1, 13) := by decide +kernel
theorem al_pit : pitR aT 14 = (0, (0, 0, 4), 16) := by
 unfold pitR
 rw [show qad aT 14 = [67, 52] from by decide +kernel, al_c4, show gapF aT 14 = 14 from by decide +kernel]
 rfl
theorem al_item : itR aT 1 13 4095 = (0, .mk 1 1 [(0, 0, 4)] (0, 0) [] [], 16, 4094) := by
 rw [qln, if_neg (by decide), if_neg (by decide +kernel), if_neg (by decide +kernel), if_neg (by decide +kernel), if_neg (by decide +kernel), if_neg (by decide +kernel), show gapF aT 13 = 14 from by decide +kernel, al_pit, if_pos rfl]
 unfold qeo
 rw [if_neg (by decide +kernel), show gapF aT 16 = 16 from by decide +kernel]
 unfold qny
 rw [if_pos (show iK (.mk 1 1 [(0, 0, 4)] (0, 0) [] []) = 1 from rfl), show lyrR aT 16 = (0, [], 16) from by unfold lyrR; rw [if_neg (by decide +kernel), show gapF aT 16 = 16 from by decide +kernel], if_pos rfl]
 rfl
theorem al_bar : brR aT 9 = (0, (1, 1, [.mk 1 1 [(0, 0, 4)] (0, 0) [] []]), 16, 4094) := by
 have hbl : brL aT [] 13 4095 = (0, [.mk 1 1 [(0, 0, 4)] (0, 0) [] []], 16, 4094) := by
  rw [qmc, al_item, if_pos rfl, if_pos (.inl (by decide +kernel)), show gapF aT 16 = 16 from by decide +kernel]
  rfl
 unfold brR
 rw [al_num1, if_pos rfl, if_pos (by decide +kernel), show gapF aT 11 + 1 = 12 from by decide +kernel, al_num2, if_pos rfl, hbl, if_pos rfl]
theorem al_voice : vcR aT 0 0 = (0, ([97], [(1, 1, [.mk 1 1 [(0, 0, 4)] (0, 0) [] []])]), 16, 4094) := by
 have hvl : vcL aT 1024 [] 7 0 = (0, [(1, 1, [.mk 1 1 [(0, 0, 4)] (0, 0) [] []])], 16, 4094) := by
  rw [vcL, if_pos (by decide +kernel), show gapF aT 7 + 1 = 9 from by decide +kernel, al_bar, if_pos rfl, vcL, if_neg (by decide +kernel), show gapF aT 16 = 16 from by decide +kernel]
  rfl
 unfold vcR
 rw [if_pos (by decide +kernel), if_pos (by decide +kernel), show gapF aT (gapF aT 0 + 5) + (qad aT (gapF aT 0 + 5)).length = 7 from by decide +kernel, hvl, if_pos rfl, show qad aT (gapF aT 0 + 5) = [97] from by decide +kernel]
theorem al_read : qoe aT = (0, [([97], [(1, 1, [.mk 1 1 [(0, 0, 4)] (0, 0) [] []])])], 0) := by
 unfold qoe
 rw [if_neg (by decide), rdL, if_neg (by decide +kernel), show gapF aT 0 = 0 from by decide +kernel, al_voice, if_pos rfl, rdL, if_pos (by decide +kernel)]
 rfl
theorem qyf : PC Tryz.prog 15 [sv (st aT)] [] (.tup [.ssl [sv (st [97]), .ssl [iv 1, iv 1, .ssl [iv 1, iv 1, .ssl [iv 0, iv 0, iv 4] 0 1, iv 0, iv 0, sv (st ([] : List UInt8)), .ssl [] 0 0] 0 1] 0 1] 0 1, .agg [iv 0, iv 0]]) [] := by
 have h := qod aT (by decide) (fun _ => rdyP_of (qzx (by decide) (by decide)) (by decide))
 rw [al_read] at h
 exact h
end Go.Proofs.YtmlnilkbolcknaaGreatDoor.Pm
namespace Go.Proofs.YtmlnilkbolcknaaGreatDoor.Pm
open Go Fr

set_option maxRecDepth 100000 in
set_option maxHeartbeats 4000000 in
theorem alive_pc  : PC Tryz.prog 18 [] [] (bv true) [] := by
 refine qas Tryz.func18 rfl (by kernel_rfl) (Nat.le_of_ble_eq_true rfl) (by kernel_rfl) (l0 := []) rfl (fun c0 Bor hc0 => ?_)
 refine qaa ?_
 refine T_r mixed [] [] (oz) ?_
 refine qaa ?_
 refine T_r mixed [(0, .call [] [(sv (st aT))] [] (.tup [(.ssl [(sv (st ([97] : List UInt8))), (.ssl [(iv 1), (iv 1), (.ssl [(iv 1), (iv 1), (.ssl [(iv 0), (iv 0), (iv 4)] 0 1), (iv 0), (iv 0), (sv (st ([] : List UInt8))), (.ssl [] 0 0)] 0 1)] 0 1)] 0 1), (.agg [(iv 0), (iv 0)])]) [])] [ps 1 (.ssl [(sv (st ([97] : List UInt8))), (.ssl [(iv 1), (iv 1), (.ssl [(iv 1), (iv 1), (.ssl [(iv 0), (iv 0), (iv 4)] 0 1), (iv 0), (iv 0), (sv (st ([] : List UInt8))), (.ssl [] 0 0)] 0 1)] 0 1)] 0 1), ps 2 (.opt 40 0), pb 40 33 [(iv 0), (iv 0)]] (oc qyf (oc (rfl : [(sv (st ([118, 111, 105, 99, 101, 32, 97, 32, 124, 32, 49, 47, 49, 32, 67, 52] : List UInt8)))] = renL (sigi [] 8) [(sv (st aT))]) oz)) ?_
 refine qaa ?_
 refine T_r mixed [(4, .gd true (.no)), (5, .gd true (.no)), (6, .gd true (.no)), (9, .gd true (.no)), (10, .gd true (.no)), (11, .gd true (.no)), (12, .gd true (.no)), (13, .gd true (.no)), (14, .gd true (.no))] [ps 0 (bv true)] (oc (rfl : true = true) (oc (rfl : true = true) (oc (rfl : true = true) (oc (rfl : true = true) (oc (rfl : true = true) (oc (by decide : (0 : Int) ≤ 0 ∧ 0 < ((1 : Nat) : Int)) (oc (rfl : true = true) (oc (rfl : true = true) (oc (rfl : true = true) (oc (rfl : true = true) oz)))))))))) ?_
 exact qai fun cx_ a_ hI_ => rt hc0 [ps 0 (bv true)] [] hI_
set_option maxRecDepth 100000 in
set_option maxHeartbeats 4000000 in
theorem qkt (l : List Nt) (hl : l.length ≤ 1000000000000) : PC Tryz.prog 14 [(.ssl (nos l) 0 l.length), (.ssl (nos l) 0 l.length)] [] (bv true) [] := by
 refine qas Tryz.func14 rfl (by kernel_rfl) (Nat.le_of_ble_eq_true rfl) (by kernel_rfl) (l0 := [ps 0 (.ssl (nos l) 0 l.length), ps 1 (.ssl (nos l) 0 l.length)]) rfl (fun c0 Bor hc0 => ?_)
 refine qaa ?_
 refine T_k mixed [] [.r] [] (oz) ?_
 refine qaa <| qaa ?_
 refine T_k mixed [] [.k2, .n] [ps 10 (bv (!(decide (((l.length : Nat) : Int) = ((l.length : Nat) : Int)))))] (oz) ?_
 have h1 : ((l.length : Nat) : Int) = ((l.length : Nat) : Int) := rfl
 refine T_el (bt h1) ?_
 refine qag <| qaa <| qaa ?_
 refine T_k mixed [] [.k2, .d, .n, .n] [ps 12 (nv l.length), ps 13 (iv 0)] (oz) ?_
 refine qan ?_
 refine qcm (α := {x : Nat // x ≤ l.length}) (fun x => [ps 0 (.ssl (nos l) 0 l.length), ps 1 (.ssl (nos l) 0 l.length), ps 12 (nv l.length), ps 13 (nv x.1)]) (fun x => l.length - x.1) 0 ⟨0, Nat.zero_le _⟩ (Wk.ren2 [ps 0 (.ssl (nos l) 0 l.length), ps 1 (.ssl (nos l) 0 l.length), ps 12 (nv l.length), ps 13 (nv 0)] 0 hc0 [] rfl rfl (by kernel_rfl) (by kernel_rfl)) ?_
 rintro ⟨i, hi⟩
 refine qaa ?_
 refine T_r mixed [] [ps 0 (.ssl (nos l) 0 l.length), ps 1 (.ssl (nos l) 0 l.length), ps 12 (nv l.length), ps 13 (nv i), ps 14 (bv (decide (((i : Nat) : Int) < ((l.length : Nat) : Int))))] (oz) ?_
 refine qaa ?_
 by_cases h2 : ((i : Nat) : Int) < ((l.length : Nat) : Int)
 ·refine T_th (dty h2) ?_
  refine qag <| qaa <| qan <| qaa ?_
  refine T_k mixed [] [.k2, .n, .k2, .d] [ps 5 (nv i)] (oz) ?_
  refine qaa ?_
  refine T_kd mixed [(2, .nat (i * 9)), (3, .cells [(iv ((l.getD i dNt).1)), (iv ((l.getD i dNt).2.1.1)), (iv ((l.getD i dNt).2.1.2)), (iv ((l.getD i dNt).2.2.1.1)), (iv ((l.getD i dNt).2.2.1.2)), (iv ((l.getD i dNt).2.2.2.1.1)), (iv ((l.getD i dNt).2.2.2.1.2.1)), (iv ((l.getD i dNt).2.2.2.1.2.2)), (sv (st ((l.getD i dNt).2.2.2.2)))]), (6, .nat (i * 9)), (7, .cells [(iv ((l.getD i dNt).1)), (iv ((l.getD i dNt).2.1.1)), (iv ((l.getD i dNt).2.1.2)), (iv ((l.getD i dNt).2.2.1.1)), (iv ((l.getD i dNt).2.2.1.2)), (iv ((l.getD i dNt).2.2.2.1.1)), (iv ((l.getD i dNt).2.2.2.1.2.1)), (iv ((l.getD i dNt).2.2.2.1.2.2)), (sv (st ((l.getD i dNt).2.2.2.2)))])] [[], [], [0, 1], [0, 1, 2], [], [], [4, 5], [4, 5, 6], [0, 1, 2, 3, 4, 5, 6, 7]] [([32], [0]), ([34], [10]), ([36], [32, 34]), ([38], [36]), ([40], [2]), ([42], [10]), ([44], [40, 42]), ([46], [44]), ([48], [38, 46])] [.k2, .d, .k2, .n] [ps 24 (bv (!((decide (((l.getD i dNt).1) = ((l.getD i dNt).1))) && (((decide (((l.getD i dNt).2.1.1) = ((l.getD i dNt).2.1.1))) && (decide (((l.getD i dNt).2.1.2) = ((l.getD i dNt).2.1.2)))) && (((decide (((l.getD i dNt).2.2.1.1) = ((l.getD i dNt).2.2.1.1))) && (decide (((l.getD i dNt).2.2.1.2) = ((l.getD i dNt).2.2.1.2)))) && (((decide (((l.getD i dNt).2.2.2.1.1) = ((l.getD i dNt).2.2.2.1.1))) && ((decide (((l.getD i dNt).2.2.2.1.2.1) = ((l.getD i dNt).2.2.2.1.2.1))) && (decide (((l.getD i dNt).2.2.2.1.2.2) = ((l.getD i dNt).2.2.2.1.2.2))))) && ((st ((l.getD i dNt).2.2.2.2)).toList == (st ((l.getD i dNt).2.2.2.2)).toList)))))))] (oc (by omega : (0 : Int) ≤ ((i : Nat) : Int) ∧ ((i : Nat) : Int) < ((l.length : Nat) : Int)) (oc (by omega : 0 + (((i : Nat) : Int) : Int).toNat * 9 = (i * 9)) (oc (qch noC 9 (fun _ => rfl) dNt l i 0 9 (by omega) (by decide) : (i * 9) + 9 ≤ ((nos l)).length ∧ (((nos l)).drop (i * 9)).take 9 = [(iv ((l.getD i dNt).1)), (iv ((l.getD i dNt).2.1.1)), (iv ((l.getD i dNt).2.1.2)), (iv ((l.getD i dNt).2.2.1.1)), (iv ((l.getD i dNt).2.2.1.2)), (iv ((l.getD i dNt).2.2.2.1.1)), (iv ((l.getD i dNt).2.2.2.1.2.1)), (iv ((l.getD i dNt).2.2.2.1.2.2)), (sv (st ((l.getD i dNt).2.2.2.2)))]) (oc (by omega : (0 : Int) ≤ ((i : Nat) : Int) ∧ ((i : Nat) : Int) < ((l.length : Nat) : Int)) (oc (by omega : 0 + (((i : Nat) : Int) : Int).toNat * 9 = (i * 9)) (oc (qch noC 9 (fun _ => rfl) dNt l i 0 9 (by omega) (by decide) : (i * 9) + 9 ≤ ((nos l)).length ∧ (((nos l)).drop (i * 9)).take 9 = [(iv ((l.getD i dNt).1)), (iv ((l.getD i dNt).2.1.1)), (iv ((l.getD i dNt).2.1.2)), (iv ((l.getD i dNt).2.2.1.1)), (iv ((l.getD i dNt).2.2.1.2)), (iv ((l.getD i dNt).2.2.2.1.1)), (iv ((l.getD i dNt).2.2.2.1.2.1)), (iv ((l.getD i dNt).2.2.2.1.2.2)), (sv (st ((l.getD i dNt).2.2.2.2)))]) oz)))))) ?_
  have h3 : ((decide (((l.getD i dNt).1) = ((l.getD i dNt).1))) && (((decide (((l.getD i dNt).2.1.1) = ((l.getD i dNt).2.1.1))) && (decide (((l.getD i dNt).2.1.2) = ((l.getD i dNt).2.1.2)))) && (((decide (((l.getD i dNt).2.2.1.1) = ((l.getD i dNt).2.2.1.1))) && (decide (((l.getD i dNt).2.2.1.2) = ((l.getD i dNt).2.2.1.2)))) && (((decide (((l.getD i dNt).2.2.2.1.1) = ((l.getD i dNt).2.2.2.1.1))) && ((decide (((l.getD i dNt).2.2.2.1.2.1) = ((l.getD i dNt).2.2.2.1.2.1))) && (decide (((l.getD i dNt).2.2.2.1.2.2) = ((l.getD i dNt).2.2.2.1.2.2))))) && ((st ((l.getD i dNt).2.2.2.2)).toList == (st ((l.getD i dNt).2.2.2.2)).toList))))) = true := (by simp)
  refine T_el (congrArg Bool.not h3) ?_
  refine qag <| qbg ?_
  refine T_k mixed [] [.k3, .d, .n, .d] [ps 13 (iv (((i : Nat) : Int) + 1))] (oc (by simp only [InK]; omega : InK .i64 (((i : Nat) : Int) + 1)) oz) ?_
  exact qce ⟨i + 1, by show i + 1 ≤ l.length; omega⟩ (Wk.trans (Wk.eq (show _ = [ps 0 (.ssl (nos l) 0 l.length), ps 1 (.ssl (nos l) 0 l.length), ps 12 (nv l.length), ps 13 (nv (i + 1))] from by rfl)) (Wk.ren2 [ps 0 (.ssl (nos l) 0 l.length), ps 1 (.ssl (nos l) 0 l.length), ps 12 (nv l.length), ps 13 (nv (i + 1))] 0 hc0 [] rfl rfl (by kernel_rfl) (by kernel_rfl))) (show l.length - (i + 1) < l.length - i from by show l.length - (i + 1) < l.length - i; omega)
 refine T_el (dtn h2) ?_
 refine qbu rfl rfl ?_
 refine qaa ?_
 refine T_r mixed [] [ps 4 (bv true)] (oz) ?_
 exact qai fun cx_ a_ hI_ => rt hc0 [ps 4 (bv true)] [] hI_
theorem qoa {l m : List Nt} {n : Nat} (h : l = m) (hn : n = l.length) (hl : l.length ≤ 1000000000000) : PC Tryz.prog 14 [.ssl (nos l) 0 n, .ssl (nos m) 0 m.length] [] (bv true) [] := by subst hn; subst h; exact qkt l hl
set_option maxRecDepth 100000 in
set_option maxHeartbeats 4000000 in
theorem qxs (l : List Vo) (ii : Iv) (hf : qsv l) (hii : i64r ii.1 ∧ i64r ii.2) : PC Tryz.prog 6 [(.ssl (vos l) 0 l.length), (.agg [(iv ii.1), (iv ii.2)])] [] (bv true) [] := by
 refine qas Tryz.func6 rfl (by kernel_rfl) (Nat.le_of_ble_eq_true rfl) (by kernel_rfl) (l0 := [ps 0 (.ssl (vos l) 0 l.length), ps 1 (.agg [(iv ii.1), (iv ii.2)])]) rfl (fun c0 Bor hc0 => ?_)
 refine qaa ?_
 refine T_k mixed [] [.k1, .d, .n, .n] [ps 3 (.opt 0 0), pb 0 41 [(iv ii.1), (iv ii.2)]] (oz) ?_
 refine qaa <| qaa ?_
 refine T_k mixed [(0, .call [] [] [] (bv true) [])] [.k2, .n, .r] [ps 18 (bv false)] (oc alive_pc (oc (rfl : Ren0 16 []) oz)) ?_
 refine qbf (b := false) rfl rfl ?_
 refine qag <| qaa ?_
 by_cases h1 : (qab l).1 = 0
 ·refine T_k mixed [(1, .call [] [(.ssl (vos l) 0 l.length)] [] (.tup [(.osl 0 0 ((qab l).2.length)), (iv 0)]) [some (58, (nos ((qab l).2)))])] [.k2, .n, .n, .d, .k1, .n] [ps 5 (.osl 40 0 ((qab l).2.length)), ps 6 (iv 0), pb 40 58 (renL (sigo [] 40) (nos ((qab l).2)))] (oc (qex l hf h1) (oc (rfl : Ren0 40 [(.ssl (vos l) 0 l.length)]) oz)) ?_
  refine T_wk (Wk.eq (show _ = [ps 0 (.ssl (vos l) 0 l.length), ps 3 (.opt 0 0), ps 5 (.osl 40 0 ((qab l).2.length)), ps 6 (iv 0), pb 0 41 [(iv ii.1), (iv ii.2)], pb 40 58 (nos ((qab l).2))] from by simp only [qbd (qal _)])) ?_
  refine qaa <| qaa ?_
  refine T_k mixed [] [.k3, .d, .n, .r] [ps 25 (bv false)] (oz) ?_
  refine qbf (b := false) rfl rfl ?_
  refine qag <| qaa ?_
  have hwp := qdz (qlf h1)
  have hl64 := hwp.1
  have hnl := qxj l
  have hfu := fit_up (i := ii) hii hf
  refine T_k mixed [] [.k3, .n, .d, .r] [ps 7 (.av (.slice none 0 0))] (oz) ?_
  refine qaa <| qaa ?_
  refine T_k mixed [] [.d, .k3, .n, .n, .n, .r] [ps 26 (.ssl (vos l) 0 l.length), ps 27 (nv l.length), ps 28 (iv 0)] (oz) ?_
  refine qan ?_
  refine T_wk (Wk.nil (s := 7) 44 (by kernel_rfl)) ?_
  refine T_wk (Wk.less (l' := [ps 3 (.opt 0 0), ps 5 (.osl 40 0 ((qab l).2.length)), ps 7 (.osl 136 0 0), ps 26 (.ssl (vos l) 0 l.length), ps 27 (nv l.length), ps 28 (iv 0), pb 0 41 [(iv ii.1), (iv ii.2)], pb 40 58 (nos ((qab l).2)), pb 136 44 []]) 137 (by kernel_rfl) (by kernel_rfl)) ?_
  refine T_wk (Wk.eq (show _ = [ps 3 (.opt 0 0), ps 5 (.osl 40 0 ((qab l).2.length)), ps 7 (.osl 136 0 0), ps 26 (.ssl (vos l) 0 l.length), ps 27 (nv l.length), ps 28 (iv 0), pb 0 41 [(iv ii.1), (iv ii.2)], pb 40 58 (nos ((qab l).2)), pb 136 44 (vos ((l.take 0).map (upV ii)))] from by rw [List.take_zero]; rfl)) ?_
  refine qcm (α := {x : Nat // x ≤ l.length}) (fun x => [ps 3 (.opt 0 0), ps 5 (.osl 1 0 ((qab l).2.length)), ps 7 (.osl 2 0 x.1), ps 26 (.ssl (vos l) 0 l.length), ps 27 (nv l.length), ps 28 (nv x.1), pb 0 41 [(iv ii.1), (iv ii.2)], pb 1 58 (nos ((qab l).2)), pb 2 44 (vos ((l.take x.1).map (upV ii)))]) (fun x => l.length - x.1) 3 ⟨0, Nat.zero_le _⟩ (Wk.ren3 [ps 3 (.opt 0 0), ps 5 (.osl 1 0 ((qab l).2.length)), ps 7 (.osl 2 0 0), ps 26 (.ssl (vos l) 0 l.length), ps 27 (nv l.length), ps 28 (nv 0), pb 0 41 [(iv ii.1), (iv ii.2)], pb 1 58 (nos ((qab l).2)), pb 2 44 (vos ((l.take 0).map (upV ii)))] 0 hc0 [0, 40, 136] [(kb 1, (nos ((qab l).2))), (kb 2, (vos ((l.take 0).map (upV ii))))] (oc (qal _) (oc (qfb _) (oz))) (by kernel_rfl) rfl rfl (by kernel_rfl) (by kernel_rfl)) ?_
  rintro ⟨i, hi⟩
  refine qaa ?_
  refine T_r mixed [] [ps 3 (.opt 0 0), ps 5 (.osl 1 0 ((qab l).2.length)), ps 7 (.osl 2 0 i), ps 26 (.ssl (vos l) 0 l.length), ps 27 (nv l.length), ps 28 (nv i), ps 29 (bv (decide (((i : Nat) : Int) < ((l.length : Nat) : Int)))), pb 0 41 [(iv ii.1), (iv ii.2)], pb 1 58 (nos ((qab l).2)), pb 2 44 (vos ((l.take i).map (upV ii)))] (oz) ?_
  refine qaa ?_
  by_cases h2 : ((i : Nat) : Int) < ((l.length : Nat) : Int)
  ·refine T_th (dty h2) ?_
   refine qag <| qaa <| qan <| qaa ?_
   refine T_k mixed [(0, .nat (i * 2)), (1, .cells [(sv (st ((l.getD i dVo).1))), (.ssl (brs ((l.getD i dVo).2)) 0 (((l.getD i dVo).2).length))])] [.k3, .n, .k3, .d, .k3, .n] [ps 9 (.opt 27 0), pb 27 44 [(sv (st ((l.getD i dVo).1))), (.ssl (brs ((l.getD i dVo).2)) 0 (((l.getD i dVo).2).length))]] (oc (by omega : (0 : Int) ≤ ((i : Nat) : Int) ∧ ((i : Nat) : Int) < ((l.length : Nat) : Int)) (oc (by omega : 0 + (((i : Nat) : Int) : Int).toNat * 2 = (i * 2)) (oc (qch voC 2 (fun _ => rfl) dVo l i 0 2 (by omega) (by decide) : (i * 2) + 2 ≤ ((vos l)).length ∧ (((vos l)).drop (i * 2)).take 2 = [(sv (st ((l.getD i dVo).1))), (.ssl (brs ((l.getD i dVo).2)) 0 (((l.getD i dVo).2).length))]) oz))) ?_
   refine qaa ?_
   refine T_k mixed [] [.k4, .n, .k7, .n] [ps 10 (.opt 67 0), pb 67 44 [(sv (st ((l.getD i dVo).1))), (.av (.slice none 0 0))]] (oz) ?_
   refine qaa <| qaa ?_
   refine T_k mixed [] [.k3, .d, .k4, .n, .n, .n, .k3, .d, .r] [ps 36 (.ssl (brs ((l.getD i dVo).2)) 0 (((l.getD i dVo).2).length)), ps 37 (nv (((l.getD i dVo).2).length)), ps 38 (iv 0)] (oz) ?_
   refine qan ?_
   refine T_wk (Wk.nilc (B := 44) (cells := [(sv (st ((l.getD i dVo).1))), (.av (.slice none 0 0))]) 67 1 47 (by kernel_rfl) rfl) ?_
   refine T_wk (Wk.less (l' := [ps 3 (.opt 0 0), ps 5 (.osl 1 0 ((qab l).2.length)), ps 7 (.osl 2 0 i), ps 10 (.opt 67 0), ps 26 (.ssl (vos l) 0 l.length), ps 27 (nv l.length), ps 28 (nv i), ps 36 (.ssl (brs ((l.getD i dVo).2)) 0 (((l.getD i dVo).2).length)), ps 37 (nv (((l.getD i dVo).2).length)), ps 38 (iv 0), pb 0 41 [(iv ii.1), (iv ii.2)], pb 1 58 (nos ((qab l).2)), pb 2 44 (vos ((l.take i).map (upV ii))), pb 67 44 [(sv (st ((l.getD i dVo).1))), (.osl 115 0 0)], pb 115 47 []]) 116 (by kernel_rfl) (by kernel_rfl)) ?_
   have hv1024 := (hwp.2 i (by omega)).1
   refine T_wk (Wk.eq (show _ = [ps 3 (.opt 0 0), ps 5 (.osl 1 0 ((qab l).2.length)), ps 7 (.osl 2 0 i), ps 10 (.opt 67 0), ps 26 (.ssl (vos l) 0 l.length), ps 27 (nv l.length), ps 28 (nv i), ps 36 (.ssl (brs ((l.getD i dVo).2)) 0 (((l.getD i dVo).2).length)), ps 37 (nv (((l.getD i dVo).2).length)), ps 38 (iv 0), pb 0 41 [(iv ii.1), (iv ii.2)], pb 1 58 (nos ((qab l).2)), pb 2 44 (vos ((l.take i).map (upV ii))), pb 67 44 [(sv (st ((l.getD i dVo).1))), (.osl 115 0 0)], pb 115 47 (brs (((l.getD i dVo).2.take 0).map (upB ii)))] from by rw [List.take_zero]; rfl)) ?_
   refine qcm (α := {x : Nat // x ≤ (l.getD i dVo).2.length}) (fun x => [ps 3 (.opt 0 0), ps 5 (.osl 1 0 ((qab l).2.length)), ps 7 (.osl 2 0 i), ps 10 (.opt 3 0), ps 26 (.ssl (vos l) 0 l.length), ps 27 (nv l.length), ps 28 (nv i), ps 36 (.ssl (brs ((l.getD i dVo).2)) 0 (((l.getD i dVo).2).length)), ps 37 (nv (((l.getD i dVo).2).length)), ps 38 (nv x.1), pb 0 41 [(iv ii.1), (iv ii.2)], pb 1 58 (nos ((qab l).2)), pb 2 44 (vos ((l.take i).map (upV ii))), pb 3 44 [(sv (st ((l.getD i dVo).1))), (.osl 4 0 x.1)], pb 4 47 (brs (((l.getD i dVo).2.take x.1).map (upB ii)))]) (fun x => (l.getD i dVo).2.length - x.1) 5 ⟨0, Nat.zero_le _⟩ (Wk.ren3 [ps 3 (.opt 0 0), ps 5 (.osl 1 0 ((qab l).2.length)), ps 7 (.osl 2 0 i), ps 10 (.opt 3 0), ps 26 (.ssl (vos l) 0 l.length), ps 27 (nv l.length), ps 28 (nv i), ps 36 (.ssl (brs ((l.getD i dVo).2)) 0 (((l.getD i dVo).2).length)), ps 37 (nv (((l.getD i dVo).2).length)), ps 38 (nv 0), pb 0 41 [(iv ii.1), (iv ii.2)], pb 1 58 (nos ((qab l).2)), pb 2 44 (vos ((l.take i).map (upV ii))), pb 3 44 [(sv (st ((l.getD i dVo).1))), (.osl 4 0 0)], pb 4 47 (brs (((l.getD i dVo).2.take 0).map (upB ii)))] 0 hc0 [0, 1, 2, 67, 115] [(kb 1, (nos ((qab l).2))), (kb 2, (vos ((l.take i).map (upV ii)))), (kb 4, (brs (((l.getD i dVo).2.take 0).map (upB ii))))] (oc (qal _) (oc (qfb _) (oc (qjf _) (oz)))) (by kernel_rfl) rfl rfl (by kernel_rfl) (by kernel_rfl)) ?_
   rintro ⟨j, hj⟩
   refine qaa ?_
   refine T_r mixed [] [ps 3 (.opt 0 0), ps 5 (.osl 1 0 ((qab l).2.length)), ps 7 (.osl 2 0 i), ps 10 (.opt 3 0), ps 26 (.ssl (vos l) 0 l.length), ps 27 (nv l.length), ps 28 (nv i), ps 36 (.ssl (brs ((l.getD i dVo).2)) 0 (((l.getD i dVo).2).length)), ps 37 (nv (((l.getD i dVo).2).length)), ps 38 (nv j), ps 39 (bv (decide (((j : Nat) : Int) < ((((l.getD i dVo).2).length : Nat) : Int)))), pb 0 41 [(iv ii.1), (iv ii.2)], pb 1 58 (nos ((qab l).2)), pb 2 44 (vos ((l.take i).map (upV ii))), pb 3 44 [(sv (st ((l.getD i dVo).1))), (.osl 4 0 j)], pb 4 47 (brs (((l.getD i dVo).2.take j).map (upB ii)))] (oz) ?_
   refine qaa ?_
   by_cases h3 : ((j : Nat) : Int) < ((((l.getD i dVo).2).length : Nat) : Int)
   ·refine T_th (dty h3) ?_
    refine qag <| qaa <| qan <| qaa ?_
    refine T_k mixed [(0, .nat (j * 3)), (1, .cells [(iv ((((l.getD i dVo).2).getD j dBr).1)), (iv ((((l.getD i dVo).2).getD j dBr).2.1)), (.ssl (ics ((((l.getD i dVo).2).getD j dBr).2.2)) 0 (((((l.getD i dVo).2).getD j dBr).2.2).length))])] [.k4, .n, .k6, .d, .k5, .n] [ps 12 (.opt 29 0), pb 29 47 [(iv ((((l.getD i dVo).2).getD j dBr).1)), (iv ((((l.getD i dVo).2).getD j dBr).2.1)), (.ssl (ics ((((l.getD i dVo).2).getD j dBr).2.2)) 0 (((((l.getD i dVo).2).getD j dBr).2.2).length))]] (oc (by omega : (0 : Int) ≤ ((j : Nat) : Int) ∧ ((j : Nat) : Int) < ((((l.getD i dVo).2).length : Nat) : Int)) (oc (by omega : 0 + (((j : Nat) : Int) : Int).toNat * 3 = (j * 3)) (oc (qch brC 3 (fun _ => rfl) dBr ((l.getD i dVo).2) j 0 3 (by omega) (by decide) : (j * 3) + 3 ≤ ((brs ((l.getD i dVo).2))).length ∧ (((brs ((l.getD i dVo).2))).drop (j * 3)).take 3 = [(iv ((((l.getD i dVo).2).getD j dBr).1)), (iv ((((l.getD i dVo).2).getD j dBr).2.1)), (.ssl (ics ((((l.getD i dVo).2).getD j dBr).2.2)) 0 (((((l.getD i dVo).2).getD j dBr).2.2).length))]) oz))) ?_
    refine T_k mixed [(10, .lay [] .no), (13, .app none (some (brs (((l.getD i dVo).2.take (j + 1)).map (upB ii)))))] [.k4, .d, .k8, .k1, .d, .n, .d, .d, .n] [pb 3 44 [(sv (st ((l.getD i dVo).1))), (.osl 149 0 (j + 1))], pb 149 47 (brs (((l.getD i dVo).2.take (j + 1)).map (upB ii)))] (oc (fun p hp => List.all_eq_true.1 (show ([(iv 5), (iv 1), (.av (.slice none 0 0)), (iv ii.1), (iv ii.2), (sv (st ([] : List UInt8))), (.ssl (ics ((((l.getD i dVo).2).getD j dBr).2.2)) 0 (((((l.getD i dVo).2).getD j dBr).2.2).length))] : List PV).all PV.shd = true from rfl) p hp : shds [(iv 5), (iv 1), (.av (.slice none 0 0)), (iv ii.1), (iv ii.2), (sv (st ([] : List UInt8))), (.ssl (ics ((((l.getD i dVo).2).getD j dBr).2.2)) 0 (((((l.getD i dVo).2).getD j dBr).2.2).length))]) (oc (by rw [brs_mlen, List.length_map, List.length_take]; omega : ((brs (((l.getD i dVo).2.take j).map (upB ii)))).length = j * 3) (oc (by omega : (j + 1) * 40 ≤ 140737488355328 ∧ j + 1 ≤ 9223372036854775807) (oc (brs_mv (show j < (l.getD i dVo).2.length by omega) : (brs (((l.getD i dVo).2.take j).map (upB ii))) ++ [(iv ((((l.getD i dVo).2).getD j dBr).1)), (iv ((((l.getD i dVo).2).getD j dBr).2.1)), (.ssl [(iv 5), (iv 1), (.ssl [] 0 0), (iv ii.1), (iv ii.2), (sv (st ([] : List UInt8))), (.ssl (ics ((((l.getD i dVo).2).getD j dBr).2.2)) 0 (((((l.getD i dVo).2).getD j dBr).2.2).length))] 0 1)] = (brs (((l.getD i dVo).2.take (j + 1)).map (upB ii)))) oz)))) ?_
    refine qbg ?_
    refine T_k mixed [] [.k8, .k1, .d, .n, .r] [ps 38 (iv (((j : Nat) : Int) + 1))] (oc (by simp only [InK]; omega : InK .i64 (((j : Nat) : Int) + 1)) oz) ?_
    exact qce ⟨j + 1, by show j + 1 ≤ (l.getD i dVo).2.length; omega⟩ (Wk.trans (Wk.eq (show _ = [ps 3 (.opt 0 0), ps 5 (.osl 1 0 ((qab l).2.length)), ps 7 (.osl 2 0 i), ps 10 (.opt 3 0), ps 26 (.ssl (vos l) 0 l.length), ps 27 (nv l.length), ps 28 (nv i), ps 36 (.ssl (brs ((l.getD i dVo).2)) 0 (((l.getD i dVo).2).length)), ps 37 (nv (((l.getD i dVo).2).length)), ps 38 (nv (j + 1)), pb 0 41 [(iv ii.1), (iv ii.2)], pb 1 58 (nos ((qab l).2)), pb 2 44 (vos ((l.take i).map (upV ii))), pb 3 44 [(sv (st ((l.getD i dVo).1))), (.osl 149 0 (j + 1))], pb 149 47 (brs (((l.getD i dVo).2.take (j + 1)).map (upB ii)))] from by rfl)) (Wk.ren3 [ps 3 (.opt 0 0), ps 5 (.osl 1 0 ((qab l).2.length)), ps 7 (.osl 2 0 i), ps 10 (.opt 3 0), ps 26 (.ssl (vos l) 0 l.length), ps 27 (nv l.length), ps 28 (nv i), ps 36 (.ssl (brs ((l.getD i dVo).2)) 0 (((l.getD i dVo).2).length)), ps 37 (nv (((l.getD i dVo).2).length)), ps 38 (nv (j + 1)), pb 0 41 [(iv ii.1), (iv ii.2)], pb 1 58 (nos ((qab l).2)), pb 2 44 (vos ((l.take i).map (upV ii))), pb 3 44 [(sv (st ((l.getD i dVo).1))), (.osl 4 0 (j + 1))], pb 4 47 (brs (((l.getD i dVo).2.take (j + 1)).map (upB ii)))] 0 hc0 [0, 1, 2, 3, 149] [(kb 1, (nos ((qab l).2))), (kb 2, (vos ((l.take i).map (upV ii)))), (kb 4, (brs (((l.getD i dVo).2.take (j + 1)).map (upB ii))))] (oc (qal _) (oc (qfb _) (oc (qjf _) (oz)))) (by kernel_rfl) rfl rfl (by kernel_rfl) (by kernel_rfl))) (show (l.getD i dVo).2.length - (j + 1) < (l.getD i dVo).2.length - j from by show (l.getD i dVo).2.length - (j + 1) < (l.getD i dVo).2.length - j; omega)
   refine T_el (dtn h3) ?_
   refine qbu rfl rfl ?_
   have hje : j = (l.getD i dVo).2.length := by omega
   subst hje
   refine T_wk (Wk.eq (show _ = [ps 3 (.opt 0 0), ps 5 (.osl 1 0 ((qab l).2.length)), ps 7 (.osl 2 0 i), ps 10 (.opt 3 0), ps 26 (.ssl (vos l) 0 l.length), ps 27 (nv l.length), ps 28 (nv i), ps 36 (.ssl (brs ((l.getD i dVo).2)) 0 (((l.getD i dVo).2).length)), ps 37 (nv (((l.getD i dVo).2).length)), ps 38 (nv ((l.getD i dVo).2.length)), ps 39 (bv (decide (((((l.getD i dVo).2.length) : Nat) : Int) < ((((l.getD i dVo).2).length : Nat) : Int)))), pb 0 41 [(iv ii.1), (iv ii.2)], pb 1 58 (nos ((qab l).2)), pb 2 44 (vos ((l.take i).map (upV ii))), pb 3 44 [(sv (st ((l.getD i dVo).1))), (.osl 4 0 ((upV ii (l.getD i dVo)).2.length))], pb 4 47 (brs ((upV ii (l.getD i dVo)).2))] from by rw [List.take_length, qrs]; rfl)) ?_
   refine T_wk (Wk.frz2 (l' := [ps 3 (.opt 0 0), ps 5 (.osl 1 0 ((qab l).2.length)), ps 7 (.osl 2 0 i), ps 10 (.opt 3 0), ps 26 (.ssl (vos l) 0 l.length), ps 27 (nv l.length), ps 28 (nv i), ps 36 (.ssl (brs ((l.getD i dVo).2)) 0 (((l.getD i dVo).2).length)), ps 37 (nv (((l.getD i dVo).2).length)), ps 38 (nv ((l.getD i dVo).2.length)), ps 39 (bv (decide (((((l.getD i dVo).2.length) : Nat) : Int) < ((((l.getD i dVo).2).length : Nat) : Int)))), pb 0 41 [(iv ii.1), (iv ii.2)], pb 1 58 (nos ((qab l).2)), pb 2 44 (vos ((l.take i).map (upV ii))), pb 3 44 [(sv (st ((l.getD i dVo).1))), (.ssl (brs ((upV ii (l.getD i dVo)).2)) 0 ((upV ii (l.getD i dVo)).2.length))], (kb 4, none)]) 4 (T := 47) (cs := (brs ((upV ii (l.getD i dVo)).2))) [(kb 1, (nos ((qab l).2))), (kb 2, (vos ((l.take i).map (upV ii))))] (oc (qal _) (oc (qfb _) (oz))) (by kernel_rfl) (by kernel_rfl) (qjf _) (by kernel_rfl)) ?_
   refine T_wk (Wk.less (l' := [ps 3 (.opt 0 0), ps 5 (.osl 1 0 ((qab l).2.length)), ps 7 (.osl 2 0 i), ps 10 (.opt 3 0), ps 26 (.ssl (vos l) 0 l.length), ps 27 (nv l.length), ps 28 (nv i), ps 36 (.ssl (brs ((l.getD i dVo).2)) 0 (((l.getD i dVo).2).length)), ps 37 (nv (((l.getD i dVo).2).length)), ps 38 (nv ((l.getD i dVo).2.length)), ps 39 (bv (decide (((((l.getD i dVo).2.length) : Nat) : Int) < ((((l.getD i dVo).2).length : Nat) : Int)))), pb 0 41 [(iv ii.1), (iv ii.2)], pb 1 58 (nos ((qab l).2)), pb 2 44 (vos ((l.take i).map (upV ii))), pb 3 44 [(sv (st ((l.getD i dVo).1))), (.ssl (brs ((upV ii (l.getD i dVo)).2)) 0 ((upV ii (l.getD i dVo)).2.length))]]) 13 (by kernel_rfl) (by kernel_rfl)) ?_
   refine T_k mixed [(3, .app none (some (vos ((l.take (i + 1)).map (upV ii)))))] [.k2, .d, .n, .d, .k3, .d, .d, .d, .d, .k2, .d, .d, .n] [ps 7 (.osl 37 0 (i + 1)), pb 37 44 (vos ((l.take (i + 1)).map (upV ii)))] (oc (by rw [vos_mlen, List.length_map, List.length_take]; omega : ((vos ((l.take i).map (upV ii)))).length = i * 2) (oc (by omega : (i + 1) * 40 ≤ 140737488355328 ∧ i + 1 ≤ 9223372036854775807) (oc (vos_mv (show i < l.length by omega) : (vos ((l.take i).map (upV ii))) ++ [(sv (st ((l.getD i dVo).1))), (.ssl (brs ((upV ii (l.getD i dVo)).2)) 0 ((upV ii (l.getD i dVo)).2.length))] = (vos ((l.take (i + 1)).map (upV ii)))) oz))) ?_
   refine qbg ?_
   refine T_k mixed [] [.k5, .d, .n, .r] [ps 28 (iv (((i : Nat) : Int) + 1))] (oc (by simp only [InK]; omega : InK .i64 (((i : Nat) : Int) + 1)) oz) ?_
   exact qce ⟨i + 1, by show i + 1 ≤ l.length; omega⟩ (Wk.trans (Wk.eq (show _ = [ps 3 (.opt 0 0), ps 5 (.osl 1 0 ((qab l).2.length)), ps 7 (.osl 37 0 (i + 1)), ps 26 (.ssl (vos l) 0 l.length), ps 27 (nv l.length), ps 28 (nv (i + 1)), pb 0 41 [(iv ii.1), (iv ii.2)], pb 1 58 (nos ((qab l).2)), pb 37 44 (vos ((l.take (i + 1)).map (upV ii)))] from by rfl)) (Wk.ren3 [ps 3 (.opt 0 0), ps 5 (.osl 1 0 ((qab l).2.length)), ps 7 (.osl 2 0 (i + 1)), ps 26 (.ssl (vos l) 0 l.length), ps 27 (nv l.length), ps 28 (nv (i + 1)), pb 0 41 [(iv ii.1), (iv ii.2)], pb 1 58 (nos ((qab l).2)), pb 2 44 (vos ((l.take (i + 1)).map (upV ii)))] 0 hc0 [0, 1, 37] [(kb 1, (nos ((qab l).2))), (kb 2, (vos ((l.take (i + 1)).map (upV ii))))] (oc (qal _) (oc (qfb _) (oz))) (by kernel_rfl) rfl rfl (by kernel_rfl) (by kernel_rfl))) (show l.length - (i + 1) < l.length - i from by show l.length - (i + 1) < l.length - i; omega)
  refine T_el (dtn h2) ?_
  refine qbu rfl rfl ?_
  refine qaa <| qaa ?_
  have hie : i = l.length := by omega
  subst hie
  refine T_wk (Wk.eq (show _ = [ps 3 (.opt 0 0), ps 5 (.osl 1 0 ((qab l).2.length)), ps 7 (.osl 2 0 ((l.map (upV ii)).length)), ps 26 (.ssl (vos l) 0 l.length), ps 27 (nv l.length), ps 28 (nv l.length), ps 29 (bv (decide (((l.length : Nat) : Int) < ((l.length : Nat) : Int)))), pb 0 41 [(iv ii.1), (iv ii.2)], pb 1 58 (nos ((qab l).2)), pb 2 44 (vos (l.map (upV ii)))] from by rw [List.take_length, List.length_map])) ?_
  refine T_wk (Wk.frz2 (l' := [ps 3 (.opt 0 0), ps 5 (.osl 1 0 ((qab l).2.length)), ps 7 (.ssl (vos (l.map (upV ii))) 0 ((l.map (upV ii)).length)), ps 26 (.ssl (vos l) 0 l.length), ps 27 (nv l.length), ps 28 (nv l.length), ps 29 (bv (decide (((l.length : Nat) : Int) < ((l.length : Nat) : Int)))), pb 0 41 [(iv ii.1), (iv ii.2)], pb 1 58 (nos ((qab l).2)), (kb 2, none)]) 2 (T := 44) (cs := (vos (l.map (upV ii)))) [(kb 1, (nos ((qab l).2)))] (oc (qal _) (oz)) (by kernel_rfl) (by kernel_rfl) (qfb _) (by kernel_rfl)) ?_
  refine T_wk (Wk.less (l' := [ps 3 (.opt 0 0), ps 5 (.osl 1 0 ((qab l).2.length)), ps 7 (.ssl (vos (l.map (upV ii))) 0 ((l.map (upV ii)).length)), ps 26 (.ssl (vos l) 0 l.length), ps 27 (nv l.length), ps 28 (nv l.length), ps 29 (bv (decide (((l.length : Nat) : Int) < ((l.length : Nat) : Int)))), pb 0 41 [(iv ii.1), (iv ii.2)], pb 1 58 (nos ((qab l).2))]) 11 (by kernel_rfl) (by kernel_rfl)) ?_
  refine T_k mixed [(1, .call [] [(.ssl (vos (l.map (upV ii))) 0 ((l.map (upV ii)).length))] [] (iv (qbk (l.map (upV ii)))) [])] [.k3, .d, .d, .d, .d, .n, .r] [ps 65 (bv (!(decide ((qbk (l.map (upV ii))) = 0))))] (oc (qem (l.map (upV ii)) hfu) (oc (rfl : Ren0 19 [(.ssl (vos (l.map (upV ii))) 0 ((l.map (upV ii)).length))]) oz)) ?_
  by_cases h4 : (qbk (l.map (upV ii))) = 0
  ·refine T_el (bt h4) ?_
   refine qag <| qaa ?_
   by_cases h5 : (qab (l.map (upV ii))).1 = 0
   ·refine T_k mixed [(1, .call [] [(.ssl (vos (l.map (upV ii))) 0 ((l.map (upV ii)).length))] [] (.tup [(.osl 0 0 ((qab (l.map (upV ii))).2.length)), (iv 0)]) [some (58, (nos ((qab (l.map (upV ii))).2)))])] [.k2, .n, .d, .n, .d, .k2, .n] [ps 6 (iv 0), ps 13 (.osl 43 0 ((qab (l.map (upV ii))).2.length)), pb 43 58 (renL (sigo [] 43) (nos ((qab (l.map (upV ii))).2)))] (oc (qex (l.map (upV ii)) hfu h5) (oc (rfl : Ren0 43 [(.ssl (vos (l.map (upV ii))) 0 ((l.map (upV ii)).length))]) oz)) ?_
    refine T_wk (Wk.eq (show _ = [ps 3 (.opt 0 0), ps 5 (.osl 1 0 ((qab l).2.length)), ps 6 (iv 0), ps 13 (.osl 43 0 ((qab (l.map (upV ii))).2.length)), pb 0 41 [(iv ii.1), (iv ii.2)], pb 1 58 (nos ((qab l).2)), pb 43 58 (nos ((qab (l.map (upV ii))).2))] from by simp only [qbd (qal _)])) ?_
    refine qaa <| qaa ?_
    refine T_k mixed [] [.k4, .n, .n, .r] [ps 72 (nv ((qab l).2.length)), ps 73 (iv 0)] (oz) ?_
    refine qan ?_
    obtain ⟨hme, hmo⟩ := (qlg h1 h4).resolve_right (fun q => q.1 h5)
    refine T_wk (Wk.eq (show _ = [ps 3 (.opt 0 0), ps 5 (.osl 1 0 ((qab l).2.length)), ps 6 (iv 0), ps 13 (.osl 43 0 ((qab (l.map (upV ii))).2.length)), ps 72 (nv ((qab l).2.length)), ps 73 (iv 0), pb 0 41 [(iv ii.1), (iv ii.2)], pb 1 58 (nos (mvM ii (qab l).2 0)), pb 43 58 (nos ((qab (l.map (upV ii))).2))] from by rw [qus])) ?_
    refine qcm (α := {x : Nat // x ≤ (qab l).2.length}) (fun x => [ps 3 (.opt 0 0), ps 5 (.osl 1 0 ((qab l).2.length)), ps 6 (iv 0), ps 13 (.osl 2 0 ((qab (l.map (upV ii))).2.length)), ps 72 (nv ((qab l).2.length)), ps 73 (nv x.1), pb 0 41 [(iv ii.1), (iv ii.2)], pb 1 58 (nos (mvM ii (qab l).2 x.1)), pb 2 58 (nos ((qab (l.map (upV ii))).2))]) (fun x => (qab l).2.length - x.1) 3 ⟨0, Nat.zero_le _⟩ (Wk.ren3 [ps 3 (.opt 0 0), ps 5 (.osl 1 0 ((qab l).2.length)), ps 6 (iv 0), ps 13 (.osl 2 0 ((qab (l.map (upV ii))).2.length)), ps 72 (nv ((qab l).2.length)), ps 73 (nv 0), pb 0 41 [(iv ii.1), (iv ii.2)], pb 1 58 (nos (mvM ii (qab l).2 0)), pb 2 58 (nos ((qab (l.map (upV ii))).2))] 0 hc0 [0, 1, 43] [(kb 1, (nos (mvM ii (qab l).2 0))), (kb 2, (nos ((qab (l.map (upV ii))).2)))] (oc (qal _) (oc (qal _) (oz))) (by kernel_rfl) rfl rfl (by kernel_rfl) (by kernel_rfl)) ?_
    rintro ⟨k, hk⟩
    refine qaa ?_
    refine T_r mixed [] [ps 3 (.opt 0 0), ps 5 (.osl 1 0 ((qab l).2.length)), ps 6 (iv 0), ps 13 (.osl 2 0 ((qab (l.map (upV ii))).2.length)), ps 72 (nv ((qab l).2.length)), ps 73 (nv k), ps 74 (bv (decide (((k : Nat) : Int) < (((qab l).2.length : Nat) : Int)))), pb 0 41 [(iv ii.1), (iv ii.2)], pb 1 58 (nos (mvM ii (qab l).2 k)), pb 2 58 (nos ((qab (l.map (upV ii))).2))] (oz) ?_
    refine qaa ?_
    by_cases h6 : ((k : Nat) : Int) < (((qab l).2.length : Nat) : Int)
    ·refine T_th (dty h6) ?_
     refine qag <| qaa <| qan <| qaa ?_
     refine T_k mixed [] [.k4, .n, .k2, .d, .r] [ps 14 (nv k)] (oz) ?_
     refine qaa ?_
     have hML := qsj ii (qab l).2 hk
     have hat := mvM_at (i := ii) (N := (qab l).2) (k := k) (by omega)
     have hac : Pi.I64 ((mvM ii (qab l).2 k).getD k dNt).2.2.2.1.2.1 := by rw [hat]; exact rb_acc (qur l _ (pch_at (by omega)))
     have hmk : (Pi.move ((mvM ii (qab l).2 k).getD k dNt).2.2.2.1.1 ((mvM ii (qab l).2 k).getD k dNt).2.2.2.1.2.1 ((mvM ii (qab l).2 k).getD k dNt).2.2.2.1.2.2 ii.1 ii.2).2.2.2 = 0 := by rw [hat]; exact hmo _ (pch_at (by omega))
     refine T_kd mixed [(2, .nat (k * 9)), (4, .cells [(iv (((mvM ii (qab l).2 k).getD k dNt).2.2.2.1.1)), (iv (((mvM ii (qab l).2 k).getD k dNt).2.2.2.1.2.1)), (iv (((mvM ii (qab l).2 k).getD k dNt).2.2.2.1.2.2))]), (6, .call [] [(.agg [(iv (((mvM ii (qab l).2 k).getD k dNt).2.2.2.1.1)), (iv (((mvM ii (qab l).2 k).getD k dNt).2.2.2.1.2.1)), (iv (((mvM ii (qab l).2 k).getD k dNt).2.2.2.1.2.2))]), (.agg [(iv ii.1), (iv ii.2)])] [] (.tup [(.agg [(iv ((Pi.move ((mvM ii (qab l).2 k).getD k dNt).2.2.2.1.1 ((mvM ii (qab l).2 k).getD k dNt).2.2.2.1.2.1 ((mvM ii (qab l).2 k).getD k dNt).2.2.2.1.2.2 ii.1 ii.2).1)), (iv ((Pi.move ((mvM ii (qab l).2 k).getD k dNt).2.2.2.1.1 ((mvM ii (qab l).2 k).getD k dNt).2.2.2.1.2.1 ((mvM ii (qab l).2 k).getD k dNt).2.2.2.1.2.2 ii.1 ii.2).2.1)), (iv ((Pi.move ((mvM ii (qab l).2 k).getD k dNt).2.2.2.1.1 ((mvM ii (qab l).2 k).getD k dNt).2.2.2.1.2.1 ((mvM ii (qab l).2 k).getD k dNt).2.2.2.1.2.2 ii.1 ii.2).2.2.1))]), (iv ((Pi.move ((mvM ii (qab l).2 k).getD k dNt).2.2.2.1.1 ((mvM ii (qab l).2 k).getD k dNt).2.2.2.1.2.1 ((mvM ii (qab l).2 k).getD k dNt).2.2.2.1.2.2 ii.1 ii.2).2.2.2))]) [])] [[], [], [0, 1], [0, 1, 2], [0, 1, 2, 3], [], [0, 1, 2, 3, 4, 5], [0, 1, 2, 3, 4, 5, 6], [0, 1, 2, 3, 4, 5, 6, 7], [0, 1, 2, 3, 4, 5, 6, 7], [], [0, 1, 2, 3, 4, 5, 6, 7, 8, 10], [0, 1, 2, 3, 4, 5, 6, 7, 8, 9, 10, 11]] [([154], [10]), ([156], [28]), ([158], [154, 156]), ([160], [158]), ([162], [3, 160]), ([164], [1, 6]), ([166], [162, 164]), ([152], [166]), ([168], [152]), ([170], [152]), ([30, 215], []), ([215], [30, 168, 215]), ([32], [170])] [.k5, .n, .n, .k5, .n] [ps 15 (.opt 107 0), ps 16 (iv ((Pi.move ((mvM ii (qab l).2 k).getD k dNt).2.2.2.1.1 ((mvM ii (qab l).2 k).getD k dNt).2.2.2.1.2.1 ((mvM ii (qab l).2 k).getD k dNt).2.2.2.1.2.2 ii.1 ii.2).2.2.2)), pb 107 52 [(iv ((Pi.move ((mvM ii (qab l).2 k).getD k dNt).2.2.2.1.1 ((mvM ii (qab l).2 k).getD k dNt).2.2.2.1.2.1 ((mvM ii (qab l).2 k).getD k dNt).2.2.2.1.2.2 ii.1 ii.2).1)), (iv ((Pi.move ((mvM ii (qab l).2 k).getD k dNt).2.2.2.1.1 ((mvM ii (qab l).2 k).getD k dNt).2.2.2.1.2.1 ((mvM ii (qab l).2 k).getD k dNt).2.2.2.1.2.2 ii.1 ii.2).2.1)), (iv ((Pi.move ((mvM ii (qab l).2 k).getD k dNt).2.2.2.1.1 ((mvM ii (qab l).2 k).getD k dNt).2.2.2.1.2.1 ((mvM ii (qab l).2 k).getD k dNt).2.2.2.1.2.2 ii.1 ii.2).2.2.1))]] (oc (by omega : (0 : Int) ≤ ((k : Nat) : Int) ∧ ((k : Nat) : Int) < (((qab l).2.length : Nat) : Int)) (oc (by omega : 0 + (((k : Nat) : Int) : Int).toNat * 9 = (k * 9)) (oc (qch noC 9 (fun _ => rfl) dNt (mvM ii (qab l).2 k) k 5 3 (by omega) (by decide) : (k * 9 + 5) + 3 ≤ ((nos (mvM ii (qab l).2 k))).length ∧ (((nos (mvM ii (qab l).2 k))).drop (k * 9 + 5)).take 3 = [(iv (((mvM ii (qab l).2 k).getD k dNt).2.2.2.1.1)), (iv (((mvM ii (qab l).2 k).getD k dNt).2.2.2.1.2.1)), (iv (((mvM ii (qab l).2 k).getD k dNt).2.2.2.1.2.2))]) (oc (qkv ((mvM ii (qab l).2 k).getD k dNt).2.2.2.1.1 ((mvM ii (qab l).2 k).getD k dNt).2.2.2.1.2.1 ((mvM ii (qab l).2 k).getD k dNt).2.2.2.1.2.2 ii.1 ii.2 hac) (oc (rfl : Ren0 75 [(.agg [(iv (((mvM ii (qab l).2 k).getD k dNt).2.2.2.1.1)), (iv (((mvM ii (qab l).2 k).getD k dNt).2.2.2.1.2.1)), (iv (((mvM ii (qab l).2 k).getD k dNt).2.2.2.1.2.2))]), (.agg [(iv ii.1), (iv ii.2)])]) oz))))) ?_
     refine qaa <| qaa ?_
     refine T_k mixed [] [.k6, .d, .k2, .n, .r] [ps 87 (bv (!(decide (((Pi.move ((mvM ii (qab l).2 k).getD k dNt).2.2.2.1.1 ((mvM ii (qab l).2 k).getD k dNt).2.2.2.1.2.1 ((mvM ii (qab l).2 k).getD k dNt).2.2.2.1.2.2 ii.1 ii.2).2.2.2) = 0))))] (oz) ?_
     have h7 : ((Pi.move ((mvM ii (qab l).2 k).getD k dNt).2.2.2.1.1 ((mvM ii (qab l).2 k).getD k dNt).2.2.2.1.2.1 ((mvM ii (qab l).2 k).getD k dNt).2.2.2.1.2.2 ii.1 ii.2).2.2.2) = 0 := hmk
     refine T_el (bt h7) ?_
     refine qag ?_
     refine T_k mixed [(3, .nat (k * 9)), (5, .cells (nos (mvM ii (qab l).2 (k + 1))))] [.k4, .d, .d, .k2, .d, .k1, .d, .n, .k1, .d] [pb 1 58 (nos (mvM ii (qab l).2 (k + 1)))] (oc (by omega : (0 : Int) ≤ ((k : Nat) : Int) ∧ ((k : Nat) : Int) < (((qab l).2.length : Nat) : Int)) (oc (by omega : 0 + (((k : Nat) : Int) : Int).toNat * 9 = (k * 9)) (oc (qqp (show k < (qab l).2.length by omega) rfl : (k * 9 + 5) + 3 ≤ ((nos (mvM ii (qab l).2 k))).length ∧ qcj (nos (mvM ii (qab l).2 k)) (k * 9 + 5) [(iv ((Pi.move ((mvM ii (qab l).2 k).getD k dNt).2.2.2.1.1 ((mvM ii (qab l).2 k).getD k dNt).2.2.2.1.2.1 ((mvM ii (qab l).2 k).getD k dNt).2.2.2.1.2.2 ii.1 ii.2).1)), (iv ((Pi.move ((mvM ii (qab l).2 k).getD k dNt).2.2.2.1.1 ((mvM ii (qab l).2 k).getD k dNt).2.2.2.1.2.1 ((mvM ii (qab l).2 k).getD k dNt).2.2.2.1.2.2 ii.1 ii.2).2.1)), (iv ((Pi.move ((mvM ii (qab l).2 k).getD k dNt).2.2.2.1.1 ((mvM ii (qab l).2 k).getD k dNt).2.2.2.1.2.1 ((mvM ii (qab l).2 k).getD k dNt).2.2.2.1.2.2 ii.1 ii.2).2.2.1))] = (nos (mvM ii (qab l).2 (k + 1)))) oz))) ?_
     refine qbg ?_
     refine T_k mixed [] [.k5, .d, .n, .r] [ps 73 (iv (((k : Nat) : Int) + 1))] (oc (by simp only [InK]; omega : InK .i64 (((k : Nat) : Int) + 1)) oz) ?_
     exact qce ⟨k + 1, by show k + 1 ≤ (qab l).2.length; omega⟩ (Wk.trans (Wk.eq (show _ = [ps 3 (.opt 0 0), ps 5 (.osl 1 0 ((qab l).2.length)), ps 6 (iv 0), ps 13 (.osl 2 0 ((qab (l.map (upV ii))).2.length)), ps 72 (nv ((qab l).2.length)), ps 73 (nv (k + 1)), pb 0 41 [(iv ii.1), (iv ii.2)], pb 1 58 (nos (mvM ii (qab l).2 (k + 1))), pb 2 58 (nos ((qab (l.map (upV ii))).2))] from by rfl)) (Wk.ren3 [ps 3 (.opt 0 0), ps 5 (.osl 1 0 ((qab l).2.length)), ps 6 (iv 0), ps 13 (.osl 2 0 ((qab (l.map (upV ii))).2.length)), ps 72 (nv ((qab l).2.length)), ps 73 (nv (k + 1)), pb 0 41 [(iv ii.1), (iv ii.2)], pb 1 58 (nos (mvM ii (qab l).2 (k + 1))), pb 2 58 (nos ((qab (l.map (upV ii))).2))] 0 hc0 [0, 1, 2] [(kb 1, (nos (mvM ii (qab l).2 (k + 1)))), (kb 2, (nos ((qab (l.map (upV ii))).2)))] (oc (qal _) (oc (qal _) (oz))) (by kernel_rfl) rfl rfl (by kernel_rfl) (by kernel_rfl))) (show (qab l).2.length - (k + 1) < (qab l).2.length - k from by show (qab l).2.length - (k + 1) < (qab l).2.length - k; omega)
    refine T_el (dtn h6) ?_
    refine qbu rfl rfl ?_
    refine qaa ?_
    have hke : k = (qab l).2.length := by omega
    subst hke
    have heqF : (qab l).2.map (movN ii) = (qab (l.map (upV ii))).2 := by rw [hme]
    refine T_wk (Wk.eq (show _ = [ps 3 (.opt 0 0), ps 5 (.osl 1 0 ((qab l).2.length)), ps 6 (iv 0), ps 13 (.osl 2 0 ((qab (l.map (upV ii))).2.length)), ps 72 (nv ((qab l).2.length)), ps 73 (nv ((qab l).2.length)), ps 74 (bv (decide (((((qab l).2.length) : Nat) : Int) < (((qab l).2.length : Nat) : Int)))), pb 0 41 [(iv ii.1), (iv ii.2)], pb 1 58 (nos ((qab l).2.map (movN ii))), pb 2 58 (nos ((qab (l.map (upV ii))).2))] from by rw [mvM_all])) ?_
    refine T_r mixed [(3, .gd true (.no)), (4, .gd true (.no)), (5, .gd true (.lay [1, 2] (.call [] [(.ssl (nos ((qab l).2.map (movN ii))) 0 ((qab l).2.length)), (.ssl (nos ((qab (l.map (upV ii))).2)) 0 ((qab (l.map (upV ii))).2.length))] [] (bv true) [])))] [ps 4 (bv true)] (oc (rfl : true = true) (oc (rfl : true = true) (oc (rfl : true = true) (oc (qal _ : shds (nos ((qab l).2.map (movN ii)))) (oc (qal _ : shds (nos ((qab (l.map (upV ii))).2))) (oc (qoa heqF (by rw [List.length_map]) (by rw [List.length_map]; omega)) (oc (rfl : Ren0 51 [(.ssl (nos ((qab l).2.map (movN ii))) 0 ((qab l).2.length)), (.ssl (nos ((qab (l.map (upV ii))).2)) 0 ((qab (l.map (upV ii))).2.length))]) oz))))))) ?_
    exact qai fun cx_ a_ hI_ => rt hc0 [ps 4 (bv true)] [] hI_
   refine T_k mixed [(1, .call [] [(.ssl (vos (l.map (upV ii))) 0 ((l.map (upV ii)).length))] [] (.tup [(.ssl [] 0 0), (iv ((qab (l.map (upV ii))).1))]) [])] [.k2, .n, .d, .n, .d, .r] [ps 6 (iv ((qab (l.map (upV ii))).1)), ps 13 (.ssl [] 0 0)] (oc (qey (l.map (upV ii)) hfu h5) (oc (rfl : Ren0 43 [(.ssl (vos (l.map (upV ii))) 0 ((l.map (upV ii)).length))]) oz)) ?_
   refine qaa <| qaa ?_
   refine T_k mixed [] [.k4, .n, .n, .r] [ps 72 (nv ((qab l).2.length)), ps 73 (iv 0)] (oz) ?_
   refine qan ?_
   have hmb := ((qlg h1 h4).resolve_left (fun q => h5 (by rw [q.1]))).2
   refine T_wk (Wk.eq (show _ = [ps 3 (.opt 0 0), ps 5 (.osl 1 0 ((qab l).2.length)), ps 6 (iv ((qab (l.map (upV ii))).1)), ps 13 (.ssl [] 0 0), ps 72 (nv ((qab l).2.length)), ps 73 (iv 0), pb 0 41 [(iv ii.1), (iv ii.2)], pb 1 58 (nos (mvM ii (qab l).2 0))] from by rw [qus])) ?_
   refine qcm (α := {x : Nat // x ≤ (qab l).2.length ∧ (∀ q, q < x → movE ii ((qab l).2.getD q dNt).2.2.2.1 = 0)}) (fun x => [ps 3 (.opt 0 0), ps 5 (.osl 1 0 ((qab l).2.length)), ps 6 (iv ((qab (l.map (upV ii))).1)), ps 13 (.ssl [] 0 0), ps 72 (nv ((qab l).2.length)), ps 73 (nv x.1), pb 0 41 [(iv ii.1), (iv ii.2)], pb 1 58 (nos (mvM ii (qab l).2 x.1))]) (fun x => (qab l).2.length - x.1) 2 ⟨0, ⟨Nat.zero_le _, fun q hq => absurd hq (Nat.not_lt_zero q)⟩⟩ (Wk.ren3 [ps 3 (.opt 0 0), ps 5 (.osl 1 0 ((qab l).2.length)), ps 6 (iv ((qab (l.map (upV ii))).1)), ps 13 (.ssl [] 0 0), ps 72 (nv ((qab l).2.length)), ps 73 (nv 0), pb 0 41 [(iv ii.1), (iv ii.2)], pb 1 58 (nos (mvM ii (qab l).2 0))] 0 hc0 [0, 1] [(kb 1, (nos (mvM ii (qab l).2 0)))] (oc (qal _) (oz)) (by kernel_rfl) rfl rfl (by kernel_rfl) (by kernel_rfl)) ?_
   rintro ⟨k, ⟨hk, hb⟩⟩
   refine qaa ?_
   refine T_r mixed [] [ps 3 (.opt 0 0), ps 5 (.osl 1 0 ((qab l).2.length)), ps 6 (iv ((qab (l.map (upV ii))).1)), ps 13 (.ssl [] 0 0), ps 72 (nv ((qab l).2.length)), ps 73 (nv k), ps 74 (bv (decide (((k : Nat) : Int) < (((qab l).2.length : Nat) : Int)))), pb 0 41 [(iv ii.1), (iv ii.2)], pb 1 58 (nos (mvM ii (qab l).2 k))] (oz) ?_
   refine qaa ?_
   have h8 : ((k : Nat) : Int) < (((qab l).2.length : Nat) : Int) := (by have hne : k ≠ (qab l).2.length := fun e => hmb (okN_of fun q hq => hb q (by omega)); omega)
   refine T_th (dty h8) ?_
   refine qag <| qaa <| qan <| qaa ?_
   refine T_k mixed [] [.k4, .n, .k2, .d, .r] [ps 14 (nv k)] (oz) ?_
   refine qaa ?_
   have hML := qsj ii (qab l).2 hk
   have hat := mvM_at (i := ii) (N := (qab l).2) (k := k) (by omega)
   have hac : Pi.I64 ((mvM ii (qab l).2 k).getD k dNt).2.2.2.1.2.1 := by rw [hat]; exact rb_acc (qur l _ (pch_at (by omega)))
   refine T_kd mixed [(2, .nat (k * 9)), (4, .cells [(iv (((mvM ii (qab l).2 k).getD k dNt).2.2.2.1.1)), (iv (((mvM ii (qab l).2 k).getD k dNt).2.2.2.1.2.1)), (iv (((mvM ii (qab l).2 k).getD k dNt).2.2.2.1.2.2))]), (6, .call [] [(.agg [(iv (((mvM ii (qab l).2 k).getD k dNt).2.2.2.1.1)), (iv (((mvM ii (qab l).2 k).getD k dNt).2.2.2.1.2.1)), (iv (((mvM ii (qab l).2 k).getD k dNt).2.2.2.1.2.2))]), (.agg [(iv ii.1), (iv ii.2)])] [] (.tup [(.agg [(iv ((Pi.move ((mvM ii (qab l).2 k).getD k dNt).2.2.2.1.1 ((mvM ii (qab l).2 k).getD k dNt).2.2.2.1.2.1 ((mvM ii (qab l).2 k).getD k dNt).2.2.2.1.2.2 ii.1 ii.2).1)), (iv ((Pi.move ((mvM ii (qab l).2 k).getD k dNt).2.2.2.1.1 ((mvM ii (qab l).2 k).getD k dNt).2.2.2.1.2.1 ((mvM ii (qab l).2 k).getD k dNt).2.2.2.1.2.2 ii.1 ii.2).2.1)), (iv ((Pi.move ((mvM ii (qab l).2 k).getD k dNt).2.2.2.1.1 ((mvM ii (qab l).2 k).getD k dNt).2.2.2.1.2.1 ((mvM ii (qab l).2 k).getD k dNt).2.2.2.1.2.2 ii.1 ii.2).2.2.1))]), (iv ((Pi.move ((mvM ii (qab l).2 k).getD k dNt).2.2.2.1.1 ((mvM ii (qab l).2 k).getD k dNt).2.2.2.1.2.1 ((mvM ii (qab l).2 k).getD k dNt).2.2.2.1.2.2 ii.1 ii.2).2.2.2))]) [])] [[], [], [0, 1], [0, 1, 2], [0, 1, 2, 3], [], [0, 1, 2, 3, 4, 5], [0, 1, 2, 3, 4, 5, 6], [0, 1, 2, 3, 4, 5, 6, 7], [0, 1, 2, 3, 4, 5, 6, 7], [], [0, 1, 2, 3, 4, 5, 6, 7, 8, 10], [0, 1, 2, 3, 4, 5, 6, 7, 8, 9, 10, 11]] [([154], [10]), ([156], [28]), ([158], [154, 156]), ([160], [158]), ([162], [3, 160]), ([164], [1, 6]), ([166], [162, 164]), ([152], [166]), ([168], [152]), ([170], [152]), ([30, 213], []), ([213], [30, 168, 213]), ([32], [170])] [.k5, .n, .n, .k4, .n] [ps 15 (.opt 106 0), ps 16 (iv ((Pi.move ((mvM ii (qab l).2 k).getD k dNt).2.2.2.1.1 ((mvM ii (qab l).2 k).getD k dNt).2.2.2.1.2.1 ((mvM ii (qab l).2 k).getD k dNt).2.2.2.1.2.2 ii.1 ii.2).2.2.2)), pb 106 52 [(iv ((Pi.move ((mvM ii (qab l).2 k).getD k dNt).2.2.2.1.1 ((mvM ii (qab l).2 k).getD k dNt).2.2.2.1.2.1 ((mvM ii (qab l).2 k).getD k dNt).2.2.2.1.2.2 ii.1 ii.2).1)), (iv ((Pi.move ((mvM ii (qab l).2 k).getD k dNt).2.2.2.1.1 ((mvM ii (qab l).2 k).getD k dNt).2.2.2.1.2.1 ((mvM ii (qab l).2 k).getD k dNt).2.2.2.1.2.2 ii.1 ii.2).2.1)), (iv ((Pi.move ((mvM ii (qab l).2 k).getD k dNt).2.2.2.1.1 ((mvM ii (qab l).2 k).getD k dNt).2.2.2.1.2.1 ((mvM ii (qab l).2 k).getD k dNt).2.2.2.1.2.2 ii.1 ii.2).2.2.1))]] (oc (by omega : (0 : Int) ≤ ((k : Nat) : Int) ∧ ((k : Nat) : Int) < (((qab l).2.length : Nat) : Int)) (oc (by omega : 0 + (((k : Nat) : Int) : Int).toNat * 9 = (k * 9)) (oc (qch noC 9 (fun _ => rfl) dNt (mvM ii (qab l).2 k) k 5 3 (by omega) (by decide) : (k * 9 + 5) + 3 ≤ ((nos (mvM ii (qab l).2 k))).length ∧ (((nos (mvM ii (qab l).2 k))).drop (k * 9 + 5)).take 3 = [(iv (((mvM ii (qab l).2 k).getD k dNt).2.2.2.1.1)), (iv (((mvM ii (qab l).2 k).getD k dNt).2.2.2.1.2.1)), (iv (((mvM ii (qab l).2 k).getD k dNt).2.2.2.1.2.2))]) (oc (qkv ((mvM ii (qab l).2 k).getD k dNt).2.2.2.1.1 ((mvM ii (qab l).2 k).getD k dNt).2.2.2.1.2.1 ((mvM ii (qab l).2 k).getD k dNt).2.2.2.1.2.2 ii.1 ii.2 hac) (oc (rfl : Ren0 74 [(.agg [(iv (((mvM ii (qab l).2 k).getD k dNt).2.2.2.1.1)), (iv (((mvM ii (qab l).2 k).getD k dNt).2.2.2.1.2.1)), (iv (((mvM ii (qab l).2 k).getD k dNt).2.2.2.1.2.2))]), (.agg [(iv ii.1), (iv ii.2)])]) oz))))) ?_
   refine qaa <| qaa ?_
   refine T_k mixed [] [.k6, .d, .k2, .n, .r] [ps 87 (bv (!(decide (((Pi.move ((mvM ii (qab l).2 k).getD k dNt).2.2.2.1.1 ((mvM ii (qab l).2 k).getD k dNt).2.2.2.1.2.1 ((mvM ii (qab l).2 k).getD k dNt).2.2.2.1.2.2 ii.1 ii.2).2.2.2) = 0))))] (oz) ?_
   by_cases h9 : ((Pi.move ((mvM ii (qab l).2 k).getD k dNt).2.2.2.1.1 ((mvM ii (qab l).2 k).getD k dNt).2.2.2.1.2.1 ((mvM ii (qab l).2 k).getD k dNt).2.2.2.1.2.2 ii.1 ii.2).2.2.2) = 0
   ·refine T_el (bt h9) ?_
    refine qag ?_
    refine T_k mixed [(3, .nat (k * 9)), (5, .cells (nos (mvM ii (qab l).2 (k + 1))))] [.k4, .d, .d, .k2, .d, .k1, .d, .n, .d] [pb 1 58 (nos (mvM ii (qab l).2 (k + 1)))] (oc (by omega : (0 : Int) ≤ ((k : Nat) : Int) ∧ ((k : Nat) : Int) < (((qab l).2.length : Nat) : Int)) (oc (by omega : 0 + (((k : Nat) : Int) : Int).toNat * 9 = (k * 9)) (oc (qqp (show k < (qab l).2.length by omega) rfl : (k * 9 + 5) + 3 ≤ ((nos (mvM ii (qab l).2 k))).length ∧ qcj (nos (mvM ii (qab l).2 k)) (k * 9 + 5) [(iv ((Pi.move ((mvM ii (qab l).2 k).getD k dNt).2.2.2.1.1 ((mvM ii (qab l).2 k).getD k dNt).2.2.2.1.2.1 ((mvM ii (qab l).2 k).getD k dNt).2.2.2.1.2.2 ii.1 ii.2).1)), (iv ((Pi.move ((mvM ii (qab l).2 k).getD k dNt).2.2.2.1.1 ((mvM ii (qab l).2 k).getD k dNt).2.2.2.1.2.1 ((mvM ii (qab l).2 k).getD k dNt).2.2.2.1.2.2 ii.1 ii.2).2.1)), (iv ((Pi.move ((mvM ii (qab l).2 k).getD k dNt).2.2.2.1.1 ((mvM ii (qab l).2 k).getD k dNt).2.2.2.1.2.1 ((mvM ii (qab l).2 k).getD k dNt).2.2.2.1.2.2 ii.1 ii.2).2.2.1))] = (nos (mvM ii (qab l).2 (k + 1)))) oz))) ?_
    refine qbg ?_
    refine T_k mixed [] [.k5, .d, .n, .r] [ps 73 (iv (((k : Nat) : Int) + 1))] (oc (by simp only [InK]; omega : InK .i64 (((k : Nat) : Int) + 1)) oz) ?_
    have hz := h9
    rw [hat] at hz
    exact qce ⟨k + 1, ⟨by show k + 1 ≤ (qab l).2.length; omega, fun q hq => (Nat.lt_or_ge q k).elim (hb q) fun h => by obtain rfl : q = k := (by omega); exact hz⟩⟩ (Wk.trans (Wk.eq (show _ = [ps 3 (.opt 0 0), ps 5 (.osl 1 0 ((qab l).2.length)), ps 6 (iv ((qab (l.map (upV ii))).1)), ps 13 (.ssl [] 0 0), ps 72 (nv ((qab l).2.length)), ps 73 (nv (k + 1)), pb 0 41 [(iv ii.1), (iv ii.2)], pb 1 58 (nos (mvM ii (qab l).2 (k + 1)))] from by rfl)) (Wk.ren3 [ps 3 (.opt 0 0), ps 5 (.osl 1 0 ((qab l).2.length)), ps 6 (iv ((qab (l.map (upV ii))).1)), ps 13 (.ssl [] 0 0), ps 72 (nv ((qab l).2.length)), ps 73 (nv (k + 1)), pb 0 41 [(iv ii.1), (iv ii.2)], pb 1 58 (nos (mvM ii (qab l).2 (k + 1)))] 0 hc0 [0, 1] [(kb 1, (nos (mvM ii (qab l).2 (k + 1))))] (oc (qal _) (oz)) (by kernel_rfl) rfl rfl (by kernel_rfl) (by kernel_rfl))) (show (qab l).2.length - (k + 1) < (qab l).2.length - k from by show (qab l).2.length - (k + 1) < (qab l).2.length - k; omega)
   refine T_th (bf h9) ?_
   refine qaa ?_
   refine T_r mixed [] [ps 4 (bv (!(decide (((qab (l.map (upV ii))).1) = 0))))] (oz) ?_
   refine T_wk (Wk.eq (show _ = [ps 4 (bv true)] from by rw [dtn h5]; rfl)) ?_
   exact qai fun cx_ a_ hI_ => qav (rt hc0 [ps 4 (bv true)] [] hI_)
  refine T_th (bf h4) ?_
  refine qaa ?_
  refine T_r mixed [] [ps 4 (bv true)] (oz) ?_
  exact qai fun cx_ a_ hI_ => rt hc0 [ps 4 (bv true)] [] hI_
 refine T_k mixed [(1, .call [] [(.ssl (vos l) 0 l.length)] [] (.tup [(.ssl [] 0 0), (iv ((qab l).1))]) [])] [.k2, .n, .n, .d, .r] [ps 5 (.ssl [] 0 0), ps 6 (iv ((qab l).1))] (oc (qey l hf h1) (oc (rfl : Ren0 40 [(.ssl (vos l) 0 l.length)]) oz)) ?_
 refine qaa <| qaa ?_
 refine T_k mixed [] [.k3, .d, .n, .r] [ps 25 (bv (!(decide (((qab l).1) = 0))))] (oz) ?_
 have h10 : ¬ (((qab l).1) = 0) := h1
 refine T_th (bf h10) ?_
 refine qaa ?_
 refine T_r mixed [] [ps 4 (bv true)] (oz) ?_
 exact qai fun cx_ a_ hI_ => rt hc0 [ps 4 (bv true)] [] hI_
end Go.Proofs.YtmlnilkbolcknaaGreatDoor.Pm
namespace Go.Proofs.YtmlnilkbolcknaaGreatDoor.Pm
open Go Go.Deep Go.ChangeShapes Go.WideShapes Go.ChangeAt Go.RowKit

/-- The parts of a struct, one qay the other. -/
def ShF (r : TypeId → List PV → Prop) : List Field → List PV → Prop
 | [], ps => ps = []
 | f :: fs, ps => ∃ a b, ps = a ++ b ∧ r f.type a ∧ ShF r fs b
/-- The tree's form, by the type. -/
def Sh (P : Program) : Nat → TypeId → List PV → Prop
 | 0, _, _ => False
 | n + 1, t, ps => match P.underlying t with
  | some .bool => ∃ b, ps = [.av (.bool b)]
  | some (.int k) => ∃ m, ps = [.av (.int k m)] ∧ (Lit.int k m).wf = true
  | some (.float k) => ∃ b, ps = [.av (.float k b)] ∧ (Lit.float k b).wf = true
  | some .string => ∃ s : ByteArray, ps = [.av (.string s)] ∧ s.size ≤ maxLen ∧ s.data.toList.length ≤ reachBytes
  | some (.slice e) => ∃ ess : List (List PV), ps = [.ssl ess.flatten 0 ess.length] ∧ ess.length ≤ maxLen ∧ ess.length * P.bytesOf e ≤ reachBytes ∧ ∀ es ∈ ess, Sh P n e es
  | some (.struct fs) => ShF (Sh P n) fs.toList ps
  | _ => False
mutual
/-- How much a reading holds. -/
def qfq {H : Type} : DataW H → Nat
 | .lit (.string bytes) => bytes.length + 1
 | .lit _ => 1
 | .nil => 1
 | .ptr d => qfq d + 1
 | .slice elems spare => qgi elems + qgi spare + 1
 | .agg parts => qgi parts + 1
 | .iface _ d => qfq d + 1
 | .map entries => qmb entries + 1
 | .held _ => 1
def qgi {H : Type} : List (DataW H) → Nat
 | [] => 0
 | d :: r => qfq d + qgi r
def qmb {H : Type} : List (Lit × DataW H) → Nat
 | [] => 0
 | x :: r => bulkEntry x + qmb r
def bulkEntry {H : Type} : Lit × DataW H → Nat
 | (.string bytes, d) => bytes.length + qfq d + 1
 | (_, d) => qfq d + 1
end
mutual
/-- How much a tree holds. -/
def pvw : PV → Nat
 | .av (.string s) => s.size + 1
 | .ssl cs _ _ => pvws cs + 1
 | .agg cs => pvws cs + 1
 | _ => 1
def pvws : List PV → Nat
 | [] => 0
 | p :: l => pvw p + pvws l
end
theorem qof : ∀ a b : List PV, pvws (a ++ b) = pvws a + pvws b
 | [], b => by simp [pvws]
 | p :: a, b => by rw [List.cons_append, pvws, pvws, qof a b]; omega
theorem qjl : ∀ l : List (List PV), pvws l.flatten = (l.map pvws).sum
 | [] => rfl
 | a :: l => by rw [List.flatten_cons, qof, qjl l, List.map_cons, List.sum_cons]
theorem sum_le {H : Type} : ∀ (n : Nat) (f : Nat → Nat) (ds : List (DataW H)), ds.length = n → (∀ i (h : i < ds.length), f i ≤ qfq ds[i]) → ((List.range n).map f).sum ≤ qgi ds
 | 0, f, ds, hl, h => by simp
 | n + 1, f, [], hl, h => by simp at hl
 | n + 1, f, d :: ds, hl, h => by
  rw [List.range_succ_eq_map, List.map_cons, List.sum_cons, List.map_map, qgi]
  have h0 := h 0 (by simp)
  have h1 := sum_le n (f ∘ Nat.succ) ds (by simpa using hl) fun i hi => by have := h (i + 1) (by simpa using hi); simpa using this
  simp only [List.getElem_cons_zero] at h0
  omega
def qrl (P : Program) : List Field → Nat → Option Nat
 | [], o => some o
 | f :: fs, o => if f.offset = o then qrl P fs (o + P.cellsOf f.type) else none
/-- These types can be opened, with all that is in them. -/
def openB (P : Program) (Ts : List TypeId) : Bool := Ts.all fun t => match P.underlying t with
 | some .bool | some (.int _) | some (.float _) | some .string => Nat.beq (P.cellsOf t) 1
 | some (.slice e) => Nat.beq (P.cellsOf t) 1 && Nat.ble 1 (P.cellsOf e) && Ts.contains e
 | some (.struct fs) => qrl P fs.toList 0 == some (P.cellsOf t) && fs.toList.all fun f => Ts.contains f.type
 | _ => false
theorem List.getD_app {α : Type} {l m : List α} {i : Nat} {d : α} (h : i < l.length) : (l ++ m).getD i d = l.getD i d := by
 rw [List.getD_eq_getElem?_getD, List.getD_eq_getElem?_getD, List.getElem?_append_left h]
theorem List.getD_app_r {α : Type} {l m : List α} {i : Nat} {d : α} (h : l.length ≤ i) : (l ++ m).getD i d = m.getD (i - l.length) d := by
 rw [List.getD_eq_getElem?_getD, List.getD_eq_getElem?_getD, List.getElem?_append_right h]
theorem qlv {k : Nat} : ∀ {ess : List (List PV)}, (∀ es ∈ ess, es.length = k) → ess.flatten.length = ess.length * k ∧ ∀ i j, j < k → i < ess.length → ess.flatten.getD (i * k + j) P0 = (ess.getD i []).getD j P0
 | [], _ => ⟨by simp, fun i j _ h => absurd h (Nat.not_lt_zero _)⟩
 | es :: ess, h => by
  have h0 := h es (by simp)
  obtain ⟨h1, h2⟩ := qlv (ess := ess) fun x hx => h x (by simp [hx])
  refine ⟨by rw [List.flatten_cons, List.length_append, h0, h1, List.length_cons, Nat.succ_mul]; omega, fun i j hj hi => ?_⟩
  rw [List.flatten_cons]
  cases i with
  | zero => rw [Nat.zero_mul, Nat.zero_add, List.getD_app (by omega)]; rfl
  | succ i =>
   rw [List.getD_app_r (by rw [h0, Nat.succ_mul]; omega), h0, show (i + 1) * k + j - k = i * k + j from by rw [Nat.succ_mul]; omega, h2 i j hj (by simpa using hi)]
   rfl
section
variable {H : Type} {enc : TypeId × Value → H} {P : Program} {w : World} {base : Nat} {held : Bool}
abbrev qnt (w : World) (ps : List PV) (cs : List Value) : Prop := ones ps ∧ ps.length = cs.length ∧ ∀ i, i < ps.length → SRep w (fun b => b < w.heap.size) (ps.getD i P0) (cs.getD i undef)
theorem qdu {p : PV} {v : Value} (h : p.one = true) (hr : SRep w (fun b => b < w.heap.size) p v) : qnt w [p] [v] :=
 ⟨fun q hq => by simp only [List.mem_singleton] at hq; rw [hq]; exact h, rfl, fun i hi => by
  have : i = 0 := by simp at hi; omega
  subst this; exact hr⟩
theorem open_fs {Ts : List TypeId} {n : Nat} (ih : ∀ (t : TypeId) (cs : List Value) (x : DataW H × List MemPlace), t ∈ Ts → DataW.trod enc P w base (fun _ => true) held n t cs = some x → (x.1.weights P t).all (· ≤ reachBytes) = true →
  ∃ ps, Sh P n t ps ∧ qnt w ps cs ∧ cs.length = P.cellsOf t ∧ pvws ps ≤ qfq x.1) (cs : List Value) :
  ∀ (fs : List Field) (xs : List (DataW H × List MemPlace)) (o e : Nat), qrl P fs o = some e → e ≤ cs.length → (∀ f ∈ fs, f.type ∈ Ts) → xs.length = fs.length →
   (∀ (i : Nat) (f : Field), fs[i]? = some f → DataW.trod enc P w base (fun _ => true) held n f.type ((cs.drop f.offset).take (P.cellsOf f.type)) = xs[i]?) →
   (DataW.weightsEach P (fs.map (·.type)) (xs.map (·.1))).all (· ≤ reachBytes) = true → ∃ ps, ShF (Sh P n) fs ps ∧ qnt w ps ((cs.drop o).take (e - o)) ∧ o ≤ e ∧ pvws ps ≤ qgi (xs.map (·.1))
 | [], xs, o, e, hc, he, _, _, _, _ => by
  simp only [qrl, Option.some.injEq] at hc
  subst hc
  exact ⟨[], rfl, ⟨fun p hp => (by cases hp), by simp, fun i hi => by simp at hi⟩, Nat.le_refl _, Nat.zero_le _⟩
 | f :: fs, [], o, e, hc, he, hT, hx, hf, hw => by simp at hx
 | f :: fs, x :: xs, o, e, hc, he, hT, hx, hf, hw => by
  simp only [qrl] at hc
  split at hc
  case isFalse => cases hc
  rename_i ho
  simp only [List.map_cons, DataW.weightsEach, List.all_append, Bool.and_eq_true] at hw
  obtain ⟨b, hb1, hb2, hb3, hb4⟩ := open_fs ih cs fs xs _ e hc he (fun g hg => hT g (by simp [hg])) (by simpa using hx) (fun i g hg => by have := hf (i + 1) g (by simpa using hg); simpa using this) hw.2
  obtain ⟨a, ha1, ha2, ha3, ha4⟩ := ih f.type _ x (hT f (by simp)) (by have := hf 0 f (by simp); simpa using this) hw.1
  rw [ho] at ha2 ha3
  have hla : (List.take (P.cellsOf f.type) (List.drop o cs)).length = P.cellsOf f.type := ha3
  have e1 : (cs.drop o).take (e - o) = (cs.drop o).take (P.cellsOf f.type) ++ (cs.drop (o + P.cellsOf f.type)).take (e - (o + P.cellsOf f.type)) := by
   rw [← List.drop_drop, show e - o = P.cellsOf f.type + (e - (o + P.cellsOf f.type)) from by omega, List.take_add]
  refine ⟨a ++ b, ⟨a, b, rfl, ha1, hb1⟩, ?_, by omega, by rw [qof, List.map_cons, qgi]; omega⟩
  rw [e1]
  refine ⟨fun p hp => ?_, by rw [List.length_append, List.length_append, ha2.2.1, hb2.2.1], fun i hi => ?_⟩
  ·rcases List.mem_append.1 hp with h | h
   ·exact ha2.1 p h
   ·exact hb2.1 p h
  ·have hl := ha2.2.1
   rw [List.length_append] at hi
   by_cases h : i < a.length
   ·rw [List.getD_app h, List.getD_app (by omega)]
    exact ha2.2.2 i h
   ·rw [List.getD_app_r (by omega), List.getD_app_r (by omega), ← hl]
    exact hb2.2.2 _ (by omega)
theorem qol {Ts : List TypeId} (hT : openB P Ts = true) : ∀ (n : Nat) (t : TypeId) (cs : List Value) (x : DataW H × List MemPlace), t ∈ Ts → DataW.trod enc P w base (fun _ => true) held n t cs = some x → (x.1.weights P t).all (· ≤ reachBytes) = true →
  ∃ ps, Sh P n t ps ∧ qnt w ps cs ∧ cs.length = P.cellsOf t ∧ pvws ps ≤ qfq x.1
 | 0, _, _, _, _, h, _ => by simp [DataW.trod] at h
 | n + 1, t, cs, x, ht, h, hw => by
  have hB := List.all_eq_true.1 hT t ht
  split at hB
  ·rename_i hu
   obtain ⟨b, rfl, rfl⟩ := DataW.trod_bool hu h
   exact ⟨[.av (.bool b)], by simp only [Sh, hu]; exact ⟨b, rfl⟩, qdu rfl (.av _), (Nat.eq_of_beq_eq_true hB).symm, by simp [pvws, pvw, qfq]⟩
  ·rename_i k hu
   obtain ⟨b, rfl, rfl, hwf⟩ := DataW.trod_int hu h
   exact ⟨[.av (.int k b)], by simp only [Sh, hu]; exact ⟨b, rfl, hwf⟩, qdu rfl (.av _), (Nat.eq_of_beq_eq_true hB).symm, by simp [pvws, pvw, qfq]⟩
  ·rename_i k hu
   have : ∃ b, cs = [.float k b] ∧ (Lit.float k b).wf = true ∧ x = (.lit (.float k b), []) := by
    unfold DataW.trod at h
    rw [hu] at h
    split at h <;> simp_all
   obtain ⟨b, rfl, hwf, rfl⟩ := this
   exact ⟨[.av (.float k b)], by simp only [Sh, hu]; exact ⟨b, rfl, hwf⟩, qdu rfl (.av _), (Nat.eq_of_beq_eq_true hB).symm, by simp [pvws, pvw, qfq]⟩
  ·rename_i hu
   obtain ⟨s, rfl, rfl, hs⟩ := DataW.trod_string hu h
   have hw9 : ([s.data.toList.length].all (· ≤ reachBytes)) = true := hw
   have hw8 : s.data.toList.length ≤ reachBytes := of_decide_eq_true (List.all_eq_true.1 hw9 s.data.toList.length (List.mem_singleton.2 rfl))
   exact ⟨[.av (.string s)], by simp only [Sh, hu]; exact ⟨s, rfl, hs, hw8⟩, qdu rfl (.av _), (Nat.eq_of_beq_eq_true hB).symm, by simp [pvws, pvw, qfq]⟩
  ·rename_i e hu
   simp only [Bool.and_eq_true] at hB
   obtain ⟨⟨hB1, hB2⟩, hB3⟩ := hB
   have hB1 := Nat.eq_of_beq_eq_true hB1
   have hk := Nat.le_of_ble_eq_true hB2
   have he : e ∈ Ts := by simpa using hB3
   rcases DataW.trod_slice hu h with ⟨rfl, rfl⟩ | ⟨a, len, cap, elems, rest, m, hm, rfl, rfl, hb, hl, hcap, hel, hE, _, _⟩
   ·refine ⟨[.ssl [] 0 0], ?_, qdu rfl .emp, hB1.symm, by simp [pvws, pvw, qfq]⟩
    simp only [Sh, hu]
    exact ⟨[], rfl, Nat.zero_le _, by simp, by simp⟩
   ·obtain rfl : m = n := by omega
    simp only [DataW.weights, hu, List.length_map, List.all_cons, List.all_append, Bool.and_eq_true, decide_eq_true_eq] at hw
    have hwl : ∀ i (hi : i < elems.length), ((elems[i].1).weights P e).all (· ≤ reachBytes) = true := by
     intro i hi
     refine List.all_eq_true.2 fun z hz => ?_
     exact List.all_eq_true.1 hw.2.1 z (qfr (List.mem_map.2 ⟨elems[i], List.getElem_mem hi, rfl⟩) z hz)
    have each : ∀ i, i < len → ∃ q : List PV × List Value, Sh P m e q.1 ∧ qnt w q.1 q.2 ∧ q.2.length = P.cellsOf e ∧ (∀ j, j < P.cellsOf e → w.cell? (a.add (i * P.cellsOf e + j)) = some (q.2.getD j undef)) ∧ ∀ h : i < elems.length, pvws q.1 ≤ qfq (elems[i]).1 := by
     intro i hi
     have h1 := hE i hi
     rw [List.getElem?_eq_getElem (by omega), Option.bind_eq_some_iff] at h1
     obtain ⟨cs', h2, h3⟩ := h1
     obtain ⟨ps, h4, h5, h6, h7⟩ := qol hT m e cs' _ he h3 (hwl i (by omega))
     refine ⟨(ps, cs'), h4, h5, h6, fun j hj => ?_, fun _ => h7⟩
     rw [← Addr.add_add, (World.cells?_some h2).2.2 j hj]
     have : j < cs'.length := by omega
     simp [List.getD_eq_getElem?_getD, this]
    let Q : Nat → List PV × List Value := fun i => if hi : i < len then (each i hi).choose else ([], [])
    have hQ : ∀ i, i < len → Sh P m e (Q i).1 ∧ qnt w (Q i).1 (Q i).2 ∧ (Q i).2.length = P.cellsOf e ∧ (∀ j, j < P.cellsOf e → w.cell? (a.add (i * P.cellsOf e + j)) = some ((Q i).2.getD j undef)) ∧ ∀ h : i < elems.length, pvws (Q i).1 ≤ qfq (elems[i]).1 := by
     intro i hi
     have e1 : Q i = (each i hi).choose := dif_pos hi
     rw [e1]
     exact (each i hi).choose_spec
    have hlen : ((List.range len).map fun i => (Q i).1).length = len := by simp
    refine ⟨[.ssl ((List.range len).map fun i => (Q i).1).flatten 0 ((List.range len).map fun i => (Q i).1).length], ?_, qdu rfl ?_, hB1.symm, ?_⟩
    ·simp only [Sh, hu]
     refine ⟨_, rfl, by rw [hlen]; omega, by rw [hlen]; exact Nat.le_trans (Nat.mul_le_mul_right _ (by omega)) hw.1, fun es hes => ?_⟩
     obtain ⟨i, hi, rfl⟩ := List.mem_map.1 hes
     exact (hQ i (List.mem_range.1 hi)).1
    ·rw [hlen]
     rcases Nat.eq_zero_or_pos len with h0 | h0
     ·subst h0; exact .emp
     ·have hes : ∀ es ∈ (List.range len).map fun i => (Q i).1, es.length = P.cellsOf e := fun es hes => by
       obtain ⟨i, hi, rfl⟩ := List.mem_map.1 hes
       obtain ⟨_, h2, h3, _⟩ := hQ i (List.mem_range.1 hi)
       exact h2.2.1.trans h3
      obtain ⟨hf1, hf2⟩ := qlv hes
      rw [hlen] at hf1 hf2
      have hg : ∀ i, i < len → ((List.range len).map fun i => (Q i).1).getD i [] = (Q i).1 := fun i hi => by simp [List.getD_eq_getElem?_getD, hi]
      obtain ⟨b, o, rfl, hbs, hcell⟩ := qya (w := w) (a := a) (n := len * P.cellsOf e) (f := fun c => (Q (c / P.cellsOf e)).2.getD (c % P.cellsOf e) undef) (fun c hc => by
       have hd : c / P.cellsOf e < len := Nat.div_lt_of_lt_mul (by rw [Nat.mul_comm]; exact hc)
       have := (hQ _ hd).2.2.2.1 (c % P.cellsOf e) (Nat.mod_lt _ hk)
       rw [Nat.mul_comm, Nat.div_add_mod] at this
       exact this) (Nat.mul_pos h0 hk)
      refine SRep.ssl (a := o) (off := 0) (vf := fun c => (Q (c / P.cellsOf e)).2.getD (c % P.cellsOf e) undef) hbs (fun j hj => hcell j (by omega)) (fun j hj => ?_) (fun p hp => ?_) hl
      ·rw [hf1] at hj
       have hd : j / P.cellsOf e < len := Nat.div_lt_of_lt_mul (by rw [Nat.mul_comm]; exact hj)
       have hm := Nat.mod_lt j hk
       have e1 := hf2 (j / P.cellsOf e) (j % P.cellsOf e) hm hd
       rw [Nat.mul_comm, Nat.div_add_mod, hg _ hd] at e1
       rw [e1]
       obtain ⟨_, h2, h3, _⟩ := hQ _ hd
       exact h2.2.2 _ (by rw [h2.2.1, h3]; exact hm)
      ·obtain ⟨es, hes', hp'⟩ := List.mem_flatten.1 hp
       obtain ⟨i, hi, rfl⟩ := List.mem_map.1 hes'
       exact (hQ i (List.mem_range.1 hi)).2.1.1 p hp'
    ·simp only [pvws, pvw, qfq, qjl, List.map_map]
     have := sum_le len (pvws ∘ fun i => (Q i).1) (elems.map (·.1)) (by simpa using hel) fun i hi => by
      have hi' : i < elems.length := by simpa using hi
      have := (hQ i (by omega)).2.2.2.2 hi'
      simpa using this
     omega
  ·rename_i fs hu
   simp only [Bool.and_eq_true, beq_iff_eq, List.all_eq_true] at hB
   obtain ⟨xs, m, hm, rfl, hl, hxl, hf⟩ := DataW.trod_struct hu h
   obtain rfl : m = n := by omega
   simp only [DataW.weights, hu] at hw
   obtain ⟨ps, h1, h2, _, h4⟩ := open_fs (qol hT m) cs fs.toList xs 0 _ hB.1 (by omega) (fun f hf => by simpa using hB.2 f hf) (by simpa using hxl) (fun i f hif => hf i f (by simpa using hif)) hw
   rw [List.drop_zero, Nat.sub_zero, ← hl, List.take_length] at h2
   exact ⟨ps, by simp only [Sh, hu]; exact h1, h2, hl, by simp only [qfq]; omega⟩
  ·cases hB
end
theorem qwv {H : Type} {P : Program} {ts : List TypeId} {ds : List (DataW H)} (h : (DataW.weightsEach P ts ds).all (· ≤ reachBytes) = true) {j : Nat} {t : TypeId} {d : DataW H} (ht : ts[j]? = some t) (hd : ds[j]? = some d) : (d.weights P t).all (· ≤ reachBytes) = true :=
 List.all_eq_true.2 fun n hn => List.all_eq_true.1 h n (DataW.weights_mem_each ht hd n hn)
/-- An argument, whatever its type. -/
theorem arg_any {H : Type} {enc : TypeId × Value → H} {P : Program} {w : World} {base : Nat} {t : TypeId} {v : Value} {d : DataW H} {pl : List MemPlace} {r : Reach} {b0 : Nat} {held : Bool} {Ts : List TypeId}
  (hT : openB P Ts = true) (ht : t ∈ Ts) (hv : Value.okWide P w r b0 t v) (h : DataW.Trod enc P w base (fun _ => true) held t v d pl)
  {ts : List TypeId} {ds : List (DataW H)} (hs : (DataW.weightsEach P ts ds).all (· ≤ reachBytes) = true) {j : Nat} (hj : ts[j]? = some t) (hd : ds[j]? = some d) :
  ∃ n ps, Sh P n t ps ∧ pvws ps ≤ qfq d ∧ match qdh (P.underlying t) with
   | some true => SRep w (fun b => b < w.heap.size) (.agg ps) v
   | _ => ∃ p, ps = [p] ∧ SRep w (fun b => b < w.heap.size) p v := by
 obtain ⟨n, hf⟩ := h
 obtain ⟨ps, h1, ⟨h2, h3, h4⟩, h5, h6⟩ := qol hT n t _ _ ht hf (qwv hs hj hd)
 refine ⟨n, ps, h1, h6, ?_⟩
 have hB := List.all_eq_true.1 hT t ht
 have one : v.cells = #[v] → ∃ p, ps = [p] ∧ SRep w (fun b => b < w.heap.size) p v := fun hc => by
  rw [hc] at h3 h4
  simp only [List.length_cons, List.length_nil] at h3
  obtain ⟨p, rfl⟩ := List.length_eq_one_iff.1 h3
  exact ⟨p, rfl, h4 0 (by simp)⟩
 split at hB
 ·rename_i hu
  obtain ⟨b, rfl⟩ := okWide_bool hu hv
  simp only [hu, qdh]
  exact one rfl
 ·rename_i k hu
  obtain ⟨b, rfl⟩ := okWide_int hu hv
  simp only [hu, qdh]
  exact one rfl
 ·rename_i k hu
  have : ∃ b, v = .float k b := by
   simp only [Value.okWide, hu, Cell.okWide] at hv
   cases v <;> simp_all [Cell.ok]
  obtain ⟨b, rfl⟩ := this
  simp only [hu, qdh]
  exact one rfl
 ·rename_i hu
  obtain ⟨b, rfl⟩ := okWide_string hu hv
  simp only [hu, qdh]
  exact one rfl
 ·rename_i e hu
  obtain ⟨a, l, c, rfl⟩ := okWide_slice hu hv
  simp only [hu, qdh]
  exact one rfl
 ·rename_i fs hu
  obtain ⟨cs, rfl, hsz⟩ := okWide_struct hu hv
  simp only [hu, qdh]
  simp only [Value.cells] at h3 h4
  refine .agg (by simpa using h3.symm) fun i hi => ?_
  have := h4 i hi
  rwa [show cs.toList.getD i undef = cs.getD i undef from by rw [List.getD_eq_getElem?_getD, Array.getElem?_toList, Array.getD_eq_getD_getElem?]] at this
 ·cases hB
end Go.Proofs.YtmlnilkbolcknaaGreatDoor.Pm
namespace Go.Proofs.YtmlnilkbolcknaaGreatDoor.Pm
open Go Go.Deep Go.ChangeShapes Go.WideShapes Go.ChangeAt Go.RowKit

theorem list_of {α : Type} {g : α → List PV} {q : α → Prop} : ∀ {ess : List (List PV)}, (∀ es ∈ ess, ∃ x, es = g x ∧ q x) → ∃ l : List α, ess = l.map g ∧ ∀ x ∈ l, q x
 | [], _ => ⟨[], rfl, by simp⟩
 | es :: ess, h => by
  obtain ⟨x, rfl, hx⟩ := h es (by simp)
  obtain ⟨l, rfl, hl⟩ := list_of (ess := ess) fun e he => h e (by simp [he])
  exact ⟨x :: l, rfl, fun y hy => by
   rcases List.mem_cons.1 hy with rfl | hy
   ·exact hx
   ·exact hl y hy⟩
theorem flat_of {α : Type} (g : α → List PV) (l : List α) : (l.map g).flatten = l.flatMap g := List.flatMap_def.symm
/-- A number of a kind. -/
theorem sh_num {P : Program} {t : TypeId} {k : IntKind} (ht : P.underlying t = some (.int k)) {n : Nat} {ps : List PV} (h : Sh P n t ps) : ∃ m, ps = [.av (.int k m)] ∧ (Lit.int k m).wf = true := by
 cases n with
 | zero => exact h.elim
 | succ n => simpa only [Sh, ht] using h
theorem sh_str' {P : Program} {t : TypeId} (ht : P.underlying t = some .string) {n : Nat} {ps : List PV} (h : Sh P n t ps) : ∃ s : ByteArray, ps = [.av (.string s)] ∧ s.size ≤ maxLen ∧ s.data.toList.length ≤ reachBytes := by
 cases n with
 | zero => exact h.elim
 | succ n => simpa only [Sh, ht] using h
/-- A slice of elements that are told. -/
theorem qks {P : Program} {t e : TypeId} (ht : P.underlying t = some (.slice e)) {α : Type} {g : α → List PV} {q : α → Prop} {n : Nat} {ps : List PV} (h : Sh P n t ps) (hg : ∀ m es, m < n → Sh P m e es → ∃ x, es = g x ∧ q x) :
  ∃ l : List α, ps = [.ssl (l.flatMap g) 0 l.length] ∧ (∀ x ∈ l, q x) ∧ l.length ≤ maxLen ∧ l.length * P.bytesOf e ≤ reachBytes := by
 cases n with
 | zero => exact h.elim
 | succ n =>
  simp only [Sh, ht] at h
  obtain ⟨ess, rfl, h1, h2, h3⟩ := h
  obtain ⟨l, rfl, hl⟩ := list_of fun es hes => hg n es (Nat.lt_succ_self _) (h3 es hes)
  rw [List.length_map] at h1 h2
  refine ⟨l, by rw [flat_of, List.length_map], hl, h1, h2⟩
end Go.Proofs.YtmlnilkbolcknaaGreatDoor.Pm
namespace Go.Proofs.YtmlnilkbolcknaaGreatDoor.Pm
open Go

theorem wf_of {m : Int} (h : (Lit.int .i64 m).wf = true) : i64r m := by
 simp [Lit.wf, IntKind.min, IntKind.max, IntKind.signed, IntKind.bits] at h; unfold i64r; omega
theorem qhu {n : Nat} {ps : List PV} (h : Sh Tryz.prog n 3 ps) : ∃ m, ps = [iv m] ∧ i64r m := by
 obtain ⟨m, h1, h2⟩ := sh_num Tryz.underlying3 h
 exact ⟨m, h1, wf_of h2⟩
theorem sc_str {n : Nat} {ps : List PV} (h : Sh Tryz.prog n 9 ps) : ∃ s : Txt, ps = [sv (st s)] ∧ s.length ≤ 140737488351232 := by
 obtain ⟨s, h1, _, h2⟩ := sh_str' Tryz.underlying9 h
 exact ⟨s.data.toList, h1, h2⟩
theorem sc_pit {n : Nat} {ps : List PV} (h : Sh Tryz.prog n 52 ps) : ∃ p : Pt, ps = ptC p := by
 cases n with
 | zero => exact h.elim
 | succ n =>
  simp only [Sh, Tryz.underlying52, ShF] at h
  obtain ⟨a, b, rfl, h1, c, d, rfl, h2, e, f, rfl, h3, rfl⟩ := h
  obtain ⟨x, rfl, _⟩ := qhu h1
  obtain ⟨y, rfl, _⟩ := qhu h2
  obtain ⟨z, rfl, _⟩ := qhu h3
  exact ⟨(x, y, z), rfl⟩
theorem sc_pts {n : Nat} {ps : List PV} (h : Sh Tryz.prog n 48 ps) : ∃ l : List Pt, ps = [.ssl (pts l) 0 l.length] ∧ l.length ≤ 5864062014634 := by
 obtain ⟨l, h1, _, _, h4⟩ := qks (g := ptC) (q := fun _ => True) Tryz.underlying48 h fun m es _ hs => by obtain ⟨p, hp⟩ := sc_pit hs; exact ⟨p, hp, trivial⟩
 rw [show Tryz.prog.bytesOf 52 = 24 from by kernel_rfl] at h4
 have h5 : l.length * 24 ≤ 140737488351232 := h4
 exact ⟨l, h1, by omega⟩
theorem sc_iv {n : Nat} {ps : List PV} (h : Sh Tryz.prog n 41 ps) : ∃ i : Int × Int, ps = [iv i.1, iv i.2] ∧ i64r i.1 ∧ i64r i.2 := by
 cases n with
 | zero => exact h.elim
 | succ n =>
  simp only [Sh, Tryz.underlying41, ShF] at h
  obtain ⟨a, b, rfl, h1, c, d, rfl, h2, rfl⟩ := h
  obtain ⟨x, rfl, hx⟩ := qhu h1
  obtain ⟨y, rfl, hy⟩ := qhu h2
  exact ⟨(x, y), rfl, hx, hy⟩
theorem iv5_of (n : Nat) (ps : List PV) (h : Sh Tryz.prog n 41 ps) : ∃ i : Int × Int, ps = [iv i.1, iv i.2] ∧ i64r i.1 ∧ i64r i.2 := sc_iv h
theorem qsw : ∀ {l : List It}, (∀ x ∈ l, fitI x) → fitL l
 | [], _ => trivial
 | x :: l, h => ⟨h x (by simp), qsw fun y hy => h y (by simp [hy])⟩
theorem item_of : ∀ (n : Nat) (ps : List PV), Sh Tryz.prog n 50 ps → ∃ x, ps = gI x ∧ fitI x := by
 intro n
 induction n using Nat.strongRecOn with
 | ind n ih =>
  intro ps h
  cases n with
  | zero => exact h.elim
  | succ n =>
   simp only [Sh, Tryz.underlying50, ShF] at h
   obtain ⟨_, _, rfl, h1, _, _, rfl, h2, _, _, rfl, h3, _, _, rfl, h4, _, _, rfl, h5, _, _, rfl, h6, rfl⟩ := h
   obtain ⟨k, rfl, _⟩ := qhu h1
   obtain ⟨s, rfl, _⟩ := qhu h2
   obtain ⟨P, rfl, hP⟩ := sc_pts h3
   obtain ⟨i, rfl, hi1, hi2⟩ := sc_iv h4
   obtain ⟨y, rfl, hy⟩ := sc_str h5
   obtain ⟨l, rfl, hl, _, hb⟩ := qks (g := gI) (q := fitI) Tryz.underlying45 h6 fun m es hm hs => ih m (by omega) es hs
   rw [show Tryz.prog.bytesOf 50 = 96 from by kernel_rfl] at hb
   have hb' : l.length * 96 ≤ 140737488351232 := hb
   refine ⟨.mk k s P i y l, ?_, ⟨⟨hi1, hi2⟩, hP, hy, by omega, qsw hl⟩⟩
   simp only [gI, iK, iS, iP, iB, iL, iC, qej]
   rfl
theorem sc_items {n : Nat} {ps : List PV} (h : Sh Tryz.prog n 45 ps) : ∃ l : List It, ps = [.ssl (ics l) 0 l.length] ∧ l.length ≤ 1466015503658 ∧ fitL l := by
 obtain ⟨l, h1, hl, _, hb⟩ := qks (g := gI) (q := fitI) Tryz.underlying45 h fun m es _ hs => item_of m es hs
 rw [show Tryz.prog.bytesOf 50 = 96 from by kernel_rfl] at hb
 have hb' : l.length * 96 ≤ 140737488351232 := hb
 exact ⟨l, by rw [qej]; exact h1, by omega, qsw hl⟩
theorem bar_of (n : Nat) (ps : List PV) (h : Sh Tryz.prog n 47 ps) : ∃ b : Br, ps = brC b ∧ qrf b := by
 cases n with
 | zero => exact h.elim
 | succ n =>
  simp only [Sh, Tryz.underlying47, ShF] at h
  obtain ⟨_, _, rfl, h1, _, _, rfl, h2, _, _, rfl, h3, rfl⟩ := h
  obtain ⟨u, rfl, hu⟩ := qhu h1
  obtain ⟨d, rfl, hd⟩ := qhu h2
  obtain ⟨l, rfl, hl, hf⟩ := sc_items h3
  exact ⟨(u, d, l), rfl, hu, hd, hl, hf⟩
theorem vo_of (n : Nat) (ps : List PV) (h : Sh Tryz.prog n 44 ps) : ∃ v : Vo, ps = voC v ∧ fitVo v := by
 cases n with
 | zero => exact h.elim
 | succ n =>
  simp only [Sh, Tryz.underlying44, ShF] at h
  obtain ⟨_, _, rfl, h1, _, _, rfl, h2, rfl⟩ := h
  obtain ⟨nm, rfl, hn⟩ := sc_str h1
  obtain ⟨B, rfl, hB, _, hb⟩ := qks (g := brC) (q := qrf) Tryz.underlying42 h2 fun m es _ hs => bar_of m es hs
  rw [show Tryz.prog.bytesOf 47 = 40 from by kernel_rfl] at hb
  have hb' : B.length * 40 ≤ 140737488351232 := hb
  refine ⟨(nm, B), rfl, hn, by show B.length ≤ _; omega, fun i hi => ?_⟩
  rw [List.getD_eq_getElem?_getD, List.getElem?_eq_getElem hi]
  exact hB _ (List.getElem_mem hi)
theorem vos_of (n : Nat) (p : PV) (h : Sh Tryz.prog n 22 [p]) : ∃ l : List Vo, p = .ssl (vos l) 0 l.length ∧ qsv l := by
 obtain ⟨l, h1, hl, _, hb⟩ := qks (g := voC) (q := fitVo) Tryz.underlying22 h fun m es _ hs => vo_of m es hs
 simp only [List.cons.injEq, and_true] at h1
 rw [show Tryz.prog.bytesOf 44 = 40 from by kernel_rfl] at hb
 have hb' : l.length * 40 ≤ 140737488351232 := hb
 refine ⟨l, h1, by omega, fun i hi => ?_⟩
 rw [List.getD_eq_getElem?_getD, List.getElem?_eq_getElem hi]
 exact hl _ (List.getElem_mem hi)
end Go.Proofs.YtmlnilkbolcknaaGreatDoor.Pm
