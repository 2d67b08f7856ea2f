/-
  SCORE: a text read: the whole. Plain ones. (Printed by wip/pm.) | SCORE: strings.IndexAny at ASCII texts; one plain text read. | ScoreBars: walk. (Printed by wip/pm.) | SCORE: how many notes a voice has. No program in sight. | ScoreBars: for every voice and every place. | THE VALUE MACHINE (Open): whatever came in, by its type: numbers, truth values, floats, strings, slices and structs of such, as deep as they are. | What came in, at its types: lists of numbers, lists of such; how much they hold. | SCORE: items, bars, voices that came in.
-/
import Derived.Test.YtmlnilkbolcknaaGreatDoorJLawSBars5
import Derived.Test.YtmlnilkbolcknaaGreatDoorJLawSBars2
import Derived.Shelf.Strings.IndexAnyAll
import Derived.Test.YtmlnilkbolcknaaGreatDoorJLawSBars4
namespace Go.Proofs.YtmlnilkbolcknaaGreatDoor.Pm
open Go Go.Proofs.YtmlnilkbolcknaaGreatDoor.Pi

/-- What comes out of a reading. -/
def resR (q : Int × List Vo × Nat) : PV := .tup [.ssl (vos q.2.1) 0 q.2.1.length, .agg [iv q.1, iv ((q.2.2 : Nat) : Int)]]
def RF (s : Txt) (c0 : Cx) (Bor : Nat → Prop) : Ending → World → Prop := fun e w' => ∃ v c', e = .returned v ∧ c'.w = w' ∧ Heap ⟨Tryz.prog, 0, c0, ⟨Bor, []⟩⟩ (· < 0) c' (fun _ => none) ∧ Rep Tryz.prog c' (resR (readP s)) v
/-- How it ends, the literal and all. -/
def QF (s : Txt) (c0 : Cx) (Bor : Nat → Prop) : Post := fun e cx a => match e with
 | .normal => Leaves Tryz.prog Tryz.f15 a.tmps (RF s c0 Bor) a.defers .returning cx.w
 | .ret => Leaves Tryz.prog Tryz.f15 a.tmps (RF s c0 Bor) a.defers .returning cx.w
 | .panic ch => Leaves Tryz.prog Tryz.f15 a.tmps (RF s c0 Bor) a.defers (.panicking ch) cx.w
 | _ => False
theorem fin_ret {s : Txt} {c0 : Cx} {Bor : Nat → Prop} {m : Nat} {cx : Cx} {a : Act} {l : L} {r : PV} (hc0 : ∀ i x, c0.own i = some x → i < 0) (hI : Inv ⟨Tryz.prog, Tryz.f15.ntmps, c0, ⟨Bor, []⟩⟩ (· < m) cx (get l) a)
  (hr : runv (get l) (resP Tryz.prog Tryz.f15.results.toList fun ps => .done (resPV ps) []) = some (r, [])) (hd : dsh r = true) (he : r = resR (readP s)) : QF s c0 Bor .ret cx a := by
 obtain ⟨v, h1, h2⟩ := qaw hr cx a hI
 show Leaves Tryz.prog Tryz.f15 a.tmps (RF s c0 Bor) a.defers .returning cx.w
 rw [show a.defers = [] from hI.dfr]
 exact ⟨v, h1, v, ⟨cx.w, cx.S, c0.own⟩, rfl, rfl, (hI.toHeap.bare hc0).envD, by rw [← he]; exact .sh (rep_dsh (c := cx) h2 hd)⟩
theorem rf_of {s : Txt} {c0 : Cx} {Bor : Nat → Prop} {c' : Cx} {r : PV} {v : Value} {own2 : Nat → Option (Option Nat × TypeId)} (h : Heap ⟨Tryz.prog, 0, c0, ⟨Bor, []⟩⟩ (· < 0) ⟨c'.w, c'.S, c0.own⟩ (fun _ => none)) (hr : Rep Tryz.prog ⟨c'.w, c'.S, own2⟩ r v) (hd : dsh r = true) (he : r = resR (readP s)) : RF s c0 Bor (.returned v) c'.w :=
 ⟨v, ⟨c'.w, c'.S, c0.own⟩, rfl, rfl, h, by rw [← he]; exact .sh (rep_dsh (c := ⟨c'.w, c'.S, own2⟩) hr hd)⟩
set_option maxRecDepth 100000 in
set_option maxHeartbeats 4000000 in
theorem read_defer {s : Txt} (hs : s.length ≤ 65536) (hr : RdyP s) {o0 o1 o3 : Array Oper} {c2 rest : Code} (hb : Tryz.f15.body = some (.seq (.region 0 o0 false) (.seq (.seq (.region 1 o1 false) c2) (.seq (.region 3 o3 false) rest)))) {c0 : Cx} {Bor : Nat → Prop} (hc0 : ∀ i x, c0.own i = some x → i < 0)
  {n0 i1 : Nat} {l : L} (hi1 : Nat.blt 0 i1 = true) (g0 : get l (ks 0) = some (.pv (sv (st s)))) (g2 : get l (ks 2) = some (.pv (.opt 0 0))) (g3 : get l (ks 3) = some (.pv (.opt i1 0))) (g9 : get l (ks 9) = none) (gb0 : get l (kb 0) = some (.blk 22 [.av (.slice none 0 0)])) (gb1 : get l (kb i1) = some (.blk 33 [iv 0, iv 0])) :
  T Tryz.prog Tryz.f15.ntmps c0 ⟨Bor, []⟩ (QF s c0 Bor) n0 l [.code (.seq (.region 3 o3 false) rest)] := by
 intro cx a hI
 have ho3 : o3 = #[{ dst := some 9, op := .makeFunc (.func 37) #[] #[.tmp 2, .tmp 3], type := 1, pos := "read.go:213", after := #[], guard := none }, { dst := none, op := .defer { callee := .value (.tmp 9), args := #[], argTypes := #[] }, type := 0, pos := "read.go:213", after := #[{ on := 0, ground := .data }], guard := none }] := by cases hb; rfl
 have hv2 : ∃ b T, cx.own 0 = some (some b, T) ∧ a.tmps.getD 2 undef = .pointer (some ⟨b, 0, none⟩) := qcu (hI.slot 2 _ g2)
 have hv3 : ∃ b T, cx.own i1 = some (some b, T) ∧ a.tmps.getD 3 undef = .pointer (some ⟨b, 0, none⟩) := qcu (hI.slot 3 _ g3)
 obtain ⟨b2, T2, hown2, hp2⟩ := hv2
 obtain ⟨b3, T3, hown3, hp3⟩ := hv3
 have hsz : a.tmps.size = Tryz.f15.ntmps := hI.tmps
 show (Code.seq (.region 3 o3 false) rest).wp Tryz.prog _ a cx.w
 refine wp_seq (wp_region ?_)
 subst ho3
 show wpOps Tryz.prog _ _ [0, 1] a cx.w
 refine wp_one (o := { dst := some 9, op := .makeFunc (.func 37) #[] #[.tmp 2, .tmp 3], type := 1, pos := "read.go:213", after := #[], guard := none }) rfl rfl ?_
 unfold Oper.wp
 rw [show (execOp a.eval ({ dst := some 9, op := .makeFunc (.func 37) #[] #[.tmp 2, .tmp 3], type := 1, pos := "read.go:213", after := #[], guard := none } : Oper)).run Tryz.prog cx.w = .ok (.value (.func (.func 37) #[] #[a.tmps.getD 2 undef, a.tmps.getD 3 undef])) cx.w from by simp [execOp, Instr.makeFunc, Act.eval], Oper.upon_value]
 refine wp_one (o := { dst := none, op := .defer { callee := .value (.tmp 9), args := #[], argTypes := #[] }, type := 0, pos := "read.go:213", after := #[{ on := 0, ground := .data }], guard := none }) rfl rfl ?_
 unfold Oper.wp
 generalize hd : ({ target := .fn (.func 37) #[a.tmps.getD 2 undef, a.tmps.getD 3 undef], args := #[] } : Deferred) = d
 have he9 : (a.put (some 9) (.func (.func 37) #[] #[a.tmps.getD 2 undef, a.tmps.getD 3 undef])).eval (.tmp 9) = .func (.func 37) #[] #[a.tmps.getD 2 undef, a.tmps.getD 3 undef] := by
  show (a.put (some 9) _).tmps.getD 9 undef = _
  rw [put_get _ _ _ _ (by rw [hsz]; exact Nat.lt_of_lt_of_le (Nat.lt_succ_self 9) (Nat.le_of_ble_eq_true rfl)), if_pos rfl]
 rw [run_defer (f := .func 37) (fs := #[]) (cs := #[a.tmps.getD 2 undef, a.tmps.getD 3 undef]) rfl he9, hd, Oper.upon_defer]
 show rest.wp Tryz.prog _ _ cx.w
 have hdf : a.defers = [] := hI.dfr
 have hsame : ∀ s p, get l (ks s) = some (.pv p) → (a.put (some 9) (.func (.func 37) #[] #[a.tmps.getD 2 undef, a.tmps.getD 3 undef])).tmps.getD s undef = a.tmps.getD s undef := fun s p hp => by
  rw [put_get _ _ _ _ (by rw [hsz]; exact Nat.lt_of_lt_of_le (Nat.lt_succ_self 9) (Nat.le_of_ble_eq_true rfl)), if_neg (fun e => by subst e; rw [g9] at hp; cases hp)]
 have hI1 := lend_two (a2 := { a.put (some 9) (.func (.func 37) #[] #[a.tmps.getD 2 undef, a.tmps.getD 3 undef]) with defers := d :: a.defers }) (rest := [((0 : Nat), (sv (st s)))]) hI hi1 gb0 gb1 (fun _ => rfl) (fun _ => rfl) g2 g3 (put_size _ _ _) hsame (fun x hx => by rw [List.mem_singleton.1 hx]; exact ⟨g0, fun _ => rfl⟩)
 have hc1 : ∀ i x, (cx.via (sigi [0, i1] n0)).own i = some x → i < 2 := fun i x hx => hI1.ids i x (hI1.keep.own i x hx)
 have key := read_rest s hs hr hb _ _ hc1 _ _ hI1
 refine wp_mono key ?_
 rintro e a3 w3 ⟨cx3, rfl, m, l3, hI3, q2, q3, q1, hcase⟩
 rw [hdf] at hI3
 have hbk : ∀ (nx : Nat → Prop) (c' : Cx) (g' : St), Heap ⟨Tryz.prog, Tryz.f15.ntmps, cx.via (sigi [0, i1] n0), ⟨(cEnv Tryz.prog (cx.via (sigi [0, i1] n0)) [some (22, [.av (.slice none 0 0)]), some (33, [iv 0, iv 0])]).Bor.bor, [d]⟩⟩ nx c' g' → Heap ⟨Tryz.prog, 0, c0, ⟨Bor, []⟩⟩ (· < 0) ⟨c'.w, c'.S, c0.own⟩ (fun _ => none) := fun nx c' g' h => back_two hI hi1 gb0 gb1 (fun _ => rfl) (fun _ => rfl) hc0 h
 have hold : ∀ i b T, (cx.via (sigi [0, i1] n0)).own i = some (some b, T) → cx3.own i = some (some b, T) := fun i b T h => hI3.keep.own i _ h
 have hw2 : a3.tmps.getD 2 undef = a.tmps.getD 2 undef := by
  obtain ⟨b, T, h1, h2⟩ := qcu (hI3.slot 2 _ q2)
  rw [hold 0 b2 T2 hown2] at h1
  cases h1
  rw [h2, hp2]
 have hw3 : a3.tmps.getD 3 undef = a.tmps.getD 3 undef := by
  obtain ⟨b, T, h1, h2⟩ := qcu (hI3.slot 3 _ q3)
  rw [hold 1 b3 T3 hown3] at h1
  cases h1
  rw [h2, hp3]
 have hP : readP s = rdP s := if_neg (by omega)
 refine ⟨cx3, rfl, ?_⟩
 rcases hcase with ⟨rfl, hok, q0⟩ | ⟨rfl, hno, p, q0⟩
 ·show Leaves Tryz.prog Tryz.f15 a3.tmps (RF s c0 Bor) a3.defers .returning cx3.w
  refine leave_one (fl := 37) (t0 := 2) (t1 := 3) (T0 := 22) (T1 := 33) (Y0 := [.ssl (vos (rdP s).2.1) 0 (rdP s).2.1.length]) (Y1 := [iv 0, iv 0]) (r := .tup [.ssl (vos (rdP s).2.1) 0 (rdP s).2.1.length, .agg [iv 0, iv 0]]) hI3 hd.symm hw2 hw3 q2 q3 q0 q1 (fun _ => rfl) (fun _ => rfl) (fun _ => rfl) (fun _ => rfl) (lit_nil (rdP s).2.1) (fun h => by cases h) rfl (by kernel_rfl) ?_
  intro v own2 c' hh hrep
  refine rf_of (c' := c') (hbk _ ⟨c'.w, c'.S, own2⟩ _ hh) hrep rfl ?_
  rw [hP]
  show _ = PV.tup [.ssl (vos (rdP s).2.1) 0 (rdP s).2.1.length, .agg [iv (rdP s).1, iv (((rdP s).2.2 : Nat) : Int)]]
  rw [hok, rdL_ok hok]
  rfl
 ·show Leaves Tryz.prog Tryz.f15 a3.tmps (RF s c0 Bor) a3.defers (.panicking _) cx3.w
  obtain ⟨v, hv, hh4⟩ := cell_av hI3.toHeap q0
  have hI4 : Inv ⟨Tryz.prog, Tryz.f15.ntmps, cx.via (sigi [0, i1] n0), ⟨(cEnv Tryz.prog (cx.via (sigi [0, i1] n0)) [some (22, [.av (.slice none 0 0)]), some (33, [iv 0, iv 0])]).Bor.bor, [d]⟩⟩ (· < m) cx3 (get ([(kb 0, some (.blk 22 [.av v]))] ++ l3)) a3 := by
   rw [qbq]
   exact hI3.keeps (Keep.refl _) hh4 fun s => by rw [over_s]
  have hne : ∀ k, k ≠ kb 0 → get ([(kb 0, some (.blk 22 [.av v]))] ++ l3) k = get l3 k := fun k hk => by
   rw [qbq]
   exact qcv (by unfold hits lk; rw [if_neg (fun e => hk (Nat.eq_of_beq_eq_true e))]; rfl) _
  refine leave_one (fl := 37) (t0 := 2) (t1 := 3) (T0 := 22) (T1 := 33) (X0 := [.av v]) (X1 := [iv 0, iv 0]) (Y0 := [.av (.slice none 0 0)]) (Y1 := [iv (rdP s).1, iv (((rdP s).2.2 : Nat) : Int)]) (r := .tup [.ssl [] 0 0, .agg [iv (rdP s).1, iv (((rdP s).2.2 : Nat) : Int)]]) hI4 hd.symm hw2 hw3 ((hne _ (by decide)).trans q2) ((hne _ (by decide)).trans q3) (by rw [qbq]; rfl) ((hne _ (by decide)).trans q1) (fun _ => rfl) (fun _ => rfl) (fun _ => rfl) (fun _ => rfl) (lit_pan v (rdP s).1 (((rdP s).2.2 : Nat) : Int)) (fun h => by cases h) rfl (by kernel_rfl) ?_
  intro v own2 c' hh hrep
  refine rf_of (c' := c') (hbk _ ⟨c'.w, c'.S, own2⟩ _ hh) hrep rfl ?_
  rw [hP]
  show _ = PV.tup [.ssl (vos (rdP s).2.1) 0 (rdP s).2.1.length, .agg [iv (rdP s).1, iv (((rdP s).2.2 : Nat) : Int)]]
  rw [rdL_no hno]
  rfl
set_option maxRecDepth 100000 in
set_option maxHeartbeats 4000000 in
theorem read_T (s : Txt) (hl : s.length ≤ 140737488351232) (hr : s.length ≤ 65536 → RdyP s) {code : Code} (hb : Tryz.f15.body = some code) (c0 : Cx) (Bor : Nat → Prop) (hc0 : ∀ i x, c0.own i = some x → i < 0) :
  T Tryz.prog Tryz.f15.ntmps c0 ⟨Bor, []⟩ (QF s c0 Bor) 0 [ps 0 (sv (st s))] [.code code] := by
 have hb0 := hb
 cases hb
 refine T_seq ?_
 refine T_r mixed [] [ps 0 (sv (st s)), ps 2 (.opt 0 0), ps 3 (.opt 8 0), pb 0 22 [(.av (.slice none 0 0))], pb 8 33 [(iv 0), (iv 0)]] (oz) ?_
 refine T_seq <| T_seq ?_
 refine T_r mixed [] [ps 0 (sv (st s)), ps 2 (.opt 0 0), ps 3 (.opt 8 0), ps 7 (bv (decide (65536 < ((s.length : Nat) : Int)))), pb 0 22 [(.av (.slice none 0 0))], pb 8 33 [(iv 0), (iv 0)]] (oz) ?_
 by_cases h1 : 65536 < ((s.length : Nat) : Int)
 ·refine T_th (dty h1) ?_
  refine T_seq ?_
  refine T_r mixed [] [ps 2 (.opt 0 0), ps 3 (.opt 8 0), pb 0 22 [(.av (.slice none 0 0))], pb 8 33 [(iv 4), (iv 0)]] (oz) ?_
  exact T_ret fun cx_ a_ hI_ => fin_ret hc0 hI_ (by kernel_rfl) rfl (by rw [show readP s = (4, [], 0) from if_pos (by omega)])
 refine T_el (dtn h1) ?_
 refine qac ?_
 exact read_defer (by omega) (hr (by omega)) hb0 hc0 (i1 := 8) (by rfl) (by rfl) (by rfl) (by rfl) (by rfl) (by rfl) (by rfl)
theorem read_score_pc (s : Txt) (hl : s.length ≤ 140737488351232) (hr : s.length ≤ 65536 → RdyP s) : PC Tryz.prog 15 [sv (st s)] [] (resR (readP s)) [] := by
 refine ⟨fn_ok Tryz.func15 (by kernel_rfl) (by kernel_rfl), Nat.le_refl _, fun c vs hh hrl => calls_of_wp_defers Tryz.func15 rfl (wp_mono (body_intro (H := []) (Q := QF s) (by kernel_rfl) rfl (fun c0 Bor hc0 => read_T s hl hr rfl c0 Bor hc0) c vs hh hrl) ?_)⟩
 have hR : ∀ e w', RF s c (cEnv Tryz.prog c []).Bor.bor e w' → ∃ v c', e = .returned v ∧ c'.w = w' ∧ Heap (cEnv Tryz.prog c []) (· < ([] : Hp).length) c' (hSt []) ∧ Rep Tryz.prog c' (resR (readP s)) v := by
  rintro e w' ⟨v, c', rfl, rfl, h1, h2⟩
  exact ⟨v, c', rfl, rfl, h1.less fun i T cs hx => absurd hx (hSt_none (fun i => by simp) i T cs), h2⟩
 rintro e a' w' ⟨cx', rfl, h⟩
 cases e with
 | normal => exact leaves_mono hR h
 | ret => exact leaves_mono hR h
 | panic ch => exact leaves_mono hR h
 | exit id => exact h.elim
 | goto l => exact h.elim
 | outgrown => exact h.elim
end Go.Proofs.YtmlnilkbolcknaaGreatDoor.Pm
namespace Go.Proofs
open Go.Shelf

def Tryz.lays153_ren : Go.Shelf.Ren := ⟨fun | 153 => 106 | 152 => 135 | 226 => 136 | 227 => 84 | 228 => 115 | 137 => 156 | 119 => 157 | 224 => 158 | 225 => 159 | 217 => 172 | 266 => 184 | n => n, fun | 9 => 9 | 3 => 3 | 4 => 4 | 5 => 5 | 21 => 21 | 117 => 145 | 116 => 144 | 0 => 0 | 46 => 191 | 124 => 148 | n => n, fun | n => n⟩
theorem Tryz.lays153 : Go.Proofs.Lays.n153 Tryz.prog Tryz.lays153_ren := {
  mixed := by kernel_rfl,
  f119 := Tryz.func157.trans (congrArg some (by kernel_rfl)),
  f137 := Tryz.func156.trans (congrArg some (by kernel_rfl)),
  f152 := Tryz.func135.trans (congrArg some (by kernel_rfl)),
  f153 := Tryz.func106.trans (congrArg some (by kernel_rfl)),
  f217 := Tryz.func172.trans (congrArg some (by kernel_rfl)),
  f224 := Tryz.func158.trans (congrArg some (by kernel_rfl)),
  f225 := Tryz.func159.trans (congrArg some (by kernel_rfl)),
  f226 := Tryz.func136.trans (congrArg some (by kernel_rfl)),
  f227 := Tryz.func84.trans (congrArg some (by kernel_rfl)),
  f228 := Tryz.func115.trans (congrArg some (by kernel_rfl)),
  f266 := Tryz.func184.trans (congrArg some (by kernel_rfl)),
  t0 := Tryz.underlying0,
  a0 := Tryz.isAgg0,
  z0 := Tryz.sizeOf0,
  v0 := Tryz.zeroValue0,
  t3 := Tryz.underlying3,
  a3 := Tryz.isAgg3,
  z3 := Tryz.sizeOf3,
  v3 := Tryz.zeroValue3,
  t4 := Tryz.underlying4,
  a4 := Tryz.isAgg4,
  z4 := Tryz.sizeOf4,
  v4 := Tryz.zeroValue4,
  t5 := Tryz.underlying5,
  a5 := Tryz.isAgg5,
  z5 := Tryz.sizeOf5,
  v5 := Tryz.zeroValue5,
  t9 := Tryz.underlying9,
  a9 := Tryz.isAgg9,
  z9 := Tryz.sizeOf9,
  v9 := Tryz.zeroValue9,
  t21 := Tryz.underlying21,
  a21 := Tryz.isAgg21,
  z21 := Tryz.sizeOf21,
  v21 := Tryz.zeroValue21,
  t46 := Tryz.underlying191,
  a46 := Tryz.isAgg191,
  z46 := Tryz.sizeOf191,
  v46 := Tryz.zeroValue191,
  t116 := Tryz.underlying144,
  a116 := Tryz.isAgg144,
  z116 := Tryz.sizeOf144,
  t117 := Tryz.underlying145,
  a117 := Tryz.isAgg145,
  z117 := Tryz.sizeOf145,
  v117 := Tryz.zeroValue145,
  t124 := Tryz.underlying148,
  a124 := Tryz.isAgg148,
  z124 := Tryz.sizeOf148,
  v124 := Tryz.zeroValue148 }
end Go.Proofs
namespace Go.Proofs.YtmlnilkbolcknaaGreatDoor.Pm
open Go Go.RowKit Go.Proofs.YtmlnilkbolcknaaGreatDoor.Pi

theorem any_pc (s cs : List UInt8) (hs : s.length < 4294967281) (hc : cs.length < 4294967281) (h1 : ∀ (j : Nat) b, s[j]? = some b → b.toNat < 128) (h2 : ∀ (j : Nat) b, cs[j]? = some b → b.toNat < 128) : PC Tryz.prog 106 [sv (st s), sv (st cs)] [] (iv (Lib.indexAny s cs)) [] :=
 qbx (fn_ok Tryz.func106 (by kernel_rfl) (by kernel_rfl)) rfl rfl fun w => Any.strings_IndexAny_laid Tryz.lays153 (by kernel_rfl) (st s) (st cs) w hs hc h1 h2
theorem ascii_of {l : List UInt8} (h : l.all (fun b => decide (b.toNat < 128)) = true) : ∀ (j : Nat) b, l[j]? = some b → b.toNat < 128 := fun j b hb => by
 have := List.all_eq_true.1 h b (List.mem_of_getElem? hb)
 simpa using this
/-- A short text of ASCII can be read. -/
theorem rdy_ascii {s : Txt} (h : s.all (fun b => decide (b.toNat < 128)) = true) (hl : s.length ≤ 18) : Rdy s where
 any := fun a _ => any_pc _ _ (by rw [List.length_drop]; omega) (by decide) (fun j b hb => ascii_of h (a + j) b (by rw [List.getElem?_drop] at hb; exact hb)) (ascii_of (by decide))
 ato := fun w h1 h2 => absurd h2 (by omega)
 atr := fun w h1 h2 => absurd h2 (by omega)
/-- voice a | 1/1 C4 -/
def aT : Txt := [118, 111, 105, 99, 101, 32, 97, 32, 124, 32, 49, 47, 49, 32, 67, 52]
theorem al_c4 : readS [67, 52] = ((0, 0, 4), 0, 0) := by
 have h := read_print (l := 0) (a := 0) (o := 4) (by decide)
 rwa [show (printS 0 0 4).1 = [67, 52] from by decide +kernel] at h
theorem al_num1 : numR aT 9 = (0, 1, 11) := by decide +kernel
theorem al_num2 : numR aT 12 = (0, 1, 13) := by decide +kernel
theorem al_pit : pitR aT 14 = (0, (0, 0, 4), 16) := by
 unfold pitR
 rw [show wordF aT 14 = [67, 52] from by decide +kernel, al_c4, show gapF aT 14 = 14 from by decide +kernel]
 rfl
theorem al_item : itR aT 1 13 4095 = (0, .mk 1 1 [(0, 0, 4)] (0, 0) [] [], 16, 4094) := by
 rw [itR_eq, if_neg (by decide), if_neg (by decide +kernel), if_neg (by decide +kernel), if_neg (by decide +kernel), if_neg (by decide +kernel), if_neg (by decide +kernel), show gapF aT 13 = 14 from by decide +kernel, al_pit, if_pos rfl]
 unfold tailR
 rw [if_neg (by decide +kernel), show gapF aT 16 = 16 from by decide +kernel]
 unfold tail2
 rw [if_pos (show iK (.mk 1 1 [(0, 0, 4)] (0, 0) [] []) = 1 from rfl), show lyrR aT 16 = (0, [], 16) from by unfold lyrR; rw [if_neg (by decide +kernel), show gapF aT 16 = 16 from by decide +kernel], if_pos rfl]
 rfl
theorem al_bar : brR aT 9 = (0, (1, 1, [.mk 1 1 [(0, 0, 4)] (0, 0) [] []]), 16, 4094) := by
 have hbl : brL aT [] 13 4095 = (0, [.mk 1 1 [(0, 0, 4)] (0, 0) [] []], 16, 4094) := by
  rw [brL_eq, al_item, if_pos rfl, if_pos (.inl (by decide +kernel)), show gapF aT 16 = 16 from by decide +kernel]
  rfl
 unfold brR
 rw [al_num1, if_pos rfl, if_pos (by decide +kernel), show gapF aT 11 + 1 = 12 from by decide +kernel, al_num2, if_pos rfl, hbl, if_pos rfl]
theorem al_voice : vcR aT 0 0 = (0, ([97], [(1, 1, [.mk 1 1 [(0, 0, 4)] (0, 0) [] []])]), 16, 4094) := by
 have hvl : vcL aT 1024 [] 7 0 = (0, [(1, 1, [.mk 1 1 [(0, 0, 4)] (0, 0) [] []])], 16, 4094) := by
  rw [vcL, if_pos (by decide +kernel), show gapF aT 7 + 1 = 9 from by decide +kernel, al_bar, if_pos rfl, vcL, if_neg (by decide +kernel), show gapF aT 16 = 16 from by decide +kernel]
  rfl
 unfold vcR
 rw [if_pos (by decide +kernel), if_pos (by decide +kernel), show gapF aT (gapF aT 0 + 5) + (wordF aT (gapF aT 0 + 5)).length = 7 from by decide +kernel, hvl, if_pos rfl, show wordF aT (gapF aT 0 + 5) = [97] from by decide +kernel]
theorem al_read : readP aT = (0, [([97], [(1, 1, [.mk 1 1 [(0, 0, 4)] (0, 0) [] []])])], 0) := by
 unfold readP
 rw [if_neg (by decide), rdL, if_neg (by decide +kernel), show gapF aT 0 = 0 from by decide +kernel, al_voice, if_pos rfl, rdL, if_pos (by decide +kernel)]
 rfl
theorem alive_read : PC Tryz.prog 15 [sv (st aT)] [] (.tup [.ssl [sv (st [97]), .ssl [iv 1, iv 1, .ssl [iv 1, iv 1, .ssl [iv 0, iv 0, iv 4] 0 1, iv 0, iv 0, sv (st ([] : List UInt8)), .ssl [] 0 0] 0 1] 0 1] 0 1, .agg [iv 0, iv 0]]) [] := by
 have h := read_score_pc aT (by decide) (fun _ => rdyP_of (rdy_ascii (by decide) (by decide)) (by decide))
 rw [al_read] at h
 exact h
end Go.Proofs.YtmlnilkbolcknaaGreatDoor.Pm
namespace Go.Proofs.YtmlnilkbolcknaaGreatDoor.Pm
open Go Fr

set_option maxRecDepth 100000 in
set_option maxHeartbeats 4000000 in
theorem alive_pc  : PC Tryz.prog 18 [] [] (bv true) [] := by
 refine qao Tryz.func18 rfl (by kernel_rfl) (Nat.le_of_ble_eq_true rfl) (by kernel_rfl) (l0 := []) rfl (fun c0 Bor hc0 => ?_)
 refine T_seq ?_
 refine T_r mixed [] [] (oz) ?_
 refine T_seq ?_
 refine T_r mixed [(0, .call [] [(sv (st aT))] [] (.tup [(.ssl [(sv (st ([97] : List UInt8))), (.ssl [(iv 1), (iv 1), (.ssl [(iv 1), (iv 1), (.ssl [(iv 0), (iv 0), (iv 4)] 0 1), (iv 0), (iv 0), (sv (st ([] : List UInt8))), (.ssl [] 0 0)] 0 1)] 0 1)] 0 1), (.agg [(iv 0), (iv 0)])]) [])] [ps 1 (.ssl [(sv (st ([97] : List UInt8))), (.ssl [(iv 1), (iv 1), (.ssl [(iv 1), (iv 1), (.ssl [(iv 0), (iv 0), (iv 4)] 0 1), (iv 0), (iv 0), (sv (st ([] : List UInt8))), (.ssl [] 0 0)] 0 1)] 0 1)] 0 1), ps 2 (.opt 40 0), pb 40 33 [(iv 0), (iv 0)]] (oc alive_read (oc (rfl : [(sv (st ([118, 111, 105, 99, 101, 32, 97, 32, 124, 32, 49, 47, 49, 32, 67, 52] : List UInt8)))] = renL (sigi [] 8) [(sv (st aT))]) oz)) ?_
 refine T_seq ?_
 refine T_r mixed [(4, .gd true (.no)), (5, .gd true (.no)), (6, .gd true (.no)), (9, .gd true (.no)), (10, .gd true (.no)), (11, .gd true (.no)), (12, .gd true (.no)), (13, .gd true (.no)), (14, .gd true (.no))] [ps 0 (bv true)] (oc (rfl : true = true) (oc (rfl : true = true) (oc (rfl : true = true) (oc (rfl : true = true) (oc (rfl : true = true) (oc (by decide : (0 : Int) ≤ 0 ∧ 0 < ((1 : Nat) : Int)) (oc (rfl : true = true) (oc (rfl : true = true) (oc (rfl : true = true) (oc (rfl : true = true) oz)))))))))) ?_
 exact T_ret fun cx_ a_ hI_ => rt hc0 [ps 0 (bv true)] [] hI_
set_option maxRecDepth 100000 in
set_option maxHeartbeats 4000000 in
theorem same_notes_self (l : List Nt) (hl : l.length ≤ 1000000000) : PC Tryz.prog 14 [(.ssl (nos l) 0 l.length), (.ssl (nos l) 0 l.length)] [] (bv true) [] := by
 refine qao Tryz.func14 rfl (by kernel_rfl) (Nat.le_of_ble_eq_true rfl) (by kernel_rfl) (l0 := [ps 0 (.ssl (nos l) 0 l.length), ps 1 (.ssl (nos l) 0 l.length)]) rfl (fun c0 Bor hc0 => ?_)
 refine T_seq ?_
 refine T_k mixed [] [.r] [] (oz) ?_
 refine T_seq <| T_seq ?_
 refine T_k mixed [] [.k2, .n] [ps 10 (bv (!(decide (((l.length : Nat) : Int) = ((l.length : Nat) : Int)))))] (oz) ?_
 have h1 : ((l.length : Nat) : Int) = ((l.length : Nat) : Int) := rfl
 refine T_el (bt h1) ?_
 refine qac <| T_seq <| T_seq ?_
 refine T_k mixed [] [.k2, .d, .n, .n] [ps 12 (nv l.length), ps 13 (iv 0)] (oz) ?_
 refine qai ?_
 refine qby (α := {x : Nat // x ≤ l.length}) (fun x => [ps 0 (.ssl (nos l) 0 l.length), ps 1 (.ssl (nos l) 0 l.length), ps 12 (nv l.length), ps 13 (nv x.1)]) (fun x => l.length - x.1) 0 ⟨0, Nat.zero_le _⟩ (Wk.ren2 [ps 0 (.ssl (nos l) 0 l.length), ps 1 (.ssl (nos l) 0 l.length), ps 12 (nv l.length), ps 13 (nv 0)] 0 hc0 [] rfl rfl (by kernel_rfl) (by kernel_rfl)) ?_
 rintro ⟨i, hi⟩
 refine T_seq ?_
 refine T_r mixed [] [ps 0 (.ssl (nos l) 0 l.length), ps 1 (.ssl (nos l) 0 l.length), ps 12 (nv l.length), ps 13 (nv i), ps 14 (bv (decide (((i : Nat) : Int) < ((l.length : Nat) : Int))))] (oz) ?_
 refine T_seq ?_
 by_cases h2 : ((i : Nat) : Int) < ((l.length : Nat) : Int)
 ·refine T_th (dty h2) ?_
  refine qac <| T_seq <| qai <| T_seq ?_
  refine T_k mixed [] [.k2, .n, .k2, .d] [ps 5 (nv i)] (oz) ?_
  refine T_seq ?_
  refine T_kd mixed [(2, .nat (i * 9)), (3, .cells [(iv ((l.getD i dNt).1)), (iv ((l.getD i dNt).2.1.1)), (iv ((l.getD i dNt).2.1.2)), (iv ((l.getD i dNt).2.2.1.1)), (iv ((l.getD i dNt).2.2.1.2)), (iv ((l.getD i dNt).2.2.2.1.1)), (iv ((l.getD i dNt).2.2.2.1.2.1)), (iv ((l.getD i dNt).2.2.2.1.2.2)), (sv (st ((l.getD i dNt).2.2.2.2)))]), (6, .nat (i * 9)), (7, .cells [(iv ((l.getD i dNt).1)), (iv ((l.getD i dNt).2.1.1)), (iv ((l.getD i dNt).2.1.2)), (iv ((l.getD i dNt).2.2.1.1)), (iv ((l.getD i dNt).2.2.1.2)), (iv ((l.getD i dNt).2.2.2.1.1)), (iv ((l.getD i dNt).2.2.2.1.2.1)), (iv ((l.getD i dNt).2.2.2.1.2.2)), (sv (st ((l.getD i dNt).2.2.2.2)))])] [[], [], [0, 1], [0, 1, 2], [], [], [4, 5], [4, 5, 6], [0, 1, 2, 3, 4, 5, 6, 7]] [([32], [0]), ([34], [10]), ([36], [32, 34]), ([38], [36]), ([40], [2]), ([42], [10]), ([44], [40, 42]), ([46], [44]), ([48], [38, 46])] [.k2, .d, .k2, .n] [ps 24 (bv (!((decide (((l.getD i dNt).1) = ((l.getD i dNt).1))) && (((decide (((l.getD i dNt).2.1.1) = ((l.getD i dNt).2.1.1))) && (decide (((l.getD i dNt).2.1.2) = ((l.getD i dNt).2.1.2)))) && (((decide (((l.getD i dNt).2.2.1.1) = ((l.getD i dNt).2.2.1.1))) && (decide (((l.getD i dNt).2.2.1.2) = ((l.getD i dNt).2.2.1.2)))) && (((decide (((l.getD i dNt).2.2.2.1.1) = ((l.getD i dNt).2.2.2.1.1))) && ((decide (((l.getD i dNt).2.2.2.1.2.1) = ((l.getD i dNt).2.2.2.1.2.1))) && (decide (((l.getD i dNt).2.2.2.1.2.2) = ((l.getD i dNt).2.2.2.1.2.2))))) && ((st ((l.getD i dNt).2.2.2.2)).toList == (st ((l.getD i dNt).2.2.2.2)).toList)))))))] (oc (by omega : (0 : Int) ≤ ((i : Nat) : Int) ∧ ((i : Nat) : Int) < ((l.length : Nat) : Int)) (oc (by omega : 0 + (((i : Nat) : Int) : Int).toNat * 9 = (i * 9)) (oc (qbr noC 9 (fun _ => rfl) dNt l i 0 9 (by omega) (by decide) : (i * 9) + 9 ≤ ((nos l)).length ∧ (((nos l)).drop (i * 9)).take 9 = [(iv ((l.getD i dNt).1)), (iv ((l.getD i dNt).2.1.1)), (iv ((l.getD i dNt).2.1.2)), (iv ((l.getD i dNt).2.2.1.1)), (iv ((l.getD i dNt).2.2.1.2)), (iv ((l.getD i dNt).2.2.2.1.1)), (iv ((l.getD i dNt).2.2.2.1.2.1)), (iv ((l.getD i dNt).2.2.2.1.2.2)), (sv (st ((l.getD i dNt).2.2.2.2)))]) (oc (by omega : (0 : Int) ≤ ((i : Nat) : Int) ∧ ((i : Nat) : Int) < ((l.length : Nat) : Int)) (oc (by omega : 0 + (((i : Nat) : Int) : Int).toNat * 9 = (i * 9)) (oc (qbr noC 9 (fun _ => rfl) dNt l i 0 9 (by omega) (by decide) : (i * 9) + 9 ≤ ((nos l)).length ∧ (((nos l)).drop (i * 9)).take 9 = [(iv ((l.getD i dNt).1)), (iv ((l.getD i dNt).2.1.1)), (iv ((l.getD i dNt).2.1.2)), (iv ((l.getD i dNt).2.2.1.1)), (iv ((l.getD i dNt).2.2.1.2)), (iv ((l.getD i dNt).2.2.2.1.1)), (iv ((l.getD i dNt).2.2.2.1.2.1)), (iv ((l.getD i dNt).2.2.2.1.2.2)), (sv (st ((l.getD i dNt).2.2.2.2)))]) oz)))))) ?_
  have h3 : ((decide (((l.getD i dNt).1) = ((l.getD i dNt).1))) && (((decide (((l.getD i dNt).2.1.1) = ((l.getD i dNt).2.1.1))) && (decide (((l.getD i dNt).2.1.2) = ((l.getD i dNt).2.1.2)))) && (((decide (((l.getD i dNt).2.2.1.1) = ((l.getD i dNt).2.2.1.1))) && (decide (((l.getD i dNt).2.2.1.2) = ((l.getD i dNt).2.2.1.2)))) && (((decide (((l.getD i dNt).2.2.2.1.1) = ((l.getD i dNt).2.2.2.1.1))) && ((decide (((l.getD i dNt).2.2.2.1.2.1) = ((l.getD i dNt).2.2.2.1.2.1))) && (decide (((l.getD i dNt).2.2.2.1.2.2) = ((l.getD i dNt).2.2.2.1.2.2))))) && ((st ((l.getD i dNt).2.2.2.2)).toList == (st ((l.getD i dNt).2.2.2.2)).toList))))) = true := (by simp)
  refine T_el (congrArg Bool.not h3) ?_
  refine qac <| T_blk ?_
  refine T_k mixed [] [.k3, .d, .n, .d] [ps 13 (iv (((i : Nat) : Int) + 1))] (oc (by simp only [InK]; omega : InK .i64 (((i : Nat) : Int) + 1)) oz) ?_
  exact qbo ⟨i + 1, by show i + 1 ≤ l.length; omega⟩ (Wk.trans (Wk.eq (show _ = [ps 0 (.ssl (nos l) 0 l.length), ps 1 (.ssl (nos l) 0 l.length), ps 12 (nv l.length), ps 13 (nv (i + 1))] from by rfl)) (Wk.ren2 [ps 0 (.ssl (nos l) 0 l.length), ps 1 (.ssl (nos l) 0 l.length), ps 12 (nv l.length), ps 13 (nv (i + 1))] 0 hc0 [] rfl rfl (by kernel_rfl) (by kernel_rfl))) (show l.length - (i + 1) < l.length - i from by show l.length - (i + 1) < l.length - i; omega)
 refine T_el (dtn h2) ?_
 refine qbi rfl rfl ?_
 refine T_seq ?_
 refine T_r mixed [] [ps 4 (bv true)] (oz) ?_
 exact T_ret fun cx_ a_ hI_ => rt hc0 [ps 4 (bv true)] [] hI_
theorem same_notes_pc {l m : List Nt} {n : Nat} (h : l = m) (hn : n = l.length) (hl : l.length ≤ 1000000000) : PC Tryz.prog 14 [.ssl (nos l) 0 n, .ssl (nos m) 0 m.length] [] (bv true) [] := by subst hn; subst h; exact same_notes_self l hl
set_option maxRecDepth 100000 in
set_option maxHeartbeats 4000000 in
theorem law_bars_in (nm : Txt) (B : List Br) (k : Nat) (hk : k ≤ B.length) (ht : k < B.length → tiedL (B.getD k dBr).2.2 = false) (hfv : fitVo (nm, B)) (hnl : (qaa [(nm, B)]).2.length ≤ 1000000000) : PC Tryz.prog 7 [(.agg [(sv (st nm)), (.ssl (brs B) 0 B.length)]), (nv k)] [] (bv true) [] := by
 have hfb0 := hfv.2.1
 dsimp only at hfb0
 refine qao Tryz.func7 rfl (by kernel_rfl) (Nat.le_of_ble_eq_true rfl) (by kernel_rfl) (l0 := [ps 0 (.agg [(sv (st nm)), (.ssl (brs B) 0 B.length)]), ps 1 (nv k)]) rfl (fun c0 Bor hc0 => ?_)
 refine T_seq ?_
 refine T_r mixed [] [ps 1 (nv k), ps 2 (.opt 0 0), pb 0 44 [(sv (st nm)), (.ssl (brs B) 0 B.length)]] (oz) ?_
 refine T_seq <| T_seq ?_
 refine T_k mixed [(0, .call [] [] [] (bv true) [])] [.k2, .n, .r] [ps 20 (bv false)] (oc alive_pc (oc (rfl : Ren0 16 []) oz)) ?_
 refine qau (b := false) rfl rfl ?_
 refine qac <| T_seq <| T_seq ?_
 by_cases h1 : ((k : Nat) : Int) < 0
 ·refine T_k mixed [(3, .gd true .no), (4, .gd true .no), (5, .gd true .no), (6, .gd true .no), (7, .gd true .no), (8, .yes true)] [.k2, .d, .n, .r] [ps 29 (bv true)] (oc (dty h1) (oc (dty h1) (oc (dty h1) (oc (dty h1) (oc (dty h1) (oc (dty h1) oz)))))) ?_
  refine qan (b := true) rfl rfl ?_
  refine T_seq ?_
  refine T_r mixed [] [ps 4 (bv true)] (oz) ?_
  exact T_ret fun cx_ a_ hI_ => rt hc0 [ps 4 (bv true)] [] hI_
 refine T_k mixed [(3, .gd false (.no)), (4, .gd false (.no)), (5, .gd false (.no)), (6, .gd false (.no)), (7, .gd false (.no)), (8, .yes false)] [.k2, .d, .n, .r] [ps 29 (bv (decide (((B.length : Nat) : Int) < ((k : Nat) : Int))))] (oc (dtn h1) (oc (dtn h1) (oc (dtn h1) (oc (dtn h1) (oc (dtn h1) (oc (dtn h1) oz)))))) ?_
 by_cases h2 : ((B.length : Nat) : Int) < ((k : Nat) : Int)
 ·refine T_th (dty h2) ?_
  refine T_seq ?_
  refine T_r mixed [] [ps 4 (bv true)] (oz) ?_
  exact T_ret fun cx_ a_ hI_ => rt hc0 [ps 4 (bv true)] [] hI_
 refine T_el (dtn h2) ?_
 refine qac <| T_seq ?_
 by_cases h3 : (qaa [(nm, B)]).1 = 0
 ·refine T_k mixed [(2, .lay [112] (.call [] [(.ssl [(sv (st nm)), (.ssl (brs B) 0 B.length)] 0 1)] [] (.tup [(.osl 0 0 ((qaa [(nm, B)]).2.length)), (iv 0)]) [some (58, (nos ((qaa [(nm, B)]).2)))]))] [.k2, .n, .n, .d, .k1, .n] [ps 5 (.osl 120 0 ((qaa [(nm, B)]).2.length)), ps 6 (iv 0), pb 120 58 (renL (sigo [] 120) (nos ((qaa [(nm, B)]).2)))] (oc (fun p hp => List.all_eq_true.1 (show [(sv (st nm)), (.ssl (brs B) 0 B.length)].all PV.shd = true from rfl) p hp : shds [(sv (st nm)), (.ssl (brs B) 0 B.length)]) (oc (qci [(nm, B)] (fit_bars hfv) h3) (oc (rfl : Ren0 120 [(.ssl [(sv (st nm)), (.ssl (brs B) 0 B.length)] 0 1)]) oz))) ?_
  refine T_wk (Wk.eq (show _ = [ps 1 (nv k), ps 2 (.opt 0 0), ps 5 (.osl 120 0 ((qaa [(nm, B)]).2.length)), ps 6 (iv 0), pb 0 44 [(sv (st nm)), (.ssl (brs B) 0 B.length)], pb 120 58 (nos ((qaa [(nm, B)]).2))] from by simp only [qat (qah _)])) ?_
  refine T_seq <| T_seq ?_
  refine T_wk (Wk.frz (l' := [ps 1 (nv k), ps 2 (.opt 0 0), ps 5 (.ssl (nos ((qaa [(nm, B)]).2)) 0 ((qaa [(nm, B)]).2.length)), ps 6 (iv 0), pb 0 44 [(sv (st nm)), (.ssl (brs B) 0 B.length)], (kb 120, none)]) 120 (T := 58) (cs := (nos ((qaa [(nm, B)]).2))) (by kernel_rfl) (qah _) (by kernel_rfl)) ?_
  refine T_wk (Wk.less (l' := [ps 1 (nv k), ps 2 (.opt 0 0), ps 5 (.ssl (nos ((qaa [(nm, B)]).2)) 0 ((qaa [(nm, B)]).2.length)), ps 6 (iv 0), pb 0 44 [(sv (st nm)), (.ssl (brs B) 0 B.length)]]) 168 (by kernel_rfl) (by kernel_rfl)) ?_
  have hcut := bars_cut (nm := nm) hk h3 ht
  refine T_f2 312 [ps 1 (nv k), ps 2 (.opt 0 0), ps 5 (.ssl (nos ((qaa [(nm, B)]).2)) 0 ((qaa [(nm, B)]).2.length)), pb 0 44 [(sv (st nm)), (.ssl (brs B) 0 B.length)]] ?_ fun hk1 => ?_
  ·refine T_seq ?_
   refine T_rd mixed [(6, .nat2 0 k), (9, .lay [376] (.call [] [(.ssl [(sv (st nm)), (.ssl (brs B) 0 k)] 0 1)] [] (.tup [(.osl 0 0 ((qaa [(nm, B.take k)]).2.length)), (iv 0)]) [some (58, (nos ((qaa [(nm, B.take k)]).2)))]))] [[], [0], [], [2], [], [], [2, 3, 4, 5], [0, 1, 2, 3, 4, 5, 6], [0, 1, 2, 3, 4, 5, 6, 7], [0, 1, 2, 3, 4, 5, 6, 7, 8], [0, 1, 2, 3, 4, 5, 6, 7, 8, 9], [0, 1, 2, 3, 4, 5, 6, 7, 8, 9, 10], [0, 1, 2, 3, 4, 5, 6, 7, 8, 9, 10], [0, 1, 2, 3, 4, 5, 6, 7, 8, 9, 10, 11], [0, 1, 2, 3, 4, 5, 6, 7, 8, 9, 10, 11, 12, 13]] [([110], [4]), ([112], [1, 110]), ([114], [4]), ([116], [1, 114]), ([118], [2]), ([120], [2]), ([122], [116, 118, 120]), ([124], [112, 122]), ([126, 753], [124]), ([128, 753, 769], [126, 753]), ([108], [128]), ([130], [108]), ([132], [108]), ([14], [130]), ([12], [132])] [ps 1 (nv k), ps 2 (.opt 0 0), ps 5 (.ssl (nos ((qaa [(nm, B)]).2)) 0 ((qaa [(nm, B)]).2.length)), ps 6 (iv 0), ps 7 (.osl 384 0 ((qaa [(nm, B.take k)]).2.length)), pb 0 44 [(sv (st nm)), (.ssl (brs B) 0 B.length)], pb 384 58 (renL (sigo [] 384) (nos ((qaa [(nm, B.take k)]).2)))] (oc (by omega : (0 : Int) ≤ (0 : Int) ∧ (0 : Int) ≤ ((k : Nat) : Int) ∧ ((k : Nat) : Int) ≤ ((k : Nat) : Int) ∧ ((k : Nat) : Int) ≤ ((B.length : Nat) : Int)) (oc (by omega : 0 + ((0 : Int) : Int).toNat * 3 = 0 ∧ (((k : Nat) : Int) : Int).toNat - ((0 : Int) : Int).toNat = k) (oc (fun p hp => List.all_eq_true.1 (show [(sv (st nm)), (.ssl (brs B) 0 k)].all PV.shd = true from rfl) p hp : shds [(sv (st nm)), (.ssl (brs B) 0 k)]) (oc (pc_cut (k * 3) (by have := (qci [(nm, B.take k)] (fit_bars (fit_take k hfv)) hcut.1); rw [brs_take B hk]; simpa [vos, voC, List.length_take, Nat.min_eq_left hk] using this)) (oc (rfl : Ren0 384 [(.ssl [(sv (st nm)), (.ssl (brs B) 0 k)] 0 1)]) oz))))) ?_
   refine T_wk (Wk.eq (show _ = [ps 1 (nv k), ps 2 (.opt 0 0), ps 5 (.ssl (nos ((qaa [(nm, B)]).2)) 0 ((qaa [(nm, B)]).2.length)), ps 6 (iv 0), ps 7 (.osl 384 0 ((qaa [(nm, B.take k)]).2.length)), pb 0 44 [(sv (st nm)), (.ssl (brs B) 0 B.length)], pb 384 58 (nos ((qaa [(nm, B.take k)]).2))] from by simp only [qat (qah _)])) ?_
   refine T_seq ?_
   by_cases h6 : (qaa [(nm, B.drop k)]).1 = 0
   ·refine T_kd mixed [(5, .nat2 (k * 3) (B.length - k)), (8, .lay [488] (.call [] [(.ssl [(sv (st nm)), (.ssl (brs B) (k * 3) (B.length - k))] 0 1)] [] (.tup [(.osl 0 0 ((qaa [(nm, B.drop k)]).2.length)), (iv 0)]) [some (58, (nos ((qaa [(nm, B.drop k)]).2)))]))] [[], [0], [], [2], [], [2, 3, 4], [0, 1, 2, 3, 4, 5], [0, 1, 2, 3, 4, 5, 6], [0, 1, 2, 3, 4, 5, 6, 7], [0, 1, 2, 3, 4, 5, 6, 7, 8], [0, 1, 2, 3, 4, 5, 6, 7, 8, 9], [0, 1, 2, 3, 4, 5, 6, 7, 8, 9], [0, 1, 2, 3, 4, 5, 6, 7, 8, 9, 10], [0, 1, 2, 3, 4, 5, 6, 7, 8, 9, 10, 11, 12]] [([136], [4]), ([138], [1, 136]), ([140], [4]), ([142], [1, 140]), ([144], [2]), ([146], [142, 144]), ([148], [138, 146]), ([150, 977], [148]), ([152, 977, 993], [150, 977]), ([134], [152]), ([154], [134]), ([156], [134]), ([16], [154]), ([18], [156])] [.k5, .n, .n, .k2, .n] [ps 8 (.osl 496 0 ((qaa [(nm, B.drop k)]).2.length)), ps 9 (iv 0), pb 496 58 (renL (sigo [] 496) (nos ((qaa [(nm, B.drop k)]).2)))] (oc (by omega : (0 : Int) ≤ ((k : Nat) : Int) ∧ ((k : Nat) : Int) ≤ ((B.length : Nat) : Int) ∧ ((B.length : Nat) : Int) ≤ ((B.length : Nat) : Int) ∧ ((B.length : Nat) : Int) ≤ ((B.length : Nat) : Int)) (oc (by omega : 0 + (((k : Nat) : Int) : Int).toNat * 3 = (k * 3) ∧ (((B.length : Nat) : Int) : Int).toNat - (((k : Nat) : Int) : Int).toNat = B.length - k) (oc (fun p hp => List.all_eq_true.1 (show [(sv (st nm)), (.ssl (brs B) (k * 3) (B.length - k))].all PV.shd = true from rfl) p hp : shds [(sv (st nm)), (.ssl (brs B) (k * 3) (B.length - k))]) (oc (pc_cut ((B.length - k) * 3) (by have := (qci [(nm, B.drop k)] (fit_bars (fit_drop k hfv)) h6); rw [brs_drop B hk]; simpa [vos, voC, List.length_drop] using this)) (oc (rfl : Ren0 496 [(.ssl [(sv (st nm)), (.ssl (brs B) (k * 3) (B.length - k))] 0 1)]) oz))))) ?_
    refine T_wk (Wk.eq (show _ = [ps 1 (nv k), ps 2 (.opt 0 0), ps 5 (.ssl (nos ((qaa [(nm, B)]).2)) 0 ((qaa [(nm, B)]).2.length)), ps 6 (iv 0), ps 7 (.osl 384 0 ((qaa [(nm, B.take k)]).2.length)), ps 8 (.osl 496 0 ((qaa [(nm, B.drop k)]).2.length)), ps 9 (iv 0), pb 0 44 [(sv (st nm)), (.ssl (brs B) 0 B.length)], pb 384 58 (nos ((qaa [(nm, B.take k)]).2)), pb 496 58 (nos ((qaa [(nm, B.drop k)]).2))] from by simp only [qat (qah _)])) ?_
    refine T_seq <| T_seq ?_
    refine T_k mixed [] [.k7, .n, .r] [ps 80 (bv false)] (oz) ?_
    refine qau (b := false) rfl rfl ?_
    refine qac <| T_seq <| T_seq ?_
    have hlen12 : (qaa [(nm, B.take k)]).2.length + (qaa [(nm, B.drop k)]).2.length = (qaa [(nm, B)]).2.length := by obtain ⟨_, c, d, _, _, heq⟩ := hcut.2.resolve_left (by rw [h6]; decide); rw [heq, List.length_append, List.length_map]
    refine T_k mixed [(3, .gd false (.no)), (4, .gd false (.no)), (7, .gd false (.no)), (8, .gd false (.no)), (9, .gd false (.no)), (10, .gd false (.no)), (11, .gd false (.no)), (12, .gd false (.no)), (13, .gd false (.no)), (14, .gd false (.no))] [.k3, .d, .k2, .d, .d, .n, .r] [ps 96 (bv (!(decide (((((qaa [(nm, B.take k)]).2.length : Nat) : Int) + (((qaa [(nm, B.drop k)]).2.length : Nat) : Int)) = (((qaa [(nm, B)]).2.length : Nat) : Int)))))] (oc (rfl : false = false) (oc (rfl : false = false) (oc (rfl : false = false) (oc (rfl : false = false) (oc (rfl : false = false) (oc (rfl : false = false) (oc (rfl : false = false) (oc (by simp only [InK]; omega : InK .i64 ((((qaa [(nm, B.take k)]).2.length : Nat) : Int) + (((qaa [(nm, B.drop k)]).2.length : Nat) : Int))) (oc (rfl : false = false) (oc (rfl : false = false) (oc (rfl : false = false) oz))))))))))) ?_
    have h7 : ((((qaa [(nm, B.take k)]).2.length : Nat) : Int) + (((qaa [(nm, B.drop k)]).2.length : Nat) : Int)) = (((qaa [(nm, B)]).2.length : Nat) : Int) := (by have hq := hcut.2.resolve_left (by rw [h6]; decide); obtain ⟨_, c, d, _, _, heq⟩ := hq; rw [heq, List.length_append, List.length_map]; rfl)
    refine T_el (bt h7) ?_
    refine qac <| T_seq ?_
    obtain ⟨_, c, d, hsum, hsh, heq⟩ := hcut.2.resolve_left (by rw [h6]; decide)
    refine T_k mixed [] [.k5, .n, .d, .k3, .n] [ps 10 (.opt 696 0), pb 696 56 [(iv 0), (iv 1)]] (oz) ?_
    refine T_seq <| T_seq ?_
    refine T_k mixed [(3, .nat2 0 k)] [.d, .d, .k4, .n, .n, .n, .d, .r] [ps 101 (.ssl (brs B) 0 k), ps 102 (nv k), ps 103 (iv 0)] (oc (by omega : (0 : Int) ≤ (0 : Int) ∧ (0 : Int) ≤ ((k : Nat) : Int) ∧ ((k : Nat) : Int) ≤ ((k : Nat) : Int) ∧ ((k : Nat) : Int) ≤ ((B.length : Nat) : Int)) (oc (by omega : 0 + ((0 : Int) : Int).toNat * 3 = 0 ∧ (((k : Nat) : Int) : Int).toNat - ((0 : Int) : Int).toNat = k) oz)) ?_
    refine qai ?_
    refine qby (α := {x : Nat × Int × Int // x.1 ≤ k ∧ sumB ((B.take k).drop x.1) (x.2.1, x.2.2) = (c, d, 0) ∧ I64 x.2.1 ∧ I64 x.2.2}) (fun x => [ps 5 (.ssl (nos ((qaa [(nm, B)]).2)) 0 ((qaa [(nm, B)]).2.length)), ps 7 (.osl 0 0 ((qaa [(nm, B.take k)]).2.length)), ps 8 (.osl 1 0 ((qaa [(nm, B.drop k)]).2.length)), ps 10 (.opt 2 0), ps 101 (.ssl (brs B) 0 k), ps 102 (nv k), ps 103 (nv x.1.1), pb 0 58 (nos ((qaa [(nm, B.take k)]).2)), pb 1 58 (nos ((qaa [(nm, B.drop k)]).2)), pb 2 56 [(iv x.1.2.1), (iv x.1.2.2)]]) (fun x => k - x.1.1) 3 ⟨(0, 0, 1), ⟨Nat.zero_le _, hsum, by unfold I64; decide, by unfold I64; decide⟩⟩ (Wk.ren3 [ps 5 (.ssl (nos ((qaa [(nm, B)]).2)) 0 ((qaa [(nm, B)]).2.length)), ps 7 (.osl 0 0 ((qaa [(nm, B.take k)]).2.length)), ps 8 (.osl 1 0 ((qaa [(nm, B.drop k)]).2.length)), ps 10 (.opt 2 0), ps 101 (.ssl (brs B) 0 k), ps 102 (nv k), ps 103 (nv 0), pb 0 58 (nos ((qaa [(nm, B.take k)]).2)), pb 1 58 (nos ((qaa [(nm, B.drop k)]).2)), pb 2 56 [(iv (0 : Int)), (iv (1 : Int))]] 0 hc0 [384, 496, 696] [(kb 0, (nos ((qaa [(nm, B.take k)]).2))), (kb 1, (nos ((qaa [(nm, B.drop k)]).2)))] (oc (qah _) (oc (qah _) (oz))) (by kernel_rfl) rfl rfl (by kernel_rfl) (by kernel_rfl)) ?_
    rintro ⟨⟨j, p, q⟩, ⟨hj, hs, hp, hq⟩⟩
    dsimp only at hj hs hp hq
    refine T_seq ?_
    refine T_r mixed [] [ps 5 (.ssl (nos ((qaa [(nm, B)]).2)) 0 ((qaa [(nm, B)]).2.length)), ps 7 (.osl 0 0 ((qaa [(nm, B.take k)]).2.length)), ps 8 (.osl 1 0 ((qaa [(nm, B.drop k)]).2.length)), ps 10 (.opt 2 0), ps 101 (.ssl (brs B) 0 k), ps 102 (nv k), ps 103 (nv j), ps 104 (bv (decide (((j : Nat) : Int) < ((k : Nat) : Int)))), pb 0 58 (nos ((qaa [(nm, B.take k)]).2)), pb 1 58 (nos ((qaa [(nm, B.drop k)]).2)), pb 2 56 [(iv p), (iv q)]] (oz) ?_
    refine T_seq ?_
    by_cases h8 : ((j : Nat) : Int) < ((k : Nat) : Int)
    ·refine T_th (dty h8) ?_
     refine qac <| T_seq <| qai <| T_seq ?_
     refine T_k mixed [(0, .nat (j * 3)), (1, .cells [(iv ((B.getD j dBr).1)), (iv ((B.getD j dBr).2.1)), (.ssl (ics ((B.getD j dBr).2.2)) 0 (((B.getD j dBr).2.2).length))])] [.k4, .n, .k3, .d, .k3, .n] [ps 12 (.opt 27 0), pb 27 47 [(iv ((B.getD j dBr).1)), (iv ((B.getD j dBr).2.1)), (.ssl (ics ((B.getD j dBr).2.2)) 0 (((B.getD j dBr).2.2).length))]] (oc (by omega : (0 : Int) ≤ ((j : Nat) : Int) ∧ ((j : Nat) : Int) < ((k : Nat) : Int)) (oc (by omega : 0 + (((j : Nat) : Int) : Int).toNat * 3 = (j * 3)) (oc (qbr brC 3 (fun _ => rfl) dBr B j 0 3 (by omega) (by decide) : (j * 3) + 3 ≤ ((brs B)).length ∧ (((brs B)).drop (j * 3)).take 3 = [(iv ((B.getD j dBr).1)), (iv ((B.getD j dBr).2.1)), (.ssl (ics ((B.getD j dBr).2.2)) 0 (((B.getD j dBr).2.2).length))]) oz))) ?_
     refine T_seq ?_
     have hst := sum_at (s := (p, q)) (show j < k by omega) hk hs
     have hfb := hfv.2.2 j (by show j < B.length; omega)
     have hf1 : I64 (B.getD j dBr).1 := hfb.1
     have hf2 : I64 (B.getD j dBr).2.1 := hfb.2.1
     have hmr := i64_r (make_r hst.1)
     obtain ⟨hm1, hm2⟩ := hmr
     refine T_k mixed [(4, .call [] [(iv ((B.getD j dBr).1)), (iv ((B.getD j dBr).2.1))] [] (.tup [(.agg [(iv ((Fr.make ((B.getD j dBr).1) ((B.getD j dBr).2.1)).1)), (iv ((Fr.make ((B.getD j dBr).1) ((B.getD j dBr).2.1)).2.1))]), (iv ((Fr.make ((B.getD j dBr).1) ((B.getD j dBr).2.1)).2.2))]) [])] [.k4, .d, .n, .n, .k6, .d, .n] [ps 13 (.opt 107 0), ps 14 (iv ((Fr.make ((B.getD j dBr).1) ((B.getD j dBr).2.1)).2.2)), pb 107 56 [(iv ((Fr.make ((B.getD j dBr).1) ((B.getD j dBr).2.1)).1)), (iv ((Fr.make ((B.getD j dBr).1) ((B.getD j dBr).2.1)).2.1))]] (oc (ref_make_pc ((B.getD j dBr).1) ((B.getD j dBr).2.1) (by first | assumption | omega) (by first | assumption | omega)) (oc (rfl : Ren0 75 [(iv ((B.getD j dBr).1)), (iv ((B.getD j dBr).2.1))]) oz)) ?_
     refine T_seq <| T_seq ?_
     refine T_k mixed [] [.k5, .d, .k3, .n, .r] [ps 116 (bv (!(decide (((Fr.make ((B.getD j dBr).1) ((B.getD j dBr).2.1)).2.2) = 0))))] (oz) ?_
     have h9 : ((Fr.make ((B.getD j dBr).1) ((B.getD j dBr).2.1)).2.2) = 0 := hst.1
     refine T_el (bt h9) ?_
     refine qac <| T_seq ?_
     refine T_k mixed [(2, .call [] [(.agg [(iv p), (iv q)]), (.agg [(iv ((Fr.make ((B.getD j dBr).1) ((B.getD j dBr).2.1)).1)), (iv ((Fr.make ((B.getD j dBr).1) ((B.getD j dBr).2.1)).2.1))])] [] (.tup [(.agg [(iv ((Fr.plus p q ((Fr.make ((B.getD j dBr).1) ((B.getD j dBr).2.1)).1) ((Fr.make ((B.getD j dBr).1) ((B.getD j dBr).2.1)).2.1)).1)), (iv ((Fr.plus p q ((Fr.make ((B.getD j dBr).1) ((B.getD j dBr).2.1)).1) ((Fr.make ((B.getD j dBr).1) ((B.getD j dBr).2.1)).2.1)).2.1))]), (iv ((Fr.plus p q ((Fr.make ((B.getD j dBr).1) ((B.getD j dBr).2.1)).1) ((Fr.make ((B.getD j dBr).1) ((B.getD j dBr).2.1)).2.1)).2.2))]) [])] [.k4, .d, .n, .k3, .d, .k2, .d, .n, .d] [ps 14 (iv ((Fr.plus p q ((Fr.make ((B.getD j dBr).1) ((B.getD j dBr).2.1)).1) ((Fr.make ((B.getD j dBr).1) ((B.getD j dBr).2.1)).2.1)).2.2)), pb 2 56 [(iv ((Fr.plus p q ((Fr.make ((B.getD j dBr).1) ((B.getD j dBr).2.1)).1) ((Fr.make ((B.getD j dBr).1) ((B.getD j dBr).2.1)).2.1)).1)), (iv ((Fr.plus p q ((Fr.make ((B.getD j dBr).1) ((B.getD j dBr).2.1)).1) ((Fr.make ((B.getD j dBr).1) ((B.getD j dBr).2.1)).2.1)).2.1))]] (oc (ref_plus_pc p q ((Fr.make ((B.getD j dBr).1) ((B.getD j dBr).2.1)).1) ((Fr.make ((B.getD j dBr).1) ((B.getD j dBr).2.1)).2.1) (by first | assumption | omega) (by first | assumption | omega) (by first | assumption | omega) (by first | assumption | omega)) (oc (rfl : Ren0 163 [(.agg [(iv p), (iv q)]), (.agg [(iv ((Fr.make ((B.getD j dBr).1) ((B.getD j dBr).2.1)).1)), (iv ((Fr.make ((B.getD j dBr).1) ((B.getD j dBr).2.1)).2.1))])]) oz)) ?_
     refine T_seq ?_
     refine T_k mixed [] [.k4, .d, .k3, .n, .r] [ps 124 (bv (!(decide (((Fr.plus p q ((Fr.make ((B.getD j dBr).1) ((B.getD j dBr).2.1)).1) ((Fr.make ((B.getD j dBr).1) ((B.getD j dBr).2.1)).2.1)).2.2) = 0))))] (oz) ?_
     have h10 : ((Fr.plus p q ((Fr.make ((B.getD j dBr).1) ((B.getD j dBr).2.1)).1) ((Fr.make ((B.getD j dBr).1) ((B.getD j dBr).2.1)).2.1)).2.2) = 0 := hst.2.1
     refine T_el (bt h10) ?_
     refine qac <| T_blk ?_
     refine T_k mixed [] [.k6, .d, .n, .d, .r] [ps 103 (iv (((j : Nat) : Int) + 1))] (oc (by simp only [InK]; omega : InK .i64 (((j : Nat) : Int) + 1)) oz) ?_
     exact qbo ⟨(j + 1, (Fr.plus p q ((Fr.make ((B.getD j dBr).1) ((B.getD j dBr).2.1)).1) ((Fr.make ((B.getD j dBr).1) ((B.getD j dBr).2.1)).2.1)).1, (Fr.plus p q ((Fr.make ((B.getD j dBr).1) ((B.getD j dBr).2.1)).1) ((Fr.make ((B.getD j dBr).1) ((B.getD j dBr).2.1)).2.1)).2.1), ⟨by show j + 1 ≤ k; omega, hst.2.2, (i64_r (plus_r hst.2.1)).1, (i64_r (plus_r hst.2.1)).2⟩⟩ (Wk.trans (Wk.eq (show _ = [ps 5 (.ssl (nos ((qaa [(nm, B)]).2)) 0 ((qaa [(nm, B)]).2.length)), ps 7 (.osl 0 0 ((qaa [(nm, B.take k)]).2.length)), ps 8 (.osl 1 0 ((qaa [(nm, B.drop k)]).2.length)), ps 10 (.opt 2 0), ps 101 (.ssl (brs B) 0 k), ps 102 (nv k), ps 103 (nv (j + 1)), pb 0 58 (nos ((qaa [(nm, B.take k)]).2)), pb 1 58 (nos ((qaa [(nm, B.drop k)]).2)), pb 2 56 [(iv ((Fr.plus p q ((Fr.make ((B.getD j dBr).1) ((B.getD j dBr).2.1)).1) ((Fr.make ((B.getD j dBr).1) ((B.getD j dBr).2.1)).2.1)).1)), (iv ((Fr.plus p q ((Fr.make ((B.getD j dBr).1) ((B.getD j dBr).2.1)).1) ((Fr.make ((B.getD j dBr).1) ((B.getD j dBr).2.1)).2.1)).2.1))]] from by rfl)) (Wk.ren3 [ps 5 (.ssl (nos ((qaa [(nm, B)]).2)) 0 ((qaa [(nm, B)]).2.length)), ps 7 (.osl 0 0 ((qaa [(nm, B.take k)]).2.length)), ps 8 (.osl 1 0 ((qaa [(nm, B.drop k)]).2.length)), ps 10 (.opt 2 0), ps 101 (.ssl (brs B) 0 k), ps 102 (nv k), ps 103 (nv (j + 1)), pb 0 58 (nos ((qaa [(nm, B.take k)]).2)), pb 1 58 (nos ((qaa [(nm, B.drop k)]).2)), pb 2 56 [(iv ((Fr.plus p q ((Fr.make ((B.getD j dBr).1) ((B.getD j dBr).2.1)).1) ((Fr.make ((B.getD j dBr).1) ((B.getD j dBr).2.1)).2.1)).1)), (iv ((Fr.plus p q ((Fr.make ((B.getD j dBr).1) ((B.getD j dBr).2.1)).1) ((Fr.make ((B.getD j dBr).1) ((B.getD j dBr).2.1)).2.1)).2.1))]] 0 hc0 [0, 1, 2] [(kb 0, (nos ((qaa [(nm, B.take k)]).2))), (kb 1, (nos ((qaa [(nm, B.drop k)]).2)))] (oc (qah _) (oc (qah _) (oz))) (by kernel_rfl) rfl rfl (by kernel_rfl) (by kernel_rfl))) (show k - (j + 1) < k - j from by show k - (j + 1) < k - j; omega)
    refine T_el (dtn h8) ?_
    refine qbi rfl rfl ?_
    refine T_seq <| T_seq ?_
    refine T_k mixed [] [.k4, .d, .d, .d, .d, .n, .n, .n, .r] [ps 126 (.osl 1 0 ((qaa [(nm, B.drop k)]).2.length)), ps 127 (nv ((qaa [(nm, B.drop k)]).2.length)), ps 128 (iv 0)] (oz) ?_
    refine qai ?_
    have hje : j = k := by omega
    rw [hje, List.drop_eq_nil_of_le (by rw [List.length_take]; omega), sumB] at hs
    obtain ⟨rfl, rfl⟩ : p = c ∧ q = d := by simpa using hs
    refine T_wk (Wk.eq (show _ = [ps 5 (.ssl (nos ((qaa [(nm, B)]).2)) 0 ((qaa [(nm, B)]).2.length)), ps 7 (.osl 0 0 ((qaa [(nm, B.take k)]).2.length)), ps 8 (.osl 1 0 ((qaa [(nm, B.drop k)]).2.length)), ps 10 (.opt 2 0), ps 126 (.osl 1 0 ((qaa [(nm, B.drop k)]).2.length)), ps 127 (nv ((qaa [(nm, B.drop k)]).2.length)), ps 128 (iv 0), pb 0 58 (nos ((qaa [(nm, B.take k)]).2)), pb 1 58 (nos (shM p q (qaa [(nm, B.drop k)]).2 0)), pb 2 56 [(iv p), (iv q)]] from by rw [shM_zero])) ?_
    refine qby (α := {x : Nat // x ≤ (qaa [(nm, B.drop k)]).2.length}) (fun x => [ps 5 (.ssl (nos ((qaa [(nm, B)]).2)) 0 ((qaa [(nm, B)]).2.length)), ps 7 (.osl 0 0 ((qaa [(nm, B.take k)]).2.length)), ps 8 (.osl 1 0 ((qaa [(nm, B.drop k)]).2.length)), ps 10 (.opt 2 0), ps 126 (.osl 1 0 ((qaa [(nm, B.drop k)]).2.length)), ps 127 (nv ((qaa [(nm, B.drop k)]).2.length)), ps 128 (nv x.1), pb 0 58 (nos ((qaa [(nm, B.take k)]).2)), pb 1 58 (nos (shM p q (qaa [(nm, B.drop k)]).2 x.1)), pb 2 56 [(iv p), (iv q)]]) (fun x => (qaa [(nm, B.drop k)]).2.length - x.1) 3 ⟨0, Nat.zero_le _⟩ (Wk.ren3 [ps 5 (.ssl (nos ((qaa [(nm, B)]).2)) 0 ((qaa [(nm, B)]).2.length)), ps 7 (.osl 0 0 ((qaa [(nm, B.take k)]).2.length)), ps 8 (.osl 1 0 ((qaa [(nm, B.drop k)]).2.length)), ps 10 (.opt 2 0), ps 126 (.osl 1 0 ((qaa [(nm, B.drop k)]).2.length)), ps 127 (nv ((qaa [(nm, B.drop k)]).2.length)), ps 128 (nv 0), pb 0 58 (nos ((qaa [(nm, B.take k)]).2)), pb 1 58 (nos (shM p q (qaa [(nm, B.drop k)]).2 0)), pb 2 56 [(iv p), (iv q)]] 0 hc0 [0, 1, 2] [(kb 0, (nos ((qaa [(nm, B.take k)]).2))), (kb 1, (nos (shM p q (qaa [(nm, B.drop k)]).2 0)))] (oc (qah _) (oc (qah _) (oz))) (by kernel_rfl) rfl rfl (by kernel_rfl) (by kernel_rfl)) ?_
    rintro ⟨i, hi⟩
    refine T_seq ?_
    refine T_r mixed [] [ps 5 (.ssl (nos ((qaa [(nm, B)]).2)) 0 ((qaa [(nm, B)]).2.length)), ps 7 (.osl 0 0 ((qaa [(nm, B.take k)]).2.length)), ps 8 (.osl 1 0 ((qaa [(nm, B.drop k)]).2.length)), ps 10 (.opt 2 0), ps 126 (.osl 1 0 ((qaa [(nm, B.drop k)]).2.length)), ps 127 (nv ((qaa [(nm, B.drop k)]).2.length)), ps 128 (nv i), ps 129 (bv (decide (((i : Nat) : Int) < (((qaa [(nm, B.drop k)]).2.length : Nat) : Int)))), pb 0 58 (nos ((qaa [(nm, B.take k)]).2)), pb 1 58 (nos (shM p q (qaa [(nm, B.drop k)]).2 i)), pb 2 56 [(iv p), (iv q)]] (oz) ?_
    refine T_seq ?_
    by_cases h11 : ((i : Nat) : Int) < (((qaa [(nm, B.drop k)]).2.length : Nat) : Int)
    ·refine T_th (dty h11) ?_
     refine qac <| T_seq <| qai <| T_seq ?_
     have hML := shM_len p q (qaa [(nm, B.drop k)]).2 hi
     refine T_k mixed [(1, .nat (i * 9)), (2, .cells [(iv (((shM p q (qaa [(nm, B.drop k)]).2 i).getD i dNt).1)), (iv (((shM p q (qaa [(nm, B.drop k)]).2 i).getD i dNt).2.1.1)), (iv (((shM p q (qaa [(nm, B.drop k)]).2 i).getD i dNt).2.1.2)), (iv (((shM p q (qaa [(nm, B.drop k)]).2 i).getD i dNt).2.2.1.1)), (iv (((shM p q (qaa [(nm, B.drop k)]).2 i).getD i dNt).2.2.1.2)), (iv (((shM p q (qaa [(nm, B.drop k)]).2 i).getD i dNt).2.2.2.1.1)), (iv (((shM p q (qaa [(nm, B.drop k)]).2 i).getD i dNt).2.2.2.1.2.1)), (iv (((shM p q (qaa [(nm, B.drop k)]).2 i).getD i dNt).2.2.2.1.2.2)), (sv (st (((shM p q (qaa [(nm, B.drop k)]).2 i).getD i dNt).2.2.2.2)))])] [.k4, .n, .n, .k3, .d, .k3, .n] [ps 15 (nv i), ps 16 (.opt 35 0), pb 35 58 [(iv (((shM p q (qaa [(nm, B.drop k)]).2 i).getD i dNt).1)), (iv (((shM p q (qaa [(nm, B.drop k)]).2 i).getD i dNt).2.1.1)), (iv (((shM p q (qaa [(nm, B.drop k)]).2 i).getD i dNt).2.1.2)), (iv (((shM p q (qaa [(nm, B.drop k)]).2 i).getD i dNt).2.2.1.1)), (iv (((shM p q (qaa [(nm, B.drop k)]).2 i).getD i dNt).2.2.1.2)), (iv (((shM p q (qaa [(nm, B.drop k)]).2 i).getD i dNt).2.2.2.1.1)), (iv (((shM p q (qaa [(nm, B.drop k)]).2 i).getD i dNt).2.2.2.1.2.1)), (iv (((shM p q (qaa [(nm, B.drop k)]).2 i).getD i dNt).2.2.2.1.2.2)), (sv (st (((shM p q (qaa [(nm, B.drop k)]).2 i).getD i dNt).2.2.2.2)))]] (oc (by omega : (0 : Int) ≤ ((i : Nat) : Int) ∧ ((i : Nat) : Int) < (((qaa [(nm, B.drop k)]).2.length : Nat) : Int)) (oc (by omega : 0 + (((i : Nat) : Int) : Int).toNat * 9 = (i * 9)) (oc (qbr noC 9 (fun _ => rfl) dNt (shM p q (qaa [(nm, B.drop k)]).2 i) i 0 9 (by omega) (by decide) : (i * 9) + 9 ≤ ((nos (shM p q (qaa [(nm, B.drop k)]).2 i))).length ∧ (((nos (shM p q (qaa [(nm, B.drop k)]).2 i))).drop (i * 9)).take 9 = [(iv (((shM p q (qaa [(nm, B.drop k)]).2 i).getD i dNt).1)), (iv (((shM p q (qaa [(nm, B.drop k)]).2 i).getD i dNt).2.1.1)), (iv (((shM p q (qaa [(nm, B.drop k)]).2 i).getD i dNt).2.1.2)), (iv (((shM p q (qaa [(nm, B.drop k)]).2 i).getD i dNt).2.2.1.1)), (iv (((shM p q (qaa [(nm, B.drop k)]).2 i).getD i dNt).2.2.1.2)), (iv (((shM p q (qaa [(nm, B.drop k)]).2 i).getD i dNt).2.2.2.1.1)), (iv (((shM p q (qaa [(nm, B.drop k)]).2 i).getD i dNt).2.2.2.1.2.1)), (iv (((shM p q (qaa [(nm, B.drop k)]).2 i).getD i dNt).2.2.2.1.2.2)), (sv (st (((shM p q (qaa [(nm, B.drop k)]).2 i).getD i dNt).2.2.2.2)))]) oz))) ?_
     refine T_seq ?_
     have hMi := shM_at (c := p) (d := q) (N := (qaa [(nm, B.drop k)]).2) (i := i) (by omega)
     have hpo : (plus ((shM p q (qaa [(nm, B.drop k)]).2 i).getD i dNt).2.1.1 ((shM p q (qaa [(nm, B.drop k)]).2 i).getD i dNt).2.1.2 p q).2.2 = 0 := by rw [hMi]; exact hsh _ (by rw [List.getD_eq_getElem?_getD, List.getElem?_eq_getElem (show i < (qaa [(nm, B.drop k)]).2.length by omega)]; exact List.getElem_mem _)
     have hpk := plus_ok (et3 hpo)
     obtain ⟨hs1, hs2⟩ := i64_r hpk.1
     refine T_k mixed [(3, .call [] [(.agg [(iv (((shM p q (qaa [(nm, B.drop k)]).2 i).getD i dNt).2.1.1)), (iv (((shM p q (qaa [(nm, B.drop k)]).2 i).getD i dNt).2.1.2))]), (.agg [(iv p), (iv q)])] [] (.tup [(.agg [(iv ((Fr.plus (((shM p q (qaa [(nm, B.drop k)]).2 i).getD i dNt).2.1.1) (((shM p q (qaa [(nm, B.drop k)]).2 i).getD i dNt).2.1.2) p q).1)), (iv ((Fr.plus (((shM p q (qaa [(nm, B.drop k)]).2 i).getD i dNt).2.1.1) (((shM p q (qaa [(nm, B.drop k)]).2 i).getD i dNt).2.1.2) p q).2.1))]), (iv ((Fr.plus (((shM p q (qaa [(nm, B.drop k)]).2 i).getD i dNt).2.1.1) (((shM p q (qaa [(nm, B.drop k)]).2 i).getD i dNt).2.1.2) p q).2.2))]) [])] [.k6, .n, .n, .k7, .n] [ps 17 (.opt 115 0), ps 18 (iv ((Fr.plus (((shM p q (qaa [(nm, B.drop k)]).2 i).getD i dNt).2.1.1) (((shM p q (qaa [(nm, B.drop k)]).2 i).getD i dNt).2.1.2) p q).2.2)), pb 115 56 [(iv ((Fr.plus (((shM p q (qaa [(nm, B.drop k)]).2 i).getD i dNt).2.1.1) (((shM p q (qaa [(nm, B.drop k)]).2 i).getD i dNt).2.1.2) p q).1)), (iv ((Fr.plus (((shM p q (qaa [(nm, B.drop k)]).2 i).getD i dNt).2.1.1) (((shM p q (qaa [(nm, B.drop k)]).2 i).getD i dNt).2.1.2) p q).2.1))]] (oc (ref_plus_pc (((shM p q (qaa [(nm, B.drop k)]).2 i).getD i dNt).2.1.1) (((shM p q (qaa [(nm, B.drop k)]).2 i).getD i dNt).2.1.2) p q (by first | assumption | omega) (by first | assumption | omega) (by first | assumption | omega) (by first | assumption | omega)) (oc (rfl : Ren0 83 [(.agg [(iv (((shM p q (qaa [(nm, B.drop k)]).2 i).getD i dNt).2.1.1)), (iv (((shM p q (qaa [(nm, B.drop k)]).2 i).getD i dNt).2.1.2))]), (.agg [(iv p), (iv q)])]) oz)) ?_
     refine T_seq <| T_seq ?_
     refine T_k mixed [] [.k7, .d, .k3, .n, .r] [ps 141 (bv (!(decide (((Fr.plus (((shM p q (qaa [(nm, B.drop k)]).2 i).getD i dNt).2.1.1) (((shM p q (qaa [(nm, B.drop k)]).2 i).getD i dNt).2.1.2) p q).2.2) = 0))))] (oz) ?_
     have h12 : ((Fr.plus (((shM p q (qaa [(nm, B.drop k)]).2 i).getD i dNt).2.1.1) (((shM p q (qaa [(nm, B.drop k)]).2 i).getD i dNt).2.1.2) p q).2.2) = 0 := hpo
     refine T_el (bt h12) ?_
     refine qac <| T_seq ?_
     refine T_k mixed [] [.k6, .d, .k3, .d, .k3, .d, .n, .d] [pb 35 58 [(iv (((shM p q (qaa [(nm, B.drop k)]).2 i).getD i dNt).1)), (iv ((Fr.plus (((shM p q (qaa [(nm, B.drop k)]).2 i).getD i dNt).2.1.1) (((shM p q (qaa [(nm, B.drop k)]).2 i).getD i dNt).2.1.2) p q).1)), (iv ((Fr.plus (((shM p q (qaa [(nm, B.drop k)]).2 i).getD i dNt).2.1.1) (((shM p q (qaa [(nm, B.drop k)]).2 i).getD i dNt).2.1.2) p q).2.1)), (iv (((shM p q (qaa [(nm, B.drop k)]).2 i).getD i dNt).2.2.1.1)), (iv (((shM p q (qaa [(nm, B.drop k)]).2 i).getD i dNt).2.2.1.2)), (iv (((shM p q (qaa [(nm, B.drop k)]).2 i).getD i dNt).2.2.2.1.1)), (iv (((shM p q (qaa [(nm, B.drop k)]).2 i).getD i dNt).2.2.2.1.2.1)), (iv (((shM p q (qaa [(nm, B.drop k)]).2 i).getD i dNt).2.2.2.1.2.2)), (sv (st (((shM p q (qaa [(nm, B.drop k)]).2 i).getD i dNt).2.2.2.2)))]] (oz) ?_
     refine T_k mixed [(3, .nat (i * 9)), (4, .cells (nos (shM p q (qaa [(nm, B.drop k)]).2 (i + 1))))] [.k4, .d, .d, .k4, .d, .n, .k1, .d] [pb 1 58 (nos (shM p q (qaa [(nm, B.drop k)]).2 (i + 1)))] (oc (by omega : (0 : Int) ≤ ((i : Nat) : Int) ∧ ((i : Nat) : Int) < (((qaa [(nm, B.drop k)]).2.length : Nat) : Int)) (oc (by omega : 0 + (((i : Nat) : Int) : Int).toNat * 9 = (i * 9)) (oc (by rw [← shM_next (show i < (qaa [(nm, B.drop k)]).2.length by omega), ← hMi]; exact shM_splice (M := shM p q (qaa [(nm, B.drop k)]).2 i) (i := i) (n := shN p q ((shM p q (qaa [(nm, B.drop k)]).2 i).getD i dNt)) (by rw [shM_len p q (qaa [(nm, B.drop k)]).2 hi]; omega) : (i * 9) + 9 ≤ ((nos (shM p q (qaa [(nm, B.drop k)]).2 i))).length ∧ qbw (nos (shM p q (qaa [(nm, B.drop k)]).2 i)) (i * 9) [(iv (((shM p q (qaa [(nm, B.drop k)]).2 i).getD i dNt).1)), (iv ((Fr.plus (((shM p q (qaa [(nm, B.drop k)]).2 i).getD i dNt).2.1.1) (((shM p q (qaa [(nm, B.drop k)]).2 i).getD i dNt).2.1.2) p q).1)), (iv ((Fr.plus (((shM p q (qaa [(nm, B.drop k)]).2 i).getD i dNt).2.1.1) (((shM p q (qaa [(nm, B.drop k)]).2 i).getD i dNt).2.1.2) p q).2.1)), (iv (((shM p q (qaa [(nm, B.drop k)]).2 i).getD i dNt).2.2.1.1)), (iv (((shM p q (qaa [(nm, B.drop k)]).2 i).getD i dNt).2.2.1.2)), (iv (((shM p q (qaa [(nm, B.drop k)]).2 i).getD i dNt).2.2.2.1.1)), (iv (((shM p q (qaa [(nm, B.drop k)]).2 i).getD i dNt).2.2.2.1.2.1)), (iv (((shM p q (qaa [(nm, B.drop k)]).2 i).getD i dNt).2.2.2.1.2.2)), (sv (st (((shM p q (qaa [(nm, B.drop k)]).2 i).getD i dNt).2.2.2.2)))] = (nos (shM p q (qaa [(nm, B.drop k)]).2 (i + 1)))) oz))) ?_
     refine T_blk ?_
     refine T_k mixed [] [.k6, .d, .n, .r] [ps 128 (iv (((i : Nat) : Int) + 1))] (oc (by simp only [InK]; omega : InK .i64 (((i : Nat) : Int) + 1)) oz) ?_
     exact qbo ⟨i + 1, by show i + 1 ≤ (qaa [(nm, B.drop k)]).2.length; omega⟩ (Wk.trans (Wk.eq (show _ = [ps 5 (.ssl (nos ((qaa [(nm, B)]).2)) 0 ((qaa [(nm, B)]).2.length)), ps 7 (.osl 0 0 ((qaa [(nm, B.take k)]).2.length)), ps 8 (.osl 1 0 ((qaa [(nm, B.drop k)]).2.length)), ps 10 (.opt 2 0), ps 126 (.osl 1 0 ((qaa [(nm, B.drop k)]).2.length)), ps 127 (nv ((qaa [(nm, B.drop k)]).2.length)), ps 128 (nv (i + 1)), pb 0 58 (nos ((qaa [(nm, B.take k)]).2)), pb 1 58 (nos (shM p q (qaa [(nm, B.drop k)]).2 (i + 1))), pb 2 56 [(iv p), (iv q)]] from by rfl)) (Wk.ren3 [ps 5 (.ssl (nos ((qaa [(nm, B)]).2)) 0 ((qaa [(nm, B)]).2.length)), ps 7 (.osl 0 0 ((qaa [(nm, B.take k)]).2.length)), ps 8 (.osl 1 0 ((qaa [(nm, B.drop k)]).2.length)), ps 10 (.opt 2 0), ps 126 (.osl 1 0 ((qaa [(nm, B.drop k)]).2.length)), ps 127 (nv ((qaa [(nm, B.drop k)]).2.length)), ps 128 (nv (i + 1)), pb 0 58 (nos ((qaa [(nm, B.take k)]).2)), pb 1 58 (nos (shM p q (qaa [(nm, B.drop k)]).2 (i + 1))), pb 2 56 [(iv p), (iv q)]] 0 hc0 [0, 1, 2] [(kb 0, (nos ((qaa [(nm, B.take k)]).2))), (kb 1, (nos (shM p q (qaa [(nm, B.drop k)]).2 (i + 1))))] (oc (qah _) (oc (qah _) (oz))) (by kernel_rfl) rfl rfl (by kernel_rfl) (by kernel_rfl))) (show (qaa [(nm, B.drop k)]).2.length - (i + 1) < (qaa [(nm, B.drop k)]).2.length - i from by show (qaa [(nm, B.drop k)]).2.length - (i + 1) < (qaa [(nm, B.drop k)]).2.length - i; omega)
    refine T_el (dtn h11) ?_
    refine qbi rfl rfl ?_
    refine T_seq ?_
    have hie : i = (qaa [(nm, B.drop k)]).2.length := by omega
    have hml : ((qaa [(nm, B.drop k)]).2.map (shN p q)).length = (qaa [(nm, B.drop k)]).2.length := List.length_map ..
    have hls : (qaa [(nm, B.take k)]).2.length + (qaa [(nm, B.drop k)]).2.length = (qaa [(nm, B)]).2.length := by rw [heq, List.length_append, List.length_map]
    have heqF : (qaa [(nm, B.take k)]).2 ++ (qaa [(nm, B.drop k)]).2.map (shN p q) = (qaa [(nm, B)]).2 := heq.symm
    subst hie
    refine T_wk (Wk.eq (show _ = [ps 5 (.ssl (nos ((qaa [(nm, B)]).2)) 0 ((qaa [(nm, B)]).2.length)), ps 7 (.osl 0 0 ((qaa [(nm, B.take k)]).2.length)), ps 8 (.osl 1 0 (((qaa [(nm, B.drop k)]).2.map (shN p q)).length)), ps 10 (.opt 2 0), ps 126 (.osl 1 0 ((qaa [(nm, B.drop k)]).2.length)), ps 127 (nv ((qaa [(nm, B.drop k)]).2.length)), ps 128 (nv ((qaa [(nm, B.drop k)]).2.length)), ps 129 (bv (decide (((((qaa [(nm, B.drop k)]).2.length) : Nat) : Int) < (((qaa [(nm, B.drop k)]).2.length : Nat) : Int)))), pb 0 58 (nos ((qaa [(nm, B.take k)]).2)), pb 1 58 (nos ((qaa [(nm, B.drop k)]).2.map (shN p q))), pb 2 56 [(iv p), (iv q)]] from by rw [shM_all, List.length_map])) ?_
    refine T_r mixed [(2, .app (some (nos ((qaa [(nm, B.drop k)]).2.map (shN p q)))) (some (nos (((qaa [(nm, B.take k)]).2) ++ ((qaa [(nm, B.drop k)]).2.map (shN p q)))))), (4, .lay [27] (.call [] [(.ssl (nos (((qaa [(nm, B.take k)]).2) ++ ((qaa [(nm, B.drop k)]).2.map (shN p q)))) 0 (((qaa [(nm, B.take k)]).2.length) + (((qaa [(nm, B.drop k)]).2.map (shN p q)).length))), (.ssl (nos ((qaa [(nm, B)]).2)) 0 ((qaa [(nm, B)]).2.length))] [] (bv true) []))] [ps 4 (bv true)] (oc (nos_src _ : 0 + (((qaa [(nm, B.drop k)]).2.map (shN p q)).length) * 9 ≤ ((nos ((qaa [(nm, B.drop k)]).2.map (shN p q)))).length ∧ (((nos ((qaa [(nm, B.drop k)]).2.map (shN p q)))).drop 0).take ((((qaa [(nm, B.drop k)]).2.map (shN p q)).length) * 9) = (nos ((qaa [(nm, B.drop k)]).2.map (shN p q)))) (oc (nos_len _ : ((nos ((qaa [(nm, B.take k)]).2))).length = ((qaa [(nm, B.take k)]).2.length) * 9) (oc (by omega : (((qaa [(nm, B.take k)]).2.length) + (((qaa [(nm, B.drop k)]).2.map (shN p q)).length)) * 80 ≤ 140737488355328 ∧ ((qaa [(nm, B.take k)]).2.length) + (((qaa [(nm, B.drop k)]).2.map (shN p q)).length) ≤ 9223372036854775807) (oc ((flat_app noC ((qaa [(nm, B.take k)]).2) ((qaa [(nm, B.drop k)]).2.map (shN p q))).symm : (nos ((qaa [(nm, B.take k)]).2)) ++ (nos ((qaa [(nm, B.drop k)]).2.map (shN p q))) = (nos (((qaa [(nm, B.take k)]).2) ++ ((qaa [(nm, B.drop k)]).2.map (shN p q))))) (oc (qah _ : shds (nos (((qaa [(nm, B.take k)]).2) ++ ((qaa [(nm, B.drop k)]).2.map (shN p q))))) (oc (same_notes_pc heqF (by rw [List.length_append]) (by rw [heqF]; exact hnl)) (oc (rfl : Ren0 43 [(.ssl (nos (((qaa [(nm, B.take k)]).2) ++ ((qaa [(nm, B.drop k)]).2.map (shN p q)))) 0 (((qaa [(nm, B.take k)]).2.length) + (((qaa [(nm, B.drop k)]).2.map (shN p q)).length))), (.ssl (nos ((qaa [(nm, B)]).2)) 0 ((qaa [(nm, B)]).2.length))]) oz))))))) ?_
    exact T_ret fun cx_ a_ hI_ => rt hc0 [ps 4 (bv true)] [] hI_
   refine T_kd mixed [(5, .nat2 (k * 3) (B.length - k)), (8, .lay [488] (.call [] [(.ssl [(sv (st nm)), (.ssl (brs B) (k * 3) (B.length - k))] 0 1)] [] (.tup [(.ssl [] 0 0), (iv ((qaa [(nm, B.drop k)]).1))]) []))] [[], [0], [], [2], [], [2, 3, 4], [0, 1, 2, 3, 4, 5], [0, 1, 2, 3, 4, 5, 6], [0, 1, 2, 3, 4, 5, 6, 7], [0, 1, 2, 3, 4, 5, 6, 7, 8], [0, 1, 2, 3, 4, 5, 6, 7, 8, 9], [0, 1, 2, 3, 4, 5, 6, 7, 8, 9], [0, 1, 2, 3, 4, 5, 6, 7, 8, 9, 10], [0, 1, 2, 3, 4, 5, 6, 7, 8, 9, 10, 11, 12]] [([136], [4]), ([138], [1, 136]), ([140], [4]), ([142], [1, 140]), ([144], [2]), ([146], [142, 144]), ([148], [138, 146]), ([150, 977], [148]), ([152, 977], [150, 977]), ([134], [152]), ([154], [134]), ([156], [134]), ([16], [154]), ([18], [156])] [.k5, .n, .n, .r] [ps 8 (.ssl [] 0 0), ps 9 (iv ((qaa [(nm, B.drop k)]).1))] (oc (by omega : (0 : Int) ≤ ((k : Nat) : Int) ∧ ((k : Nat) : Int) ≤ ((B.length : Nat) : Int) ∧ ((B.length : Nat) : Int) ≤ ((B.length : Nat) : Int) ∧ ((B.length : Nat) : Int) ≤ ((B.length : Nat) : Int)) (oc (by omega : 0 + (((k : Nat) : Int) : Int).toNat * 3 = (k * 3) ∧ (((B.length : Nat) : Int) : Int).toNat - (((k : Nat) : Int) : Int).toNat = B.length - k) (oc (fun p hp => List.all_eq_true.1 (show [(sv (st nm)), (.ssl (brs B) (k * 3) (B.length - k))].all PV.shd = true from rfl) p hp : shds [(sv (st nm)), (.ssl (brs B) (k * 3) (B.length - k))]) (oc (pc_cut ((B.length - k) * 3) (by have := (notes_no_score_pc [(nm, B.drop k)] (fit_bars (fit_drop k hfv)) h6); rw [brs_drop B hk]; simpa [vos, voC, List.length_drop] using this)) (oc (rfl : Ren0 496 [(.ssl [(sv (st nm)), (.ssl (brs B) (k * 3) (B.length - k))] 0 1)]) oz))))) ?_
   refine T_seq <| T_seq ?_
   refine T_k mixed [] [.k7, .n, .r] [ps 80 (bv (decide (((qaa [(nm, B.drop k)]).1) = 4)))] (oz) ?_
   have h13 : ((qaa [(nm, B.drop k)]).1) = 4 := (hcut.2.resolve_right (fun q => h6 q.1))
   refine T_th (dty h13) ?_
   refine T_seq ?_
   refine T_r mixed [] [ps 4 (bv true)] (oz) ?_
   exact T_ret fun cx_ a_ hI_ => rt hc0 [ps 4 (bv true)] [] hI_
  by_cases h4 : ((k : Nat) : Int) < ((B.length : Nat) : Int)
  ·refine T_k mixed [(3, .gd false (.no)), (4, .gd false (.no)), (5, .gd false (.no)), (6, .gd false (.no)), (7, .gd false (.no)), (8, .gd false (.no)), (9, .gd true (.no)), (10, .gd true (.no)), (11, .gd true (.no)), (12, .gd true (.nat (k * 3))), (13, .gd true (.no)), (14, .gd true (.val (.ssl (ics ((B.getD k dBr).2.2)) 0 (((B.getD k dBr).2.2).length)))), (15, .gd true (.call [] [(.ssl (ics ((B.getD k dBr).2.2)) 0 (((B.getD k dBr).2.2).length))] [] (bv (tiedL (B.getD k dBr).2.2)) [])), (16, .gd false (.yes true))] [.k3, .d, .n, .r] [ps 53 (bv (tiedL (B.getD k dBr).2.2))] (oc (rfl : false = false) (oc (rfl : false = false) (oc (rfl : false = false) (oc (rfl : false = false) (oc (rfl : false = false) (oc (rfl : false = false) (oc (dty h4) (oc (dty h4) (oc (dty h4) (oc (dty h4) (oc (by omega : (0 : Int) ≤ ((k : Nat) : Int) ∧ ((k : Nat) : Int) < ((B.length : Nat) : Int)) (oc (by omega : 0 + (((k : Nat) : Int) : Int).toNat * 3 = (k * 3)) (oc (dty h4) (oc (dty h4) (oc (qbr brC 3 (fun _ => rfl) dBr B k 2 1 (by omega) (by decide) : (k * 3 + 2) + 1 ≤ ((brs B)).length ∧ (((brs B)).drop (k * 3 + 2)).take 1 = [(.ssl (ics ((B.getD k dBr).2.2)) 0 (((B.getD k dBr).2.2).length))]) (oc (dty h4) (oc (tied_pc (B.getD k dBr).2.2 (by have := (hfv.2.2 k (by show k < B.length; omega)).2.2.1; dsimp only at this; omega)) (oc (rfl : Ren0 288 [(.ssl (ics ((B.getD k dBr).2.2)) 0 (((B.getD k dBr).2.2).length))]) (oc (rfl : false = false) (oc (dty h4) oz)))))))))))))))))))) ?_
   have h5 : ¬ ((tiedL (B.getD k dBr).2.2) = true) := by rw [ht (by omega)]; decide
   refine qau (b := (tiedL (B.getD k dBr).2.2)) rfl (Bool.eq_false_iff.2 h5) ?_
   refine qac ?_
   exact T_up hk1
  refine T_k mixed [(3, .gd false (.no)), (4, .gd false (.no)), (5, .gd false (.no)), (6, .gd false (.no)), (7, .gd false (.no)), (8, .gd false (.no)), (9, .gd false .no), (10, .gd false .no), (11, .gd false .no), (12, .gd false .no), (13, .gd false .no), (14, .gd false .no), (15, .gd false .no), (16, .gd false (.yes false))] [.k3, .d, .n, .r] [ps 53 (bv false)] (oc (rfl : false = false) (oc (rfl : false = false) (oc (rfl : false = false) (oc (rfl : false = false) (oc (rfl : false = false) (oc (rfl : false = false) (oc (dtn h4) (oc (dtn h4) (oc (dtn h4) (oc (dtn h4) (oc (dtn h4) (oc (dtn h4) (oc (dtn h4) (oc (rfl : false = false) (oc (dtn h4) oz))))))))))))))) ?_
  refine qau (b := false) rfl rfl ?_
  refine qac ?_
  exact T_up hk1
 refine T_k mixed [(2, .lay [112] (.call [] [(.ssl [(sv (st nm)), (.ssl (brs B) 0 B.length)] 0 1)] [] (.tup [(.ssl [] 0 0), (iv ((qaa [(nm, B)]).1))]) []))] [.k2, .n, .n, .d, .r] [ps 5 (.ssl [] 0 0), ps 6 (iv ((qaa [(nm, B)]).1))] (oc (fun p hp => List.all_eq_true.1 (show [(sv (st nm)), (.ssl (brs B) 0 B.length)].all PV.shd = true from rfl) p hp : shds [(sv (st nm)), (.ssl (brs B) 0 B.length)]) (oc (notes_no_score_pc [(nm, B)] (fit_bars hfv) h3) (oc (rfl : Ren0 120 [(.ssl [(sv (st nm)), (.ssl (brs B) 0 B.length)] 0 1)]) oz))) ?_
 refine T_seq <| T_seq ?_
 have h22 : ¬ (((qaa [(nm, B)]).1) = 0) := h3
 refine T_k mixed [(3, .gd true .no), (4, .gd true .no), (5, .gd true .no), (6, .gd true .no), (7, .gd true .no), (8, .gd true .no), (16, .gd true .no), (17, .yes true)] [.k3, .d, .n, .r] [ps 53 (bv true)] (oc (bf h22) (oc (bf h22) (oc (bf h22) (oc (bf h22) (oc (bf h22) (oc (bf h22) (oc (bf h22) (oc (bf h22) oz)))))))) ?_
 refine qan (b := true) rfl rfl ?_
 refine T_seq ?_
 refine T_r mixed [] [ps 4 (bv true)] (oz) ?_
 exact T_ret fun cx_ a_ hI_ => rt hc0 [ps 4 (bv true)] [] hI_
set_option maxRecDepth 100000 in
set_option maxHeartbeats 4000000 in
theorem law_bars_tied (nm : Txt) (B : List Br) (k : Nat) (hk : k < B.length) (htt : tiedL (B.getD k dBr).2.2 = true) (hfv : fitVo (nm, B)) : PC Tryz.prog 7 [(.agg [(sv (st nm)), (.ssl (brs B) 0 B.length)]), (nv k)] [] (bv true) [] := by
 have hfb0 := hfv.2.1
 dsimp only at hfb0
 refine qao Tryz.func7 rfl (by kernel_rfl) (Nat.le_of_ble_eq_true rfl) (by kernel_rfl) (l0 := [ps 0 (.agg [(sv (st nm)), (.ssl (brs B) 0 B.length)]), ps 1 (nv k)]) rfl (fun c0 Bor hc0 => ?_)
 refine T_seq ?_
 refine T_r mixed [] [ps 1 (nv k), ps 2 (.opt 0 0), pb 0 44 [(sv (st nm)), (.ssl (brs B) 0 B.length)]] (oz) ?_
 refine T_seq <| T_seq ?_
 refine T_k mixed [(0, .call [] [] [] (bv true) [])] [.k2, .n, .r] [ps 20 (bv false)] (oc alive_pc (oc (rfl : Ren0 16 []) oz)) ?_
 refine qau (b := false) rfl rfl ?_
 refine qac <| T_seq <| T_seq ?_
 by_cases h1 : ((k : Nat) : Int) < 0
 ·refine T_k mixed [(3, .gd true .no), (4, .gd true .no), (5, .gd true .no), (6, .gd true .no), (7, .gd true .no), (8, .yes true)] [.k2, .d, .n, .r] [ps 29 (bv true)] (oc (dty h1) (oc (dty h1) (oc (dty h1) (oc (dty h1) (oc (dty h1) (oc (dty h1) oz)))))) ?_
  refine qan (b := true) rfl rfl ?_
  refine T_seq ?_
  refine T_r mixed [] [ps 4 (bv true)] (oz) ?_
  exact T_ret fun cx_ a_ hI_ => rt hc0 [ps 4 (bv true)] [] hI_
 refine T_k mixed [(3, .gd false (.no)), (4, .gd false (.no)), (5, .gd false (.no)), (6, .gd false (.no)), (7, .gd false (.no)), (8, .yes false)] [.k2, .d, .n, .r] [ps 29 (bv (decide (((B.length : Nat) : Int) < ((k : Nat) : Int))))] (oc (dtn h1) (oc (dtn h1) (oc (dtn h1) (oc (dtn h1) (oc (dtn h1) (oc (dtn h1) oz)))))) ?_
 by_cases h2 : ((B.length : Nat) : Int) < ((k : Nat) : Int)
 ·refine T_th (dty h2) ?_
  refine T_seq ?_
  refine T_r mixed [] [ps 4 (bv true)] (oz) ?_
  exact T_ret fun cx_ a_ hI_ => rt hc0 [ps 4 (bv true)] [] hI_
 refine T_el (dtn h2) ?_
 refine qac <| T_seq ?_
 by_cases h3 : (qaa [(nm, B)]).1 = 0
 ·refine T_k mixed [(2, .lay [112] (.call [] [(.ssl [(sv (st nm)), (.ssl (brs B) 0 B.length)] 0 1)] [] (.tup [(.osl 0 0 ((qaa [(nm, B)]).2.length)), (iv 0)]) [some (58, (nos ((qaa [(nm, B)]).2)))]))] [.k2, .n, .n, .d, .k1, .n] [ps 5 (.osl 120 0 ((qaa [(nm, B)]).2.length)), ps 6 (iv 0), pb 120 58 (renL (sigo [] 120) (nos ((qaa [(nm, B)]).2)))] (oc (fun p hp => List.all_eq_true.1 (show [(sv (st nm)), (.ssl (brs B) 0 B.length)].all PV.shd = true from rfl) p hp : shds [(sv (st nm)), (.ssl (brs B) 0 B.length)]) (oc (qci [(nm, B)] (fit_bars hfv) h3) (oc (rfl : Ren0 120 [(.ssl [(sv (st nm)), (.ssl (brs B) 0 B.length)] 0 1)]) oz))) ?_
  refine T_wk (Wk.eq (show _ = [ps 1 (nv k), ps 2 (.opt 0 0), ps 5 (.osl 120 0 ((qaa [(nm, B)]).2.length)), ps 6 (iv 0), pb 0 44 [(sv (st nm)), (.ssl (brs B) 0 B.length)], pb 120 58 (nos ((qaa [(nm, B)]).2))] from by simp only [qat (qah _)])) ?_
  refine T_seq <| T_seq ?_
  refine T_wk (Wk.frz (l' := [ps 1 (nv k), ps 2 (.opt 0 0), ps 5 (.ssl (nos ((qaa [(nm, B)]).2)) 0 ((qaa [(nm, B)]).2.length)), ps 6 (iv 0), pb 0 44 [(sv (st nm)), (.ssl (brs B) 0 B.length)], (kb 120, none)]) 120 (T := 58) (cs := (nos ((qaa [(nm, B)]).2))) (by kernel_rfl) (qah _) (by kernel_rfl)) ?_
  refine T_wk (Wk.less (l' := [ps 1 (nv k), ps 2 (.opt 0 0), ps 5 (.ssl (nos ((qaa [(nm, B)]).2)) 0 ((qaa [(nm, B)]).2.length)), ps 6 (iv 0), pb 0 44 [(sv (st nm)), (.ssl (brs B) 0 B.length)]]) 168 (by kernel_rfl) (by kernel_rfl)) ?_
  have h4 : ((k : Nat) : Int) < ((B.length : Nat) : Int) := by omega
  refine T_k mixed [(3, .gd false (.no)), (4, .gd false (.no)), (5, .gd false (.no)), (6, .gd false (.no)), (7, .gd false (.no)), (8, .gd false (.no)), (9, .gd true (.no)), (10, .gd true (.no)), (11, .gd true (.no)), (12, .gd true (.nat (k * 3))), (13, .gd true (.no)), (14, .gd true (.val (.ssl (ics ((B.getD k dBr).2.2)) 0 (((B.getD k dBr).2.2).length)))), (15, .gd true (.call [] [(.ssl (ics ((B.getD k dBr).2.2)) 0 (((B.getD k dBr).2.2).length))] [] (bv (tiedL (B.getD k dBr).2.2)) [])), (16, .gd false (.yes true))] [.k3, .d, .n, .r] [ps 53 (bv (tiedL (B.getD k dBr).2.2))] (oc (rfl : false = false) (oc (rfl : false = false) (oc (rfl : false = false) (oc (rfl : false = false) (oc (rfl : false = false) (oc (rfl : false = false) (oc (dty h4) (oc (dty h4) (oc (dty h4) (oc (dty h4) (oc (by omega : (0 : Int) ≤ ((k : Nat) : Int) ∧ ((k : Nat) : Int) < ((B.length : Nat) : Int)) (oc (by omega : 0 + (((k : Nat) : Int) : Int).toNat * 3 = (k * 3)) (oc (dty h4) (oc (dty h4) (oc (qbr brC 3 (fun _ => rfl) dBr B k 2 1 (by omega) (by decide) : (k * 3 + 2) + 1 ≤ ((brs B)).length ∧ (((brs B)).drop (k * 3 + 2)).take 1 = [(.ssl (ics ((B.getD k dBr).2.2)) 0 (((B.getD k dBr).2.2).length))]) (oc (dty h4) (oc (tied_pc (B.getD k dBr).2.2 (by have := (hfv.2.2 k (by show k < B.length; omega)).2.2.1; dsimp only at this; omega)) (oc (rfl : Ren0 288 [(.ssl (ics ((B.getD k dBr).2.2)) 0 (((B.getD k dBr).2.2).length))]) (oc (rfl : false = false) (oc (dty h4) oz)))))))))))))))))))) ?_
  have h5 : (tiedL (B.getD k dBr).2.2) = true := htt
  refine qan (b := (tiedL (B.getD k dBr).2.2)) rfl h5 ?_
  refine T_seq ?_
  refine T_r mixed [] [ps 4 (bv true)] (oz) ?_
  exact T_ret fun cx_ a_ hI_ => rt hc0 [ps 4 (bv true)] [] hI_
 refine T_k mixed [(2, .lay [112] (.call [] [(.ssl [(sv (st nm)), (.ssl (brs B) 0 B.length)] 0 1)] [] (.tup [(.ssl [] 0 0), (iv ((qaa [(nm, B)]).1))]) []))] [.k2, .n, .n, .d, .r] [ps 5 (.ssl [] 0 0), ps 6 (iv ((qaa [(nm, B)]).1))] (oc (fun p hp => List.all_eq_true.1 (show [(sv (st nm)), (.ssl (brs B) 0 B.length)].all PV.shd = true from rfl) p hp : shds [(sv (st nm)), (.ssl (brs B) 0 B.length)]) (oc (notes_no_score_pc [(nm, B)] (fit_bars hfv) h3) (oc (rfl : Ren0 120 [(.ssl [(sv (st nm)), (.ssl (brs B) 0 B.length)] 0 1)]) oz))) ?_
 refine T_seq <| T_seq ?_
 have h6 : ¬ (((qaa [(nm, B)]).1) = 0) := h3
 refine T_k mixed [(3, .gd true .no), (4, .gd true .no), (5, .gd true .no), (6, .gd true .no), (7, .gd true .no), (8, .gd true .no), (16, .gd true .no), (17, .yes true)] [.k3, .d, .n, .r] [ps 53 (bv true)] (oc (bf h6) (oc (bf h6) (oc (bf h6) (oc (bf h6) (oc (bf h6) (oc (bf h6) (oc (bf h6) (oc (bf h6) oz)))))))) ?_
 refine qan (b := true) rfl rfl ?_
 refine T_seq ?_
 refine T_r mixed [] [ps 4 (bv true)] (oz) ?_
 exact T_ret fun cx_ a_ hI_ => rt hc0 [ps 4 (bv true)] [] hI_
set_option maxRecDepth 100000 in
set_option maxHeartbeats 4000000 in
theorem law_bars_out (nm : Txt) (B : List Br) (at_ : Int) (ho : at_ < 0 ∨ ((B.length : Nat) : Int) < at_) : PC Tryz.prog 7 [(.agg [(sv (st nm)), (.ssl (brs B) 0 B.length)]), (iv at_)] [] (bv true) [] := by
 refine qao Tryz.func7 rfl (by kernel_rfl) (Nat.le_of_ble_eq_true rfl) (by kernel_rfl) (l0 := [ps 0 (.agg [(sv (st nm)), (.ssl (brs B) 0 B.length)]), ps 1 (iv at_)]) rfl (fun c0 Bor hc0 => ?_)
 refine T_seq ?_
 refine T_r mixed [] [ps 1 (iv at_), ps 2 (.opt 0 0), pb 0 44 [(sv (st nm)), (.ssl (brs B) 0 B.length)]] (oz) ?_
 refine T_seq <| T_seq ?_
 refine T_k mixed [(0, .call [] [] [] (bv true) [])] [.k2, .n, .r] [ps 20 (bv false)] (oc alive_pc (oc (rfl : Ren0 16 []) oz)) ?_
 refine qau (b := false) rfl rfl ?_
 refine qac <| T_seq <| T_seq ?_
 by_cases h1 : at_ < 0
 ·refine T_k mixed [(3, .gd true .no), (4, .gd true .no), (5, .gd true .no), (6, .gd true .no), (7, .gd true .no), (8, .yes true)] [.k2, .d, .n, .r] [ps 29 (bv true)] (oc (dty h1) (oc (dty h1) (oc (dty h1) (oc (dty h1) (oc (dty h1) (oc (dty h1) oz)))))) ?_
  refine qan (b := true) rfl rfl ?_
  refine T_seq ?_
  refine T_r mixed [] [ps 4 (bv true)] (oz) ?_
  exact T_ret fun cx_ a_ hI_ => rt hc0 [ps 4 (bv true)] [] hI_
 refine T_k mixed [(3, .gd false (.no)), (4, .gd false (.no)), (5, .gd false (.no)), (6, .gd false (.no)), (7, .gd false (.no)), (8, .yes false)] [.k2, .d, .n, .r] [ps 29 (bv (decide (((B.length : Nat) : Int) < at_)))] (oc (dtn h1) (oc (dtn h1) (oc (dtn h1) (oc (dtn h1) (oc (dtn h1) (oc (dtn h1) oz)))))) ?_
 by_cases h2 : ((B.length : Nat) : Int) < at_
 ·refine T_th (dty h2) ?_
  refine T_seq ?_
  refine T_r mixed [] [ps 4 (bv true)] (oz) ?_
  exact T_ret fun cx_ a_ hI_ => rt hc0 [ps 4 (bv true)] [] hI_
 ·exfalso; omega
end Go.Proofs.YtmlnilkbolcknaaGreatDoor.Pm
namespace Go.Proofs.YtmlnilkbolcknaaGreatDoor.Pm
open Go Fr

theorem barsT_len {v : Int} : ∀ (l : List Br) (s : (Int × Int) × List Nt × Nat), (∀ y ∈ l, (itL y.2.2 1 4095).1 = true ∧ y.2.2.length ≠ 0) → okTs (s.2.1, s.2.2, 0) → (barsT v l s).1 = 0 → (barsT v l s).2.2.1.length ≤ s.2.1.length + l.length * 65536
 | [], s, _, _, _ => by rw [barsT]; simp
 | y :: l, ((a, b), N, z), hy, hok, h => by
  rw [barsT] at h ⊢
  split at h
  ·rename_i c
   rw [if_pos c]
   have hk := bar_keep (hy y (by simp)).1 (hy y (by simp)).2 hok c
   have := barsT_len l _ (fun z hz => hy z (by simp [hz])) hk.1 h
   refine Nat.le_trans this (Nat.le_trans (Nat.add_le_add_right hk.2.1 _) ?_)
   rw [List.length_cons, Nat.add_mul, Nat.one_mul, Nat.add_assoc, Nat.add_comm 65536]
   exact Nat.le_refl _
  ·rename_i c; exact absurd h c
theorem bars_good {B : List Br} (h : barsE B = 0) : ∀ y ∈ B, (itL y.2.2 1 4095).1 = true ∧ y.2.2.length ≠ 0 := fun y hy => by
 obtain ⟨i, hi, rfl⟩ := List.mem_iff_getElem.1 hy
 have := barE_ok (barsE_ok h i hi)
 rw [List.getD_eq_getElem?_getD, List.getElem?_eq_getElem hi] at this
 exact this
theorem notes_len_one (nm : Txt) (B : List Br) : (qaa [(nm, B)]).2.length ≤ 1000000000 := by
 by_cases hw : qay [(nm, B)] = 0
 ·rw [notes_one hw]
  split
  ·rename_i c
   have h1 := wrong_one.1 hw
   have := barsT_len B ((0, 1), [], 0) (bars_good h1.2.2) ⟨Nat.le_refl _, fun n hn => by cases hn⟩ c
   dsimp only at this ⊢
   simp only [List.length_nil] at this
   omega
  ·simp
 ·rw [qaa, if_neg hw]; simp
end Go.Proofs.YtmlnilkbolcknaaGreatDoor.Pm
namespace Go.Proofs.YtmlnilkbolcknaaGreatDoor.Pm
open Go

theorem law_bars (v : Vo) (a : Int) (hfv : fitVo v) : PC Tryz.prog 7 [.agg [sv (st v.1), .ssl (brs v.2) 0 v.2.length], iv a] [] (bv true) [] := by
 by_cases h : a < 0 ∨ ((v.2.length : Nat) : Int) < a
 ·exact law_bars_out v.1 v.2 a h
 ·obtain ⟨k, rfl⟩ : ∃ k : Nat, a = (k : Int) := ⟨a.toNat, by omega⟩
  by_cases ht : k < v.2.length ∧ tiedL (v.2.getD k dBr).2.2 = true
  ·exact law_bars_tied v.1 v.2 k ht.1 ht.2 hfv
  ·exact law_bars_in v.1 v.2 k (by omega) (fun hl => Bool.eq_false_iff.2 fun e => ht ⟨hl, e⟩) hfv (notes_len_one v.1 v.2)
end Go.Proofs.YtmlnilkbolcknaaGreatDoor.Pm
namespace Go.Proofs.YtmlnilkbolcknaaGreatDoor.Pm
open Go Go.Deep Go.ChangeShapes Go.WideShapes Go.ChangeAt Go.RowKit

/-- The parts of a struct, one qas the other. -/
def ShF (r : TypeId → List PV → Prop) : List Field → List PV → Prop
 | [], ps => ps = []
 | f :: fs, ps => ∃ a b, ps = a ++ b ∧ r f.type a ∧ ShF r fs b
/-- The tree's form, by the type. -/
def Sh (P : Program) : Nat → TypeId → List PV → Prop
 | 0, _, _ => False
 | n + 1, t, ps => match P.underlying t with
  | some .bool => ∃ b, ps = [.av (.bool b)]
  | some (.int k) => ∃ m, ps = [.av (.int k m)] ∧ (Lit.int k m).wf = true
  | some (.float k) => ∃ b, ps = [.av (.float k b)] ∧ (Lit.float k b).wf = true
  | some .string => ∃ s : ByteArray, ps = [.av (.string s)] ∧ s.size ≤ maxLen ∧ s.data.toList.length ≤ reachBytes
  | some (.slice e) => ∃ ess : List (List PV), ps = [.ssl ess.flatten 0 ess.length] ∧ ess.length ≤ maxLen ∧ ess.length * P.bytesOf e ≤ reachBytes ∧ ∀ es ∈ ess, Sh P n e es
  | some (.struct fs) => ShF (Sh P n) fs.toList ps
  | _ => False
mutual
/-- How much a reading holds. -/
def bulkW {H : Type} : DataW H → Nat
 | .lit (.string bytes) => bytes.length + 1
 | .lit _ => 1
 | .nil => 1
 | .ptr d => bulkW d + 1
 | .slice elems spare => bulkAll elems + bulkAll spare + 1
 | .agg parts => bulkAll parts + 1
 | .iface _ d => bulkW d + 1
 | .map entries => bulkEntries entries + 1
 | .held _ => 1
def bulkAll {H : Type} : List (DataW H) → Nat
 | [] => 0
 | d :: r => bulkW d + bulkAll r
def bulkEntries {H : Type} : List (Lit × DataW H) → Nat
 | [] => 0
 | x :: r => bulkEntry x + bulkEntries r
def bulkEntry {H : Type} : Lit × DataW H → Nat
 | (.string bytes, d) => bytes.length + bulkW d + 1
 | (_, d) => bulkW d + 1
end
mutual
/-- How much a tree holds. -/
def pvw : PV → Nat
 | .av (.string s) => s.size + 1
 | .ssl cs _ _ => pvws cs + 1
 | .agg cs => pvws cs + 1
 | _ => 1
def pvws : List PV → Nat
 | [] => 0
 | p :: l => pvw p + pvws l
end
theorem pvws_app : ∀ a b : List PV, pvws (a ++ b) = pvws a + pvws b
 | [], b => by simp [pvws]
 | p :: a, b => by rw [List.cons_append, pvws, pvws, pvws_app a b]; omega
theorem pvws_flatten : ∀ l : List (List PV), pvws l.flatten = (l.map pvws).sum
 | [] => rfl
 | a :: l => by rw [List.flatten_cons, pvws_app, pvws_flatten l, List.map_cons, List.sum_cons]
theorem sum_le {H : Type} : ∀ (n : Nat) (f : Nat → Nat) (ds : List (DataW H)), ds.length = n → (∀ i (h : i < ds.length), f i ≤ bulkW ds[i]) → ((List.range n).map f).sum ≤ bulkAll ds
 | 0, f, ds, hl, h => by simp
 | n + 1, f, [], hl, h => by simp at hl
 | n + 1, f, d :: ds, hl, h => by
  rw [List.range_succ_eq_map, List.map_cons, List.sum_cons, List.map_map, bulkAll]
  have h0 := h 0 (by simp)
  have h1 := sum_le n (f ∘ Nat.succ) ds (by simpa using hl) fun i hi => by have := h (i + 1) (by simpa using hi); simpa using this
  simp only [List.getElem_cons_zero] at h0
  omega
def contig (P : Program) : List Field → Nat → Option Nat
 | [], o => some o
 | f :: fs, o => if f.offset = o then contig P fs (o + P.cellsOf f.type) else none
/-- These types can be opened, with all that is in them. -/
def openB (P : Program) (Ts : List TypeId) : Bool := Ts.all fun t => match P.underlying t with
 | some .bool | some (.int _) | some (.float _) | some .string => Nat.beq (P.cellsOf t) 1
 | some (.slice e) => Nat.beq (P.cellsOf t) 1 && Nat.ble 1 (P.cellsOf e) && Ts.contains e
 | some (.struct fs) => contig P fs.toList 0 == some (P.cellsOf t) && fs.toList.all fun f => Ts.contains f.type
 | _ => false
theorem List.getD_app {α : Type} {l m : List α} {i : Nat} {d : α} (h : i < l.length) : (l ++ m).getD i d = l.getD i d := by
 rw [List.getD_eq_getElem?_getD, List.getD_eq_getElem?_getD, List.getElem?_append_left h]
theorem List.getD_app_r {α : Type} {l m : List α} {i : Nat} {d : α} (h : l.length ≤ i) : (l ++ m).getD i d = m.getD (i - l.length) d := by
 rw [List.getD_eq_getElem?_getD, List.getD_eq_getElem?_getD, List.getElem?_append_right h]
theorem flatten_get {k : Nat} : ∀ {ess : List (List PV)}, (∀ es ∈ ess, es.length = k) → ess.flatten.length = ess.length * k ∧ ∀ i j, j < k → i < ess.length → ess.flatten.getD (i * k + j) P0 = (ess.getD i []).getD j P0
 | [], _ => ⟨by simp, fun i j _ h => absurd h (Nat.not_lt_zero _)⟩
 | es :: ess, h => by
  have h0 := h es (by simp)
  obtain ⟨h1, h2⟩ := flatten_get (ess := ess) fun x hx => h x (by simp [hx])
  refine ⟨by rw [List.flatten_cons, List.length_append, h0, h1, List.length_cons, Nat.succ_mul]; omega, fun i j hj hi => ?_⟩
  rw [List.flatten_cons]
  cases i with
  | zero => rw [Nat.zero_mul, Nat.zero_add, List.getD_app (by omega)]; rfl
  | succ i =>
   rw [List.getD_app_r (by rw [h0, Nat.succ_mul]; omega), h0, show (i + 1) * k + j - k = i * k + j from by rw [Nat.succ_mul]; omega, h2 i j hj (by simpa using hi)]
   rfl
section
variable {H : Type} {enc : TypeId × Value → H} {P : Program} {w : World} {base : Nat} {held : Bool}
abbrev Opened (w : World) (ps : List PV) (cs : List Value) : Prop := ones ps ∧ ps.length = cs.length ∧ ∀ i, i < ps.length → SRep w (fun b => b < w.heap.size) (ps.getD i P0) (cs.getD i undef)
theorem opened_one {p : PV} {v : Value} (h : p.one = true) (hr : SRep w (fun b => b < w.heap.size) p v) : Opened w [p] [v] :=
 ⟨fun q hq => by simp only [List.mem_singleton] at hq; rw [hq]; exact h, rfl, fun i hi => by
  have : i = 0 := by simp at hi; omega
  subst this; exact hr⟩
theorem open_fs {Ts : List TypeId} {n : Nat} (ih : ∀ (t : TypeId) (cs : List Value) (x : DataW H × List MemPlace), t ∈ Ts → DataW.trod enc P w base (fun _ => true) held n t cs = some x → (x.1.weights P t).all (· ≤ reachBytes) = true →
  ∃ ps, Sh P n t ps ∧ Opened w ps cs ∧ cs.length = P.cellsOf t ∧ pvws ps ≤ bulkW x.1) (cs : List Value) :
  ∀ (fs : List Field) (xs : List (DataW H × List MemPlace)) (o e : Nat), contig P fs o = some e → e ≤ cs.length → (∀ f ∈ fs, f.type ∈ Ts) → xs.length = fs.length →
   (∀ (i : Nat) (f : Field), fs[i]? = some f → DataW.trod enc P w base (fun _ => true) held n f.type ((cs.drop f.offset).take (P.cellsOf f.type)) = xs[i]?) →
   (DataW.weightsEach P (fs.map (·.type)) (xs.map (·.1))).all (· ≤ reachBytes) = true → ∃ ps, ShF (Sh P n) fs ps ∧ Opened w ps ((cs.drop o).take (e - o)) ∧ o ≤ e ∧ pvws ps ≤ bulkAll (xs.map (·.1))
 | [], xs, o, e, hc, he, _, _, _, _ => by
  simp only [contig, Option.some.injEq] at hc
  subst hc
  exact ⟨[], rfl, ⟨fun p hp => (by cases hp), by simp, fun i hi => by simp at hi⟩, Nat.le_refl _, Nat.zero_le _⟩
 | f :: fs, [], o, e, hc, he, hT, hx, hf, hw => by simp at hx
 | f :: fs, x :: xs, o, e, hc, he, hT, hx, hf, hw => by
  simp only [contig] at hc
  split at hc
  case isFalse => cases hc
  rename_i ho
  simp only [List.map_cons, DataW.weightsEach, List.all_append, Bool.and_eq_true] at hw
  obtain ⟨b, hb1, hb2, hb3, hb4⟩ := open_fs ih cs fs xs _ e hc he (fun g hg => hT g (by simp [hg])) (by simpa using hx) (fun i g hg => by have := hf (i + 1) g (by simpa using hg); simpa using this) hw.2
  obtain ⟨a, ha1, ha2, ha3, ha4⟩ := ih f.type _ x (hT f (by simp)) (by have := hf 0 f (by simp); simpa using this) hw.1
  rw [ho] at ha2 ha3
  have hla : (List.take (P.cellsOf f.type) (List.drop o cs)).length = P.cellsOf f.type := ha3
  have e1 : (cs.drop o).take (e - o) = (cs.drop o).take (P.cellsOf f.type) ++ (cs.drop (o + P.cellsOf f.type)).take (e - (o + P.cellsOf f.type)) := by
   rw [← List.drop_drop, show e - o = P.cellsOf f.type + (e - (o + P.cellsOf f.type)) from by omega, List.take_add]
  refine ⟨a ++ b, ⟨a, b, rfl, ha1, hb1⟩, ?_, by omega, by rw [pvws_app, List.map_cons, bulkAll]; omega⟩
  rw [e1]
  refine ⟨fun p hp => ?_, by rw [List.length_append, List.length_append, ha2.2.1, hb2.2.1], fun i hi => ?_⟩
  ·rcases List.mem_append.1 hp with h | h
   ·exact ha2.1 p h
   ·exact hb2.1 p h
  ·have hl := ha2.2.1
   rw [List.length_append] at hi
   by_cases h : i < a.length
   ·rw [List.getD_app h, List.getD_app (by omega)]
    exact ha2.2.2 i h
   ·rw [List.getD_app_r (by omega), List.getD_app_r (by omega), ← hl]
    exact hb2.2.2 _ (by omega)
theorem open_any {Ts : List TypeId} (hT : openB P Ts = true) : ∀ (n : Nat) (t : TypeId) (cs : List Value) (x : DataW H × List MemPlace), t ∈ Ts → DataW.trod enc P w base (fun _ => true) held n t cs = some x → (x.1.weights P t).all (· ≤ reachBytes) = true →
  ∃ ps, Sh P n t ps ∧ Opened w ps cs ∧ cs.length = P.cellsOf t ∧ pvws ps ≤ bulkW x.1
 | 0, _, _, _, _, h, _ => by simp [DataW.trod] at h
 | n + 1, t, cs, x, ht, h, hw => by
  have hB := List.all_eq_true.1 hT t ht
  split at hB
  ·rename_i hu
   obtain ⟨b, rfl, rfl⟩ := DataW.trod_bool hu h
   exact ⟨[.av (.bool b)], by simp only [Sh, hu]; exact ⟨b, rfl⟩, opened_one rfl (.av _), (Nat.eq_of_beq_eq_true hB).symm, by simp [pvws, pvw, bulkW]⟩
  ·rename_i k hu
   obtain ⟨b, rfl, rfl, hwf⟩ := DataW.trod_int hu h
   exact ⟨[.av (.int k b)], by simp only [Sh, hu]; exact ⟨b, rfl, hwf⟩, opened_one rfl (.av _), (Nat.eq_of_beq_eq_true hB).symm, by simp [pvws, pvw, bulkW]⟩
  ·rename_i k hu
   have : ∃ b, cs = [.float k b] ∧ (Lit.float k b).wf = true ∧ x = (.lit (.float k b), []) := by
    unfold DataW.trod at h
    rw [hu] at h
    split at h <;> simp_all
   obtain ⟨b, rfl, hwf, rfl⟩ := this
   exact ⟨[.av (.float k b)], by simp only [Sh, hu]; exact ⟨b, rfl, hwf⟩, opened_one rfl (.av _), (Nat.eq_of_beq_eq_true hB).symm, by simp [pvws, pvw, bulkW]⟩
  ·rename_i hu
   obtain ⟨s, rfl, rfl, hs⟩ := DataW.trod_string hu h
   have hw9 : ([s.data.toList.length].all (· ≤ reachBytes)) = true := hw
   have hw8 : s.data.toList.length ≤ reachBytes := of_decide_eq_true (List.all_eq_true.1 hw9 s.data.toList.length (List.mem_singleton.2 rfl))
   exact ⟨[.av (.string s)], by simp only [Sh, hu]; exact ⟨s, rfl, hs, hw8⟩, opened_one rfl (.av _), (Nat.eq_of_beq_eq_true hB).symm, by simp [pvws, pvw, bulkW]⟩
  ·rename_i e hu
   simp only [Bool.and_eq_true] at hB
   obtain ⟨⟨hB1, hB2⟩, hB3⟩ := hB
   have hB1 := Nat.eq_of_beq_eq_true hB1
   have hk := Nat.le_of_ble_eq_true hB2
   have he : e ∈ Ts := by simpa using hB3
   rcases DataW.trod_slice hu h with ⟨rfl, rfl⟩ | ⟨a, len, cap, elems, rest, m, hm, rfl, rfl, hb, hl, hcap, hel, hE, _, _⟩
   ·refine ⟨[.ssl [] 0 0], ?_, opened_one rfl .emp, hB1.symm, by simp [pvws, pvw, bulkW]⟩
    simp only [Sh, hu]
    exact ⟨[], rfl, Nat.zero_le _, by simp, by simp⟩
   ·obtain rfl : m = n := by omega
    simp only [DataW.weights, hu, List.length_map, List.all_cons, List.all_append, Bool.and_eq_true, decide_eq_true_eq] at hw
    have hwl : ∀ i (hi : i < elems.length), ((elems[i].1).weights P e).all (· ≤ reachBytes) = true := by
     intro i hi
     refine List.all_eq_true.2 fun z hz => ?_
     exact List.all_eq_true.1 hw.2.1 z (weights_all_mem (List.mem_map.2 ⟨elems[i], List.getElem_mem hi, rfl⟩) z hz)
    have each : ∀ i, i < len → ∃ q : List PV × List Value, Sh P m e q.1 ∧ Opened w q.1 q.2 ∧ q.2.length = P.cellsOf e ∧ (∀ j, j < P.cellsOf e → w.cell? (a.add (i * P.cellsOf e + j)) = some (q.2.getD j undef)) ∧ ∀ h : i < elems.length, pvws q.1 ≤ bulkW (elems[i]).1 := by
     intro i hi
     have h1 := hE i hi
     rw [List.getElem?_eq_getElem (by omega), Option.bind_eq_some_iff] at h1
     obtain ⟨cs', h2, h3⟩ := h1
     obtain ⟨ps, h4, h5, h6, h7⟩ := open_any hT m e cs' _ he h3 (hwl i (by omega))
     refine ⟨(ps, cs'), h4, h5, h6, fun j hj => ?_, fun _ => h7⟩
     rw [← Addr.add_add, (World.cells?_some h2).2.2 j hj]
     have : j < cs'.length := by omega
     simp [List.getD_eq_getElem?_getD, this]
    let Q : Nat → List PV × List Value := fun i => if hi : i < len then (each i hi).choose else ([], [])
    have hQ : ∀ i, i < len → Sh P m e (Q i).1 ∧ Opened w (Q i).1 (Q i).2 ∧ (Q i).2.length = P.cellsOf e ∧ (∀ j, j < P.cellsOf e → w.cell? (a.add (i * P.cellsOf e + j)) = some ((Q i).2.getD j undef)) ∧ ∀ h : i < elems.length, pvws (Q i).1 ≤ bulkW (elems[i]).1 := by
     intro i hi
     have e1 : Q i = (each i hi).choose := dif_pos hi
     rw [e1]
     exact (each i hi).choose_spec
    have hlen : ((List.range len).map fun i => (Q i).1).length = len := by simp
    refine ⟨[.ssl ((List.range len).map fun i => (Q i).1).flatten 0 ((List.range len).map fun i => (Q i).1).length], ?_, opened_one rfl ?_, hB1.symm, ?_⟩
    ·simp only [Sh, hu]
     refine ⟨_, rfl, by rw [hlen]; omega, by rw [hlen]; exact Nat.le_trans (Nat.mul_le_mul_right _ (by omega)) hw.1, fun es hes => ?_⟩
     obtain ⟨i, hi, rfl⟩ := List.mem_map.1 hes
     exact (hQ i (List.mem_range.1 hi)).1
    ·rw [hlen]
     rcases Nat.eq_zero_or_pos len with h0 | h0
     ·subst h0; exact .emp
     ·have hes : ∀ es ∈ (List.range len).map fun i => (Q i).1, es.length = P.cellsOf e := fun es hes => by
       obtain ⟨i, hi, rfl⟩ := List.mem_map.1 hes
       obtain ⟨_, h2, h3, _⟩ := hQ i (List.mem_range.1 hi)
       exact h2.2.1.trans h3
      obtain ⟨hf1, hf2⟩ := flatten_get hes
      rw [hlen] at hf1 hf2
      have hg : ∀ i, i < len → ((List.range len).map fun i => (Q i).1).getD i [] = (Q i).1 := fun i hi => by simp [List.getD_eq_getElem?_getD, hi]
      obtain ⟨b, o, rfl, hbs, hcell⟩ := cells_from (w := w) (a := a) (n := len * P.cellsOf e) (f := fun c => (Q (c / P.cellsOf e)).2.getD (c % P.cellsOf e) undef) (fun c hc => by
       have hd : c / P.cellsOf e < len := Nat.div_lt_of_lt_mul (by rw [Nat.mul_comm]; exact hc)
       have := (hQ _ hd).2.2.2.1 (c % P.cellsOf e) (Nat.mod_lt _ hk)
       rw [Nat.mul_comm, Nat.div_add_mod] at this
       exact this) (Nat.mul_pos h0 hk)
      refine SRep.ssl (a := o) (off := 0) (vf := fun c => (Q (c / P.cellsOf e)).2.getD (c % P.cellsOf e) undef) hbs (fun j hj => hcell j (by omega)) (fun j hj => ?_) (fun p hp => ?_) hl
      ·rw [hf1] at hj
       have hd : j / P.cellsOf e < len := Nat.div_lt_of_lt_mul (by rw [Nat.mul_comm]; exact hj)
       have hm := Nat.mod_lt j hk
       have e1 := hf2 (j / P.cellsOf e) (j % P.cellsOf e) hm hd
       rw [Nat.mul_comm, Nat.div_add_mod, hg _ hd] at e1
       rw [e1]
       obtain ⟨_, h2, h3, _⟩ := hQ _ hd
       exact h2.2.2 _ (by rw [h2.2.1, h3]; exact hm)
      ·obtain ⟨es, hes', hp'⟩ := List.mem_flatten.1 hp
       obtain ⟨i, hi, rfl⟩ := List.mem_map.1 hes'
       exact (hQ i (List.mem_range.1 hi)).2.1.1 p hp'
    ·simp only [pvws, pvw, bulkW, pvws_flatten, List.map_map]
     have := sum_le len (pvws ∘ fun i => (Q i).1) (elems.map (·.1)) (by simpa using hel) fun i hi => by
      have hi' : i < elems.length := by simpa using hi
      have := (hQ i (by omega)).2.2.2.2 hi'
      simpa using this
     omega
  ·rename_i fs hu
   simp only [Bool.and_eq_true, beq_iff_eq, List.all_eq_true] at hB
   obtain ⟨xs, m, hm, rfl, hl, hxl, hf⟩ := DataW.trod_struct hu h
   obtain rfl : m = n := by omega
   simp only [DataW.weights, hu] at hw
   obtain ⟨ps, h1, h2, _, h4⟩ := open_fs (open_any hT m) cs fs.toList xs 0 _ hB.1 (by omega) (fun f hf => by simpa using hB.2 f hf) (by simpa using hxl) (fun i f hif => hf i f (by simpa using hif)) hw
   rw [List.drop_zero, Nat.sub_zero, ← hl, List.take_length] at h2
   exact ⟨ps, by simp only [Sh, hu]; exact h1, h2, hl, by simp only [bulkW]; omega⟩
  ·cases hB
end
theorem weights_at {H : Type} {P : Program} {ts : List TypeId} {ds : List (DataW H)} (h : (DataW.weightsEach P ts ds).all (· ≤ reachBytes) = true) {j : Nat} {t : TypeId} {d : DataW H} (ht : ts[j]? = some t) (hd : ds[j]? = some d) : (d.weights P t).all (· ≤ reachBytes) = true :=
 List.all_eq_true.2 fun n hn => List.all_eq_true.1 h n (DataW.weights_mem_each ht hd n hn)
/-- An argument, whatever its type. -/
theorem arg_any {H : Type} {enc : TypeId × Value → H} {P : Program} {w : World} {base : Nat} {t : TypeId} {v : Value} {d : DataW H} {pl : List MemPlace} {r : Reach} {b0 : Nat} {held : Bool} {Ts : List TypeId}
  (hT : openB P Ts = true) (ht : t ∈ Ts) (hv : Value.okWide P w r b0 t v) (h : DataW.Trod enc P w base (fun _ => true) held t v d pl)
  {ts : List TypeId} {ds : List (DataW H)} (hs : (DataW.weightsEach P ts ds).all (· ≤ reachBytes) = true) {j : Nat} (hj : ts[j]? = some t) (hd : ds[j]? = some d) :
  ∃ n ps, Sh P n t ps ∧ pvws ps ≤ bulkW d ∧ match qcr (P.underlying t) with
   | some true => SRep w (fun b => b < w.heap.size) (.agg ps) v
   | _ => ∃ p, ps = [p] ∧ SRep w (fun b => b < w.heap.size) p v := by
 obtain ⟨n, hf⟩ := h
 obtain ⟨ps, h1, ⟨h2, h3, h4⟩, h5, h6⟩ := open_any hT n t _ _ ht hf (weights_at hs hj hd)
 refine ⟨n, ps, h1, h6, ?_⟩
 have hB := List.all_eq_true.1 hT t ht
 have one : v.cells = #[v] → ∃ p, ps = [p] ∧ SRep w (fun b => b < w.heap.size) p v := fun hc => by
  rw [hc] at h3 h4
  simp only [List.length_cons, List.length_nil] at h3
  obtain ⟨p, rfl⟩ := List.length_eq_one_iff.1 h3
  exact ⟨p, rfl, h4 0 (by simp)⟩
 split at hB
 ·rename_i hu
  obtain ⟨b, rfl⟩ := okWide_bool hu hv
  simp only [hu, qcr]
  exact one rfl
 ·rename_i k hu
  obtain ⟨b, rfl⟩ := okWide_int hu hv
  simp only [hu, qcr]
  exact one rfl
 ·rename_i k hu
  have : ∃ b, v = .float k b := by
   simp only [Value.okWide, hu, Cell.okWide] at hv
   cases v <;> simp_all [Cell.ok]
  obtain ⟨b, rfl⟩ := this
  simp only [hu, qcr]
  exact one rfl
 ·rename_i hu
  obtain ⟨b, rfl⟩ := okWide_string hu hv
  simp only [hu, qcr]
  exact one rfl
 ·rename_i e hu
  obtain ⟨a, l, c, rfl⟩ := okWide_slice hu hv
  simp only [hu, qcr]
  exact one rfl
 ·rename_i fs hu
  obtain ⟨cs, rfl, hsz⟩ := okWide_struct hu hv
  simp only [hu, qcr]
  simp only [Value.cells] at h3 h4
  refine .agg (by simpa using h3.symm) fun i hi => ?_
  have := h4 i hi
  rwa [show cs.toList.getD i undef = cs.getD i undef from by rw [List.getD_eq_getElem?_getD, Array.getElem?_toList, Array.getD_eq_getD_getElem?]] at this
 ·cases hB
end Go.Proofs.YtmlnilkbolcknaaGreatDoor.Pm
namespace Go.Proofs.YtmlnilkbolcknaaGreatDoor.Pm
open Go Go.Deep Go.ChangeShapes Go.WideShapes Go.ChangeAt Go.RowKit

theorem list_of {α : Type} {g : α → List PV} {q : α → Prop} : ∀ {ess : List (List PV)}, (∀ es ∈ ess, ∃ x, es = g x ∧ q x) → ∃ l : List α, ess = l.map g ∧ ∀ x ∈ l, q x
 | [], _ => ⟨[], rfl, by simp⟩
 | es :: ess, h => by
  obtain ⟨x, rfl, hx⟩ := h es (by simp)
  obtain ⟨l, rfl, hl⟩ := list_of (ess := ess) fun e he => h e (by simp [he])
  exact ⟨x :: l, rfl, fun y hy => by
   rcases List.mem_cons.1 hy with rfl | hy
   ·exact hx
   ·exact hl y hy⟩
theorem flat_of {α : Type} (g : α → List PV) (l : List α) : (l.map g).flatten = l.flatMap g := List.flatMap_def.symm
/-- A number of a kind. -/
theorem sh_num {P : Program} {t : TypeId} {k : IntKind} (ht : P.underlying t = some (.int k)) {n : Nat} {ps : List PV} (h : Sh P n t ps) : ∃ m, ps = [.av (.int k m)] ∧ (Lit.int k m).wf = true := by
 cases n with
 | zero => exact h.elim
 | succ n => simpa only [Sh, ht] using h
theorem sh_str' {P : Program} {t : TypeId} (ht : P.underlying t = some .string) {n : Nat} {ps : List PV} (h : Sh P n t ps) : ∃ s : ByteArray, ps = [.av (.string s)] ∧ s.size ≤ maxLen ∧ s.data.toList.length ≤ reachBytes := by
 cases n with
 | zero => exact h.elim
 | succ n => simpa only [Sh, ht] using h
/-- A slice of elements that are told. -/
theorem sh_list {P : Program} {t e : TypeId} (ht : P.underlying t = some (.slice e)) {α : Type} {g : α → List PV} {q : α → Prop} {n : Nat} {ps : List PV} (h : Sh P n t ps) (hg : ∀ m es, m < n → Sh P m e es → ∃ x, es = g x ∧ q x) :
  ∃ l : List α, ps = [.ssl (l.flatMap g) 0 l.length] ∧ (∀ x ∈ l, q x) ∧ l.length ≤ maxLen ∧ l.length * P.bytesOf e ≤ reachBytes := by
 cases n with
 | zero => exact h.elim
 | succ n =>
  simp only [Sh, ht] at h
  obtain ⟨ess, rfl, h1, h2, h3⟩ := h
  obtain ⟨l, rfl, hl⟩ := list_of fun es hes => hg n es (Nat.lt_succ_self _) (h3 es hes)
  rw [List.length_map] at h1 h2
  refine ⟨l, by rw [flat_of, List.length_map], hl, h1, h2⟩
end Go.Proofs.YtmlnilkbolcknaaGreatDoor.Pm
namespace Go.Proofs.YtmlnilkbolcknaaGreatDoor.Pm
open Go

theorem wf_of {m : Int} (h : (Lit.int .i64 m).wf = true) : i64r m := by
 simp [Lit.wf, IntKind.min, IntKind.max, IntKind.signed, IntKind.bits] at h; unfold i64r; omega
theorem sc_int {n : Nat} {ps : List PV} (h : Sh Tryz.prog n 3 ps) : ∃ m, ps = [iv m] ∧ i64r m := by
 obtain ⟨m, h1, h2⟩ := sh_num Tryz.underlying3 h
 exact ⟨m, h1, wf_of h2⟩
theorem sc_str {n : Nat} {ps : List PV} (h : Sh Tryz.prog n 9 ps) : ∃ s : Txt, ps = [sv (st s)] ∧ s.length ≤ 140737488351232 := by
 obtain ⟨s, h1, _, h2⟩ := sh_str' Tryz.underlying9 h
 exact ⟨s.data.toList, h1, h2⟩
theorem sc_pit {n : Nat} {ps : List PV} (h : Sh Tryz.prog n 52 ps) : ∃ p : Pt, ps = ptC p := by
 cases n with
 | zero => exact h.elim
 | succ n =>
  simp only [Sh, Tryz.underlying52, ShF] at h
  obtain ⟨a, b, rfl, h1, c, d, rfl, h2, e, f, rfl, h3, rfl⟩ := h
  obtain ⟨x, rfl, _⟩ := sc_int h1
  obtain ⟨y, rfl, _⟩ := sc_int h2
  obtain ⟨z, rfl, _⟩ := sc_int h3
  exact ⟨(x, y, z), rfl⟩
theorem sc_pts {n : Nat} {ps : List PV} (h : Sh Tryz.prog n 48 ps) : ∃ l : List Pt, ps = [.ssl (pts l) 0 l.length] ∧ l.length ≤ 5864062014634 := by
 obtain ⟨l, h1, _, _, h4⟩ := sh_list (g := ptC) (q := fun _ => True) Tryz.underlying48 h fun m es _ hs => by obtain ⟨p, hp⟩ := sc_pit hs; exact ⟨p, hp, trivial⟩
 rw [show Tryz.prog.bytesOf 52 = 24 from by kernel_rfl] at h4
 have h5 : l.length * 24 ≤ 140737488351232 := h4
 exact ⟨l, h1, by omega⟩
theorem sc_iv {n : Nat} {ps : List PV} (h : Sh Tryz.prog n 41 ps) : ∃ i : Int × Int, ps = [iv i.1, iv i.2] ∧ i64r i.1 ∧ i64r i.2 := by
 cases n with
 | zero => exact h.elim
 | succ n =>
  simp only [Sh, Tryz.underlying41, ShF] at h
  obtain ⟨a, b, rfl, h1, c, d, rfl, h2, rfl⟩ := h
  obtain ⟨x, rfl, hx⟩ := sc_int h1
  obtain ⟨y, rfl, hy⟩ := sc_int h2
  exact ⟨(x, y), rfl, hx, hy⟩
theorem fitL_of : ∀ {l : List It}, (∀ x ∈ l, fitI x) → fitL l
 | [], _ => trivial
 | x :: l, h => ⟨h x (by simp), fitL_of fun y hy => h y (by simp [hy])⟩
theorem item_of : ∀ (n : Nat) (ps : List PV), Sh Tryz.prog n 50 ps → ∃ x, ps = gI x ∧ fitI x := by
 intro n
 induction n using Nat.strongRecOn with
 | ind n ih =>
  intro ps h
  cases n with
  | zero => exact h.elim
  | succ n =>
   simp only [Sh, Tryz.underlying50, ShF] at h
   obtain ⟨_, _, rfl, h1, _, _, rfl, h2, _, _, rfl, h3, _, _, rfl, h4, _, _, rfl, h5, _, _, rfl, h6, rfl⟩ := h
   obtain ⟨k, rfl, _⟩ := sc_int h1
   obtain ⟨s, rfl, _⟩ := sc_int h2
   obtain ⟨P, rfl, hP⟩ := sc_pts h3
   obtain ⟨i, rfl, hi1, hi2⟩ := sc_iv h4
   obtain ⟨y, rfl, hy⟩ := sc_str h5
   obtain ⟨l, rfl, hl, _, hb⟩ := sh_list (g := gI) (q := fitI) Tryz.underlying45 h6 fun m es hm hs => ih m (by omega) es hs
   rw [show Tryz.prog.bytesOf 50 = 96 from by kernel_rfl] at hb
   have hb' : l.length * 96 ≤ 140737488351232 := hb
   refine ⟨.mk k s P i y l, ?_, ⟨⟨hi1, hi2⟩, hP, hy, by omega, fitL_of hl⟩⟩
   simp only [gI, iK, iS, iP, iB, iL, iC, ics_flat]
   rfl
theorem sc_items {n : Nat} {ps : List PV} (h : Sh Tryz.prog n 45 ps) : ∃ l : List It, ps = [.ssl (ics l) 0 l.length] ∧ l.length ≤ 1466015503658 ∧ fitL l := by
 obtain ⟨l, h1, hl, _, hb⟩ := sh_list (g := gI) (q := fitI) Tryz.underlying45 h fun m es _ hs => item_of m es hs
 rw [show Tryz.prog.bytesOf 50 = 96 from by kernel_rfl] at hb
 have hb' : l.length * 96 ≤ 140737488351232 := hb
 exact ⟨l, by rw [ics_flat]; exact h1, by omega, fitL_of hl⟩
theorem bar_of (n : Nat) (ps : List PV) (h : Sh Tryz.prog n 47 ps) : ∃ b : Br, ps = brC b ∧ fitBar b := by
 cases n with
 | zero => exact h.elim
 | succ n =>
  simp only [Sh, Tryz.underlying47, ShF] at h
  obtain ⟨_, _, rfl, h1, _, _, rfl, h2, _, _, rfl, h3, rfl⟩ := h
  obtain ⟨u, rfl, hu⟩ := sc_int h1
  obtain ⟨d, rfl, hd⟩ := sc_int h2
  obtain ⟨l, rfl, hl, hf⟩ := sc_items h3
  exact ⟨(u, d, l), rfl, hu, hd, hl, hf⟩
theorem vo_of (n : Nat) (ps : List PV) (h : Sh Tryz.prog n 44 ps) : ∃ v : Vo, ps = voC v ∧ fitVo v := by
 cases n with
 | zero => exact h.elim
 | succ n =>
  simp only [Sh, Tryz.underlying44, ShF] at h
  obtain ⟨_, _, rfl, h1, _, _, rfl, h2, rfl⟩ := h
  obtain ⟨nm, rfl, hn⟩ := sc_str h1
  obtain ⟨B, rfl, hB, _, hb⟩ := sh_list (g := brC) (q := fitBar) Tryz.underlying42 h2 fun m es _ hs => bar_of m es hs
  rw [show Tryz.prog.bytesOf 47 = 40 from by kernel_rfl] at hb
  have hb' : B.length * 40 ≤ 140737488351232 := hb
  refine ⟨(nm, B), rfl, hn, by show B.length ≤ _; omega, fun i hi => ?_⟩
  rw [List.getD_eq_getElem?_getD, List.getElem?_eq_getElem hi]
  exact hB _ (List.getElem_mem hi)
end Go.Proofs.YtmlnilkbolcknaaGreatDoor.Pm
