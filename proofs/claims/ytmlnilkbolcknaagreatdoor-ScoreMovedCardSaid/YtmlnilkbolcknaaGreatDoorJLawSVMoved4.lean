/-
  SPANS: sharing out: a walk. (Printed by wip/pm/sp.py.) | SPANS: plain: leaves first, then where they stand: the same. | SPANS: Spans: a walk. (Printed by wip/pm/sp.py.) | SCORE: an item that stands at a span: walk. (Printed by wip/pm.) | SCORE: plain: a bar's items, told one by one. No program in sight. | SCORE: items told: walk. (Printed by wip/pm.) | SCORE: plain: what is right with items that are counted; so many spans they take. No program in sight. | SCORE: plain: a bar's shares: as many spans as its items take; a bar told. No program in sight. | SCORE: a bar told: walk. (Printed by wip/pm.) | SCORE: plain: what is right with a piece that nothing is wrong with; what stays from bar to bar. No program in sight. | SCORE: what is wrong: walk. (Printed by wip/pm.) | SCORE: what sounds in a piece: walk. (Printed by wip/pm.)
-/
import Derived.Test.YtmlnilkbolcknaaGreatDoorJLawSVMoved3
namespace Go.Proofs.YtmlnilkbolcknaaGreatDoor.Pm
open Go Fr

theorem qht {l : List Beat} {i : Nat} {all u d : Int} {st : StS} (h : i < l.length) : qbx (l.drop i) all u d st =
  if (make (sh (l.getD i dB)) all).2.2 = 0 then
   if (times (make (sh (l.getD i dB)) all).1 (make (sh (l.getD i dB)) all).2.1 u d).2.2 = 0 then
    if (qah (l.getD i dB) (times (make (sh (l.getD i dB)) all).1 (make (sh (l.getD i dB)) all).2.1 u d).1 (times (make (sh (l.getD i dB)) all).1 (make (sh (l.getD i dB)) all).2.1 u d).2.1 st).1 = 0
    then qbx (l.drop (i + 1)) all u d (qah (l.getD i dB) (times (make (sh (l.getD i dB)) all).1 (make (sh (l.getD i dB)) all).2.1 u d).1 (times (make (sh (l.getD i dB)) all).1 (make (sh (l.getD i dB)) all).2.1 u d).2.1 st).2
    else qah (l.getD i dB) (times (make (sh (l.getD i dB)) all).1 (make (sh (l.getD i dB)) all).2.1 u d).1 (times (make (sh (l.getD i dB)) all).1 (make (sh (l.getD i dB)) all).2.1 u d).2.1 st
   else ((times (make (sh (l.getD i dB)) all).1 (make (sh (l.getD i dB)) all).2.1 u d).2.2, st)
  else ((make (sh (l.getD i dB)) all).2.2, st) := by rw [qil h, qbx]
set_option maxRecDepth 100000 in
theorem qwz (b : Beat) (ih : ∀ c : Beat, SizeOf.sizeOf c < SizeOf.sizeOf b → ∀ (u d : Int) (L : List Sp) (a b3 : Int), rightB u d = true → okSt L a b3 → good c → cnt c ≤ 4096 → L.length + cnt c ≤ 90000 → PC Tryz.prog 102 [.opt 0 0, .agg (gB c), qrb u d] [some (159, [(.osl 1 0 L.length), (iv a), (iv b3)]), some (187, (spans L))] (iv (qah c u d (L, a, b3)).1) [some (159, [(.osl 2 0 ((qah c u d (L, a, b3)).2.1.length)), (iv ((qah c u d (L, a, b3)).2.2.1)), (iv ((qah c u d (L, a, b3)).2.2.2))]), none, some (187, (spans ((qah c u d (L, a, b3)).2.1)))]) (u d : Int) (L : List Sp) (a b3 : Int) (hr : rightB u d = true) (hs : okSt L a b3) (hgood : good b) (hc : L.length + cnt b ≤ 90000) (hc2 : cnt b ≤ 4096) : PC Tryz.prog 102 [(.opt 0 0), (.agg [(iv (kd b)), (iv (sh b)), (.ssl (kc b) 0 ((kids b).length))]), (.agg [(iv u), (iv d)])] [some (159, [(.osl 1 0 L.length), (iv a), (iv b3)]), some (187, (spans L))] (iv ((qah b u d (L, a, b3)).1)) [some (159, [(.osl 2 0 ((qah b u d (L, a, b3)).2.1.length)), (iv ((qah b u d (L, a, b3)).2.2.1)), (iv ((qah b u d (L, a, b3)).2.2.2))]), none, some (187, (spans ((qah b u d (L, a, b3)).2.1)))] := by
 obtain ⟨hu, hd⟩ := qif hr
 refine qas Tryz.func102 rfl (by kernel_rfl) (Nat.le_of_ble_eq_true rfl) (by kernel_rfl) (l0 := [ps 0 (.opt 0 0), ps 1 (.agg [(iv (kd b)), (iv (sh b)), (.ssl (kc b) 0 ((kids b).length))]), ps 2 (.agg [(iv u), (iv d)]), pb 0 159 [(.osl 1 0 L.length), (iv a), (iv b3)], pb 1 187 (spans L)]) rfl (fun c0 Bor hc0 => ?_)
 refine qaa ?_
 refine T_k mixed [] [.k1, .d, .d, .n, .n, .k2, .n, .n] [ps 4 (.opt 2 0), ps 5 (.opt 10 0), pb 2 125 [(iv (kd b)), (iv (sh b)), (.ssl (kc b) 0 ((kids b).length))], pb 10 56 [(iv u), (iv d)]] (oz) ?_
 refine qaa <| qaa ?_
 refine T_k mixed [] [.k3, .n, .r] [ps 16 (bv (!(decide ((kd b) = 4))))] (oz) ?_
 by_cases h1 : (kd b) = 4
 ·refine T_el (bt h1) ?_
  refine qag <| qaa ?_
  refine T_k mixed [] [.k3, .n, .d, .r] [ps 7 (iv 0)] (oz) ?_
  refine qaa <| qaa ?_
  refine T_k mixed [] [.k4, .n, .n, .n, .r] [ps 23 (.ssl (kc b) 0 ((kids b).length)), ps 24 (nv ((kids b).length)), ps 25 (iv 0)] (oz) ?_
  refine qan ?_
  have hk4 : kd b = 4 := h1
  obtain ⟨hg1, hg2, hg3, hg⟩ := (qss b).1 hgood
  have hcn := cnt_eq b
  have hkl := qpe (kids b)
  have hsum := qlq hg
  have hne : 0 < (kids b).length := List.length_pos_iff.2 (hg3 hk4)
  refine T_wk (Wk.eq (show _ = [ps 0 (.opt 0 0), ps 4 (.opt 2 0), ps 5 (.opt 10 0), ps 7 (iv (qaf ((kids b).take 0))), ps 23 (.ssl (kc b) 0 ((kids b).length)), ps 24 (nv ((kids b).length)), ps 25 (iv 0), pb 0 159 [(.osl 1 0 L.length), (iv a), (iv b3)], pb 1 187 (spans L), pb 2 125 [(iv (kd b)), (iv (sh b)), (.ssl (kc b) 0 ((kids b).length))], pb 10 56 [(iv u), (iv d)]] from by rfl)) ?_
  refine qcm (α := {x : Nat // x ≤ (kids b).length}) (fun x => [ps 0 (.opt 0 0), ps 4 (.opt 2 0), ps 5 (.opt 3 0), ps 7 (iv (qaf ((kids b).take x.1))), ps 23 (.ssl (kc b) 0 ((kids b).length)), ps 24 (nv ((kids b).length)), ps 25 (nv x.1), pb 0 159 [(.osl 1 0 L.length), (iv a), (iv b3)], pb 1 187 (spans L), pb 2 125 [(iv (kd b)), (iv (sh b)), (.ssl (kc b) 0 ((kids b).length))], pb 3 56 [(iv u), (iv d)]]) (fun x => (kids b).length - x.1) 4 ⟨0, Nat.zero_le _⟩ (Wk.ren3 [ps 0 (.opt 0 0), ps 4 (.opt 2 0), ps 5 (.opt 3 0), ps 7 (iv (qaf ((kids b).take 0))), ps 23 (.ssl (kc b) 0 ((kids b).length)), ps 24 (nv ((kids b).length)), ps 25 (nv 0), pb 0 159 [(.osl 1 0 L.length), (iv a), (iv b3)], pb 1 187 (spans L), pb 2 125 [(iv (kd b)), (iv (sh b)), (.ssl (kc b) 0 ((kids b).length))], pb 3 56 [(iv u), (iv d)]] 2 hc0 [0, 1, 2, 10] [(kb 1, (spans L))] (oc (qbh _) (oz)) (by kernel_rfl) rfl rfl (by kernel_rfl) (by kernel_rfl)) ?_
  rintro ⟨i, hi⟩
  refine qaa ?_
  refine T_r mixed [] [ps 0 (.opt 0 0), ps 4 (.opt 2 0), ps 5 (.opt 3 0), ps 7 (iv (qaf ((kids b).take i))), ps 23 (.ssl (kc b) 0 ((kids b).length)), ps 24 (nv ((kids b).length)), ps 25 (nv i), ps 26 (bv (decide (((i : Nat) : Int) < (((kids b).length : Nat) : Int)))), pb 0 159 [(.osl 1 0 L.length), (iv a), (iv b3)], pb 1 187 (spans L), pb 2 125 [(iv (kd b)), (iv (sh b)), (.ssl (kc b) 0 ((kids b).length))], pb 3 56 [(iv u), (iv d)]] (oz) ?_
  refine qaa ?_
  by_cases h2 : ((i : Nat) : Int) < (((kids b).length : Nat) : Int)
  ·refine T_th (decide_eq_true h2) ?_
   refine qag <| qaa <| qan <| qaa ?_
   refine T_k mixed [(0, .nat (i * 3)), (1, .cells [(iv (kd ((kids b).getD i dB))), (iv (sh ((kids b).getD i dB))), (.ssl (kc ((kids b).getD i dB)) 0 ((kids ((kids b).getD i dB)).length))])] [.k4, .n, .k3, .d, .k4, .n] [ps 9 (.opt 28 0), pb 28 125 [(iv (kd ((kids b).getD i dB))), (iv (sh ((kids b).getD i dB))), (.ssl (kc ((kids b).getD i dB)) 0 ((kids ((kids b).getD i dB)).length))]] (oc (by omega : (0 : Int) ≤ ((i : Nat) : Int) ∧ ((i : Nat) : Int) < (((kids b).length : Nat) : Int)) (oc (by omega : 0 + (((i : Nat) : Int) : Int).toNat * 3 = (i * 3)) (oc (kc_at b i 0 3 (by omega) (by decide) : (i * 3) + 3 ≤ ((kc b)).length ∧ (((kc b)).drop (i * 3)).take 3 = [(iv (kd ((kids b).getD i dB))), (iv (sh ((kids b).getD i dB))), (.ssl (kc ((kids b).getD i dB)) 0 ((kids ((kids b).getD i dB)).length))]) oz))) ?_
   have hsb := sumSh_bd hg (i + 1) (by omega)
   rw [qmt (by omega)] at hsb
   refine T_k mixed [] [.k3, .d, .n, .d, .k7, .d] [ps 7 (iv ((qaf ((kids b).take i)) + (sh ((kids b).getD i dB))))] (oc (by simp only [InK]; omega : InK .i64 ((qaf ((kids b).take i)) + (sh ((kids b).getD i dB)))) oz) ?_
   refine qbg ?_
   refine T_k mixed [] [.k6, .d, .n, .r] [ps 25 (iv (((i : Nat) : Int) + 1))] (oc (by simp only [InK]; omega : InK .i64 (((i : Nat) : Int) + 1)) oz) ?_
   exact qce ⟨i + 1, by omega⟩ (Wk.trans (Wk.eq (show _ = [ps 0 (.opt 0 0), ps 4 (.opt 2 0), ps 5 (.opt 3 0), ps 7 (iv (qaf ((kids b).take (i + 1)))), ps 23 (.ssl (kc b) 0 ((kids b).length)), ps 24 (nv ((kids b).length)), ps 25 (iv (((i : Nat) : Int) + 1)), pb 0 159 [(.osl 1 0 L.length), (iv a), (iv b3)], pb 1 187 (spans L), pb 2 125 [(iv (kd b)), (iv (sh b)), (.ssl (kc b) 0 ((kids b).length))], pb 3 56 [(iv u), (iv d)]] from by rw [qmt (by omega)])) (Wk.ren3 [ps 0 (.opt 0 0), ps 4 (.opt 2 0), ps 5 (.opt 3 0), ps 7 (iv (qaf ((kids b).take (i + 1)))), ps 23 (.ssl (kc b) 0 ((kids b).length)), ps 24 (nv ((kids b).length)), ps 25 (nv (i + 1)), pb 0 159 [(.osl 1 0 L.length), (iv a), (iv b3)], pb 1 187 (spans L), pb 2 125 [(iv (kd b)), (iv (sh b)), (.ssl (kc b) 0 ((kids b).length))], pb 3 56 [(iv u), (iv d)]] 2 hc0 [0, 1, 2, 3] [(kb 1, (spans L))] (oc (qbh _) (oz)) (by kernel_rfl) rfl rfl (by kernel_rfl) (by kernel_rfl))) (show (kids b).length - (i + 1) < (kids b).length - i from by omega)
  refine T_el (decide_eq_false h2) ?_
  refine qbu rfl rfl ?_
  refine qaa <| qaa ?_
  obtain rfl : i = (kids b).length := by omega
  refine T_wk (Wk.eq (show _ = [ps 0 (.opt 0 0), ps 4 (.opt 2 0), ps 5 (.opt 3 0), ps 7 (iv (qaf (kids b))), ps 23 (.ssl (kc b) 0 ((kids b).length)), ps 24 (nv ((kids b).length)), ps 25 (nv ((kids b).length)), ps 26 (bv (decide (((((kids b).length) : Nat) : Int) < (((kids b).length : Nat) : Int)))), pb 0 159 [(.osl 1 0 L.length), (iv a), (iv b3)], pb 1 187 (spans L), pb 2 125 [(iv (kd b)), (iv (sh b)), (.ssl (kc b) 0 ((kids b).length))], pb 3 56 [(iv u), (iv d)]] from by rw [List.take_length])) ?_
  refine T_k mixed [] [.k1, .d, .k2, .d, .d, .d, .d, .n, .n, .n, .k2, .d, .r] [ps 35 (.ssl (kc b) 0 ((kids b).length)), ps 36 (nv ((kids b).length)), ps 37 (iv 0)] (oz) ?_
  refine qan ?_
  refine qcm (α := {x : Nat × List Sp × Int × Int // x.1 ≤ (kids b).length ∧ qbx ((kids b).drop x.1) (qaf (kids b)) u d (x.2.1, x.2.2.1, x.2.2.2) = qbx (kids b) (qaf (kids b)) u d (L, a, b3) ∧ okSt x.2.1 x.2.2.1 x.2.2.2 ∧ x.2.1.length + cntL ((kids b).drop x.1) ≤ L.length + cntL (kids b) ∧ cntL ((kids b).drop x.1) ≤ cntL (kids b)}) (fun x => [ps 0 (.opt 0 0), ps 5 (.opt 3 0), ps 7 (iv (qaf (kids b))), ps 35 (.ssl (kc b) 0 ((kids b).length)), ps 36 (nv ((kids b).length)), ps 37 (nv x.1.1), pb 0 159 [(.osl 2 0 x.1.2.1.length), (iv x.1.2.2.1), (iv x.1.2.2.2)], pb 2 187 (spans x.1.2.1), pb 3 56 [(iv u), (iv d)]]) (fun x => (kids b).length - x.1.1) 4 ⟨(0, L, a, b3), ⟨Nat.zero_le _, rfl, hs, Nat.le_refl _, Nat.le_refl _⟩⟩ (Wk.ren3D [ps 0 (.opt 0 0), ps 5 (.opt 3 0), ps 7 (iv (qaf (kids b))), ps 35 (.ssl (kc b) 0 ((kids b).length)), ps 36 (nv ((kids b).length)), ps 37 (nv 0), pb 0 159 [(.osl 2 0 L.length), (iv a), (iv b3)], pb 2 187 (spans L), pb 3 56 [(iv u), (iv d)]] 2 hc0 [0, 1, 1, 3] [(kb 2, (spans L))] (oc (qbh _) (oz)) (by kernel_rfl) rfl (by kernel_rfl) (by kernel_rfl) (by kernel_rfl)) ?_
  rintro ⟨⟨i, L2, a2, b2⟩, ⟨hi, hL, hs2, hn, hcd⟩⟩
  dsimp only at hi hL hs2 hn hcd
  refine qaa ?_
  refine T_r mixed [] [ps 0 (.opt 0 0), ps 5 (.opt 3 0), ps 7 (iv (qaf (kids b))), ps 35 (.ssl (kc b) 0 ((kids b).length)), ps 36 (nv ((kids b).length)), ps 37 (nv i), ps 38 (bv (decide (((i : Nat) : Int) < (((kids b).length : Nat) : Int)))), pb 0 159 [(.osl 2 0 L2.length), (iv a2), (iv b2)], pb 2 187 (spans L2), pb 3 56 [(iv u), (iv d)]] (oz) ?_
  refine qaa ?_
  by_cases h3 : ((i : Nat) : Int) < (((kids b).length : Nat) : Int)
  ·refine T_th (decide_eq_true h3) ?_
   refine qag <| qaa <| qan <| qaa ?_
   refine T_k mixed [(0, .nat (i * 3)), (1, .cells [(iv (kd ((kids b).getD i dB))), (iv (sh ((kids b).getD i dB))), (.ssl (kc ((kids b).getD i dB)) 0 ((kids ((kids b).getD i dB)).length))])] [.k3, .n, .k3, .d, .k3, .n] [ps 11 (.opt 28 0), pb 28 125 [(iv (kd ((kids b).getD i dB))), (iv (sh ((kids b).getD i dB))), (.ssl (kc ((kids b).getD i dB)) 0 ((kids ((kids b).getD i dB)).length))]] (oc (by omega : (0 : Int) ≤ ((i : Nat) : Int) ∧ ((i : Nat) : Int) < (((kids b).length : Nat) : Int)) (oc (by omega : 0 + (((i : Nat) : Int) : Int).toNat * 3 = (i * 3)) (oc (kc_at b i 0 3 (by omega) (by decide) : (i * 3) + 3 ≤ ((kc b)).length ∧ (((kc b)).drop (i * 3)).take 3 = [(iv (kd ((kids b).getD i dB))), (iv (sh ((kids b).getD i dB))), (.ssl (kc ((kids b).getD i dB)) 0 ((kids ((kids b).getD i dB)).length))]) oz))) ?_
   refine qaa ?_
   have hgx := qvp hg (show i < (kids b).length by omega)
   have hgx2 := (qss _).1 hgx
   have hca := qtf (l := kids b) (i := i) (by omega)
   have hmr := qxm (sh ((kids b).getD i dB)) (qaf (kids b))
   refine T_k mixed [(3, .call [] [(iv (sh ((kids b).getD i dB))), (iv (qaf (kids b)))] [] (.tup [(.agg [(iv ((Fr.make (sh ((kids b).getD i dB)) (qaf (kids b))).1)), (iv ((Fr.make (sh ((kids b).getD i dB)) (qaf (kids b))).2.1))]), (iv ((Fr.make (sh ((kids b).getD i dB)) (qaf (kids b))).2.2))]) [])] [.k4, .n, .n, .k7, .n] [ps 12 (.opt 100 0), ps 13 (iv ((Fr.make (sh ((kids b).getD i dB)) (qaf (kids b))).2.2)), pb 100 56 [(iv ((Fr.make (sh ((kids b).getD i dB)) (qaf (kids b))).1)), (iv ((Fr.make (sh ((kids b).getD i dB)) (qaf (kids b))).2.1))]] (oc (qsk (sh ((kids b).getD i dB)) (qaf (kids b)) (by unfold Fr.I64; omega) (by unfold Fr.I64; omega)) (oc (rfl : Ren0 68 [(iv (sh ((kids b).getD i dB))), (iv (qaf (kids b)))]) oz)) ?_
   refine qaa <| qaa ?_
   refine T_k mixed [] [.k8, .k1, .n, .r] [ps 49 (bv (decide (((Fr.make (sh ((kids b).getD i dB)) (qaf (kids b))).2.2) = 0)))] (oz) ?_
   by_cases h4 : ((Fr.make (sh ((kids b).getD i dB)) (qaf (kids b))).2.2) = 0
   ·refine T_th (decide_eq_true h4) ?_
    refine T_k mixed [(2, .call [] [(.agg [(iv ((Fr.make (sh ((kids b).getD i dB)) (qaf (kids b))).1)), (iv ((Fr.make (sh ((kids b).getD i dB)) (qaf (kids b))).2.1))]), (.agg [(iv u), (iv d)])] [] (.tup [(.agg [(iv ((Fr.times ((Fr.make (sh ((kids b).getD i dB)) (qaf (kids b))).1) ((Fr.make (sh ((kids b).getD i dB)) (qaf (kids b))).2.1) u d).1)), (iv ((Fr.times ((Fr.make (sh ((kids b).getD i dB)) (qaf (kids b))).1) ((Fr.make (sh ((kids b).getD i dB)) (qaf (kids b))).2.1) u d).2.1))]), (iv ((Fr.times ((Fr.make (sh ((kids b).getD i dB)) (qaf (kids b))).1) ((Fr.make (sh ((kids b).getD i dB)) (qaf (kids b))).2.1) u d).2.2))]) [])] [.k5, .d, .n, .k3, .d, .k4, .d, .n] [ps 13 (iv ((Fr.times ((Fr.make (sh ((kids b).getD i dB)) (qaf (kids b))).1) ((Fr.make (sh ((kids b).getD i dB)) (qaf (kids b))).2.1) u d).2.2)), pb 100 56 [(iv ((Fr.times ((Fr.make (sh ((kids b).getD i dB)) (qaf (kids b))).1) ((Fr.make (sh ((kids b).getD i dB)) (qaf (kids b))).2.1) u d).1)), (iv ((Fr.times ((Fr.make (sh ((kids b).getD i dB)) (qaf (kids b))).1) ((Fr.make (sh ((kids b).getD i dB)) (qaf (kids b))).2.1) u d).2.1))]] (oc (times_pc ((Fr.make (sh ((kids b).getD i dB)) (qaf (kids b))).1) ((Fr.make (sh ((kids b).getD i dB)) (qaf (kids b))).2.1) u d (by unfold Fr.I64; omega) (by unfold Fr.I64; omega) (by assumption) (by assumption)) (oc (rfl : Ren0 156 [(.agg [(iv ((Fr.make (sh ((kids b).getD i dB)) (qaf (kids b))).1)), (iv ((Fr.make (sh ((kids b).getD i dB)) (qaf (kids b))).2.1))]), (.agg [(iv u), (iv d)])]) oz)) ?_
    refine qaa <| qaa ?_
    refine T_k mixed [] [.k8, .k1, .n, .r] [ps 57 (bv (decide (((Fr.times ((Fr.make (sh ((kids b).getD i dB)) (qaf (kids b))).1) ((Fr.make (sh ((kids b).getD i dB)) (qaf (kids b))).2.1) u d).2.2) = 0)))] (oz) ?_
    by_cases h5 : ((Fr.times ((Fr.make (sh ((kids b).getD i dB)) (qaf (kids b))).1) ((Fr.make (sh ((kids b).getD i dB)) (qaf (kids b))).2.1) u d).2.2) = 0
    ·refine T_th (decide_eq_true h5) ?_
     refine T_k mixed [(3, .call [0, 2] [(.opt 0 0), (.agg [(iv (kd ((kids b).getD i dB))), (iv (sh ((kids b).getD i dB))), (.ssl (kc ((kids b).getD i dB)) 0 ((kids ((kids b).getD i dB)).length))]), (.agg [(iv ((Fr.times ((Fr.make (sh ((kids b).getD i dB)) (qaf (kids b))).1) ((Fr.make (sh ((kids b).getD i dB)) (qaf (kids b))).2.1) u d).1)), (iv ((Fr.times ((Fr.make (sh ((kids b).getD i dB)) (qaf (kids b))).1) ((Fr.make (sh ((kids b).getD i dB)) (qaf (kids b))).2.1) u d).2.1))])] [some (159, [(.osl 1 0 L2.length), (iv a2), (iv b2)]), some (187, (spans L2))] (iv ((qah ((kids b).getD i dB) ((Fr.times ((Fr.make (sh ((kids b).getD i dB)) (qaf (kids b))).1) ((Fr.make (sh ((kids b).getD i dB)) (qaf (kids b))).2.1) u d).1) ((Fr.times ((Fr.make (sh ((kids b).getD i dB)) (qaf (kids b))).1) ((Fr.make (sh ((kids b).getD i dB)) (qaf (kids b))).2.1) u d).2.1) (L2, a2, b2)).1)) [some (159, [(.osl 2 0 ((qah ((kids b).getD i dB) ((Fr.times ((Fr.make (sh ((kids b).getD i dB)) (qaf (kids b))).1) ((Fr.make (sh ((kids b).getD i dB)) (qaf (kids b))).2.1) u d).1) ((Fr.times ((Fr.make (sh ((kids b).getD i dB)) (qaf (kids b))).1) ((Fr.make (sh ((kids b).getD i dB)) (qaf (kids b))).2.1) u d).2.1) (L2, a2, b2)).2.1.length)), (iv ((qah ((kids b).getD i dB) ((Fr.times ((Fr.make (sh ((kids b).getD i dB)) (qaf (kids b))).1) ((Fr.make (sh ((kids b).getD i dB)) (qaf (kids b))).2.1) u d).1) ((Fr.times ((Fr.make (sh ((kids b).getD i dB)) (qaf (kids b))).1) ((Fr.make (sh ((kids b).getD i dB)) (qaf (kids b))).2.1) u d).2.1) (L2, a2, b2)).2.2.1)), (iv ((qah ((kids b).getD i dB) ((Fr.times ((Fr.make (sh ((kids b).getD i dB)) (qaf (kids b))).1) ((Fr.make (sh ((kids b).getD i dB)) (qaf (kids b))).2.1) u d).1) ((Fr.times ((Fr.make (sh ((kids b).getD i dB)) (qaf (kids b))).1) ((Fr.make (sh ((kids b).getD i dB)) (qaf (kids b))).2.1) u d).2.1) (L2, a2, b2)).2.2.2))]), none, some (187, (spans ((qah ((kids b).getD i dB) ((Fr.times ((Fr.make (sh ((kids b).getD i dB)) (qaf (kids b))).1) ((Fr.make (sh ((kids b).getD i dB)) (qaf (kids b))).2.1) u d).1) ((Fr.times ((Fr.make (sh ((kids b).getD i dB)) (qaf (kids b))).1) ((Fr.make (sh ((kids b).getD i dB)) (qaf (kids b))).2.1) u d).2.1) (L2, a2, b2)).2.1)))])] [.k3, .d, .d, .d, .n, .k3, .d, .d, .n, .d, .k1, .d, .d, .n] [ps 13 (iv ((qah ((kids b).getD i dB) ((Fr.times ((Fr.make (sh ((kids b).getD i dB)) (qaf (kids b))).1) ((Fr.make (sh ((kids b).getD i dB)) (qaf (kids b))).2.1) u d).1) ((Fr.times ((Fr.make (sh ((kids b).getD i dB)) (qaf (kids b))).1) ((Fr.make (sh ((kids b).getD i dB)) (qaf (kids b))).2.1) u d).2.1) (L2, a2, b2)).1)), pb 0 159 [(.osl 244 0 ((qah ((kids b).getD i dB) ((Fr.times ((Fr.make (sh ((kids b).getD i dB)) (qaf (kids b))).1) ((Fr.make (sh ((kids b).getD i dB)) (qaf (kids b))).2.1) u d).1) ((Fr.times ((Fr.make (sh ((kids b).getD i dB)) (qaf (kids b))).1) ((Fr.make (sh ((kids b).getD i dB)) (qaf (kids b))).2.1) u d).2.1) (L2, a2, b2)).2.1.length)), (iv ((qah ((kids b).getD i dB) ((Fr.times ((Fr.make (sh ((kids b).getD i dB)) (qaf (kids b))).1) ((Fr.make (sh ((kids b).getD i dB)) (qaf (kids b))).2.1) u d).1) ((Fr.times ((Fr.make (sh ((kids b).getD i dB)) (qaf (kids b))).1) ((Fr.make (sh ((kids b).getD i dB)) (qaf (kids b))).2.1) u d).2.1) (L2, a2, b2)).2.2.1)), (iv ((qah ((kids b).getD i dB) ((Fr.times ((Fr.make (sh ((kids b).getD i dB)) (qaf (kids b))).1) ((Fr.make (sh ((kids b).getD i dB)) (qaf (kids b))).2.1) u d).1) ((Fr.times ((Fr.make (sh ((kids b).getD i dB)) (qaf (kids b))).1) ((Fr.make (sh ((kids b).getD i dB)) (qaf (kids b))).2.1) u d).2.1) (L2, a2, b2)).2.2.2))], pb 244 187 (renL (sigo [0, 2] 244) (spans ((qah ((kids b).getD i dB) ((Fr.times ((Fr.make (sh ((kids b).getD i dB)) (qaf (kids b))).1) ((Fr.make (sh ((kids b).getD i dB)) (qaf (kids b))).2.1) u d).1) ((Fr.times ((Fr.make (sh ((kids b).getD i dB)) (qaf (kids b))).1) ((Fr.make (sh ((kids b).getD i dB)) (qaf (kids b))).2.1) u d).2.1) (L2, a2, b2)).2.1)))] (oc (ih ((kids b).getD i dB) (kids_lt (by omega)) _ _ L2 a2 b2 (qkl h5) hs2 hgx (by omega) (by omega) : PC Tryz.prog 102 [(.opt 0 0), (.agg [(iv (kd ((kids b).getD i dB))), (iv (sh ((kids b).getD i dB))), (.ssl (kc ((kids b).getD i dB)) 0 ((kids ((kids b).getD i dB)).length))]), (.agg [(iv ((Fr.times ((Fr.make (sh ((kids b).getD i dB)) (qaf (kids b))).1) ((Fr.make (sh ((kids b).getD i dB)) (qaf (kids b))).2.1) u d).1)), (iv ((Fr.times ((Fr.make (sh ((kids b).getD i dB)) (qaf (kids b))).1) ((Fr.make (sh ((kids b).getD i dB)) (qaf (kids b))).2.1) u d).2.1))])] [some (159, [(.osl 1 0 L2.length), (iv a2), (iv b2)]), some (187, (spans L2))] (iv ((qah ((kids b).getD i dB) ((Fr.times ((Fr.make (sh ((kids b).getD i dB)) (qaf (kids b))).1) ((Fr.make (sh ((kids b).getD i dB)) (qaf (kids b))).2.1) u d).1) ((Fr.times ((Fr.make (sh ((kids b).getD i dB)) (qaf (kids b))).1) ((Fr.make (sh ((kids b).getD i dB)) (qaf (kids b))).2.1) u d).2.1) (L2, a2, b2)).1)) [some (159, [(.osl 2 0 ((qah ((kids b).getD i dB) ((Fr.times ((Fr.make (sh ((kids b).getD i dB)) (qaf (kids b))).1) ((Fr.make (sh ((kids b).getD i dB)) (qaf (kids b))).2.1) u d).1) ((Fr.times ((Fr.make (sh ((kids b).getD i dB)) (qaf (kids b))).1) ((Fr.make (sh ((kids b).getD i dB)) (qaf (kids b))).2.1) u d).2.1) (L2, a2, b2)).2.1.length)), (iv ((qah ((kids b).getD i dB) ((Fr.times ((Fr.make (sh ((kids b).getD i dB)) (qaf (kids b))).1) ((Fr.make (sh ((kids b).getD i dB)) (qaf (kids b))).2.1) u d).1) ((Fr.times ((Fr.make (sh ((kids b).getD i dB)) (qaf (kids b))).1) ((Fr.make (sh ((kids b).getD i dB)) (qaf (kids b))).2.1) u d).2.1) (L2, a2, b2)).2.2.1)), (iv ((qah ((kids b).getD i dB) ((Fr.times ((Fr.make (sh ((kids b).getD i dB)) (qaf (kids b))).1) ((Fr.make (sh ((kids b).getD i dB)) (qaf (kids b))).2.1) u d).1) ((Fr.times ((Fr.make (sh ((kids b).getD i dB)) (qaf (kids b))).1) ((Fr.make (sh ((kids b).getD i dB)) (qaf (kids b))).2.1) u d).2.1) (L2, a2, b2)).2.2.2))]), none, some (187, (spans ((qah ((kids b).getD i dB) ((Fr.times ((Fr.make (sh ((kids b).getD i dB)) (qaf (kids b))).1) ((Fr.make (sh ((kids b).getD i dB)) (qaf (kids b))).2.1) u d).1) ((Fr.times ((Fr.make (sh ((kids b).getD i dB)) (qaf (kids b))).1) ((Fr.make (sh ((kids b).getD i dB)) (qaf (kids b))).2.1) u d).2.1) (L2, a2, b2)).2.1)))]) (oc (rfl : [(.opt 0 0), (.agg [(iv (kd ((kids b).getD i dB))), (iv (sh ((kids b).getD i dB))), (.ssl (kc ((kids b).getD i dB)) 0 ((kids ((kids b).getD i dB)).length))]), (.agg [(iv ((Fr.times ((Fr.make (sh ((kids b).getD i dB)) (qaf (kids b))).1) ((Fr.make (sh ((kids b).getD i dB)) (qaf (kids b))).2.1) u d).1)), (iv ((Fr.times ((Fr.make (sh ((kids b).getD i dB)) (qaf (kids b))).1) ((Fr.make (sh ((kids b).getD i dB)) (qaf (kids b))).2.1) u d).2.1))])] = renL (sigi [0, 2] 244) [(.opt 0 0), (.agg [(iv (kd ((kids b).getD i dB))), (iv (sh ((kids b).getD i dB))), (.ssl (kc ((kids b).getD i dB)) 0 ((kids ((kids b).getD i dB)).length))]), (.agg [(iv ((Fr.times ((Fr.make (sh ((kids b).getD i dB)) (qaf (kids b))).1) ((Fr.make (sh ((kids b).getD i dB)) (qaf (kids b))).2.1) u d).1)), (iv ((Fr.times ((Fr.make (sh ((kids b).getD i dB)) (qaf (kids b))).1) ((Fr.make (sh ((kids b).getD i dB)) (qaf (kids b))).2.1) u d).2.1))])]) (oc (rfl : [(.osl 2 0 L2.length), (iv a2), (iv b2)] = renL (sigi [0, 2] 244) [(.osl 1 0 L2.length), (iv a2), (iv b2)]) (oc ((qbd (qbh _)).symm : (spans L2) = renL (sigi [0, 2] 244) (spans L2)) oz)))) ?_
     refine T_wk (Wk.eq (show _ = [ps 0 (.opt 0 0), ps 5 (.opt 3 0), ps 7 (iv (qaf (kids b))), ps 13 (iv ((qah ((kids b).getD i dB) ((Fr.times ((Fr.make (sh ((kids b).getD i dB)) (qaf (kids b))).1) ((Fr.make (sh ((kids b).getD i dB)) (qaf (kids b))).2.1) u d).1) ((Fr.times ((Fr.make (sh ((kids b).getD i dB)) (qaf (kids b))).1) ((Fr.make (sh ((kids b).getD i dB)) (qaf (kids b))).2.1) u d).2.1) (L2, a2, b2)).1)), ps 35 (.ssl (kc b) 0 ((kids b).length)), ps 36 (nv ((kids b).length)), ps 37 (nv i), pb 0 159 [(.osl 244 0 ((qah ((kids b).getD i dB) ((Fr.times ((Fr.make (sh ((kids b).getD i dB)) (qaf (kids b))).1) ((Fr.make (sh ((kids b).getD i dB)) (qaf (kids b))).2.1) u d).1) ((Fr.times ((Fr.make (sh ((kids b).getD i dB)) (qaf (kids b))).1) ((Fr.make (sh ((kids b).getD i dB)) (qaf (kids b))).2.1) u d).2.1) (L2, a2, b2)).2.1.length)), (iv ((qah ((kids b).getD i dB) ((Fr.times ((Fr.make (sh ((kids b).getD i dB)) (qaf (kids b))).1) ((Fr.make (sh ((kids b).getD i dB)) (qaf (kids b))).2.1) u d).1) ((Fr.times ((Fr.make (sh ((kids b).getD i dB)) (qaf (kids b))).1) ((Fr.make (sh ((kids b).getD i dB)) (qaf (kids b))).2.1) u d).2.1) (L2, a2, b2)).2.2.1)), (iv ((qah ((kids b).getD i dB) ((Fr.times ((Fr.make (sh ((kids b).getD i dB)) (qaf (kids b))).1) ((Fr.make (sh ((kids b).getD i dB)) (qaf (kids b))).2.1) u d).1) ((Fr.times ((Fr.make (sh ((kids b).getD i dB)) (qaf (kids b))).1) ((Fr.make (sh ((kids b).getD i dB)) (qaf (kids b))).2.1) u d).2.1) (L2, a2, b2)).2.2.2))], pb 3 56 [(iv u), (iv d)], pb 244 187 (spans ((qah ((kids b).getD i dB) ((Fr.times ((Fr.make (sh ((kids b).getD i dB)) (qaf (kids b))).1) ((Fr.make (sh ((kids b).getD i dB)) (qaf (kids b))).2.1) u d).1) ((Fr.times ((Fr.make (sh ((kids b).getD i dB)) (qaf (kids b))).1) ((Fr.make (sh ((kids b).getD i dB)) (qaf (kids b))).2.1) u d).2.1) (L2, a2, b2)).2.1))] from by simp only [qbd (qbh _)])) ?_
     refine qaa ?_
     refine T_k mixed [] [.k7, .n, .r] [ps 63 (bv (!(decide (((qah ((kids b).getD i dB) ((Fr.times ((Fr.make (sh ((kids b).getD i dB)) (qaf (kids b))).1) ((Fr.make (sh ((kids b).getD i dB)) (qaf (kids b))).2.1) u d).1) ((Fr.times ((Fr.make (sh ((kids b).getD i dB)) (qaf (kids b))).1) ((Fr.make (sh ((kids b).getD i dB)) (qaf (kids b))).2.1) u d).2.1) (L2, a2, b2)).1) = 0))))] (oz) ?_
     by_cases h6 : ((qah ((kids b).getD i dB) ((Fr.times ((Fr.make (sh ((kids b).getD i dB)) (qaf (kids b))).1) ((Fr.make (sh ((kids b).getD i dB)) (qaf (kids b))).2.1) u d).1) ((Fr.times ((Fr.make (sh ((kids b).getD i dB)) (qaf (kids b))).1) ((Fr.make (sh ((kids b).getD i dB)) (qaf (kids b))).2.1) u d).2.1) (L2, a2, b2)).1) = 0
     ·refine T_el (bt h6) ?_
      refine qag <| qbg ?_
      refine T_k mixed [] [.k3, .d, .k2, .d, .n, .d, .r] [ps 37 (iv (((i : Nat) : Int) + 1))] (oc (by simp only [InK]; omega : InK .i64 (((i : Nat) : Int) + 1)) oz) ?_
      exact qce ⟨(i + 1, (qah ((kids b).getD i dB) (Fr.times (Fr.make (sh ((kids b).getD i dB)) (qaf (kids b))).1 (Fr.make (sh ((kids b).getD i dB)) (qaf (kids b))).2.1 u d).1 (Fr.times (Fr.make (sh ((kids b).getD i dB)) (qaf (kids b))).1 (Fr.make (sh ((kids b).getD i dB)) (qaf (kids b))).2.1 u d).2.1 (L2, a2, b2)).2), ⟨by omega, by rw [qht (by omega), if_pos (by assumption), if_pos (by assumption), if_pos (by assumption)] at hL; exact hL, qnz _ _ _ _ (qkl (by assumption)) hs2 (by assumption), by have h1 := qpy ((kids b).getD i dB) (Fr.times (Fr.make (sh ((kids b).getD i dB)) (qaf (kids b))).1 (Fr.make (sh ((kids b).getD i dB)) (qaf (kids b))).2.1 u d).1 (Fr.times (Fr.make (sh ((kids b).getD i dB)) (qaf (kids b))).1 (Fr.make (sh ((kids b).getD i dB)) (qaf (kids b))).2.1 u d).2.1 (L2, a2, b2); have h2 := qtf (l := kids b) (i := i) (by omega); dsimp only at h1; show (qah ((kids b).getD i dB) (Fr.times (Fr.make (sh ((kids b).getD i dB)) (qaf (kids b))).1 (Fr.make (sh ((kids b).getD i dB)) (qaf (kids b))).2.1 u d).1 (Fr.times (Fr.make (sh ((kids b).getD i dB)) (qaf (kids b))).1 (Fr.make (sh ((kids b).getD i dB)) (qaf (kids b))).2.1 u d).2.1 (L2, a2, b2)).2.1.length + cntL ((kids b).drop (i + 1)) ≤ _; omega, by have h2 := qtf (l := kids b) (i := i) (by omega); show cntL ((kids b).drop (i + 1)) ≤ _; omega⟩⟩ (Wk.ren3 [ps 0 (.opt 0 0), ps 5 (.opt 3 0), ps 7 (iv (qaf (kids b))), ps 35 (.ssl (kc b) 0 ((kids b).length)), ps 36 (nv ((kids b).length)), ps 37 (nv (i + 1)), pb 0 159 [(.osl 2 0 ((qah ((kids b).getD i dB) (Fr.times (Fr.make (sh ((kids b).getD i dB)) (qaf (kids b))).1 (Fr.make (sh ((kids b).getD i dB)) (qaf (kids b))).2.1 u d).1 (Fr.times (Fr.make (sh ((kids b).getD i dB)) (qaf (kids b))).1 (Fr.make (sh ((kids b).getD i dB)) (qaf (kids b))).2.1 u d).2.1 (L2, a2, b2)).2.1).length), (iv ((qah ((kids b).getD i dB) (Fr.times (Fr.make (sh ((kids b).getD i dB)) (qaf (kids b))).1 (Fr.make (sh ((kids b).getD i dB)) (qaf (kids b))).2.1 u d).1 (Fr.times (Fr.make (sh ((kids b).getD i dB)) (qaf (kids b))).1 (Fr.make (sh ((kids b).getD i dB)) (qaf (kids b))).2.1 u d).2.1 (L2, a2, b2)).2.2.1)), (iv ((qah ((kids b).getD i dB) (Fr.times (Fr.make (sh ((kids b).getD i dB)) (qaf (kids b))).1 (Fr.make (sh ((kids b).getD i dB)) (qaf (kids b))).2.1 u d).1 (Fr.times (Fr.make (sh ((kids b).getD i dB)) (qaf (kids b))).1 (Fr.make (sh ((kids b).getD i dB)) (qaf (kids b))).2.1 u d).2.1 (L2, a2, b2)).2.2.2))], pb 2 187 (spans ((qah ((kids b).getD i dB) (Fr.times (Fr.make (sh ((kids b).getD i dB)) (qaf (kids b))).1 (Fr.make (sh ((kids b).getD i dB)) (qaf (kids b))).2.1 u d).1 (Fr.times (Fr.make (sh ((kids b).getD i dB)) (qaf (kids b))).1 (Fr.make (sh ((kids b).getD i dB)) (qaf (kids b))).2.1 u d).2.1 (L2, a2, b2)).2.1)), pb 3 56 [(iv u), (iv d)]] 2 hc0 [0, 1, 244, 3] [(kb 2, (spans ((qah ((kids b).getD i dB) (Fr.times (Fr.make (sh ((kids b).getD i dB)) (qaf (kids b))).1 (Fr.make (sh ((kids b).getD i dB)) (qaf (kids b))).2.1 u d).1 (Fr.times (Fr.make (sh ((kids b).getD i dB)) (qaf (kids b))).1 (Fr.make (sh ((kids b).getD i dB)) (qaf (kids b))).2.1 u d).2.1 (L2, a2, b2)).2.1)))] (oc (qbh _) (oz)) (by kernel_rfl) rfl rfl (by kernel_rfl) (by kernel_rfl)) (show (kids b).length - (i + 1) < (kids b).length - i from by show (kids b).length - (i + 1) < (kids b).length - i; omega)
     refine T_th (bf h6) ?_
     refine qaa ?_
     refine T_k mixed [] [.d, .d, .n, .d, .d, .d, .d, .d, .d, .k1, .d, .r] [ps 6 (iv ((qah ((kids b).getD i dB) ((Fr.times ((Fr.make (sh ((kids b).getD i dB)) (qaf (kids b))).1) ((Fr.make (sh ((kids b).getD i dB)) (qaf (kids b))).2.1) u d).1) ((Fr.times ((Fr.make (sh ((kids b).getD i dB)) (qaf (kids b))).1) ((Fr.make (sh ((kids b).getD i dB)) (qaf (kids b))).2.1) u d).2.1) (L2, a2, b2)).1))] (oz) ?_
     have hT : qah b u d (L, a, b3) = qbx (kids b) (qaf (kids b)) u d (L, a, b3) := by rw [qfw, if_pos hk4]
     rw [qht (by omega)] at hL
     repeat (first | rw [if_pos (by assumption)] at hL | rw [if_neg (by assumption)] at hL)
     rw [show qah b u d (L, a, b3) = qah ((kids b).getD i dB) (Fr.times (Fr.make (sh ((kids b).getD i dB)) (qaf (kids b))).1 (Fr.make (sh ((kids b).getD i dB)) (qaf (kids b))).2.1 u d).1 (Fr.times (Fr.make (sh ((kids b).getD i dB)) (qaf (kids b))).1 (Fr.make (sh ((kids b).getD i dB)) (qaf (kids b))).2.1 u d).2.1 (L2, a2, b2) from hT.trans hL.symm]
     exact qai fun cx_ a_ hI_ => qav (qby (H' := [some (159, [(.osl 2 0 ((qah ((kids b).getD i dB) (Fr.times (Fr.make (sh ((kids b).getD i dB)) (qaf (kids b))).1 (Fr.make (sh ((kids b).getD i dB)) (qaf (kids b))).2.1 u d).1 (Fr.times (Fr.make (sh ((kids b).getD i dB)) (qaf (kids b))).1 (Fr.make (sh ((kids b).getD i dB)) (qaf (kids b))).2.1 u d).2.1 (L2, a2, b2)).2.1.length)), (iv ((qah ((kids b).getD i dB) (Fr.times (Fr.make (sh ((kids b).getD i dB)) (qaf (kids b))).1 (Fr.make (sh ((kids b).getD i dB)) (qaf (kids b))).2.1 u d).1 (Fr.times (Fr.make (sh ((kids b).getD i dB)) (qaf (kids b))).1 (Fr.make (sh ((kids b).getD i dB)) (qaf (kids b))).2.1 u d).2.1 (L2, a2, b2)).2.2.1)), (iv ((qah ((kids b).getD i dB) (Fr.times (Fr.make (sh ((kids b).getD i dB)) (qaf (kids b))).1 (Fr.make (sh ((kids b).getD i dB)) (qaf (kids b))).2.1 u d).1 (Fr.times (Fr.make (sh ((kids b).getD i dB)) (qaf (kids b))).1 (Fr.make (sh ((kids b).getD i dB)) (qaf (kids b))).2.1 u d).2.1 (L2, a2, b2)).2.2.2))]), none, some (187, (spans ((qah ((kids b).getD i dB) (Fr.times (Fr.make (sh ((kids b).getD i dB)) (qaf (kids b))).1 (Fr.make (sh ((kids b).getD i dB)) (qaf (kids b))).2.1 u d).1 (Fr.times (Fr.make (sh ((kids b).getD i dB)) (qaf (kids b))).1 (Fr.make (sh ((kids b).getD i dB)) (qaf (kids b))).2.1 u d).2.1 (L2, a2, b2)).2.1)))]) (.inr rfl) (Wk.ren3 [ps 6 (iv ((qah ((kids b).getD i dB) ((Fr.times ((Fr.make (sh ((kids b).getD i dB)) (qaf (kids b))).1) ((Fr.make (sh ((kids b).getD i dB)) (qaf (kids b))).2.1) u d).1) ((Fr.times ((Fr.make (sh ((kids b).getD i dB)) (qaf (kids b))).1) ((Fr.make (sh ((kids b).getD i dB)) (qaf (kids b))).2.1) u d).2.1) (L2, a2, b2)).1)), pb 0 159 [(.osl 2 0 ((qah ((kids b).getD i dB) ((Fr.times ((Fr.make (sh ((kids b).getD i dB)) (qaf (kids b))).1) ((Fr.make (sh ((kids b).getD i dB)) (qaf (kids b))).2.1) u d).1) ((Fr.times ((Fr.make (sh ((kids b).getD i dB)) (qaf (kids b))).1) ((Fr.make (sh ((kids b).getD i dB)) (qaf (kids b))).2.1) u d).2.1) (L2, a2, b2)).2.1.length)), (iv ((qah ((kids b).getD i dB) ((Fr.times ((Fr.make (sh ((kids b).getD i dB)) (qaf (kids b))).1) ((Fr.make (sh ((kids b).getD i dB)) (qaf (kids b))).2.1) u d).1) ((Fr.times ((Fr.make (sh ((kids b).getD i dB)) (qaf (kids b))).1) ((Fr.make (sh ((kids b).getD i dB)) (qaf (kids b))).2.1) u d).2.1) (L2, a2, b2)).2.2.1)), (iv ((qah ((kids b).getD i dB) ((Fr.times ((Fr.make (sh ((kids b).getD i dB)) (qaf (kids b))).1) ((Fr.make (sh ((kids b).getD i dB)) (qaf (kids b))).2.1) u d).1) ((Fr.times ((Fr.make (sh ((kids b).getD i dB)) (qaf (kids b))).1) ((Fr.make (sh ((kids b).getD i dB)) (qaf (kids b))).2.1) u d).2.1) (L2, a2, b2)).2.2.2))], pb 2 187 (spans ((qah ((kids b).getD i dB) ((Fr.times ((Fr.make (sh ((kids b).getD i dB)) (qaf (kids b))).1) ((Fr.make (sh ((kids b).getD i dB)) (qaf (kids b))).2.1) u d).1) ((Fr.times ((Fr.make (sh ((kids b).getD i dB)) (qaf (kids b))).1) ((Fr.make (sh ((kids b).getD i dB)) (qaf (kids b))).2.1) u d).2.1) (L2, a2, b2)).2.1))] 2 hc0 [0, 1, 244] [(kb 2, (spans ((qah ((kids b).getD i dB) ((Fr.times ((Fr.make (sh ((kids b).getD i dB)) (qaf (kids b))).1) ((Fr.make (sh ((kids b).getD i dB)) (qaf (kids b))).2.1) u d).1) ((Fr.times ((Fr.make (sh ((kids b).getD i dB)) (qaf (kids b))).1) ((Fr.make (sh ((kids b).getD i dB)) (qaf (kids b))).2.1) u d).2.1) (L2, a2, b2)).2.1)))] (oc (qbh _) (oz)) (by kernel_rfl) rfl rfl (by kernel_rfl) (by kernel_rfl)) rfl (oc rfl (oc rfl (oz))) (fun cx_ a_ hI_ => qbc (l' := [ps 6 (iv ((qah ((kids b).getD i dB) ((Fr.times ((Fr.make (sh ((kids b).getD i dB)) (qaf (kids b))).1) ((Fr.make (sh ((kids b).getD i dB)) (qaf (kids b))).2.1) u d).1) ((Fr.times ((Fr.make (sh ((kids b).getD i dB)) (qaf (kids b))).1) ((Fr.make (sh ((kids b).getD i dB)) (qaf (kids b))).2.1) u d).2.1) (L2, a2, b2)).1)), pb 0 159 [(.osl 2 0 ((qah ((kids b).getD i dB) ((Fr.times ((Fr.make (sh ((kids b).getD i dB)) (qaf (kids b))).1) ((Fr.make (sh ((kids b).getD i dB)) (qaf (kids b))).2.1) u d).1) ((Fr.times ((Fr.make (sh ((kids b).getD i dB)) (qaf (kids b))).1) ((Fr.make (sh ((kids b).getD i dB)) (qaf (kids b))).2.1) u d).2.1) (L2, a2, b2)).2.1.length)), (iv ((qah ((kids b).getD i dB) ((Fr.times ((Fr.make (sh ((kids b).getD i dB)) (qaf (kids b))).1) ((Fr.make (sh ((kids b).getD i dB)) (qaf (kids b))).2.1) u d).1) ((Fr.times ((Fr.make (sh ((kids b).getD i dB)) (qaf (kids b))).1) ((Fr.make (sh ((kids b).getD i dB)) (qaf (kids b))).2.1) u d).2.1) (L2, a2, b2)).2.2.1)), (iv ((qah ((kids b).getD i dB) ((Fr.times ((Fr.make (sh ((kids b).getD i dB)) (qaf (kids b))).1) ((Fr.make (sh ((kids b).getD i dB)) (qaf (kids b))).2.1) u d).1) ((Fr.times ((Fr.make (sh ((kids b).getD i dB)) (qaf (kids b))).1) ((Fr.make (sh ((kids b).getD i dB)) (qaf (kids b))).2.1) u d).2.1) (L2, a2, b2)).2.2.2))], pb 2 187 (spans ((qah ((kids b).getD i dB) ((Fr.times ((Fr.make (sh ((kids b).getD i dB)) (qaf (kids b))).1) ((Fr.make (sh ((kids b).getD i dB)) (qaf (kids b))).2.1) u d).1) ((Fr.times ((Fr.make (sh ((kids b).getD i dB)) (qaf (kids b))).1) ((Fr.make (sh ((kids b).getD i dB)) (qaf (kids b))).2.1) u d).2.1) (L2, a2, b2)).2.1))]) (by kernel_rfl) cx_ a_ hI_) hI_)
    refine T_el (decide_eq_false h5) ?_
    refine qag <| qaa ?_
    refine T_k mixed [] [.k3, .d, .d, .k4, .d, .n, .k3, .d, .d] [ps 63 (bv (!(decide (((Fr.times ((Fr.make (sh ((kids b).getD i dB)) (qaf (kids b))).1) ((Fr.make (sh ((kids b).getD i dB)) (qaf (kids b))).2.1) u d).2.2) = 0))))] (oz) ?_
    refine T_th (bf h5) ?_
    refine qaa ?_
    refine T_k mixed [] [.d, .d, .n, .d, .d, .d, .d, .d, .d, .k2, .d] [ps 6 (iv ((Fr.times ((Fr.make (sh ((kids b).getD i dB)) (qaf (kids b))).1) ((Fr.make (sh ((kids b).getD i dB)) (qaf (kids b))).2.1) u d).2.2))] (oz) ?_
    have hT : qah b u d (L, a, b3) = qbx (kids b) (qaf (kids b)) u d (L, a, b3) := by rw [qfw, if_pos hk4]
    rw [qht (by omega)] at hL
    repeat (first | rw [if_pos (by assumption)] at hL | rw [if_neg (by assumption)] at hL)
    rw [show qah b u d (L, a, b3) = ((Fr.times ((Fr.make (sh ((kids b).getD i dB)) (qaf (kids b))).1) ((Fr.make (sh ((kids b).getD i dB)) (qaf (kids b))).2.1) u d).2.2, L2, a2, b2) from hT.trans hL.symm]
    exact qai fun cx_ a_ hI_ => qav (qby (H' := [some (159, [(.osl 2 0 L2.length), (iv a2), (iv b2)]), none, some (187, (spans L2))]) (.inr rfl) (Wk.ren3 [ps 6 (iv ((Fr.times ((Fr.make (sh ((kids b).getD i dB)) (qaf (kids b))).1) ((Fr.make (sh ((kids b).getD i dB)) (qaf (kids b))).2.1) u d).2.2)), pb 0 159 [(.osl 2 0 L2.length), (iv a2), (iv b2)], pb 2 187 (spans L2)] 2 hc0 [0, 1, 2] [(kb 2, (spans L2))] (oc (qbh _) (oz)) (by kernel_rfl) rfl rfl (by kernel_rfl) (by kernel_rfl)) rfl (oc rfl (oc rfl (oz))) (fun cx_ a_ hI_ => qbc (l' := [ps 6 (iv ((Fr.times ((Fr.make (sh ((kids b).getD i dB)) (qaf (kids b))).1) ((Fr.make (sh ((kids b).getD i dB)) (qaf (kids b))).2.1) u d).2.2)), pb 0 159 [(.osl 2 0 L2.length), (iv a2), (iv b2)], pb 2 187 (spans L2)]) (by kernel_rfl) cx_ a_ hI_) hI_)
   refine T_el (decide_eq_false h4) ?_
   refine qag <| qaa <| qaa ?_
   refine T_k mixed [] [.k8, .k1, .d, .n, .r] [ps 57 (bv (decide (((Fr.make (sh ((kids b).getD i dB)) (qaf (kids b))).2.2) = 0)))] (oz) ?_
   refine T_el (decide_eq_false h4) ?_
   refine qag <| qaa ?_
   refine T_k mixed [] [.k3, .d, .d, .k4, .d, .n, .k3, .d, .d] [ps 63 (bv (!(decide (((Fr.make (sh ((kids b).getD i dB)) (qaf (kids b))).2.2) = 0))))] (oz) ?_
   refine T_th (bf h4) ?_
   refine qaa ?_
   refine T_k mixed [] [.d, .d, .n, .d, .d, .d, .d, .d, .d, .k2, .d] [ps 6 (iv ((Fr.make (sh ((kids b).getD i dB)) (qaf (kids b))).2.2))] (oz) ?_
   have hT : qah b u d (L, a, b3) = qbx (kids b) (qaf (kids b)) u d (L, a, b3) := by rw [qfw, if_pos hk4]
   rw [qht (by omega)] at hL
   repeat (first | rw [if_pos (by assumption)] at hL | rw [if_neg (by assumption)] at hL)
   rw [show qah b u d (L, a, b3) = ((Fr.make (sh ((kids b).getD i dB)) (qaf (kids b))).2.2, L2, a2, b2) from hT.trans hL.symm]
   exact qai fun cx_ a_ hI_ => qav (qby (H' := [some (159, [(.osl 2 0 L2.length), (iv a2), (iv b2)]), none, some (187, (spans L2))]) (.inr rfl) (Wk.ren3 [ps 6 (iv ((Fr.make (sh ((kids b).getD i dB)) (qaf (kids b))).2.2)), pb 0 159 [(.osl 2 0 L2.length), (iv a2), (iv b2)], pb 2 187 (spans L2)] 2 hc0 [0, 1, 2] [(kb 2, (spans L2))] (oc (qbh _) (oz)) (by kernel_rfl) rfl rfl (by kernel_rfl) (by kernel_rfl)) rfl (oc rfl (oc rfl (oz))) (fun cx_ a_ hI_ => qbc (l' := [ps 6 (iv ((Fr.make (sh ((kids b).getD i dB)) (qaf (kids b))).2.2)), pb 0 159 [(.osl 2 0 L2.length), (iv a2), (iv b2)], pb 2 187 (spans L2)]) (by kernel_rfl) cx_ a_ hI_) hI_)
  refine T_el (decide_eq_false h3) ?_
  refine qbu rfl rfl ?_
  refine qaa ?_
  refine T_k mixed [] [.d, .d, .n, .d, .d, .d, .d, .d, .k2, .d] [ps 6 (iv 0)] (oz) ?_
  have hT : qah b u d (L, a, b3) = qbx (kids b) (qaf (kids b)) u d (L, a, b3) := by rw [qfw, if_pos hk4]
  obtain rfl : i = (kids b).length := by omega
  rw [List.drop_length, qbx] at hL
  rw [show qah b u d (L, a, b3) = (0, L2, a2, b2) from hT.trans hL.symm]
  exact qai fun cx_ a_ hI_ => qby (H' := [some (159, [(.osl 2 0 L2.length), (iv a2), (iv b2)]), none, some (187, (spans L2))]) (.inr rfl) (Wk.ren3 [ps 6 (iv 0), pb 0 159 [(.osl 2 0 L2.length), (iv a2), (iv b2)], pb 2 187 (spans L2)] 2 hc0 [0, 1, 2] [(kb 2, (spans L2))] (oc (qbh _) (oz)) (by kernel_rfl) rfl rfl (by kernel_rfl) (by kernel_rfl)) rfl (oc rfl (oc rfl (oz))) (fun cx_ a_ hI_ => qbc (l' := [ps 6 (iv 0), pb 0 159 [(.osl 2 0 L2.length), (iv a2), (iv b2)], pb 2 187 (spans L2)]) (by kernel_rfl) cx_ a_ hI_) hI_
 refine T_th (bf h1) ?_
 refine qaa ?_
 refine T_r mixed [(4, .call [0, 1] [(.opt 0 0), (iv (kd b)), (.agg [(iv u), (iv d)])] [some (159, [(.osl 1 0 L.length), (iv a), (iv b3)]), some (187, (spans L))] (iv ((qbm (kd b) u d L a b3).1)) [some (159, [(.osl 2 0 ((qbm (kd b) u d L a b3).2.1.length)), (iv ((qbm (kd b) u d L a b3).2.2.1)), (iv ((qbm (kd b) u d L a b3).2.2.2))]), none, some (187, (spans ((qbm (kd b) u d L a b3).2.1)))])] [ps 6 (iv ((qbm (kd b) u d L a b3).1)), pb 0 159 [(.osl 82 0 ((qbm (kd b) u d L a b3).2.1.length)), (iv ((qbm (kd b) u d L a b3).2.2.1)), (iv ((qbm (kd b) u d L a b3).2.2.2))], pb 82 187 (renL (sigo [0, 1] 82) (spans ((qbm (kd b) u d L a b3).2.1)))] (oc (leaf_pc (kd b) u d L a b3 hr hs (by omega)) (oc (rfl : [(.opt 0 0), (iv (kd b)), (.agg [(iv u), (iv d)])] = renL (sigi [0, 1] 82) [(.opt 0 0), (iv (kd b)), (.agg [(iv u), (iv d)])]) (oc (rfl : [(.osl 1 0 L.length), (iv a), (iv b3)] = renL (sigi [0, 1] 82) [(.osl 1 0 L.length), (iv a), (iv b3)]) (oc ((qbd (qbh _)).symm : (spans L) = renL (sigi [0, 1] 82) (spans L)) oz)))) ?_
 refine T_wk (Wk.eq (show _ = [ps 6 (iv ((qbm (kd b) u d L a b3).1)), pb 0 159 [(.osl 82 0 ((qbm (kd b) u d L a b3).2.1.length)), (iv ((qbm (kd b) u d L a b3).2.2.1)), (iv ((qbm (kd b) u d L a b3).2.2.2))], pb 82 187 (spans ((qbm (kd b) u d L a b3).2.1))] from by simp only [qbd (qbh _)])) ?_
 rw [show qah b u d (L, a, b3) = qbm (kd b) u d L a b3 from by rw [qfw, if_neg (by assumption)]]
 exact qai fun cx_ a_ hI_ => qby (H' := [some (159, [(.osl 2 0 ((qbm (kd b) u d L a b3).2.1.length)), (iv ((qbm (kd b) u d L a b3).2.2.1)), (iv ((qbm (kd b) u d L a b3).2.2.2))]), none, some (187, (spans ((qbm (kd b) u d L a b3).2.1)))]) (.inr rfl) (Wk.ren3 [ps 6 (iv ((qbm (kd b) u d L a b3).1)), pb 0 159 [(.osl 2 0 ((qbm (kd b) u d L a b3).2.1.length)), (iv ((qbm (kd b) u d L a b3).2.2.1)), (iv ((qbm (kd b) u d L a b3).2.2.2))], pb 2 187 (spans ((qbm (kd b) u d L a b3).2.1))] 2 hc0 [0, 1, 82] [(kb 2, (spans ((qbm (kd b) u d L a b3).2.1)))] (oc (qbh _) (oz)) (by kernel_rfl) rfl rfl (by kernel_rfl) (by kernel_rfl)) rfl (oc rfl (oc rfl (oz))) (fun cx_ a_ hI_ => qbc (l' := [ps 6 (iv ((qbm (kd b) u d L a b3).1)), pb 0 159 [(.osl 2 0 ((qbm (kd b) u d L a b3).2.1.length)), (iv ((qbm (kd b) u d L a b3).2.2.1)), (iv ((qbm (kd b) u d L a b3).2.2.2))], pb 2 187 (spans ((qbm (kd b) u d L a b3).2.1))]) (by kernel_rfl) cx_ a_ hI_) hI_
theorem qpz : ∀ (m : Nat) (b : Beat), SizeOf.sizeOf b < m → ∀ (u d : Int) (L : List Sp) (a b3 : Int), rightB u d = true → okSt L a b3 → good b → cnt b ≤ 4096 → L.length + cnt b ≤ 90000 → PC Tryz.prog 102 [.opt 0 0, .agg (gB b), qrb u d] [some (159, [(.osl 1 0 L.length), (iv a), (iv b3)]), some (187, (spans L))] (iv (qah b u d (L, a, b3)).1) [some (159, [(.osl 2 0 ((qah b u d (L, a, b3)).2.1.length)), (iv ((qah b u d (L, a, b3)).2.2.1)), (iv ((qah b u d (L, a, b3)).2.2.2))]), none, some (187, (spans ((qah b u d (L, a, b3)).2.1)))]
 | 0, _, h => absurd h (Nat.not_lt_zero _)
 | m + 1, b, h => fun u d L a b3 h1 h2 h3 h4 h5 => qwz b (fun c hb => qpz m c (by omega)) u d L a b3 h1 h2 h3 h5 h4
theorem share_pc (b : Beat) (u d : Int) (L : List Sp) (a b3 : Int) (h1 : rightB u d = true) (h2 : okSt L a b3) (h3 : good b) (h4 : cnt b ≤ 4096) (h5 : L.length + cnt b ≤ 90000) : PC Tryz.prog 102 [.opt 0 0, .agg (gB b), qrb u d] [some (159, [(.osl 1 0 L.length), (iv a), (iv b3)]), some (187, (spans L))] (iv (qah b u d (L, a, b3)).1) [some (159, [(.osl 2 0 ((qah b u d (L, a, b3)).2.1.length)), (iv ((qah b u d (L, a, b3)).2.2.1)), (iv ((qah b u d (L, a, b3)).2.2.2))]), none, some (187, (spans ((qah b u d (L, a, b3)).2.1)))] := qpz _ b (Nat.lt_succ_self _) u d L a b3 h1 h2 h3 h4 h5
end Go.Proofs.YtmlnilkbolcknaaGreatDoor.Pm
namespace Go.Proofs.YtmlnilkbolcknaaGreatDoor.Pm
open Go Fr Gcd

/-- What Spans answers: what is wrong; the spans. -/
def qbp (b : Beat) (u d : Int) : Int := if qes b = 0 then if rightB u d = true then if u < 1 then 3 else (qah b u d ([], 0, 1)).1 else 2 else qes b
def qac (b : Beat) (u d : Int) : List Sp := (qah b u d ([], 0, 1)).2.1
def qpu (b : Beat) (u d : Int) : PV := if qbp b u d = 0 then .tup [.ssl (spans (qac b u d)) 0 (qac b u d).length, iv 0] else .tup [.ssl [] 0 0, iv (qbp b u d)]
theorem qeu {b : Beat} {u d e : Int} (he : qbp b u d = e) (h : e ≠ 0) : qpu b u d = .tup [.ssl [] 0 0, iv e] := by unfold qpu; rw [he, if_neg h]
theorem qit {b : Beat} {u d : Int} (h : qbp b u d = 0) : qpu b u d = .tup [.ssl (spans (qac b u d)) 0 (qac b u d).length, iv 0] := by unfold qpu; rw [if_pos h]
theorem st0_ok : okSt [] 0 1 := ⟨by decide +kernel, fun i h => absurd h (Nat.not_lt_zero _)⟩
theorem qip {b : Beat} (h : qes b = 0) : good b ∧ cnt b ≤ 4096 := by
 obtain ⟨h1, h2, h3⟩ := qsm b 1 0 (by decide) (by decide)
 obtain ⟨h4, h5, h6⟩ := h3 h
 exact ⟨h6, by omega⟩
end Go.Proofs.YtmlnilkbolcknaaGreatDoor.Pm
namespace Go.Proofs.YtmlnilkbolcknaaGreatDoor.Pm
open Go Fr

set_option maxRecDepth 100000 in
set_option maxHeartbeats 4000000 in
theorem qjx (b : Beat) (u d : Int) (hu : I64 u) (hd : I64 d) : PC Tryz.prog 67 [(.agg [(iv (kd b)), (iv (sh b)), (.ssl (kc b) 0 ((kids b).length))]), (.agg [(iv u), (iv d)])] [] (qpu b u d) [] := by
 refine qas Tryz.func67 rfl (by kernel_rfl) (Nat.le_of_ble_eq_true rfl) (by kernel_rfl) (l0 := [ps 0 (.agg [(iv (kd b)), (iv (sh b)), (.ssl (kc b) 0 ((kids b).length))]), ps 1 (.agg [(iv u), (iv d)])]) rfl (fun c0 Bor hc0 => ?_)
 refine qaa ?_
 refine T_r mixed [] [ps 2 (.opt 0 0), ps 3 (.opt 8 0), pb 0 125 [(iv (kd b)), (iv (sh b)), (.ssl (kc b) 0 ((kids b).length))], pb 8 56 [(iv u), (iv d)]] (oz) ?_
 refine qaa <| qaa ?_
 refine T_k mixed [(1, .call [] [(.agg [(iv (kd b)), (iv (sh b)), (.ssl (kc b) 0 ((kids b).length))])] [] (iv (qes b)) [])] [.k2, .n, .r] [ps 6 (iv (qes b))] (oc (wrong_pc b) (oc (rfl : Ren0 40 [(.agg [(iv (kd b)), (iv (sh b)), (.ssl (kc b) 0 ((kids b).length))])]) oz)) ?_
 refine qaa ?_
 refine T_k mixed [] [.k3, .n, .r] [ps 12 (bv (!(decide ((qes b) = 0))))] (oz) ?_
 by_cases h1 : (qes b) = 0
 ·refine T_el (bt h1) ?_
  refine qag <| qaa <| qaa ?_
  refine T_k mixed [(1, .call [] [(.agg [(iv u), (iv d)])] [] (bv (Fr.rightB u d)) [])] [.k2, .d, .d, .n, .r] [ps 16 (bv (!(Fr.rightB u d)))] (oc (right_pc u d (by assumption) (by assumption)) (oc (rfl : Ren0 80 [(.agg [(iv u), (iv d)])]) oz)) ?_
  by_cases h2 : (Fr.rightB u d) = true
  ·refine T_el (congrArg Bool.not h2) ?_
   refine qag <| qaa <| qaa ?_
   refine T_k mixed [] [.k2, .d, .n, .r] [ps 19 (bv (decide (u < 1)))] (oz) ?_
   by_cases h3 : u < 1
   ·refine T_th (decide_eq_true h3) ?_
    refine qaa ?_
    refine T_r mixed [] [ps 4 (.av (.slice none 0 0)), ps 5 (iv 3)] (oz) ?_
    rw [qeu (show qbp b u d = 3 from by unfold qbp; rw [if_pos h1, if_pos h2, if_pos h3]) (by decide)]
    exact qai fun cx_ a_ hI_ => rt hc0 [ps 4 (.av (.slice none 0 0)), ps 5 (iv 3)] [] hI_
   refine T_el (decide_eq_false h3) ?_
   refine qag <| qaa ?_
   refine T_k mixed [] [.k2, .n, .d, .k2, .n] [ps 7 (.opt 136 0), pb 136 159 [(.av (.slice none 0 0)), (iv 0), (iv 1)]] (oz) ?_
   refine qaa <| qaa ?_
   have hR : rightB u d = true := h2
   refine T_wk (Wk.nilc (B := 159) (cells := [(.av (.slice none 0 0)), (iv 0), (iv 1)]) 136 0 187 (by kernel_rfl) rfl) ?_
   refine T_wk (Wk.less (l' := [ps 2 (.opt 0 0), ps 3 (.opt 8 0), ps 7 (.opt 136 0), pb 0 125 [(iv (kd b)), (iv (sh b)), (.ssl (kc b) 0 ((kids b).length))], pb 8 56 [(iv u), (iv d)], pb 136 159 [(.osl 152 0 0), (iv 0), (iv 1)], pb 152 187 []]) 153 (by kernel_rfl) (by kernel_rfl)) ?_
   refine T_wk (Wk.eq (show _ = [ps 2 (.opt 0 0), ps 3 (.opt 8 0), ps 7 (.opt 136 0), pb 0 125 [(iv (kd b)), (iv (sh b)), (.ssl (kc b) 0 ((kids b).length))], pb 8 56 [(iv u), (iv d)], pb 136 159 [(.osl 152 0 (([] : List Sp).length)), (iv 0), (iv 1)], pb 152 187 (spans [])] from by rfl)) ?_
   refine T_r mixed [(3, .call [136, 152] [(.opt 0 0), (.agg [(iv (kd b)), (iv (sh b)), (.ssl (kc b) 0 ((kids b).length))]), (.agg [(iv u), (iv d)])] [some (159, [(.osl 1 0 (([] : List Sp).length)), (iv 0), (iv 1)]), some (187, (spans []))] (iv ((qah b u d ([], 0, 1)).1)) [some (159, [(.osl 2 0 ((qah b u d ([], 0, 1)).2.1.length)), (iv ((qah b u d ([], 0, 1)).2.2.1)), (iv ((qah b u d ([], 0, 1)).2.2.2))]), none, some (187, (spans ((qah b u d ([], 0, 1)).2.1)))])] [ps 7 (.opt 136 0), ps 8 (iv ((qah b u d ([], 0, 1)).1)), pb 136 159 [(.osl 177 0 ((qah b u d ([], 0, 1)).2.1.length)), (iv ((qah b u d ([], 0, 1)).2.2.1)), (iv ((qah b u d ([], 0, 1)).2.2.2))], pb 177 187 (renL (sigo [136, 152] 177) (spans ((qah b u d ([], 0, 1)).2.1)))] (oc (share_pc b u d [] 0 1 hR st0_ok (qip h1).1 (qip h1).2 (by have := (qip h1).2; simp only [List.length_nil]; omega)) (oc (rfl : [(.opt 136 0), (.agg [(iv (kd b)), (iv (sh b)), (.ssl (kc b) 0 ((kids b).length))]), (.agg [(iv u), (iv d)])] = renL (sigi [136, 152] 177) [(.opt 0 0), (.agg [(iv (kd b)), (iv (sh b)), (.ssl (kc b) 0 ((kids b).length))]), (.agg [(iv u), (iv d)])]) (oc (rfl : [(.osl 152 0 (([] : List Sp).length)), (iv 0), (iv 1)] = renL (sigi [136, 152] 177) [(.osl 1 0 (([] : List Sp).length)), (iv 0), (iv 1)]) (oc ((qbd (qbh _)).symm : (spans []) = renL (sigi [136, 152] 177) (spans [])) oz)))) ?_
   refine T_wk (Wk.eq (show _ = [ps 7 (.opt 136 0), ps 8 (iv ((qah b u d ([], 0, 1)).1)), pb 136 159 [(.osl 177 0 ((qah b u d ([], 0, 1)).2.1.length)), (iv ((qah b u d ([], 0, 1)).2.2.1)), (iv ((qah b u d ([], 0, 1)).2.2.2))], pb 177 187 (spans ((qah b u d ([], 0, 1)).2.1))] from by simp only [qbd (qbh _)])) ?_
   refine qaa ?_
   refine T_k mixed [] [.k2, .n, .r] [ps 28 (bv (!(decide (((qah b u d ([], 0, 1)).1) = 0))))] (oz) ?_
   by_cases h4 : ((qah b u d ([], 0, 1)).1) = 0
   ·refine T_el (bt h4) ?_
    refine qag <| qaa ?_
    refine T_k mixed [] [.n, .n, .d, .d, .d, .d, .r] [ps 4 (.osl 177 0 ((qah b u d ([], 0, 1)).2.1.length)), ps 5 (iv 0)] (oz) ?_
    have hE : qbp b u d = 0 := by unfold qbp; rw [if_pos h1, if_pos h2, if_neg h3]; assumption
    rw [qit hE]
    refine T_wk (Wk.frz (l' := [ps 4 (.ssl (spans ((qah b u d ([], 0, 1)).2.1)) 0 ((qah b u d ([], 0, 1)).2.1.length)), ps 5 (iv 0), (kb 177, none)]) 177 (T := 187) (cs := (spans ((qah b u d ([], 0, 1)).2.1))) (by kernel_rfl) (qbh _) (by kernel_rfl)) ?_
    refine T_wk (Wk.less (l' := [ps 4 (.ssl (spans ((qah b u d ([], 0, 1)).2.1)) 0 ((qah b u d ([], 0, 1)).2.1.length)), ps 5 (iv 0)]) 257 (by kernel_rfl) (by kernel_rfl)) ?_
    exact qai fun cx_ a_ hI_ => rt hc0 [ps 4 (.ssl (spans ((qah b u d ([], 0, 1)).2.1)) 0 ((qah b u d ([], 0, 1)).2.1.length)), ps 5 (iv 0)] [] hI_
   refine T_th (bf h4) ?_
   refine qaa ?_
   refine T_r mixed [] [ps 4 (.av (.slice none 0 0)), ps 5 (iv ((qah b u d ([], 0, 1)).1))] (oz) ?_
   rw [qeu (show qbp b u d = (qah b u d ([], 0, 1)).1 from by unfold qbp; rw [if_pos h1, if_pos h2, if_neg h3]) (by assumption)]
   exact qai fun cx_ a_ hI_ => rt hc0 [ps 4 (.av (.slice none 0 0)), ps 5 (iv ((qah b u d ([], 0, 1)).1))] [] hI_
  refine T_th (congrArg Bool.not (Bool.eq_false_iff.2 h2)) ?_
  refine qaa ?_
  refine T_r mixed [] [ps 4 (.av (.slice none 0 0)), ps 5 (iv 2)] (oz) ?_
  rw [qeu (show qbp b u d = 2 from by unfold qbp; rw [if_pos h1, if_neg h2]) (by decide)]
  exact qai fun cx_ a_ hI_ => rt hc0 [ps 4 (.av (.slice none 0 0)), ps 5 (iv 2)] [] hI_
 refine T_th (bf h1) ?_
 refine qaa ?_
 refine T_r mixed [] [ps 4 (.av (.slice none 0 0)), ps 5 (iv (qes b))] (oz) ?_
 rw [qeu (show qbp b u d = qes b from by unfold qbp; rw [if_neg h1]) (by assumption)]
 exact qai fun cx_ a_ hI_ => rt hc0 [ps 4 (.av (.slice none 0 0)), ps 5 (iv (qes b))] [] hI_
end Go.Proofs.YtmlnilkbolcknaaGreatDoor.Pm
namespace Go.Proofs.YtmlnilkbolcknaaGreatDoor.Pm
open Go Fr

set_option maxRecDepth 100000 in
set_option maxHeartbeats 4000000 in
theorem qot (y : It) (g : List Iv) (v a b : Int) (S : List Sp) (N : List Nt) (z k : Nat) (hk : k < S.length) (hSl : S.length ≤ 100000) (hz : z ≤ N.length) (hN : N.length ≤ 100000000000) (hp : (iP y).length ≤ 16) (hab : I64 a ∧ I64 b) (hSr : ∀ i, i < S.length → I64 (S.getD i dS).1 ∧ I64 (S.getD i dS).2.1 ∧ I64 (S.getD i dS).2.2.1 ∧ I64 (S.getD i dS).2.2.2.1) (hg : g.length ≤ 40) (hgI : ∀ i, i < g.length → i64r (g.getD i dIv).1 ∧ i64r (g.getD i dIv).2) (hNr : ∀ i, i < N.length → I64 (N.getD i dNt).2.2.1.1 ∧ I64 (N.getD i dNt).2.2.1.2) : PC Tryz.prog 103 [(.opt 0 0), (.agg [(iv (iK y)), (iv (iS y)), (.ssl (pts (iP y)) 0 ((iP y).length)), (iv ((iB y).1)), (iv ((iB y).2)), (sv (st (iL y))), (.ssl (ics (iC y)) 0 ((iC y).length))]), (.ssl (ivs g) 0 g.length)] [some (91, [(iv v), (.osl 1 0 N.length), (nv z), (iv a), (iv b), (.ssl (spans S) (k * 5) (S.length - k))]), some (58, (nos N))] (iv (((qar v a b S y g (N, z, k))).1)) [some (91, [(iv v), (.osl 2 0 (((qar v a b S y g (N, z, k))).2.1.length)), (nv (((qar v a b S y g (N, z, k))).2.2.1)), (iv a), (iv b), (.ssl (spans S) ((((qar v a b S y g (N, z, k))).2.2.2) * 5) (S.length - ((qar v a b S y g (N, z, k))).2.2.2))]), none, some (58, (nos (((qar v a b S y g (N, z, k))).2.1)))] := by
 obtain ⟨ha, hb⟩ := hab
 refine qas Tryz.func103 rfl (by kernel_rfl) (Nat.le_of_ble_eq_true rfl) (by kernel_rfl) (l0 := [ps 0 (.opt 0 0), ps 1 (.agg [(iv (iK y)), (iv (iS y)), (.ssl (pts (iP y)) 0 ((iP y).length)), (iv ((iB y).1)), (iv ((iB y).2)), (sv (st (iL y))), (.ssl (ics (iC y)) 0 ((iC y).length))]), ps 2 (.ssl (ivs g) 0 g.length), pb 0 91 [(iv v), (.osl 1 0 N.length), (nv z), (iv a), (iv b), (.ssl (spans S) (k * 5) (S.length - k))], pb 1 58 (nos N)]) rfl (fun c0 Bor hc0 => ?_)
 refine qaa ?_
 refine T_k mixed [] [.k1, .d, .k1, .n, .k2, .n] [ps 4 (.opt 2 0), pb 2 50 [(iv (iK y)), (iv (iS y)), (.ssl (pts (iP y)) 0 ((iP y).length)), (iv ((iB y).1)), (iv ((iB y).2)), (sv (st (iL y))), (.ssl (ics (iC y)) 0 ((iC y).length))]] (oz) ?_
 refine qaa ?_
 refine T_k mixed [(4, .nat ((k + 0) * 5)), (5, .cells [(iv ((S.getD (k + 0) dS).1)), (iv ((S.getD (k + 0) dS).2.1)), (iv ((S.getD (k + 0) dS).2.2.1)), (iv ((S.getD (k + 0) dS).2.2.2.1)), (bv (S.getD (k + 0) dS).2.2.2.2)])] [.k3, .n, .k3, .n] [ps 7 (.opt 66 0), pb 66 187 [(iv ((S.getD (k + 0) dS).1)), (iv ((S.getD (k + 0) dS).2.1)), (iv ((S.getD (k + 0) dS).2.2.1)), (iv ((S.getD (k + 0) dS).2.2.2.1)), (bv (S.getD (k + 0) dS).2.2.2.2)]] (oc (by omega : (0 : Int) ≤ 0 ∧ 0 < (((S.length - k) : Nat) : Int)) (oc (by omega : (k * 5) + (0 : Int).toNat * 5 = ((k + 0) * 5)) (oc (qch spC 5 (fun _ => rfl) dS S (k + 0) 0 5 (by omega) (by decide) : ((k + 0) * 5) + 5 ≤ ((spans S)).length ∧ (((spans S)).drop ((k + 0) * 5)).take 5 = [(iv ((S.getD (k + 0) dS).1)), (iv ((S.getD (k + 0) dS).2.1)), (iv ((S.getD (k + 0) dS).2.2.1)), (iv ((S.getD (k + 0) dS).2.2.2.1)), (bv (S.getD (k + 0) dS).2.2.2.2)]) oz))) ?_
 refine qaa ?_
 obtain ⟨hS1, hS2, hS3, hS4⟩ := hSr k (by omega)
 refine T_wk (Wk.eq (show _ = [ps 0 (.opt 0 0), ps 2 (.ssl (ivs g) 0 g.length), ps 4 (.opt 2 0), ps 7 (.opt 66 0), pb 0 91 [(iv v), (.osl 1 0 N.length), (nv z), (iv a), (iv b), (.ssl (spans S) (k * 5) (S.length - k))], pb 1 58 (nos N), pb 2 50 [(iv (iK y)), (iv (iS y)), (.ssl (pts (iP y)) 0 ((iP y).length)), (iv ((iB y).1)), (iv ((iB y).2)), (sv (st (iL y))), (.ssl (ics (iC y)) 0 ((iC y).length))], pb 66 187 [(iv ((S.getD k dS).1)), (iv ((S.getD k dS).2.1)), (iv ((S.getD k dS).2.2.1)), (iv ((S.getD k dS).2.2.2.1)), (bv (S.getD k dS).2.2.2.2)]] from by rfl)) ?_
 refine T_k mixed [(5, .nat2 ((k + 1) * 5) ((S.length - k) - 1))] [.k4, .d, .n, .r] [pb 0 91 [(iv v), (.osl 1 0 N.length), (nv z), (iv a), (iv b), (.ssl (spans S) ((k + 1) * 5) ((S.length - k) - 1))]] (oc (by omega : (0 : Int) ≤ (1 : Int) ∧ (1 : Int) ≤ (((S.length - k) : Nat) : Int) ∧ (((S.length - k) : Nat) : Int) ≤ (((S.length - k) : Nat) : Int) ∧ (((S.length - k) : Nat) : Int) ≤ (((S.length - k) : Nat) : Int)) (oc (by omega : (k * 5) + ((1 : Int) : Int).toNat * 5 = ((k + 1) * 5) ∧ ((((S.length - k) : Nat) : Int) : Int).toNat - ((1 : Int) : Int).toNat = (S.length - k) - 1) oz)) ?_
 refine qaa ?_
 refine T_wk (Wk.eq (show _ = [ps 0 (.opt 0 0), ps 2 (.ssl (ivs g) 0 g.length), ps 4 (.opt 2 0), ps 7 (.opt 66 0), pb 0 91 [(iv v), (.osl 1 0 N.length), (nv z), (iv a), (iv b), (.ssl (spans S) ((k + 1) * 5) (S.length - (k + 1)))], pb 1 58 (nos N), pb 2 50 [(iv (iK y)), (iv (iS y)), (.ssl (pts (iP y)) 0 ((iP y).length)), (iv ((iB y).1)), (iv ((iB y).2)), (sv (st (iL y))), (.ssl (ics (iC y)) 0 ((iC y).length))], pb 66 187 [(iv ((S.getD k dS).1)), (iv ((S.getD k dS).2.1)), (iv ((S.getD k dS).2.2.1)), (iv ((S.getD k dS).2.2.2.1)), (bv (S.getD k dS).2.2.2.2)]] from by rw [Nat.sub_sub])) ?_
 refine T_kd mixed [(6, .call [] [(.agg [(iv a), (iv b)]), (.agg [(iv ((S.getD k dS).1)), (iv ((S.getD k dS).2.1))])] [] (.tup [(.agg [(iv ((Fr.plus a b ((S.getD k dS).1) ((S.getD k dS).2.1)).1)), (iv ((Fr.plus a b ((S.getD k dS).1) ((S.getD k dS).2.1)).2.1))]), (iv ((Fr.plus a b ((S.getD k dS).1) ((S.getD k dS).2.1)).2.2))]) [])] [[], [0], [0, 1], [0, 1, 2], [], [4], [0, 1, 2, 3, 4, 5], [0, 1, 2, 3, 4, 5, 6], [0, 1, 2, 3, 4, 5, 6, 7], [0, 1, 2, 3, 4, 5, 6, 7], [], [0, 1, 2, 3, 4, 5, 6, 7, 8, 10], [0, 1, 2, 3, 4, 5, 6, 7, 8, 9, 10, 11]] [([60], [0]), ([62], [60]), ([64], [62]), ([66], [1, 64]), ([68], [14]), ([70], [68, 133]), ([72], [66, 70]), ([58], [72]), ([74], [58]), ([76], [58]), ([16, 469], []), ([469], [16, 74, 469]), ([18], [76])] [.k4, .n, .n, .k4, .n] [ps 8 (.opt 234 0), ps 9 (iv ((Fr.plus a b ((S.getD k dS).1) ((S.getD k dS).2.1)).2.2)), pb 234 56 [(iv ((Fr.plus a b ((S.getD k dS).1) ((S.getD k dS).2.1)).1)), (iv ((Fr.plus a b ((S.getD k dS).1) ((S.getD k dS).2.1)).2.1))]] (oc (qiz a b ((S.getD k dS).1) ((S.getD k dS).2.1) (by first | assumption | omega) (by first | assumption | omega) (by first | assumption | omega) (by first | assumption | omega)) (oc (rfl : Ren0 202 [(.agg [(iv a), (iv b)]), (.agg [(iv ((S.getD k dS).1)), (iv ((S.getD k dS).2.1))])]) oz)) ?_
 refine qaa <| qaa ?_
 refine T_k mixed [] [.k6, .n, .r] [ps 40 (bv (!(decide (((Fr.plus a b ((S.getD k dS).1) ((S.getD k dS).2.1)).2.2) = 0))))] (oz) ?_
 by_cases h1 : ((Fr.plus a b ((S.getD k dS).1) ((S.getD k dS).2.1)).2.2) = 0
 ·refine T_el (bt h1) ?_
  refine qag <| qaa <| qaa ?_
  refine T_k mixed [] [.k5, .d, .d, .n, .r] [ps 43 (iv (iK y))] (oz) ?_
  refine qan <| qaa ?_
  refine T_k mixed [] [.k6, .n, .r] [ps 94 (bv (decide ((iK y) = 2)))] (oz) ?_
  by_cases h2 : (iK y) = 2
  ·refine T_th (dty h2) ?_
   refine T_r mixed [] [pb 0 91 [(iv v), (.osl 1 0 N.length), (iv 0), (iv a), (iv b), (.ssl (spans S) ((k + 1) * 5) (S.length - (k + 1)))], pb 1 58 (nos N)] (oz) ?_
   refine qbg <| qaa ?_
   refine T_k mixed [] [.n, .r] [ps 6 (iv 0)] (oz) ?_
   have hR : (qar v a b S y g (N, z, k)) = (0, N, 0, k + 1) := by unfold qar; dsimp only; rw [if_pos h1, if_pos h2]
   rw [hR]
   exact qai fun cx_ a_ hI_ => qby (H' := [some (91, [(iv v), (.osl 2 0 ((N).length)), (iv 0), (iv a), (iv b), (.ssl (spans S) ((k + 1) * 5) (S.length - (k + 1)))]), none, some (58, (nos N))]) (.inr rfl) (Wk.ren3D [ps 6 (iv 0), pb 0 91 [(iv v), (.osl 2 0 N.length), (iv 0), (iv a), (iv b), (.ssl (spans S) ((k + 1) * 5) (S.length - (k + 1)))], pb 2 58 (nos N)] 2 hc0 [0, 1, 1] [(kb 2, (nos N))] (oc (qal _) (oz)) (by kernel_rfl) rfl (by kernel_rfl) (by kernel_rfl) (by kernel_rfl)) rfl (oc rfl (oc rfl (oz))) (fun cx_ a_ hI_ => qbc (l' := [ps 6 (iv 0), pb 0 91 [(iv v), (.osl 2 0 N.length), (iv 0), (iv a), (iv b), (.ssl (spans S) ((k + 1) * 5) (S.length - (k + 1)))], pb 2 58 (nos N)]) (by kernel_rfl) cx_ a_ hI_) hI_
  refine T_el (dtn h2) ?_
  refine qaa ?_
  refine T_k mixed [] [.k5, .d, .d, .n, .r] [ps 99 (bv (decide ((iK y) = 3)))] (oz) ?_
  by_cases h3 : (iK y) = 3
  ·refine T_th (dty h3) ?_
   refine qaa ?_
   refine T_kd mixed [] [[], [0], [0, 1], [0, 1, 2], [0, 1, 2, 3], [], [5], [5, 6], [5, 6, 7], [0, 1, 2, 3, 4, 5, 6, 7, 8], [0, 1, 2, 3, 4, 5, 6, 7, 8, 9]] [([202], [0]), ([204], [202]), ([206], [204]), ([208], [1, 206]), ([210], [208]), ([212], [0]), ([214], [212]), ([216], [214]), ([218], [1, 216]), ([220], [210, 218]), ([20], [220])] [.k1, .d, .d, .k1, .d, .n, .d, .k2, .d, .k1, .d] [ps 10 (iv (((N.length : Nat) : Int) - ((z : Nat) : Int)))] (oc (by simp only [InK]; omega : InK .i64 (((N.length : Nat) : Int) - ((z : Nat) : Int))) oz) ?_
   refine qan ?_
   refine T_wk (Wk.eq (show _ = [ps 0 (.opt 0 0), ps 7 (.opt 66 0), ps 10 (nv (N.length - z)), pb 0 91 [(iv v), (.osl 1 0 N.length), (nv z), (iv a), (iv b), (.ssl (spans S) ((k + 1) * 5) (S.length - (k + 1)))], pb 1 58 (nos N), pb 66 187 [(iv ((S.getD k dS).1)), (iv ((S.getD k dS).2.1)), (iv ((S.getD k dS).2.2.1)), (iv ((S.getD k dS).2.2.2.1)), (bv (S.getD k dS).2.2.2.2)]] from by rw [show ((N.length : Nat) : Int) - ((z : Nat) : Int) = ((N.length - z : Nat) : Int) from by omega])) ?_
   refine qcm (α := {x : Nat × List Nt // x.1 ≤ N.length ∧ x.2.length = N.length ∧ tieF (S.getD k dS).2.2.1 (S.getD k dS).2.2.2.1 x.2 x.1 = tieF (S.getD k dS).2.2.1 (S.getD k dS).2.2.2.1 N (N.length - z) ∧ (∀ q, x.1 ≤ q → q < x.2.length → I64 (x.2.getD q dNt).2.2.1.1 ∧ I64 (x.2.getD q dNt).2.2.1.2)}) (fun x => [ps 0 (.opt 0 0), ps 7 (.opt 2 0), ps 10 (nv x.1.1), pb 0 91 [(iv v), (.osl 1 0 N.length), (nv z), (iv a), (iv b), (.ssl (spans S) ((k + 1) * 5) (S.length - (k + 1)))], pb 1 58 (nos x.1.2), pb 2 187 [(iv ((S.getD k dS).1)), (iv ((S.getD k dS).2.1)), (iv ((S.getD k dS).2.2.1)), (iv ((S.getD k dS).2.2.2.1)), (bv (S.getD k dS).2.2.2.2)]]) (fun x => N.length - x.1.1) 3 ⟨(N.length - z, N), ⟨Nat.sub_le _ _, rfl, rfl, fun q _ h2 => hNr q h2⟩⟩ (Wk.ren3 [ps 0 (.opt 0 0), ps 7 (.opt 2 0), ps 10 (nv (N.length - z)), pb 0 91 [(iv v), (.osl 1 0 N.length), (nv z), (iv a), (iv b), (.ssl (spans S) ((k + 1) * 5) (S.length - (k + 1)))], pb 1 58 (nos N), pb 2 187 [(iv ((S.getD k dS).1)), (iv ((S.getD k dS).2.1)), (iv ((S.getD k dS).2.2.1)), (iv ((S.getD k dS).2.2.2.1)), (bv (S.getD k dS).2.2.2.2)]] 2 hc0 [0, 1, 66] [(kb 1, (nos N))] (oc (qal _) (oz)) (by kernel_rfl) rfl rfl (by kernel_rfl) (by kernel_rfl)) ?_
   rintro ⟨⟨i, M⟩, ⟨hi, hML, hT, hMr⟩⟩
   dsimp only at hi hML hT hMr
   refine qaa <| qaa ?_
   refine T_r mixed [] [ps 0 (.opt 0 0), ps 7 (.opt 2 0), ps 10 (nv i), ps 117 (bv (decide (((i : Nat) : Int) < ((N.length : Nat) : Int)))), pb 0 91 [(iv v), (.osl 1 0 N.length), (nv z), (iv a), (iv b), (.ssl (spans S) ((k + 1) * 5) (S.length - (k + 1)))], pb 1 58 (nos M), pb 2 187 [(iv ((S.getD k dS).1)), (iv ((S.getD k dS).2.1)), (iv ((S.getD k dS).2.2.1)), (iv ((S.getD k dS).2.2.2.1)), (bv (S.getD k dS).2.2.2.2)]] (oz) ?_
   by_cases h4 : ((i : Nat) : Int) < ((N.length : Nat) : Int)
   ·refine T_th (dty h4) ?_
    refine qag <| qaa <| qan <| qaa ?_
    obtain ⟨hm1, hm2⟩ := hMr i (Nat.le_refl i) (by omega)
    refine T_kd mixed [(10, .nat (i * 9)), (12, .cells [(iv ((M.getD i dNt).2.2.1.1)), (iv ((M.getD i dNt).2.2.1.2))]), (15, .call [] [(.agg [(iv ((M.getD i dNt).2.2.1.1)), (iv ((M.getD i dNt).2.2.1.2))]), (.agg [(iv ((S.getD k dS).2.2.1)), (iv ((S.getD k dS).2.2.2.1))])] [] (.tup [(.agg [(iv ((Fr.plus ((M.getD i dNt).2.2.1.1) ((M.getD i dNt).2.2.1.2) ((S.getD k dS).2.2.1) ((S.getD k dS).2.2.2.1)).1)), (iv ((Fr.plus ((M.getD i dNt).2.2.1.1) ((M.getD i dNt).2.2.1.2) ((S.getD k dS).2.2.1) ((S.getD k dS).2.2.2.1)).2.1))]), (iv ((Fr.plus ((M.getD i dNt).2.2.1.1) ((M.getD i dNt).2.2.1.2) ((S.getD k dS).2.2.1) ((S.getD k dS).2.2.2.1)).2.2))]) []), (19, .nat (i * 9)), (21, .cells (nos (M.set i (setG (M.getD i dNt) (plus (M.getD i dNt).2.2.1.1 (M.getD i dNt).2.2.1.2 (S.getD k dS).2.2.1 (S.getD k dS).2.2.2.1).1 (plus (M.getD i dNt).2.2.1.1 (M.getD i dNt).2.2.1.2 (S.getD k dS).2.2.1 (S.getD k dS).2.2.2.1).2.1))))] [[], [0], [0, 1], [0, 1, 2], [], [], [5], [5, 6], [5, 6, 7], [], [5, 6, 7, 8, 9], [5, 6, 7, 8, 9, 10], [5, 6, 7, 8, 9, 10, 11], [], [13], [5, 6, 7, 8, 9, 10, 11, 12, 13, 14], [5, 6, 7, 8, 9, 10, 11, 12, 13, 14, 15], [5, 6, 7, 8, 9, 10, 11, 12, 13, 14, 15, 16], [5, 6, 7, 8, 9, 10, 11, 12, 13, 14, 15, 16], [0, 1, 2, 3, 4, 5, 6, 7, 8, 9, 10, 11, 12, 13, 14, 15, 16, 17], [0, 1, 2, 3, 4, 5, 6, 7, 8, 9, 10, 11, 12, 13, 14, 15, 16, 17, 19], [0, 1, 2, 3, 4, 5, 6, 7, 8, 9, 10, 11, 12, 13, 14, 15, 16, 17, 19, 20], [0, 1, 2, 3, 4, 5, 6, 7, 8, 9, 10, 11, 12, 13, 14, 15, 16, 17, 18, 19, 20, 21]] [([242], [0]), ([244], [242]), ([246], [244]), ([248], [1, 246]), ([250], [20]), ([252], [0]), ([254], [252]), ([256], [254]), ([258], [1, 256]), ([260], [20]), ([262], [258, 260]), ([264], [262]), ([266], [3, 264]), ([268], [14]), ([270], [5, 268]), ([272], [266, 270]), ([240], [272]), ([274], [240]), ([276], [240]), ([278], [248, 250]), ([280], [278]), ([3], [3, 274, 280]), ([18], [276])] [.k2, .n, .k1, .d, .k1, .d, .n, .r] [ps 9 (iv ((Fr.plus ((M.getD i dNt).2.2.1.1) ((M.getD i dNt).2.2.1.2) ((S.getD k dS).2.2.1) ((S.getD k dS).2.2.2.1)).2.2)), pb 1 58 (nos (M.set i (setG (M.getD i dNt) (plus (M.getD i dNt).2.2.1.1 (M.getD i dNt).2.2.1.2 (S.getD k dS).2.2.1 (S.getD k dS).2.2.2.1).1 (plus (M.getD i dNt).2.2.1.1 (M.getD i dNt).2.2.1.2 (S.getD k dS).2.2.1 (S.getD k dS).2.2.2.1).2.1)))] (oc (by omega : (0 : Int) ≤ ((i : Nat) : Int) ∧ ((i : Nat) : Int) < ((N.length : Nat) : Int)) (oc (by omega : 0 + (((i : Nat) : Int) : Int).toNat * 9 = (i * 9)) (oc (qch noC 9 (fun _ => rfl) dNt M i 3 2 (by omega) (by decide) : (i * 9 + 3) + 2 ≤ ((nos M)).length ∧ (((nos M)).drop (i * 9 + 3)).take 2 = [(iv ((M.getD i dNt).2.2.1.1)), (iv ((M.getD i dNt).2.2.1.2))]) (oc (qiz ((M.getD i dNt).2.2.1.1) ((M.getD i dNt).2.2.1.2) ((S.getD k dS).2.2.1) ((S.getD k dS).2.2.2.1) (by first | assumption | omega) (by first | assumption | omega) (by first | assumption | omega) (by first | assumption | omega)) (oc (rfl : Ren0 179 [(.agg [(iv ((M.getD i dNt).2.2.1.1)), (iv ((M.getD i dNt).2.2.1.2))]), (.agg [(iv ((S.getD k dS).2.2.1)), (iv ((S.getD k dS).2.2.2.1))])]) (oc (by omega : (0 : Int) ≤ ((i : Nat) : Int) ∧ ((i : Nat) : Int) < ((N.length : Nat) : Int)) (oc (by omega : 0 + (((i : Nat) : Int) : Int).toNat * 9 = (i * 9)) (oc (qsn M i _ _ (by omega) : (i * 9 + 3) + 2 ≤ ((nos M)).length ∧ qcj (nos M) (i * 9 + 3) [(iv ((Fr.plus ((M.getD i dNt).2.2.1.1) ((M.getD i dNt).2.2.1.2) ((S.getD k dS).2.2.1) ((S.getD k dS).2.2.2.1)).1)), (iv ((Fr.plus ((M.getD i dNt).2.2.1.1) ((M.getD i dNt).2.2.1.2) ((S.getD k dS).2.2.1) ((S.getD k dS).2.2.2.1)).2.1))] = (nos (M.set i (setG (M.getD i dNt) (plus (M.getD i dNt).2.2.1.1 (M.getD i dNt).2.2.1.2 (S.getD k dS).2.2.1 (S.getD k dS).2.2.2.1).1 (plus (M.getD i dNt).2.2.1.1 (M.getD i dNt).2.2.1.2 (S.getD k dS).2.2.1 (S.getD k dS).2.2.2.1).2.1)))) oz)))))))) ?_
    refine qaa ?_
    refine T_k mixed [] [.k4, .n, .r] [ps 142 (bv (!(decide (((Fr.plus ((M.getD i dNt).2.2.1.1) ((M.getD i dNt).2.2.1.2) ((S.getD k dS).2.2.1) ((S.getD k dS).2.2.2.1)).2.2) = 0))))] (oz) ?_
    by_cases h5 : ((Fr.plus ((M.getD i dNt).2.2.1.1) ((M.getD i dNt).2.2.1.2) ((S.getD k dS).2.2.1) ((S.getD k dS).2.2.2.1)).2.2) = 0
    ·refine T_el (bt h5) ?_
     refine qag <| qbg ?_
     refine T_k mixed [] [.k2, .d, .d, .n, .d, .r] [ps 10 (iv (((i : Nat) : Int) + 1))] (oc (by simp only [InK]; omega : InK .i64 (((i : Nat) : Int) + 1)) oz) ?_
     exact qce ⟨(i + 1, M.set i (setG (M.getD i dNt) (plus (M.getD i dNt).2.2.1.1 (M.getD i dNt).2.2.1.2 (S.getD k dS).2.2.1 (S.getD k dS).2.2.2.1).1 (plus (M.getD i dNt).2.2.1.1 (M.getD i dNt).2.2.1.2 (S.getD k dS).2.2.1 (S.getD k dS).2.2.2.1).2.1)), ⟨by show i + 1 ≤ N.length; omega, by show (M.set i _).length = N.length; rw [List.length_set]; exact hML, by rw [qyu (by omega), if_pos h5] at hT; exact hT, by intro q h1 h2; show I64 ((M.set i _).getD q dNt).2.2.1.1 ∧ I64 ((M.set i _).getD q dNt).2.2.1.2; rw [set_far (show i ≠ q from by have h3 : i + 1 ≤ q := h1; omega)]; exact hMr q (by have h3 : i + 1 ≤ q := h1; omega) (by have h3 : q < (M.set i _).length := h2; rw [List.length_set] at h3; exact h3)⟩⟩ (Wk.trans (Wk.eq (show _ = [ps 0 (.opt 0 0), ps 7 (.opt 2 0), ps 10 (nv (i + 1)), pb 0 91 [(iv v), (.osl 1 0 N.length), (nv z), (iv a), (iv b), (.ssl (spans S) ((k + 1) * 5) (S.length - (k + 1)))], pb 1 58 (nos (M.set i (setG (M.getD i dNt) (plus (M.getD i dNt).2.2.1.1 (M.getD i dNt).2.2.1.2 (S.getD k dS).2.2.1 (S.getD k dS).2.2.2.1).1 (plus (M.getD i dNt).2.2.1.1 (M.getD i dNt).2.2.1.2 (S.getD k dS).2.2.1 (S.getD k dS).2.2.2.1).2.1))), pb 2 187 [(iv ((S.getD k dS).1)), (iv ((S.getD k dS).2.1)), (iv ((S.getD k dS).2.2.1)), (iv ((S.getD k dS).2.2.2.1)), (bv (S.getD k dS).2.2.2.2)]] from by rfl)) (Wk.ren3 [ps 0 (.opt 0 0), ps 7 (.opt 2 0), ps 10 (nv (i + 1)), pb 0 91 [(iv v), (.osl 1 0 N.length), (nv z), (iv a), (iv b), (.ssl (spans S) ((k + 1) * 5) (S.length - (k + 1)))], pb 1 58 (nos (M.set i (setG (M.getD i dNt) (plus (M.getD i dNt).2.2.1.1 (M.getD i dNt).2.2.1.2 (S.getD k dS).2.2.1 (S.getD k dS).2.2.2.1).1 (plus (M.getD i dNt).2.2.1.1 (M.getD i dNt).2.2.1.2 (S.getD k dS).2.2.1 (S.getD k dS).2.2.2.1).2.1))), pb 2 187 [(iv ((S.getD k dS).1)), (iv ((S.getD k dS).2.1)), (iv ((S.getD k dS).2.2.1)), (iv ((S.getD k dS).2.2.2.1)), (bv (S.getD k dS).2.2.2.2)]] 2 hc0 [0, 1, 2] [(kb 1, (nos (M.set i (setG (M.getD i dNt) (plus (M.getD i dNt).2.2.1.1 (M.getD i dNt).2.2.1.2 (S.getD k dS).2.2.1 (S.getD k dS).2.2.2.1).1 (plus (M.getD i dNt).2.2.1.1 (M.getD i dNt).2.2.1.2 (S.getD k dS).2.2.1 (S.getD k dS).2.2.2.1).2.1))))] (oc (qal _) (oz)) (by kernel_rfl) rfl rfl (by kernel_rfl) (by kernel_rfl))) (show N.length - (i + 1) < N.length - i from by show N.length - (i + 1) < N.length - i; omega)
    refine T_th (bf h5) ?_
    refine qaa ?_
    refine T_k mixed [] [.d, .n, .d, .d, .d, .d, .k2, .d] [ps 6 (iv ((Fr.plus ((M.getD i dNt).2.2.1.1) ((M.getD i dNt).2.2.1.2) ((S.getD k dS).2.2.1) ((S.getD k dS).2.2.2.1)).2.2))] (oz) ?_
    have hR : (qar v a b S y g (N, z, k)) = (((Fr.plus ((M.getD i dNt).2.2.1.1) ((M.getD i dNt).2.2.1.2) ((S.getD k dS).2.2.1) ((S.getD k dS).2.2.2.1)).2.2), (M.set i (setG (M.getD i dNt) (plus (M.getD i dNt).2.2.1.1 (M.getD i dNt).2.2.1.2 (S.getD k dS).2.2.1 (S.getD k dS).2.2.2.1).1 (plus (M.getD i dNt).2.2.1.1 (M.getD i dNt).2.2.1.2 (S.getD k dS).2.2.1 (S.getD k dS).2.2.2.1).2.1)), z, k + 1) := by unfold qar; dsimp only; rw [if_pos h1, if_neg h2, if_pos h3, ← hT, qyu (by omega), if_neg h5]
    rw [hR]
    refine T_wk (Wk.eq (show _ = [ps 6 (iv ((Fr.plus ((M.getD i dNt).2.2.1.1) ((M.getD i dNt).2.2.1.2) ((S.getD k dS).2.2.1) ((S.getD k dS).2.2.2.1)).2.2)), pb 0 91 [(iv v), (.osl 1 0 (((M.set i (setG (M.getD i dNt) (plus (M.getD i dNt).2.2.1.1 (M.getD i dNt).2.2.1.2 (S.getD k dS).2.2.1 (S.getD k dS).2.2.2.1).1 (plus (M.getD i dNt).2.2.1.1 (M.getD i dNt).2.2.1.2 (S.getD k dS).2.2.1 (S.getD k dS).2.2.2.1).2.1))).length)), (nv z), (iv a), (iv b), (.ssl (spans S) ((k + 1) * 5) (S.length - (k + 1)))], pb 1 58 (nos (M.set i (setG (M.getD i dNt) (plus (M.getD i dNt).2.2.1.1 (M.getD i dNt).2.2.1.2 (S.getD k dS).2.2.1 (S.getD k dS).2.2.2.1).1 (plus (M.getD i dNt).2.2.1.1 (M.getD i dNt).2.2.1.2 (S.getD k dS).2.2.1 (S.getD k dS).2.2.2.1).2.1)))] from by rw [List.length_set, hML])) ?_
    exact qai fun cx_ a_ hI_ => qav (qby (H' := [some (91, [(iv v), (.osl 2 0 (((M.set i (setG (M.getD i dNt) (plus (M.getD i dNt).2.2.1.1 (M.getD i dNt).2.2.1.2 (S.getD k dS).2.2.1 (S.getD k dS).2.2.2.1).1 (plus (M.getD i dNt).2.2.1.1 (M.getD i dNt).2.2.1.2 (S.getD k dS).2.2.1 (S.getD k dS).2.2.2.1).2.1))).length)), (nv z), (iv a), (iv b), (.ssl (spans S) ((k + 1) * 5) (S.length - (k + 1)))]), none, some (58, (nos (M.set i (setG (M.getD i dNt) (plus (M.getD i dNt).2.2.1.1 (M.getD i dNt).2.2.1.2 (S.getD k dS).2.2.1 (S.getD k dS).2.2.2.1).1 (plus (M.getD i dNt).2.2.1.1 (M.getD i dNt).2.2.1.2 (S.getD k dS).2.2.1 (S.getD k dS).2.2.2.1).2.1))))]) (.inr rfl) (Wk.ren3D [ps 6 (iv ((Fr.plus ((M.getD i dNt).2.2.1.1) ((M.getD i dNt).2.2.1.2) ((S.getD k dS).2.2.1) ((S.getD k dS).2.2.2.1)).2.2)), pb 0 91 [(iv v), (.osl 2 0 (((M.set i (setG (M.getD i dNt) (plus (M.getD i dNt).2.2.1.1 (M.getD i dNt).2.2.1.2 (S.getD k dS).2.2.1 (S.getD k dS).2.2.2.1).1 (plus (M.getD i dNt).2.2.1.1 (M.getD i dNt).2.2.1.2 (S.getD k dS).2.2.1 (S.getD k dS).2.2.2.1).2.1))).length)), (nv z), (iv a), (iv b), (.ssl (spans S) ((k + 1) * 5) (S.length - (k + 1)))], pb 2 58 (nos (M.set i (setG (M.getD i dNt) (plus (M.getD i dNt).2.2.1.1 (M.getD i dNt).2.2.1.2 (S.getD k dS).2.2.1 (S.getD k dS).2.2.2.1).1 (plus (M.getD i dNt).2.2.1.1 (M.getD i dNt).2.2.1.2 (S.getD k dS).2.2.1 (S.getD k dS).2.2.2.1).2.1)))] 2 hc0 [0, 1, 1] [(kb 2, (nos (M.set i (setG (M.getD i dNt) (plus (M.getD i dNt).2.2.1.1 (M.getD i dNt).2.2.1.2 (S.getD k dS).2.2.1 (S.getD k dS).2.2.2.1).1 (plus (M.getD i dNt).2.2.1.1 (M.getD i dNt).2.2.1.2 (S.getD k dS).2.2.1 (S.getD k dS).2.2.2.1).2.1))))] (oc (qal _) (oz)) (by kernel_rfl) rfl (by kernel_rfl) (by kernel_rfl) (by kernel_rfl)) rfl (oc rfl (oc rfl (oz))) (fun cx_ a_ hI_ => qbc (l' := [ps 6 (iv ((Fr.plus ((M.getD i dNt).2.2.1.1) ((M.getD i dNt).2.2.1.2) ((S.getD k dS).2.2.1) ((S.getD k dS).2.2.2.1)).2.2)), pb 0 91 [(iv v), (.osl 2 0 (((M.set i (setG (M.getD i dNt) (plus (M.getD i dNt).2.2.1.1 (M.getD i dNt).2.2.1.2 (S.getD k dS).2.2.1 (S.getD k dS).2.2.2.1).1 (plus (M.getD i dNt).2.2.1.1 (M.getD i dNt).2.2.1.2 (S.getD k dS).2.2.1 (S.getD k dS).2.2.2.1).2.1))).length)), (nv z), (iv a), (iv b), (.ssl (spans S) ((k + 1) * 5) (S.length - (k + 1)))], pb 2 58 (nos (M.set i (setG (M.getD i dNt) (plus (M.getD i dNt).2.2.1.1 (M.getD i dNt).2.2.1.2 (S.getD k dS).2.2.1 (S.getD k dS).2.2.2.1).1 (plus (M.getD i dNt).2.2.1.1 (M.getD i dNt).2.2.1.2 (S.getD k dS).2.2.1 (S.getD k dS).2.2.2.1).2.1)))]) (by kernel_rfl) cx_ a_ hI_) hI_)
   refine T_el (dtn h4) ?_
   refine qbu rfl rfl ?_
   refine qbg <| qaa ?_
   refine T_k mixed [] [.d, .n, .d, .d, .d, .k2, .d] [ps 6 (iv 0)] (oz) ?_
   have hR : (qar v a b S y g (N, z, k)) = (0, M, z, k + 1) := by unfold qar; dsimp only; rw [if_pos h1, if_neg h2, if_pos h3, ← hT, tieF_end (by omega)]
   rw [hR]
   refine T_wk (Wk.eq (show _ = [ps 6 (iv 0), pb 0 91 [(iv v), (.osl 1 0 ((M).length)), (nv z), (iv a), (iv b), (.ssl (spans S) ((k + 1) * 5) (S.length - (k + 1)))], pb 1 58 (nos M)] from by rw [hML])) ?_
   exact qai fun cx_ a_ hI_ => qby (H' := [some (91, [(iv v), (.osl 2 0 ((M).length)), (nv z), (iv a), (iv b), (.ssl (spans S) ((k + 1) * 5) (S.length - (k + 1)))]), none, some (58, (nos M))]) (.inr rfl) (Wk.ren3D [ps 6 (iv 0), pb 0 91 [(iv v), (.osl 2 0 ((M).length)), (nv z), (iv a), (iv b), (.ssl (spans S) ((k + 1) * 5) (S.length - (k + 1)))], pb 2 58 (nos M)] 2 hc0 [0, 1, 1] [(kb 2, (nos M))] (oc (qal _) (oz)) (by kernel_rfl) rfl (by kernel_rfl) (by kernel_rfl) (by kernel_rfl)) rfl (oc rfl (oc rfl (oz))) (fun cx_ a_ hI_ => qbc (l' := [ps 6 (iv 0), pb 0 91 [(iv v), (.osl 2 0 ((M).length)), (nv z), (iv a), (iv b), (.ssl (spans S) ((k + 1) * 5) (S.length - (k + 1)))], pb 2 58 (nos M)]) (by kernel_rfl) cx_ a_ hI_) hI_
  refine T_el (dtn h3) ?_
  refine qaa <| qaa ?_
  refine T_k mixed [] [.k5, .n, .n, .n, .d, .r] [ps 45 (.ssl (pts (iP y)) 0 ((iP y).length)), ps 46 (nv ((iP y).length)), ps 47 (iv 0)] (oz) ?_
  refine qan ?_
  refine qcm (α := {x : Nat × List Nt // x.1 ≤ (iP y).length ∧ x.2.length = N.length + x.1 ∧ qca v ((Fr.plus a b (S.getD k dS).1 (S.getD k dS).2.1).1, (Fr.plus a b (S.getD k dS).1 (S.getD k dS).2.1).2.1) ((S.getD k dS).2.2.1, (S.getD k dS).2.2.2.1) (iL y) g ((iP y).drop x.1) x.2 = qca v ((Fr.plus a b (S.getD k dS).1 (S.getD k dS).2.1).1, (Fr.plus a b (S.getD k dS).1 (S.getD k dS).2.1).2.1) ((S.getD k dS).2.2.1, (S.getD k dS).2.2.2.1) (iL y) g (iP y) N}) (fun x => [ps 0 (.opt 0 0), ps 2 (.ssl (ivs g) 0 g.length), ps 4 (.opt 3 0), ps 7 (.opt 4 0), ps 8 (.opt 5 0), ps 45 (.ssl (pts (iP y)) 0 ((iP y).length)), ps 46 (nv ((iP y).length)), ps 47 (nv x.1.1), pb 0 91 [(iv v), (.osl 2 0 x.1.2.length), (nv z), (iv a), (iv b), (.ssl (spans S) ((k + 1) * 5) (S.length - (k + 1)))], pb 2 58 (nos x.1.2), pb 3 50 [(iv (iK y)), (iv (iS y)), (.ssl (pts (iP y)) 0 ((iP y).length)), (iv ((iB y).1)), (iv ((iB y).2)), (sv (st (iL y))), (.ssl (ics (iC y)) 0 ((iC y).length))], pb 4 187 [(iv ((S.getD k dS).1)), (iv ((S.getD k dS).2.1)), (iv ((S.getD k dS).2.2.1)), (iv ((S.getD k dS).2.2.2.1)), (bv (S.getD k dS).2.2.2.2)], pb 5 56 [(iv ((Fr.plus a b ((S.getD k dS).1) ((S.getD k dS).2.1)).1)), (iv ((Fr.plus a b ((S.getD k dS).1) ((S.getD k dS).2.1)).2.1))]]) (fun x => (iP y).length - x.1.1) 6 ⟨(0, N), ⟨Nat.zero_le _, rfl, rfl⟩⟩ (Wk.ren3D [ps 0 (.opt 0 0), ps 2 (.ssl (ivs g) 0 g.length), ps 4 (.opt 3 0), ps 7 (.opt 4 0), ps 8 (.opt 5 0), ps 45 (.ssl (pts (iP y)) 0 ((iP y).length)), ps 46 (nv ((iP y).length)), ps 47 (nv 0), pb 0 91 [(iv v), (.osl 2 0 N.length), (nv z), (iv a), (iv b), (.ssl (spans S) ((k + 1) * 5) (S.length - (k + 1)))], pb 2 58 (nos N), pb 3 50 [(iv (iK y)), (iv (iS y)), (.ssl (pts (iP y)) 0 ((iP y).length)), (iv ((iB y).1)), (iv ((iB y).2)), (sv (st (iL y))), (.ssl (ics (iC y)) 0 ((iC y).length))], pb 4 187 [(iv ((S.getD k dS).1)), (iv ((S.getD k dS).2.1)), (iv ((S.getD k dS).2.2.1)), (iv ((S.getD k dS).2.2.2.1)), (bv (S.getD k dS).2.2.2.2)], pb 5 56 [(iv ((Fr.plus a b ((S.getD k dS).1) ((S.getD k dS).2.1)).1)), (iv ((Fr.plus a b ((S.getD k dS).1) ((S.getD k dS).2.1)).2.1))]] 2 hc0 [0, 1, 1, 2, 66, 234] [(kb 2, (nos N))] (oc (qal _) (oz)) (by kernel_rfl) rfl (by kernel_rfl) (by kernel_rfl) (by kernel_rfl)) ?_
  rintro ⟨⟨j, M⟩, ⟨hj, hML, hT⟩⟩
  dsimp only at hj hML hT
  refine qaa ?_
  refine T_r mixed [] [ps 0 (.opt 0 0), ps 2 (.ssl (ivs g) 0 g.length), ps 4 (.opt 3 0), ps 7 (.opt 4 0), ps 8 (.opt 5 0), ps 45 (.ssl (pts (iP y)) 0 ((iP y).length)), ps 46 (nv ((iP y).length)), ps 47 (nv j), ps 48 (bv (decide (((j : Nat) : Int) < (((iP y).length : Nat) : Int)))), pb 0 91 [(iv v), (.osl 2 0 M.length), (nv z), (iv a), (iv b), (.ssl (spans S) ((k + 1) * 5) (S.length - (k + 1)))], pb 2 58 (nos M), pb 3 50 [(iv (iK y)), (iv (iS y)), (.ssl (pts (iP y)) 0 ((iP y).length)), (iv ((iB y).1)), (iv ((iB y).2)), (sv (st (iL y))), (.ssl (ics (iC y)) 0 ((iC y).length))], pb 4 187 [(iv ((S.getD k dS).1)), (iv ((S.getD k dS).2.1)), (iv ((S.getD k dS).2.2.1)), (iv ((S.getD k dS).2.2.2.1)), (bv (S.getD k dS).2.2.2.2)], pb 5 56 [(iv ((Fr.plus a b ((S.getD k dS).1) ((S.getD k dS).2.1)).1)), (iv ((Fr.plus a b ((S.getD k dS).1) ((S.getD k dS).2.1)).2.1))]] (oz) ?_
  refine qaa ?_
  by_cases h6 : ((j : Nat) : Int) < (((iP y).length : Nat) : Int)
  ·refine T_th (dty h6) ?_
   refine qag <| qaa <| qan <| qaa ?_
   refine T_k mixed [(0, .nat (j * 3)), (1, .cells [(iv (((iP y).getD j dPt).1)), (iv (((iP y).getD j dPt).2.1)), (iv (((iP y).getD j dPt).2.2))])] [.k5, .n, .k3, .d, .k5, .n] [ps 12 (.opt 30 0), pb 30 52 [(iv (((iP y).getD j dPt).1)), (iv (((iP y).getD j dPt).2.1)), (iv (((iP y).getD j dPt).2.2))]] (oc (by omega : (0 : Int) ≤ ((j : Nat) : Int) ∧ ((j : Nat) : Int) < (((iP y).length : Nat) : Int)) (oc (by omega : 0 + (((j : Nat) : Int) : Int).toNat * 3 = (j * 3)) (oc (qch ptC 3 (fun _ => rfl) dPt (iP y) j 0 3 (by omega) (by decide) : (j * 3) + 3 ≤ ((pts (iP y))).length ∧ (((pts (iP y))).drop (j * 3)).take 3 = [(iv (((iP y).getD j dPt).1)), (iv (((iP y).getD j dPt).2.1)), (iv (((iP y).getD j dPt).2.2))]) oz))) ?_
   refine qaa <| qaa ?_
   refine T_k mixed [] [.k8, .k1, .n, .n, .n, .r] [ps 51 (.ssl (ivs g) 0 g.length), ps 52 (nv g.length), ps 53 (iv 0)] (oz) ?_
   refine qan ?_
   refine qcm (α := {x : Nat × Pt // x.1 ≤ g.length ∧ mvBy x.2 (g.drop x.1) = mvBy ((iP y).getD j dPt) g}) (fun x => [ps 0 (.opt 0 0), ps 2 (.ssl (ivs g) 0 g.length), ps 4 (.opt 3 0), ps 7 (.opt 4 0), ps 8 (.opt 5 0), ps 12 (.opt 6 0), ps 45 (.ssl (pts (iP y)) 0 ((iP y).length)), ps 46 (nv ((iP y).length)), ps 47 (nv j), ps 51 (.ssl (ivs g) 0 g.length), ps 52 (nv g.length), ps 53 (nv x.1.1), pb 0 91 [(iv v), (.osl 2 0 M.length), (nv z), (iv a), (iv b), (.ssl (spans S) ((k + 1) * 5) (S.length - (k + 1)))], pb 2 58 (nos M), pb 3 50 [(iv (iK y)), (iv (iS y)), (.ssl (pts (iP y)) 0 ((iP y).length)), (iv ((iB y).1)), (iv ((iB y).2)), (sv (st (iL y))), (.ssl (ics (iC y)) 0 ((iC y).length))], pb 4 187 [(iv ((S.getD k dS).1)), (iv ((S.getD k dS).2.1)), (iv ((S.getD k dS).2.2.1)), (iv ((S.getD k dS).2.2.2.1)), (bv (S.getD k dS).2.2.2.2)], pb 5 56 [(iv ((Fr.plus a b ((S.getD k dS).1) ((S.getD k dS).2.1)).1)), (iv ((Fr.plus a b ((S.getD k dS).1) ((S.getD k dS).2.1)).2.1))], pb 6 52 [(iv x.1.2.1), (iv x.1.2.2.1), (iv x.1.2.2.2)]]) (fun x => g.length - x.1.1) 7 ⟨(0, ((iP y).getD j dPt)), ⟨Nat.zero_le _, rfl⟩⟩ (Wk.ren3 [ps 0 (.opt 0 0), ps 2 (.ssl (ivs g) 0 g.length), ps 4 (.opt 3 0), ps 7 (.opt 4 0), ps 8 (.opt 5 0), ps 12 (.opt 6 0), ps 45 (.ssl (pts (iP y)) 0 ((iP y).length)), ps 46 (nv ((iP y).length)), ps 47 (nv j), ps 51 (.ssl (ivs g) 0 g.length), ps 52 (nv g.length), ps 53 (nv 0), pb 0 91 [(iv v), (.osl 2 0 M.length), (nv z), (iv a), (iv b), (.ssl (spans S) ((k + 1) * 5) (S.length - (k + 1)))], pb 2 58 (nos M), pb 3 50 [(iv (iK y)), (iv (iS y)), (.ssl (pts (iP y)) 0 ((iP y).length)), (iv ((iB y).1)), (iv ((iB y).2)), (sv (st (iL y))), (.ssl (ics (iC y)) 0 ((iC y).length))], pb 4 187 [(iv ((S.getD k dS).1)), (iv ((S.getD k dS).2.1)), (iv ((S.getD k dS).2.2.1)), (iv ((S.getD k dS).2.2.2.1)), (bv (S.getD k dS).2.2.2.2)], pb 5 56 [(iv ((Fr.plus a b ((S.getD k dS).1) ((S.getD k dS).2.1)).1)), (iv ((Fr.plus a b ((S.getD k dS).1) ((S.getD k dS).2.1)).2.1))], pb 6 52 [(iv ((iP y).getD j dPt).1), (iv ((iP y).getD j dPt).2.1), (iv ((iP y).getD j dPt).2.2)]] 2 hc0 [0, 1, 2, 3, 4, 5, 30] [(kb 2, (nos M))] (oc (qal _) (oz)) (by kernel_rfl) rfl rfl (by kernel_rfl) (by kernel_rfl)) ?_
   rintro ⟨⟨i, q⟩, ⟨hi, hq⟩⟩
   dsimp only at hi hq
   refine qaa ?_
   refine T_r mixed [] [ps 0 (.opt 0 0), ps 2 (.ssl (ivs g) 0 g.length), ps 4 (.opt 3 0), ps 7 (.opt 4 0), ps 8 (.opt 5 0), ps 12 (.opt 6 0), ps 45 (.ssl (pts (iP y)) 0 ((iP y).length)), ps 46 (nv ((iP y).length)), ps 47 (nv j), ps 51 (.ssl (ivs g) 0 g.length), ps 52 (nv g.length), ps 53 (nv i), ps 54 (bv (decide (((i : Nat) : Int) < ((g.length : Nat) : Int)))), pb 0 91 [(iv v), (.osl 2 0 M.length), (nv z), (iv a), (iv b), (.ssl (spans S) ((k + 1) * 5) (S.length - (k + 1)))], pb 2 58 (nos M), pb 3 50 [(iv (iK y)), (iv (iS y)), (.ssl (pts (iP y)) 0 ((iP y).length)), (iv ((iB y).1)), (iv ((iB y).2)), (sv (st (iL y))), (.ssl (ics (iC y)) 0 ((iC y).length))], pb 4 187 [(iv ((S.getD k dS).1)), (iv ((S.getD k dS).2.1)), (iv ((S.getD k dS).2.2.1)), (iv ((S.getD k dS).2.2.2.1)), (bv (S.getD k dS).2.2.2.2)], pb 5 56 [(iv ((Fr.plus a b ((S.getD k dS).1) ((S.getD k dS).2.1)).1)), (iv ((Fr.plus a b ((S.getD k dS).1) ((S.getD k dS).2.1)).2.1))], pb 6 52 [(iv q.1), (iv q.2.1), (iv q.2.2)]] (oz) ?_
   refine qaa ?_
   by_cases h7 : ((i : Nat) : Int) < ((g.length : Nat) : Int)
   ·refine T_th (dty h7) ?_
    refine qag <| qaa <| qan <| qaa ?_
    refine T_k mixed [(0, .nat (i * 2)), (1, .cells [(iv ((g.getD i dIv).1)), (iv ((g.getD i dIv).2))])] [.k6, .n, .k6, .d, .k6, .n] [ps 14 (.opt 31 0), pb 31 41 [(iv ((g.getD i dIv).1)), (iv ((g.getD i dIv).2))]] (oc (by omega : (0 : Int) ≤ ((i : Nat) : Int) ∧ ((i : Nat) : Int) < ((g.length : Nat) : Int)) (oc (by omega : 0 + (((i : Nat) : Int) : Int).toNat * 2 = (i * 2)) (oc (qch (fun i : Iv => [iv i.1, iv i.2]) 2 (fun _ => rfl) dIv g i 0 2 (by omega) (by decide) : (i * 2) + 2 ≤ ((ivs g)).length ∧ (((ivs g)).drop (i * 2)).take 2 = [(iv ((g.getD i dIv).1)), (iv ((g.getD i dIv).2))]) oz))) ?_
    refine qaa ?_
    have hgi := hgI i (by omega)
    refine T_k mixed [(2, .call [] [(.agg [(iv q.1), (iv q.2.1), (iv q.2.2)]), (.agg [(iv ((g.getD i dIv).1)), (iv ((g.getD i dIv).2))])] [] (.tup [(.agg [(iv ((Pi.move q.1 q.2.1 q.2.2 ((g.getD i dIv).1) ((g.getD i dIv).2)).1)), (iv ((Pi.move q.1 q.2.1 q.2.2 ((g.getD i dIv).1) ((g.getD i dIv).2)).2.1)), (iv ((Pi.move q.1 q.2.1 q.2.2 ((g.getD i dIv).1) ((g.getD i dIv).2)).2.2.1))]), (iv ((Pi.move q.1 q.2.1 q.2.2 ((g.getD i dIv).1) ((g.getD i dIv).2)).2.2.2))]) [])] [.k5, .n, .k1, .d, .k8, .k3, .d, .n, .d] [ps 9 (iv ((Pi.move q.1 q.2.1 q.2.2 ((g.getD i dIv).1) ((g.getD i dIv).2)).2.2.2)), pb 6 52 [(iv ((Pi.move q.1 q.2.1 q.2.2 ((g.getD i dIv).1) ((g.getD i dIv).2)).1)), (iv ((Pi.move q.1 q.2.1 q.2.2 ((g.getD i dIv).1) ((g.getD i dIv).2)).2.1)), (iv ((Pi.move q.1 q.2.1 q.2.2 ((g.getD i dIv).1) ((g.getD i dIv).2)).2.2.1))]] (oc (move_pc q.1 q.2.1 q.2.2 ((g.getD i dIv).1) ((g.getD i dIv).2) hgi.1 hgi.2) (oc (rfl : Ren0 63 [(.agg [(iv q.1), (iv q.2.1), (iv q.2.2)]), (.agg [(iv ((g.getD i dIv).1)), (iv ((g.getD i dIv).2))])]) oz)) ?_
    refine qaa ?_
    refine T_k mixed [] [.k8, .k5, .n, .r] [ps 64 (bv (!(decide (((Pi.move q.1 q.2.1 q.2.2 ((g.getD i dIv).1) ((g.getD i dIv).2)).2.2.2) = 0))))] (oz) ?_
    by_cases h8 : ((Pi.move q.1 q.2.1 q.2.2 ((g.getD i dIv).1) ((g.getD i dIv).2)).2.2.2) = 0
    ·refine T_el (bt h8) ?_
     refine qag <| qbg ?_
     refine T_k mixed [] [.k5, .d, .k6, .d, .n, .d, .r] [ps 53 (iv (((i : Nat) : Int) + 1))] (oc (by simp only [InK]; omega : InK .i64 (((i : Nat) : Int) + 1)) oz) ?_
     exact qce ⟨(i + 1, (Pi.move q.1 q.2.1 q.2.2 (g.getD i dIv).1 (g.getD i dIv).2).1, (Pi.move q.1 q.2.1 q.2.2 (g.getD i dIv).1 (g.getD i dIv).2).2.1, (Pi.move q.1 q.2.1 q.2.2 (g.getD i dIv).1 (g.getD i dIv).2).2.2.1), ⟨by show i + 1 ≤ g.length; omega, by rw [mvBy_at (by omega), if_pos h8] at hq; exact hq⟩⟩ (Wk.trans (Wk.eq (show _ = [ps 0 (.opt 0 0), ps 2 (.ssl (ivs g) 0 g.length), ps 4 (.opt 3 0), ps 7 (.opt 4 0), ps 8 (.opt 5 0), ps 12 (.opt 6 0), ps 45 (.ssl (pts (iP y)) 0 ((iP y).length)), ps 46 (nv ((iP y).length)), ps 47 (nv j), ps 51 (.ssl (ivs g) 0 g.length), ps 52 (nv g.length), ps 53 (nv (i + 1)), pb 0 91 [(iv v), (.osl 2 0 M.length), (nv z), (iv a), (iv b), (.ssl (spans S) ((k + 1) * 5) (S.length - (k + 1)))], pb 2 58 (nos M), pb 3 50 [(iv (iK y)), (iv (iS y)), (.ssl (pts (iP y)) 0 ((iP y).length)), (iv ((iB y).1)), (iv ((iB y).2)), (sv (st (iL y))), (.ssl (ics (iC y)) 0 ((iC y).length))], pb 4 187 [(iv ((S.getD k dS).1)), (iv ((S.getD k dS).2.1)), (iv ((S.getD k dS).2.2.1)), (iv ((S.getD k dS).2.2.2.1)), (bv (S.getD k dS).2.2.2.2)], pb 5 56 [(iv ((Fr.plus a b ((S.getD k dS).1) ((S.getD k dS).2.1)).1)), (iv ((Fr.plus a b ((S.getD k dS).1) ((S.getD k dS).2.1)).2.1))], pb 6 52 [(iv ((Pi.move q.1 q.2.1 q.2.2 ((g.getD i dIv).1) ((g.getD i dIv).2)).1)), (iv ((Pi.move q.1 q.2.1 q.2.2 ((g.getD i dIv).1) ((g.getD i dIv).2)).2.1)), (iv ((Pi.move q.1 q.2.1 q.2.2 ((g.getD i dIv).1) ((g.getD i dIv).2)).2.2.1))]] from by rfl)) (Wk.ren3 [ps 0 (.opt 0 0), ps 2 (.ssl (ivs g) 0 g.length), ps 4 (.opt 3 0), ps 7 (.opt 4 0), ps 8 (.opt 5 0), ps 12 (.opt 6 0), ps 45 (.ssl (pts (iP y)) 0 ((iP y).length)), ps 46 (nv ((iP y).length)), ps 47 (nv j), ps 51 (.ssl (ivs g) 0 g.length), ps 52 (nv g.length), ps 53 (nv (i + 1)), pb 0 91 [(iv v), (.osl 2 0 M.length), (nv z), (iv a), (iv b), (.ssl (spans S) ((k + 1) * 5) (S.length - (k + 1)))], pb 2 58 (nos M), pb 3 50 [(iv (iK y)), (iv (iS y)), (.ssl (pts (iP y)) 0 ((iP y).length)), (iv ((iB y).1)), (iv ((iB y).2)), (sv (st (iL y))), (.ssl (ics (iC y)) 0 ((iC y).length))], pb 4 187 [(iv ((S.getD k dS).1)), (iv ((S.getD k dS).2.1)), (iv ((S.getD k dS).2.2.1)), (iv ((S.getD k dS).2.2.2.1)), (bv (S.getD k dS).2.2.2.2)], pb 5 56 [(iv ((Fr.plus a b ((S.getD k dS).1) ((S.getD k dS).2.1)).1)), (iv ((Fr.plus a b ((S.getD k dS).1) ((S.getD k dS).2.1)).2.1))], pb 6 52 [(iv ((Pi.move q.1 q.2.1 q.2.2 (g.getD i dIv).1 (g.getD i dIv).2).1, (Pi.move q.1 q.2.1 q.2.2 (g.getD i dIv).1 (g.getD i dIv).2).2.1, (Pi.move q.1 q.2.1 q.2.2 (g.getD i dIv).1 (g.getD i dIv).2).2.2.1).1), (iv ((Pi.move q.1 q.2.1 q.2.2 (g.getD i dIv).1 (g.getD i dIv).2).1, (Pi.move q.1 q.2.1 q.2.2 (g.getD i dIv).1 (g.getD i dIv).2).2.1, (Pi.move q.1 q.2.1 q.2.2 (g.getD i dIv).1 (g.getD i dIv).2).2.2.1).2.1), (iv ((Pi.move q.1 q.2.1 q.2.2 (g.getD i dIv).1 (g.getD i dIv).2).1, (Pi.move q.1 q.2.1 q.2.2 (g.getD i dIv).1 (g.getD i dIv).2).2.1, (Pi.move q.1 q.2.1 q.2.2 (g.getD i dIv).1 (g.getD i dIv).2).2.2.1).2.2)]] 2 hc0 [0, 1, 2, 3, 4, 5, 6] [(kb 2, (nos M))] (oc (qal _) (oz)) (by kernel_rfl) rfl rfl (by kernel_rfl) (by kernel_rfl))) (show g.length - (i + 1) < g.length - i from by show g.length - (i + 1) < g.length - i; omega)
    refine T_th (bf h8) ?_
    refine qaa ?_
    refine T_k mixed [] [.d, .d, .d, .n, .d, .d, .d, .d, .d, .d, .d, .d, .d, .d, .d, .k2, .d, .d, .d, .d] [ps 6 (iv ((Pi.move q.1 q.2.1 q.2.2 ((g.getD i dIv).1) ((g.getD i dIv).2)).2.2.2))] (oz) ?_
    rw [mvBy_at (by omega), if_neg h8] at hq
    have hT2 : qca v ((Fr.plus a b (S.getD k dS).1 (S.getD k dS).2.1).1, (Fr.plus a b (S.getD k dS).1 (S.getD k dS).2.1).2.1) ((S.getD k dS).2.2.1, (S.getD k dS).2.2.2.1) (iL y) g (iP y) N = (M, ((Pi.move q.1 q.2.1 q.2.2 ((g.getD i dIv).1) ((g.getD i dIv).2)).2.2.2)) := by rw [← hT, qwf (by omega), ← hq, if_neg h8]
    have hR : (qar v a b S y g (N, z, k)) = (((Pi.move q.1 q.2.1 q.2.2 ((g.getD i dIv).1) ((g.getD i dIv).2)).2.2.2), M, z, k + 1) := by unfold qar; dsimp only; rw [if_pos h1, if_neg h2, if_neg h3, hT2, if_neg h8]
    rw [hR]
    exact qai fun cx_ a_ hI_ => qav (qav (qby (H' := [some (91, [(iv v), (.osl 2 0 ((M).length)), (nv z), (iv a), (iv b), (.ssl (spans S) ((k + 1) * 5) (S.length - (k + 1)))]), none, some (58, (nos M))]) (.inr rfl) (Wk.ren3 [ps 6 (iv ((Pi.move q.1 q.2.1 q.2.2 ((g.getD i dIv).1) ((g.getD i dIv).2)).2.2.2)), pb 0 91 [(iv v), (.osl 2 0 M.length), (nv z), (iv a), (iv b), (.ssl (spans S) ((k + 1) * 5) (S.length - (k + 1)))], pb 2 58 (nos M)] 2 hc0 [0, 1, 2] [(kb 2, (nos M))] (oc (qal _) (oz)) (by kernel_rfl) rfl rfl (by kernel_rfl) (by kernel_rfl)) rfl (oc rfl (oc rfl (oz))) (fun cx_ a_ hI_ => qbc (l' := [ps 6 (iv ((Pi.move q.1 q.2.1 q.2.2 ((g.getD i dIv).1) ((g.getD i dIv).2)).2.2.2)), pb 0 91 [(iv v), (.osl 2 0 M.length), (nv z), (iv a), (iv b), (.ssl (spans S) ((k + 1) * 5) (S.length - (k + 1)))], pb 2 58 (nos M)]) (by kernel_rfl) cx_ a_ hI_) hI_))
   refine T_el (dtn h7) ?_
   refine qbu rfl rfl ?_
   have hq2 : mvBy ((iP y).getD j dPt) g = (q, 0) := by rw [← hq, List.drop_eq_nil_of_le (by omega), mvBy]
   refine T_kd mixed [(17, .app none (some (nos (M ++ [(v, ((Fr.plus a b ((S.getD k dS).1) ((S.getD k dS).2.1)).1, (Fr.plus a b ((S.getD k dS).1) ((S.getD k dS).2.1)).2.1), ((S.getD k dS).2.2.1, (S.getD k dS).2.2.2.1), (q.1, q.2.1, q.2.2), (iL y))]))))] [[], [], [1], [1, 2], [1, 2, 3], [], [5], [5, 6], [5, 6, 7], [], [], [10], [], [], [13], [5, 6, 7, 8, 9, 10, 11, 12, 13, 14], [5, 6, 7, 8, 9, 10, 11, 12, 13, 14, 15], [1, 2, 3, 4, 5, 6, 7, 8, 9, 10, 11, 12, 13, 14, 15, 16], [0, 1, 2, 3, 4, 5, 6, 7, 8, 9, 10, 11, 12, 13, 14, 15, 16, 17], [0, 1, 2, 3, 4, 5, 6, 7, 8, 9, 10, 11, 12, 13, 14, 15, 16, 17, 18], [0, 1, 2, 3, 4, 5, 6, 7, 8, 9, 10, 11, 12, 13, 14, 15, 16, 17, 18, 19]] [([134], [0]), ([136], [0]), ([138], [136]), ([140], [138]), ([142], [1, 140]), ([144], [0]), ([146], [144]), ([148], [146]), ([150], [1, 148]), ([152], [11, 16]), ([154], [14]), ([156], [9, 154]), ([158], [13, 24]), ([160], [8]), ([162], [7, 160]), ([164], [150, 152, 156, 158, 162]), ([166, 287], [164]), ([168, 5, 303], [5, 142, 166, 287]), ([170], [134]), ([172], [170]), ([1], [1, 168, 172])] [.k5, .d, .k3, .d, .d, .d, .d, .d, .n, .d, .k3, .d, .n] [pb 0 91 [(iv v), (.osl 151 0 (M.length + 1)), (nv z), (iv a), (iv b), (.ssl (spans S) ((k + 1) * 5) (S.length - (k + 1)))], pb 151 58 (nos (M ++ [(v, ((Fr.plus a b ((S.getD k dS).1) ((S.getD k dS).2.1)).1, (Fr.plus a b ((S.getD k dS).1) ((S.getD k dS).2.1)).2.1), ((S.getD k dS).2.2.1, (S.getD k dS).2.2.2.1), (q.1, q.2.1, q.2.2), (iL y))]))] (oc (qlh _ : ((nos M)).length = M.length * 9) (oc (by omega : (M.length + 1) * 80 ≤ 140737488355328 ∧ M.length + 1 ≤ 9223372036854775807) (oc ((qih noC M [(v, ((Fr.plus a b ((S.getD k dS).1) ((S.getD k dS).2.1)).1, (Fr.plus a b ((S.getD k dS).1) ((S.getD k dS).2.1)).2.1), ((S.getD k dS).2.2.1, (S.getD k dS).2.2.2.1), (q.1, q.2.1, q.2.2), (iL y))]).symm : (nos M) ++ [(iv v), (iv ((Fr.plus a b ((S.getD k dS).1) ((S.getD k dS).2.1)).1)), (iv ((Fr.plus a b ((S.getD k dS).1) ((S.getD k dS).2.1)).2.1)), (iv ((S.getD k dS).2.2.1)), (iv ((S.getD k dS).2.2.2.1)), (iv q.1), (iv q.2.1), (iv q.2.2), (sv (st (iL y)))] = (nos (M ++ [(v, ((Fr.plus a b ((S.getD k dS).1) ((S.getD k dS).2.1)).1, (Fr.plus a b ((S.getD k dS).1) ((S.getD k dS).2.1)).2.1), ((S.getD k dS).2.2.1, (S.getD k dS).2.2.2.1), (q.1, q.2.1, q.2.2), (iL y))]))) oz))) ?_
   refine qbg ?_
   refine T_k mixed [] [.k7, .d, .n, .r] [ps 47 (iv (((j : Nat) : Int) + 1))] (oc (by simp only [InK]; omega : InK .i64 (((j : Nat) : Int) + 1)) oz) ?_
   exact qce ⟨(j + 1, M ++ [(v, ((Fr.plus a b ((S.getD k dS).1) ((S.getD k dS).2.1)).1, (Fr.plus a b ((S.getD k dS).1) ((S.getD k dS).2.1)).2.1), ((S.getD k dS).2.2.1, (S.getD k dS).2.2.2.1), (q.1, q.2.1, q.2.2), (iL y))]), ⟨by show j + 1 ≤ (iP y).length; omega, by show (M ++ [(v, ((Fr.plus a b ((S.getD k dS).1) ((S.getD k dS).2.1)).1, (Fr.plus a b ((S.getD k dS).1) ((S.getD k dS).2.1)).2.1), ((S.getD k dS).2.2.1, (S.getD k dS).2.2.2.1), (q.1, q.2.1, q.2.2), (iL y))]).length = N.length + (j + 1); rw [List.length_append, hML]; rfl, by rw [qwf (by omega), hq2, if_pos rfl] at hT; exact hT⟩⟩ (Wk.trans (Wk.eq (show _ = [ps 0 (.opt 0 0), ps 2 (.ssl (ivs g) 0 g.length), ps 4 (.opt 3 0), ps 7 (.opt 4 0), ps 8 (.opt 5 0), ps 45 (.ssl (pts (iP y)) 0 ((iP y).length)), ps 46 (nv ((iP y).length)), ps 47 (nv (j + 1)), pb 0 91 [(iv v), (.osl 151 0 ((M ++ [(v, ((Fr.plus a b ((S.getD k dS).1) ((S.getD k dS).2.1)).1, (Fr.plus a b ((S.getD k dS).1) ((S.getD k dS).2.1)).2.1), ((S.getD k dS).2.2.1, (S.getD k dS).2.2.2.1), (q.1, q.2.1, q.2.2), (iL y))]).length)), (nv z), (iv a), (iv b), (.ssl (spans S) ((k + 1) * 5) (S.length - (k + 1)))], pb 3 50 [(iv (iK y)), (iv (iS y)), (.ssl (pts (iP y)) 0 ((iP y).length)), (iv ((iB y).1)), (iv ((iB y).2)), (sv (st (iL y))), (.ssl (ics (iC y)) 0 ((iC y).length))], pb 4 187 [(iv ((S.getD k dS).1)), (iv ((S.getD k dS).2.1)), (iv ((S.getD k dS).2.2.1)), (iv ((S.getD k dS).2.2.2.1)), (bv (S.getD k dS).2.2.2.2)], pb 5 56 [(iv ((Fr.plus a b ((S.getD k dS).1) ((S.getD k dS).2.1)).1)), (iv ((Fr.plus a b ((S.getD k dS).1) ((S.getD k dS).2.1)).2.1))], pb 151 58 (nos (M ++ [(v, ((Fr.plus a b ((S.getD k dS).1) ((S.getD k dS).2.1)).1, (Fr.plus a b ((S.getD k dS).1) ((S.getD k dS).2.1)).2.1), ((S.getD k dS).2.2.1, (S.getD k dS).2.2.2.1), (q.1, q.2.1, q.2.2), (iL y))]))] from by rw [List.length_append]; rfl)) (Wk.ren3 [ps 0 (.opt 0 0), ps 2 (.ssl (ivs g) 0 g.length), ps 4 (.opt 3 0), ps 7 (.opt 4 0), ps 8 (.opt 5 0), ps 45 (.ssl (pts (iP y)) 0 ((iP y).length)), ps 46 (nv ((iP y).length)), ps 47 (nv (j + 1)), pb 0 91 [(iv v), (.osl 2 0 (M ++ [(v, ((Fr.plus a b ((S.getD k dS).1) ((S.getD k dS).2.1)).1, (Fr.plus a b ((S.getD k dS).1) ((S.getD k dS).2.1)).2.1), ((S.getD k dS).2.2.1, (S.getD k dS).2.2.2.1), (q.1, q.2.1, q.2.2), (iL y))]).length), (nv z), (iv a), (iv b), (.ssl (spans S) ((k + 1) * 5) (S.length - (k + 1)))], pb 2 58 (nos (M ++ [(v, ((Fr.plus a b ((S.getD k dS).1) ((S.getD k dS).2.1)).1, (Fr.plus a b ((S.getD k dS).1) ((S.getD k dS).2.1)).2.1), ((S.getD k dS).2.2.1, (S.getD k dS).2.2.2.1), (q.1, q.2.1, q.2.2), (iL y))])), pb 3 50 [(iv (iK y)), (iv (iS y)), (.ssl (pts (iP y)) 0 ((iP y).length)), (iv ((iB y).1)), (iv ((iB y).2)), (sv (st (iL y))), (.ssl (ics (iC y)) 0 ((iC y).length))], pb 4 187 [(iv ((S.getD k dS).1)), (iv ((S.getD k dS).2.1)), (iv ((S.getD k dS).2.2.1)), (iv ((S.getD k dS).2.2.2.1)), (bv (S.getD k dS).2.2.2.2)], pb 5 56 [(iv ((Fr.plus a b ((S.getD k dS).1) ((S.getD k dS).2.1)).1)), (iv ((Fr.plus a b ((S.getD k dS).1) ((S.getD k dS).2.1)).2.1))]] 2 hc0 [0, 1, 151, 3, 4, 5] [(kb 2, (nos (M ++ [(v, ((Fr.plus a b ((S.getD k dS).1) ((S.getD k dS).2.1)).1, (Fr.plus a b ((S.getD k dS).1) ((S.getD k dS).2.1)).2.1), ((S.getD k dS).2.2.1, (S.getD k dS).2.2.2.1), (q.1, q.2.1, q.2.2), (iL y))])))] (oc (qal _) (oz)) (by kernel_rfl) rfl rfl (by kernel_rfl) (by kernel_rfl))) (show (iP y).length - (j + 1) < (iP y).length - j from by show (iP y).length - (j + 1) < (iP y).length - j; omega)
  refine T_el (dtn h6) ?_
  refine qbu rfl rfl ?_
  refine T_r mixed [] [pb 0 91 [(iv v), (.osl 2 0 M.length), (nv ((iP y).length)), (iv a), (iv b), (.ssl (spans S) ((k + 1) * 5) (S.length - (k + 1)))], pb 2 58 (nos M)] (oz) ?_
  refine qbg <| qaa ?_
  refine T_k mixed [] [.n, .r] [ps 6 (iv 0)] (oz) ?_
  have hT2 : qca v ((Fr.plus a b (S.getD k dS).1 (S.getD k dS).2.1).1, (Fr.plus a b (S.getD k dS).1 (S.getD k dS).2.1).2.1) ((S.getD k dS).2.2.1, (S.getD k dS).2.2.2.1) (iL y) g (iP y) N = (M, 0) := by rw [← hT, List.drop_eq_nil_of_le (by omega), qca]
  have hR : (qar v a b S y g (N, z, k)) = (0, M, (iP y).length, k + 1) := by unfold qar; dsimp only; rw [if_pos h1, if_neg h2, if_neg h3, hT2, if_pos rfl]
  rw [hR]
  exact qai fun cx_ a_ hI_ => qby (H' := [some (91, [(iv v), (.osl 2 0 ((M).length)), (nv ((iP y).length)), (iv a), (iv b), (.ssl (spans S) ((k + 1) * 5) (S.length - (k + 1)))]), none, some (58, (nos M))]) (.inr rfl) (Wk.ren3 [ps 6 (iv 0), pb 0 91 [(iv v), (.osl 2 0 M.length), (nv ((iP y).length)), (iv a), (iv b), (.ssl (spans S) ((k + 1) * 5) (S.length - (k + 1)))], pb 2 58 (nos M)] 2 hc0 [0, 1, 2] [(kb 2, (nos M))] (oc (qal _) (oz)) (by kernel_rfl) rfl rfl (by kernel_rfl) (by kernel_rfl)) rfl (oc rfl (oc rfl (oz))) (fun cx_ a_ hI_ => qbc (l' := [ps 6 (iv 0), pb 0 91 [(iv v), (.osl 2 0 M.length), (nv ((iP y).length)), (iv a), (iv b), (.ssl (spans S) ((k + 1) * 5) (S.length - (k + 1)))], pb 2 58 (nos M)]) (by kernel_rfl) cx_ a_ hI_) hI_
 refine T_th (bf h1) ?_
 refine qaa ?_
 refine T_k mixed [] [.d, .d, .d, .n, .d, .d, .d, .d, .k2, .d, .d, .d] [ps 6 (iv ((Fr.plus a b ((S.getD k dS).1) ((S.getD k dS).2.1)).2.2))] (oz) ?_
 have hR : (qar v a b S y g (N, z, k)) = (((Fr.plus a b ((S.getD k dS).1) ((S.getD k dS).2.1)).2.2), N, z, k + 1) := by unfold qar; dsimp only; rw [if_neg h1]
 rw [hR]
 exact qai fun cx_ a_ hI_ => qby (H' := [some (91, [(iv v), (.osl 2 0 ((N).length)), (nv z), (iv a), (iv b), (.ssl (spans S) ((k + 1) * 5) (S.length - (k + 1)))]), none, some (58, (nos N))]) (.inr rfl) (Wk.ren3D [ps 6 (iv ((Fr.plus a b ((S.getD k dS).1) ((S.getD k dS).2.1)).2.2)), pb 0 91 [(iv v), (.osl 2 0 N.length), (nv z), (iv a), (iv b), (.ssl (spans S) ((k + 1) * 5) (S.length - (k + 1)))], pb 2 58 (nos N)] 2 hc0 [0, 1, 1] [(kb 2, (nos N))] (oc (qal _) (oz)) (by kernel_rfl) rfl (by kernel_rfl) (by kernel_rfl) (by kernel_rfl)) rfl (oc rfl (oc rfl (oz))) (fun cx_ a_ hI_ => qbc (l' := [ps 6 (iv ((Fr.plus a b ((S.getD k dS).1) ((S.getD k dS).2.1)).2.2)), pb 0 91 [(iv v), (.osl 2 0 N.length), (nv z), (iv a), (iv b), (.ssl (spans S) ((k + 1) * 5) (S.length - (k + 1)))], pb 2 58 (nos N)]) (by kernel_rfl) cx_ a_ hI_) hI_
end Go.Proofs.YtmlnilkbolcknaaGreatDoor.Pm
namespace Go.Proofs.YtmlnilkbolcknaaGreatDoor.Pm
open Go Fr

mutual
/-- An item, told. -/
def telI (v a b : Int) (S : List Sp) : It → List Iv → TsS → Int × TsS
 | .mk k s ps by_ ly ks, g, t => if k = 4 then telL v a b S ks g t else if k = 5 then telL v a b S ks (by_ :: g) t else qar v a b S (.mk k s ps by_ ly ks) g t
def telL (v a b : Int) (S : List Sp) : List It → List Iv → TsS → Int × TsS
 | [], _, t => (0, t)
 | x :: l, g, t => if (telI v a b S x g t).1 = 0 then telL v a b S l g (telI v a b S x g t).2 else telI v a b S x g t
end
theorem telI_eq {v a b : Int} {S : List Sp} (x : It) (g : List Iv) (t : TsS) : telI v a b S x g t = if iK x = 4 then telL v a b S (iC x) g t else if iK x = 5 then telL v a b S (iC x) (iB x :: g) t else qar v a b S x g t := by
 cases x with | mk k s ps by_ ly ks => rw [telI]; rfl
theorem telL_at {v a b : Int} {S : List Sp} {l : List It} {i : Nat} {g : List Iv} {t : TsS} (h : i < l.length) : telL v a b S (l.drop i) g t = if (telI v a b S (l.getD i dIt) g t).1 = 0 then telL v a b S (l.drop (i + 1)) g (telI v a b S (l.getD i dIt) g t).2 else telI v a b S (l.getD i dIt) g t := by
 rw [List.drop_eq_getElem_cons h, List.getD_eq_getElem?_getD, List.getElem?_eq_getElem h, telL]; rfl
mutual
/-- So many spans an item takes. -/
def lvs : It → Nat
 | .mk k _ _ _ _ ks => if k = 4 ∨ k = 5 then lvsL ks else 1
def lvsL : List It → Nat
 | [] => 0
 | x :: l => lvs x + lvsL l
end
theorem lvs_eq (x : It) : lvs x = if iK x = 4 ∨ iK x = 5 then lvsL (iC x) else 1 := by cases x with | mk k s ps by_ ly ks => rw [lvs]; rfl
theorem lvsL_at {l : List It} {i : Nat} (h : i < l.length) : lvsL (l.drop i) = lvs (l.getD i dIt) + lvsL (l.drop (i + 1)) := by
 rw [List.drop_eq_getElem_cons h, List.getD_eq_getElem?_getD, List.getElem?_eq_getElem h, lvsL]; rfl
mutual
/-- So deep. -/
def hgt : It → Nat
 | .mk _ _ _ _ _ ks => hgtL ks + 1
def hgtL : List It → Nat
 | [] => 0
 | x :: l => max (hgt x) (hgtL l)
end
theorem hgt_eq (x : It) : hgt x = hgtL (iC x) + 1 := by cases x with | mk k s ps by_ ly ks => rw [hgt]; rfl
theorem hgt_at : ∀ {l : List It} {i : Nat}, i < l.length → hgt (l.getD i dIt) ≤ hgtL l
 | [], i, h => absurd h (Nat.not_lt_zero i)
 | x :: l, 0, _ => by rw [hgtL]; exact Nat.le_max_left _ _
 | x :: l, i + 1, h => by
  rw [hgtL]
  have := hgt_at (l := l) (i := i) (by simpa using h)
  refine Nat.le_trans ?_ (Nat.le_max_right _ _)
  simpa using this
mutual
/-- No chord of it has more than sixteen pitches. -/
def okI : It → Prop
 | .mk k _ ps _ _ ks => (k = 4 ∨ k = 5 ∨ ps.length ≤ 16) ∧ okL ks
def okL : List It → Prop
 | [] => True
 | x :: l => okI x ∧ okL l
end
theorem okI_eq (x : It) : okI x ↔ (iK x = 4 ∨ iK x = 5 ∨ (iP x).length ≤ 16) ∧ okL (iC x) := by cases x with | mk k s ps by_ ly ks => rw [okI]; rfl
theorem ok_at : ∀ {l : List It} {i : Nat}, okL l → i < l.length → okI (l.getD i dIt)
 | [], i, _, h => absurd h (Nat.not_lt_zero i)
 | x :: l, 0, h, _ => by rw [okL] at h; exact h.1
 | x :: l, i + 1, h, hi => by
  rw [okL] at h
  have := ok_at (i := i) h.2 (by simpa using hi)
  simpa using this

theorem ivs_len (g : List Iv) : (ivs g).length = g.length * 2 := qcz (fun i : Iv => [iv i.1, iv i.2]) 2 (fun _ => rfl) g
theorem ivs_src (g : List Iv) : 0 + g.length * 2 ≤ (ivs g).length ∧ ((ivs g).drop 0).take (g.length * 2) = ivs g := by
 rw [List.drop_zero, List.take_of_length_le (by rw [ivs_len]; omega), ivs_len]
 exact ⟨by omega, rfl⟩
theorem ivs_cons (i : Iv) (g : List Iv) : [iv i.1, iv i.2] ++ ivs g = ivs (i :: g) := by unfold ivs; rw [List.flatMap_cons]
/-! ### what stays -/
def lgI (n : Nt) : Prop := I64 n.2.2.1.1 ∧ I64 n.2.2.1.2
def okTs (t : TsS) : Prop := t.2.1 ≤ t.1.length ∧ ∀ n ∈ t.1, lgI n
theorem okTs_at {t : TsS} (h : okTs t) : ∀ i, i < t.1.length → I64 (t.1.getD i dNt).2.2.1.1 ∧ I64 (t.1.getD i dNt).2.2.1.2 := fun i hi => by
 rw [List.getD_eq_getElem?_getD, List.getElem?_eq_getElem hi]
 exact h.2 _ (List.getElem_mem hi)
theorem qys {u d : Int} : ∀ l : List Nt, (tieL u d l).1.length = l.length ∧ ((tieL u d l).2 = 0 → (∀ n ∈ l, lgI n) → ∀ n ∈ (tieL u d l).1, lgI n)
 | [] => ⟨rfl, fun _ h => h⟩
 | n :: l => by
  have ih := qys (u := u) (d := d) l
  rw [tieL]
  split
  ·rename_i h0
   refine ⟨by simp [ih.1], fun h1 h2 m hm => ?_⟩
   rcases List.mem_cons.1 hm with rfl | hm
   ·exact qif (qqh h0)
   ·exact ih.2 h1 (fun n hn => h2 n (by simp [hn])) m hm
  ·rename_i h0
   exact ⟨by simp, fun h1 => absurd h1 h0⟩
theorem tieF_ok {u d : Int} {N : List Nt} {i : Nat} : (tieF u d N i).1.length = N.length ∧ ((tieF u d N i).2 = 0 → (∀ n ∈ N, lgI n) → ∀ n ∈ (tieF u d N i).1, lgI n) := by
 have h := qys (u := u) (d := d) (N.drop i)
 unfold tieF
 refine ⟨by simp only [List.length_append, h.1, List.length_take, List.length_drop]; omega, fun h1 h2 n hn => ?_⟩
 rcases List.mem_append.1 hn with hn | hn
 ·exact h2 n (List.mem_of_mem_take hn)
 ·exact h.2 h1 (fun m hm => h2 m (List.mem_of_mem_drop hm)) n hn
theorem qwd {v : Int} {s gg : Int × Int} {ly : Txt} {by_ : List Iv} (hg : I64 gg.1 ∧ I64 gg.2) : ∀ (ps : List Pt) (N : List Nt), (qca v s gg ly by_ ps N).2 = 0 → (∀ n ∈ N, lgI n) →
  (qca v s gg ly by_ ps N).1.length = N.length + ps.length ∧ ∀ n ∈ (qca v s gg ly by_ ps N).1, lgI n
 | [], N, _, h2 => ⟨rfl, h2⟩
 | p :: ps, N, h1, h2 => by
  rw [qca] at h1 ⊢
  split at h1
  ·rename_i h0
   rw [if_pos h0]
   have ih := qwd (v := v) (s := s) (ly := ly) (by_ := by_) hg ps (N ++ [(v, s, gg, (mvBy p by_).1, ly)]) h1 (fun n hn => by
    rcases List.mem_append.1 hn with hn | hn
    ·exact h2 n hn
    ·rw [List.mem_singleton.1 hn]; exact hg)
   exact ⟨by rw [ih.1]; simp only [List.length_append, List.length_cons, List.length_nil]; omega, ih.2⟩
  ·rename_i h0
   exact absurd h1 h0
theorem leaf_keep {v a b : Int} {S : List Sp} {x : It} {g : List Iv} {t : TsS} (hg : I64 (S.getD t.2.2 dS).2.2.1 ∧ I64 (S.getD t.2.2 dS).2.2.2.1) (ht : okTs t) (h0 : (qar v a b S x g t).1 = 0) :
  okTs (qar v a b S x g t).2 ∧ (qar v a b S x g t).2.1.length ≤ t.1.length + (iP x).length ∧ (qar v a b S x g t).2.2.2 = t.2.2 + 1 := by
 unfold qar at h0 ⊢
 split at h0
 ·rename_i c1
  rw [if_pos c1]
  split at h0
  ·rename_i c2
   rw [if_pos c2]
   exact ⟨⟨Nat.zero_le _, ht.2⟩, Nat.le_add_right _ _, rfl⟩
  ·rename_i c2
   rw [if_neg c2]
   split at h0
   ·rename_i c3
    rw [if_pos c3]
    have h := tieF_ok (u := (S.getD t.2.2 dS).2.2.1) (d := (S.getD t.2.2 dS).2.2.2.1) (N := t.1) (i := t.1.length - t.2.1)
    exact ⟨⟨by show t.2.1 ≤ _; rw [h.1]; exact ht.1, h.2 h0 ht.2⟩, by show (tieF _ _ _ _).1.length ≤ _; rw [h.1]; omega, rfl⟩
   ·rename_i c3
    rw [if_neg c3]
    have h := qwd (v := v) (s := ((plus a b (S.getD t.2.2 dS).1 (S.getD t.2.2 dS).2.1).1, (plus a b (S.getD t.2.2 dS).1 (S.getD t.2.2 dS).2.1).2.1)) (gg := ((S.getD t.2.2 dS).2.2.1, (S.getD t.2.2 dS).2.2.2.1)) (ly := iL x) (by_ := g) hg (iP x) t.1 h0 ht.2
    refine ⟨⟨?_, h.2⟩, by show (qca _ _ _ _ _ _ _).1.length ≤ _; rw [h.1]; omega, rfl⟩
    show (if _ then (iP x).length else t.2.1) ≤ (qca _ _ _ _ _ _ _).1.length
    rw [if_pos h0, h.1]
    omega
 ·rename_i c1
  exact absurd h0 c1
mutual
theorem qpq {v a b : Int} {S : List Sp} (hS : ∀ i, i < S.length → I64 (S.getD i dS).2.2.1 ∧ I64 (S.getD i dS).2.2.2.1) : ∀ (x : It) (g : List Iv) (t : TsS), okI x → okTs t → t.2.2 + lvs x ≤ S.length → (telI v a b S x g t).1 = 0 →
  okTs (telI v a b S x g t).2 ∧ (telI v a b S x g t).2.1.length ≤ t.1.length + 16 * lvs x ∧ (telI v a b S x g t).2.2.2 = t.2.2 + lvs x
 | .mk k s ps by_ ly ks, g, t, ho, ht, hk, h0 => by
  rw [okI] at ho
  rw [lvs] at hk ⊢
  rw [telI] at h0 ⊢
  by_cases c4 : k = 4
  ·rw [if_pos c4] at h0 ⊢
   rw [if_pos (.inl c4)] at hk ⊢
   exact qhs hS ks g t ho.2 ht hk h0
  rw [if_neg c4] at h0 ⊢
  by_cases c5 : k = 5
  ·rw [if_pos c5] at h0 ⊢
   rw [if_pos (.inr c5)] at hk ⊢
   exact qhs hS ks _ t ho.2 ht hk h0
  rw [if_neg c5] at h0 ⊢
  rw [if_neg (by omega)] at hk ⊢
  have h := leaf_keep (hS t.2.2 (by omega)) ht h0
  refine ⟨h.1, ?_, h.2.2⟩
  have hp : ps.length ≤ 16 := by omega
  have h2 := h.2.1
  simp only [iP] at h2
  omega
theorem qhs {v a b : Int} {S : List Sp} (hS : ∀ i, i < S.length → I64 (S.getD i dS).2.2.1 ∧ I64 (S.getD i dS).2.2.2.1) : ∀ (l : List It) (g : List Iv) (t : TsS), okL l → okTs t → t.2.2 + lvsL l ≤ S.length → (telL v a b S l g t).1 = 0 →
  okTs (telL v a b S l g t).2 ∧ (telL v a b S l g t).2.1.length ≤ t.1.length + 16 * lvsL l ∧ (telL v a b S l g t).2.2.2 = t.2.2 + lvsL l
 | [], g, t, _, ht, _, _ => by rw [telL]; exact ⟨ht, Nat.le_add_right _ _, rfl⟩
 | x :: l, g, t, ho, ht, hk, h0 => by
  rw [okL] at ho
  rw [lvsL] at hk ⊢
  rw [telL] at h0 ⊢
  split at h0
  ·rename_i c
   rw [if_pos c]
   have h1 := qpq hS x g t ho.1 ht (by omega) c
   have h2 := qhs hS l g (telI v a b S x g t).2 ho.2 h1.1 (by omega) h0
   exact ⟨h2.1, by have := h1.2.1; have := h2.2.1; omega, by have := h1.2.2; have := h2.2.2; omega⟩
  ·rename_i c
   exact absurd h0 c
end
end Go.Proofs.YtmlnilkbolcknaaGreatDoor.Pm
namespace Go.Proofs.YtmlnilkbolcknaaGreatDoor.Pm
open Go Fr

set_option maxRecDepth 100000 in
set_option maxHeartbeats 4000000 in
theorem tel_step (l : List It) (g : List Iv) (v a b : Int) (S : List Sp) (N : List Nt) (z k : Nat) (hSl : S.length ≤ 100000) (hab : I64 a ∧ I64 b) (hSr : ∀ i, i < S.length → I64 (S.getD i dS).1 ∧ I64 (S.getD i dS).2.1 ∧ I64 (S.getD i dS).2.2.1 ∧ I64 (S.getD i dS).2.2.2.1) (ih : ∀ c : List It, SizeOf.sizeOf c < SizeOf.sizeOf l → ∀ (g : List Iv) (N : List Nt) (z k : Nat), fitL c → c.length ≤ 1466015503658 → okL c → okTs (N, z, k) → k + lvsL c ≤ S.length → N.length + 16 * lvsL c ≤ 100000000000 → g.length + hgtL c ≤ 40 → (∀ i, i < g.length → i64r (g.getD i dIv).1 ∧ i64r (g.getD i dIv).2) → PC Tryz.prog 68 [.opt 0 0, .ssl (ics c) 0 c.length, .ssl (ivs g) 0 g.length] [some (91, [(iv v), (.osl 1 0 N.length), (nv z), (iv a), (iv b), (.ssl (spans S) (k * 5) (S.length - k))]), some (58, (nos N))] (iv (telL v a b S c g (N, z, k)).1) [some (91, [(iv v), (.osl 2 0 ((((telL v a b S c g (N, z, k))).2.1).length)), (nv (((telL v a b S c g (N, z, k))).2.2.1)), (iv a), (iv b), (.ssl (spans S) ((((telL v a b S c g (N, z, k))).2.2.2) * 5) (S.length - (((telL v a b S c g (N, z, k))).2.2.2)))]), none, some (58, (nos (((telL v a b S c g (N, z, k))).2.1)))]) (hfl : fitL l) (hll : l.length ≤ 1466015503658) (hol : okL l) (hok0 : okTs (N, z, k)) (hk0 : k + lvsL l ≤ S.length) (hN0 : N.length + 16 * lvsL l ≤ 100000000000) (hgh : g.length + hgtL l ≤ 40) (hgI : ∀ i, i < g.length → i64r (g.getD i dIv).1 ∧ i64r (g.getD i dIv).2) : PC Tryz.prog 68 [(.opt 0 0), (.ssl (ics l) 0 l.length), (.ssl (ivs g) 0 g.length)] [some (91, [(iv v), (.osl 1 0 N.length), (nv z), (iv a), (iv b), (.ssl (spans S) (k * 5) (S.length - k))]), some (58, (nos N))] (iv (((telL v a b S l g (N, z, k))).1)) [some (91, [(iv v), (.osl 2 0 ((((telL v a b S l g (N, z, k))).2.1).length)), (nv (((telL v a b S l g (N, z, k))).2.2.1)), (iv a), (iv b), (.ssl (spans S) ((((telL v a b S l g (N, z, k))).2.2.2) * 5) (S.length - (((telL v a b S l g (N, z, k))).2.2.2)))]), none, some (58, (nos (((telL v a b S l g (N, z, k))).2.1)))] := by
 refine qas Tryz.func68 rfl (by kernel_rfl) (Nat.le_of_ble_eq_true rfl) (by kernel_rfl) (l0 := [ps 0 (.opt 0 0), ps 1 (.ssl (ics l) 0 l.length), ps 2 (.ssl (ivs g) 0 g.length), pb 0 91 [(iv v), (.osl 1 0 N.length), (nv z), (iv a), (iv b), (.ssl (spans S) (k * 5) (S.length - k))], pb 1 58 (nos N)]) rfl (fun c0 Bor hc0 => ?_)
 refine qaa ?_
 refine T_k mixed [] [.r] [] (oz) ?_
 refine qaa <| qaa ?_
 refine T_k mixed [] [.k1, .d, .k1, .n, .n, .n, .r] [ps 10 (.ssl (ics l) 0 l.length), ps 11 (nv l.length), ps 12 (iv 0)] (oz) ?_
 refine qan ?_
 refine qcm (α := {x : Nat × TsS // x.1 ≤ l.length ∧ telL v a b S (l.drop x.1) g (x.2.1, x.2.2.1, x.2.2.2) = telL v a b S l g (N, z, k) ∧ okTs (x.2.1, x.2.2.1, x.2.2.2) ∧ x.2.2.2 + lvsL (l.drop x.1) ≤ S.length ∧ x.2.1.length + 16 * lvsL (l.drop x.1) ≤ 100000000000}) (fun x => [ps 0 (.opt 0 0), ps 2 (.ssl (ivs g) 0 g.length), ps 10 (.ssl (ics l) 0 l.length), ps 11 (nv l.length), ps 12 (nv x.1.1), pb 0 91 [(iv v), (.osl 2 0 x.1.2.1.length), (nv x.1.2.2.1), (iv a), (iv b), (.ssl (spans S) (x.1.2.2.2 * 5) (S.length - x.1.2.2.2))], pb 2 58 (nos x.1.2.1)]) (fun x => l.length - x.1.1) 3 ⟨(0, N, z, k), ⟨Nat.zero_le _, rfl, hok0, hk0, hN0⟩⟩ (Wk.ren3D [ps 0 (.opt 0 0), ps 2 (.ssl (ivs g) 0 g.length), ps 10 (.ssl (ics l) 0 l.length), ps 11 (nv l.length), ps 12 (nv 0), pb 0 91 [(iv v), (.osl 2 0 N.length), (nv z), (iv a), (iv b), (.ssl (spans S) (k * 5) (S.length - k))], pb 2 58 (nos N)] 2 hc0 [0, 1, 1] [(kb 2, (nos N))] (oc (qal _) (oz)) (by kernel_rfl) rfl (by kernel_rfl) (by kernel_rfl) (by kernel_rfl)) ?_
 rintro ⟨⟨i, M, z2, k2⟩, ⟨hi, hT, hok, hk2, hN2⟩⟩
 dsimp only at hi hT hok hk2 hN2
 refine qaa ?_
 refine T_r mixed [] [ps 0 (.opt 0 0), ps 2 (.ssl (ivs g) 0 g.length), ps 10 (.ssl (ics l) 0 l.length), ps 11 (nv l.length), ps 12 (nv i), ps 13 (bv (decide (((i : Nat) : Int) < ((l.length : Nat) : Int)))), pb 0 91 [(iv v), (.osl 2 0 M.length), (nv z2), (iv a), (iv b), (.ssl (spans S) (k2 * 5) (S.length - k2))], pb 2 58 (nos M)] (oz) ?_
 refine qaa ?_
 by_cases h1 : ((i : Nat) : Int) < ((l.length : Nat) : Int)
 ·refine T_th (dty h1) ?_
  refine qag <| qaa <| qan <| qaa ?_
  refine T_k mixed [(0, .nat (i * 7)), (1, .cells [(iv (iK (l.getD i dIt))), (iv (iS (l.getD i dIt))), (.ssl (pts (iP (l.getD i dIt))) 0 ((iP (l.getD i dIt)).length)), (iv ((iB (l.getD i dIt)).1)), (iv ((iB (l.getD i dIt)).2)), (sv (st (iL (l.getD i dIt)))), (.ssl (ics (iC (l.getD i dIt))) 0 ((iC (l.getD i dIt)).length))])] [.k2, .n, .k3, .d, .k2, .n] [ps 8 (.opt 27 0), pb 27 50 [(iv (iK (l.getD i dIt))), (iv (iS (l.getD i dIt))), (.ssl (pts (iP (l.getD i dIt))) 0 ((iP (l.getD i dIt)).length)), (iv ((iB (l.getD i dIt)).1)), (iv ((iB (l.getD i dIt)).2)), (sv (st (iL (l.getD i dIt)))), (.ssl (ics (iC (l.getD i dIt))) 0 ((iC (l.getD i dIt)).length))]] (oc (by omega : (0 : Int) ≤ ((i : Nat) : Int) ∧ ((i : Nat) : Int) < ((l.length : Nat) : Int)) (oc (by omega : 0 + (((i : Nat) : Int) : Int).toNat * 7 = (i * 7)) (oc (qvk l i 0 7 (by omega) (by decide) : (i * 7) + 7 ≤ ((ics l)).length ∧ (((ics l)).drop (i * 7)).take 7 = [(iv (iK (l.getD i dIt))), (iv (iS (l.getD i dIt))), (.ssl (pts (iP (l.getD i dIt))) 0 ((iP (l.getD i dIt)).length)), (iv ((iB (l.getD i dIt)).1)), (iv ((iB (l.getD i dIt)).2)), (sv (st (iL (l.getD i dIt)))), (.ssl (ics (iC (l.getD i dIt))) 0 ((iC (l.getD i dIt)).length))]) oz))) ?_
  refine qaa ?_
  refine T_k mixed [] [.r] [] (oz) ?_
  refine qaa <| qaa ?_
  have hxf := (qsx (l.getD i dIt)).1 (qre hfl (by omega))
  have hxo := (okI_eq (l.getD i dIt)).1 (ok_at hol (by omega))
  have hlv := lvsL_at (l := l) (i := i) (by omega)
  have hlx := lvs_eq (l.getD i dIt)
  have hhx := hgt_eq (l.getD i dIt)
  have hhl := hgt_at (l := l) (i := i) (by omega)
  have hsz := el_lt (l := l) (i := i) (by omega)
  have hsk := qou (l.getD i dIt)
  have hkp := qpq (v := v) (a := a) (b := b) (fun i hi => (hSr i hi).2.2) (l.getD i dIt) g (M, z2, k2) (ok_at hol (by omega)) hok (by show k2 + lvs (l.getD i dIt) ≤ S.length; omega)
  have htl := telL_at (v := v) (a := a) (b := b) (S := S) (l := l) (i := i) (g := g) (t := (M, z2, k2)) (by omega)
  have hte := telI_eq (v := v) (a := a) (b := b) (S := S) (l.getD i dIt) g (M, z2, k2)
  refine T_k mixed [] [.k6, .n, .r] [ps 17 (iv (iK (l.getD i dIt)))] (oz) ?_
  refine qan <| qaa ?_
  refine T_k mixed [] [.k7, .n, .r] [ps 22 (bv (decide ((iK (l.getD i dIt)) = 4)))] (oz) ?_
  by_cases h2 : (iK (l.getD i dIt)) = 4
  ·refine T_th (dty h2) ?_
   rw [if_pos (.inl h2)] at hlx
   have hkid := ih (iC (l.getD i dIt)) (by omega) g M z2 k2 hxf.2.2.2.2 hxf.2.2.2.1 hxo.2 hok (by omega) (by omega) (by omega) hgI
   refine T_k mixed [(4, .call [0, 2] [(.opt 0 0), (.ssl (ics (iC (l.getD i dIt))) 0 ((iC (l.getD i dIt)).length)), (.ssl (ivs g) 0 g.length)] [some (91, [(iv v), (.osl 1 0 M.length), (nv z2), (iv a), (iv b), (.ssl (spans S) (k2 * 5) (S.length - k2))]), some (58, (nos M))] (iv ((telL v a b S (iC (l.getD i dIt)) g (M, z2, k2)).1)) [some (91, [(iv v), (.osl 2 0 ((((telL v a b S (iC (l.getD i dIt)) g (M, z2, k2))).2.1).length)), (nv (((telL v a b S (iC (l.getD i dIt)) g (M, z2, k2))).2.2.1)), (iv a), (iv b), (.ssl (spans S) ((((telL v a b S (iC (l.getD i dIt)) g (M, z2, k2))).2.2.2) * 5) (S.length - (((telL v a b S (iC (l.getD i dIt)) g (M, z2, k2))).2.2.2)))]), none, some (58, (nos (((telL v a b S (iC (l.getD i dIt)) g (M, z2, k2))).2.1)))])] [.k2, .d, .n, .k3, .d, .d, .d, .n, .d, .d, .n] [ps 9 (iv ((telL v a b S (iC (l.getD i dIt)) g (M, z2, k2)).1)), pb 0 91 [(iv v), (.osl 115 0 ((((telL v a b S (iC (l.getD i dIt)) g (M, z2, k2))).2.1).length)), (nv (((telL v a b S (iC (l.getD i dIt)) g (M, z2, k2))).2.2.1)), (iv a), (iv b), (.ssl (spans S) ((((telL v a b S (iC (l.getD i dIt)) g (M, z2, k2))).2.2.2) * 5) (S.length - (((telL v a b S (iC (l.getD i dIt)) g (M, z2, k2))).2.2.2)))], pb 115 58 (renL (sigo [0, 2] 115) (nos (((telL v a b S (iC (l.getD i dIt)) g (M, z2, k2))).2.1)))] (oc hkid (oc (rfl : [(.opt 0 0), (.ssl (ics (iC (l.getD i dIt))) 0 ((iC (l.getD i dIt)).length)), (.ssl (ivs g) 0 g.length)] = renL (sigi [0, 2] 115) [(.opt 0 0), (.ssl (ics (iC (l.getD i dIt))) 0 ((iC (l.getD i dIt)).length)), (.ssl (ivs g) 0 g.length)]) (oc (rfl : [(iv v), (.osl 2 0 M.length), (nv z2), (iv a), (iv b), (.ssl (spans S) (k2 * 5) (S.length - k2))] = renL (sigi [0, 2] 115) [(iv v), (.osl 1 0 M.length), (nv z2), (iv a), (iv b), (.ssl (spans S) (k2 * 5) (S.length - k2))]) (oc ((qbd (qal _)).symm : (nos M) = renL (sigi [0, 2] 115) (nos M)) oz)))) ?_
   refine qbg <| T_wk (Wk.eq (show _ = [ps 0 (.opt 0 0), ps 2 (.ssl (ivs g) 0 g.length), ps 9 (iv ((telL v a b S (iC (l.getD i dIt)) g (M, z2, k2)).1)), ps 10 (.ssl (ics l) 0 l.length), ps 11 (nv l.length), ps 12 (nv i), pb 0 91 [(iv v), (.osl 115 0 ((((telL v a b S (iC (l.getD i dIt)) g (M, z2, k2))).2.1).length)), (nv (((telL v a b S (iC (l.getD i dIt)) g (M, z2, k2))).2.2.1)), (iv a), (iv b), (.ssl (spans S) ((((telL v a b S (iC (l.getD i dIt)) g (M, z2, k2))).2.2.2) * 5) (S.length - (((telL v a b S (iC (l.getD i dIt)) g (M, z2, k2))).2.2.2)))], pb 115 58 (nos (((telL v a b S (iC (l.getD i dIt)) g (M, z2, k2))).2.1))] from by simp only [qbd (qal _)])) ?_
   refine qaa ?_
   rw [if_pos h2] at hte
   refine T_k mixed [] [.k6, .n, .r] [ps 41 (bv (!(decide (((telL v a b S (iC (l.getD i dIt)) g (M, z2, k2)).1) = 0))))] (oz) ?_
   by_cases h3 : ((telL v a b S (iC (l.getD i dIt)) g (M, z2, k2)).1) = 0
   ·refine T_el (bt h3) ?_
    refine qag <| qbg ?_
    refine T_k mixed [] [.k2, .d, .k2, .d, .n, .d, .r] [ps 12 (iv (((i : Nat) : Int) + 1))] (oc (by simp only [InK]; omega : InK .i64 (((i : Nat) : Int) + 1)) oz) ?_
    exact qce ⟨(i + 1, ((telL v a b S (iC (l.getD i dIt)) g (M, z2, k2))).2.1, ((telL v a b S (iC (l.getD i dIt)) g (M, z2, k2))).2.2.1, ((telL v a b S (iC (l.getD i dIt)) g (M, z2, k2))).2.2.2), ⟨by show i + 1 ≤ l.length; omega, by rw [htl, hte, if_pos h3] at hT; exact hT, by rw [hte] at hkp; exact (hkp h3).1, by rw [hte] at hkp; have h3 := (hkp h3).2.2; show ((telL v a b S (iC (l.getD i dIt)) g (M, z2, k2))).2.2.2 + lvsL (l.drop (i + 1)) ≤ S.length; dsimp only at h3; omega, by rw [hte] at hkp; have h3 := (hkp h3).2.1; show (((telL v a b S (iC (l.getD i dIt)) g (M, z2, k2))).2.1).length + 16 * lvsL (l.drop (i + 1)) ≤ 100000000000; dsimp only at h3; omega⟩⟩ (Wk.trans (Wk.eq (show _ = [ps 0 (.opt 0 0), ps 2 (.ssl (ivs g) 0 g.length), ps 10 (.ssl (ics l) 0 l.length), ps 11 (nv l.length), ps 12 (nv (i + 1)), pb 0 91 [(iv v), (.osl 115 0 ((((telL v a b S (iC (l.getD i dIt)) g (M, z2, k2))).2.1).length)), (nv (((telL v a b S (iC (l.getD i dIt)) g (M, z2, k2))).2.2.1)), (iv a), (iv b), (.ssl (spans S) ((((telL v a b S (iC (l.getD i dIt)) g (M, z2, k2))).2.2.2) * 5) (S.length - (((telL v a b S (iC (l.getD i dIt)) g (M, z2, k2))).2.2.2)))], pb 115 58 (nos (((telL v a b S (iC (l.getD i dIt)) g (M, z2, k2))).2.1))] from by rfl)) (Wk.ren3 [ps 0 (.opt 0 0), ps 2 (.ssl (ivs g) 0 g.length), ps 10 (.ssl (ics l) 0 l.length), ps 11 (nv l.length), ps 12 (nv (i + 1)), pb 0 91 [(iv v), (.osl 2 0 (((telL v a b S (iC (l.getD i dIt)) g (M, z2, k2))).2.1).length), (nv (((telL v a b S (iC (l.getD i dIt)) g (M, z2, k2))).2.2.1)), (iv a), (iv b), (.ssl (spans S) ((((telL v a b S (iC (l.getD i dIt)) g (M, z2, k2))).2.2.2) * 5) (S.length - (((telL v a b S (iC (l.getD i dIt)) g (M, z2, k2))).2.2.2)))], pb 2 58 (nos (((telL v a b S (iC (l.getD i dIt)) g (M, z2, k2))).2.1))] 2 hc0 [0, 1, 115] [(kb 2, (nos (((telL v a b S (iC (l.getD i dIt)) g (M, z2, k2))).2.1)))] (oc (qal _) (oz)) (by kernel_rfl) rfl rfl (by kernel_rfl) (by kernel_rfl))) (show l.length - (i + 1) < l.length - i from by show l.length - (i + 1) < l.length - i; omega)
   refine T_th (bf h3) ?_
   refine qaa ?_
   refine T_k mixed [] [.d, .d, .n, .d, .d, .d, .d, .d, .r] [ps 6 (iv ((telL v a b S (iC (l.getD i dIt)) g (M, z2, k2)).1))] (oz) ?_
   rw [htl, hte, if_neg h3] at hT
   have e1 : (telL v a b S l g (N, z, k)).1 = ((telL v a b S (iC (l.getD i dIt)) g (M, z2, k2))).1 := congrArg (fun q => q.1) hT.symm
   have e2 : (telL v a b S l g (N, z, k)).2.1 = ((telL v a b S (iC (l.getD i dIt)) g (M, z2, k2))).2.1 := congrArg (fun q => q.2.1) hT.symm
   have e3 : (telL v a b S l g (N, z, k)).2.2.1 = ((telL v a b S (iC (l.getD i dIt)) g (M, z2, k2))).2.2.1 := congrArg (fun q => q.2.2.1) hT.symm
   have e4 : (telL v a b S l g (N, z, k)).2.2.2 = ((telL v a b S (iC (l.getD i dIt)) g (M, z2, k2))).2.2.2 := congrArg (fun q => q.2.2.2) hT.symm
   rw [e1, e2, e3, e4]
   exact qai fun cx_ a_ hI_ => qav (qby (H' := [some (91, [(iv v), (.osl 2 0 ((((telL v a b S (iC (l.getD i dIt)) g (M, z2, k2))).2.1).length)), (nv (((telL v a b S (iC (l.getD i dIt)) g (M, z2, k2))).2.2.1)), (iv a), (iv b), (.ssl (spans S) ((((telL v a b S (iC (l.getD i dIt)) g (M, z2, k2))).2.2.2) * 5) (S.length - (((telL v a b S (iC (l.getD i dIt)) g (M, z2, k2))).2.2.2)))]), none, some (58, (nos (((telL v a b S (iC (l.getD i dIt)) g (M, z2, k2))).2.1)))]) (.inr rfl) (Wk.ren3 [ps 6 (iv ((telL v a b S (iC (l.getD i dIt)) g (M, z2, k2)).1)), pb 0 91 [(iv v), (.osl 2 0 ((((telL v a b S (iC (l.getD i dIt)) g (M, z2, k2))).2.1).length)), (nv (((telL v a b S (iC (l.getD i dIt)) g (M, z2, k2))).2.2.1)), (iv a), (iv b), (.ssl (spans S) ((((telL v a b S (iC (l.getD i dIt)) g (M, z2, k2))).2.2.2) * 5) (S.length - (((telL v a b S (iC (l.getD i dIt)) g (M, z2, k2))).2.2.2)))], pb 2 58 (nos (((telL v a b S (iC (l.getD i dIt)) g (M, z2, k2))).2.1))] 2 hc0 [0, 1, 115] [(kb 2, (nos (((telL v a b S (iC (l.getD i dIt)) g (M, z2, k2))).2.1)))] (oc (qal _) (oz)) (by kernel_rfl) rfl rfl (by kernel_rfl) (by kernel_rfl)) rfl (oc rfl (oc rfl (oz))) (fun cx_ a_ hI_ => qbc (l' := [ps 6 (iv ((telL v a b S (iC (l.getD i dIt)) g (M, z2, k2)).1)), pb 0 91 [(iv v), (.osl 2 0 ((((telL v a b S (iC (l.getD i dIt)) g (M, z2, k2))).2.1).length)), (nv (((telL v a b S (iC (l.getD i dIt)) g (M, z2, k2))).2.2.1)), (iv a), (iv b), (.ssl (spans S) ((((telL v a b S (iC (l.getD i dIt)) g (M, z2, k2))).2.2.2) * 5) (S.length - (((telL v a b S (iC (l.getD i dIt)) g (M, z2, k2))).2.2.2)))], pb 2 58 (nos (((telL v a b S (iC (l.getD i dIt)) g (M, z2, k2))).2.1))]) (by kernel_rfl) cx_ a_ hI_) hI_)
  refine T_el (dtn h2) ?_
  refine qaa ?_
  refine T_k mixed [] [.k6, .d, .d, .n, .r] [ps 29 (bv (decide ((iK (l.getD i dIt)) = 5)))] (oz) ?_
  by_cases h4 : (iK (l.getD i dIt)) = 5
  ·refine T_th (dty h4) ?_
   rw [if_pos (.inr h4)] at hlx
   have hkid5 := ih (iC (l.getD i dIt)) (by omega) (iB (l.getD i dIt) :: g) M z2 k2 hxf.2.2.2.2 hxf.2.2.2.1 hxo.2 hok (by omega) (by omega) (by rw [List.length_cons]; omega) (fun q hq => by cases q with | zero => exact hxf.1 | succ q => exact hgI q (by simpa using hq))
   refine T_kd mixed [(7, .app (some (ivs g)) (some (ivs (iB (l.getD i dIt) :: g)))), (8, .lay [155] (.call [0, 2] [(.opt 0 0), (.ssl (ics (iC (l.getD i dIt))) 0 ((iC (l.getD i dIt)).length)), (.ssl (ivs (iB (l.getD i dIt) :: g)) 0 (((iB (l.getD i dIt) :: g)).length))] [some (91, [(iv v), (.osl 1 0 M.length), (nv z2), (iv a), (iv b), (.ssl (spans S) (k2 * 5) (S.length - k2))]), some (58, (nos M))] (iv ((telL v a b S (iC (l.getD i dIt)) (iB (l.getD i dIt) :: g) (M, z2, k2)).1)) [some (91, [(iv v), (.osl 2 0 ((((telL v a b S (iC (l.getD i dIt)) (iB (l.getD i dIt) :: g) (M, z2, k2))).2.1).length)), (nv (((telL v a b S (iC (l.getD i dIt)) (iB (l.getD i dIt) :: g) (M, z2, k2))).2.2.1)), (iv a), (iv b), (.ssl (spans S) ((((telL v a b S (iC (l.getD i dIt)) (iB (l.getD i dIt) :: g) (M, z2, k2))).2.2.2) * 5) (S.length - (((telL v a b S (iC (l.getD i dIt)) (iB (l.getD i dIt) :: g) (M, z2, k2))).2.2.2)))]), none, some (58, (nos (((telL v a b S (iC (l.getD i dIt)) (iB (l.getD i dIt) :: g) (M, z2, k2))).2.1)))]))] [[], [], [1], [], [3], [3, 4], [], [3, 4, 5, 6], [0, 1, 2, 3, 4, 5, 6, 7], [0, 1, 2, 3, 4, 5, 6, 7, 8]] [([62], [0]), ([64], [16]), ([66], [55, 64]), ([68], [16]), ([70], [55, 68]), ([72, 279], [70]), ([74], [4]), ([76, 279, 311], [72, 74, 279]), ([78, 1, 5, 311, 327], [1, 5, 62, 66, 76, 311]), ([18], [78])] [.k2, .d, .n, .k3, .d, .d, .n, .d, .d, .n] [ps 9 (iv ((telL v a b S (iC (l.getD i dIt)) (iB (l.getD i dIt) :: g) (M, z2, k2)).1)), pb 0 91 [(iv v), (.osl 163 0 ((((telL v a b S (iC (l.getD i dIt)) (iB (l.getD i dIt) :: g) (M, z2, k2))).2.1).length)), (nv (((telL v a b S (iC (l.getD i dIt)) (iB (l.getD i dIt) :: g) (M, z2, k2))).2.2.1)), (iv a), (iv b), (.ssl (spans S) ((((telL v a b S (iC (l.getD i dIt)) (iB (l.getD i dIt) :: g) (M, z2, k2))).2.2.2) * 5) (S.length - (((telL v a b S (iC (l.getD i dIt)) (iB (l.getD i dIt) :: g) (M, z2, k2))).2.2.2)))], pb 163 58 (renL (sigo [0, 2] 163) (nos (((telL v a b S (iC (l.getD i dIt)) (iB (l.getD i dIt) :: g) (M, z2, k2))).2.1)))] (oc (ivs_src g : 0 + g.length * 2 ≤ ((ivs g)).length ∧ (((ivs g)).drop 0).take (g.length * 2) = (ivs g)) (oc (rfl : ([(iv ((iB (l.getD i dIt)).1)), (iv ((iB (l.getD i dIt)).2))]).length = 1 * 2) (oc (by omega : (1 + g.length) * 16 ≤ 140737488355328 ∧ 1 + g.length ≤ 9223372036854775807) (oc (ivs_cons (iB (l.getD i dIt)) g : [(iv ((iB (l.getD i dIt)).1)), (iv ((iB (l.getD i dIt)).2))] ++ (ivs g) = (ivs (iB (l.getD i dIt) :: g))) (oc (qek (fun i : Iv => [iv i.1, iv i.2]) (fun _ => rfl) _ : shds (ivs (iB (l.getD i dIt) :: g))) (oc hkid5 (oc (by rw [Nat.add_comm 1 g.length]; rfl : [(.opt 0 0), (.ssl (ics (iC (l.getD i dIt))) 0 ((iC (l.getD i dIt)).length)), (.ssl (ivs (iB (l.getD i dIt) :: g)) 0 (1 + g.length))] = renL (sigi [0, 2] 163) [(.opt 0 0), (.ssl (ics (iC (l.getD i dIt))) 0 ((iC (l.getD i dIt)).length)), (.ssl (ivs (iB (l.getD i dIt) :: g)) 0 (((iB (l.getD i dIt) :: g)).length))]) (oc (rfl : [(iv v), (.osl 2 0 M.length), (nv z2), (iv a), (iv b), (.ssl (spans S) (k2 * 5) (S.length - k2))] = renL (sigi [0, 2] 163) [(iv v), (.osl 1 0 M.length), (nv z2), (iv a), (iv b), (.ssl (spans S) (k2 * 5) (S.length - k2))]) (oc ((qbd (qal _)).symm : (nos M) = renL (sigi [0, 2] 163) (nos M)) oz))))))))) ?_
   refine qbg <| T_wk (Wk.eq (show _ = [ps 0 (.opt 0 0), ps 2 (.ssl (ivs g) 0 g.length), ps 9 (iv ((telL v a b S (iC (l.getD i dIt)) (iB (l.getD i dIt) :: g) (M, z2, k2)).1)), ps 10 (.ssl (ics l) 0 l.length), ps 11 (nv l.length), ps 12 (nv i), pb 0 91 [(iv v), (.osl 163 0 ((((telL v a b S (iC (l.getD i dIt)) (iB (l.getD i dIt) :: g) (M, z2, k2))).2.1).length)), (nv (((telL v a b S (iC (l.getD i dIt)) (iB (l.getD i dIt) :: g) (M, z2, k2))).2.2.1)), (iv a), (iv b), (.ssl (spans S) ((((telL v a b S (iC (l.getD i dIt)) (iB (l.getD i dIt) :: g) (M, z2, k2))).2.2.2) * 5) (S.length - (((telL v a b S (iC (l.getD i dIt)) (iB (l.getD i dIt) :: g) (M, z2, k2))).2.2.2)))], pb 163 58 (nos (((telL v a b S (iC (l.getD i dIt)) (iB (l.getD i dIt) :: g) (M, z2, k2))).2.1))] from by simp only [qbd (qal _)])) ?_
   refine qaa ?_
   rw [if_neg h2, if_pos h4] at hte
   refine T_k mixed [] [.k6, .n, .r] [ps 41 (bv (!(decide (((telL v a b S (iC (l.getD i dIt)) (iB (l.getD i dIt) :: g) (M, z2, k2)).1) = 0))))] (oz) ?_
   by_cases h5 : ((telL v a b S (iC (l.getD i dIt)) (iB (l.getD i dIt) :: g) (M, z2, k2)).1) = 0
   ·refine T_el (bt h5) ?_
    refine qag <| qbg ?_
    refine T_k mixed [] [.k2, .d, .k2, .d, .n, .d, .r] [ps 12 (iv (((i : Nat) : Int) + 1))] (oc (by simp only [InK]; omega : InK .i64 (((i : Nat) : Int) + 1)) oz) ?_
    exact qce ⟨(i + 1, ((telL v a b S (iC (l.getD i dIt)) (iB (l.getD i dIt) :: g) (M, z2, k2))).2.1, ((telL v a b S (iC (l.getD i dIt)) (iB (l.getD i dIt) :: g) (M, z2, k2))).2.2.1, ((telL v a b S (iC (l.getD i dIt)) (iB (l.getD i dIt) :: g) (M, z2, k2))).2.2.2), ⟨by show i + 1 ≤ l.length; omega, by rw [htl, hte, if_pos h5] at hT; exact hT, by rw [hte] at hkp; exact (hkp h5).1, by rw [hte] at hkp; have h3 := (hkp h5).2.2; show ((telL v a b S (iC (l.getD i dIt)) (iB (l.getD i dIt) :: g) (M, z2, k2))).2.2.2 + lvsL (l.drop (i + 1)) ≤ S.length; dsimp only at h3; omega, by rw [hte] at hkp; have h3 := (hkp h5).2.1; show (((telL v a b S (iC (l.getD i dIt)) (iB (l.getD i dIt) :: g) (M, z2, k2))).2.1).length + 16 * lvsL (l.drop (i + 1)) ≤ 100000000000; dsimp only at h3; omega⟩⟩ (Wk.trans (Wk.eq (show _ = [ps 0 (.opt 0 0), ps 2 (.ssl (ivs g) 0 g.length), ps 10 (.ssl (ics l) 0 l.length), ps 11 (nv l.length), ps 12 (nv (i + 1)), pb 0 91 [(iv v), (.osl 163 0 ((((telL v a b S (iC (l.getD i dIt)) (iB (l.getD i dIt) :: g) (M, z2, k2))).2.1).length)), (nv (((telL v a b S (iC (l.getD i dIt)) (iB (l.getD i dIt) :: g) (M, z2, k2))).2.2.1)), (iv a), (iv b), (.ssl (spans S) ((((telL v a b S (iC (l.getD i dIt)) (iB (l.getD i dIt) :: g) (M, z2, k2))).2.2.2) * 5) (S.length - (((telL v a b S (iC (l.getD i dIt)) (iB (l.getD i dIt) :: g) (M, z2, k2))).2.2.2)))], pb 163 58 (nos (((telL v a b S (iC (l.getD i dIt)) (iB (l.getD i dIt) :: g) (M, z2, k2))).2.1))] from by rfl)) (Wk.ren3 [ps 0 (.opt 0 0), ps 2 (.ssl (ivs g) 0 g.length), ps 10 (.ssl (ics l) 0 l.length), ps 11 (nv l.length), ps 12 (nv (i + 1)), pb 0 91 [(iv v), (.osl 2 0 (((telL v a b S (iC (l.getD i dIt)) (iB (l.getD i dIt) :: g) (M, z2, k2))).2.1).length), (nv (((telL v a b S (iC (l.getD i dIt)) (iB (l.getD i dIt) :: g) (M, z2, k2))).2.2.1)), (iv a), (iv b), (.ssl (spans S) ((((telL v a b S (iC (l.getD i dIt)) (iB (l.getD i dIt) :: g) (M, z2, k2))).2.2.2) * 5) (S.length - (((telL v a b S (iC (l.getD i dIt)) (iB (l.getD i dIt) :: g) (M, z2, k2))).2.2.2)))], pb 2 58 (nos (((telL v a b S (iC (l.getD i dIt)) (iB (l.getD i dIt) :: g) (M, z2, k2))).2.1))] 2 hc0 [0, 1, 163] [(kb 2, (nos (((telL v a b S (iC (l.getD i dIt)) (iB (l.getD i dIt) :: g) (M, z2, k2))).2.1)))] (oc (qal _) (oz)) (by kernel_rfl) rfl rfl (by kernel_rfl) (by kernel_rfl))) (show l.length - (i + 1) < l.length - i from by show l.length - (i + 1) < l.length - i; omega)
   refine T_th (bf h5) ?_
   refine qaa ?_
   refine T_k mixed [] [.d, .d, .n, .d, .d, .d, .d, .d, .r] [ps 6 (iv ((telL v a b S (iC (l.getD i dIt)) (iB (l.getD i dIt) :: g) (M, z2, k2)).1))] (oz) ?_
   rw [htl, hte, if_neg h5] at hT
   have e1 : (telL v a b S l g (N, z, k)).1 = ((telL v a b S (iC (l.getD i dIt)) (iB (l.getD i dIt) :: g) (M, z2, k2))).1 := congrArg (fun q => q.1) hT.symm
   have e2 : (telL v a b S l g (N, z, k)).2.1 = ((telL v a b S (iC (l.getD i dIt)) (iB (l.getD i dIt) :: g) (M, z2, k2))).2.1 := congrArg (fun q => q.2.1) hT.symm
   have e3 : (telL v a b S l g (N, z, k)).2.2.1 = ((telL v a b S (iC (l.getD i dIt)) (iB (l.getD i dIt) :: g) (M, z2, k2))).2.2.1 := congrArg (fun q => q.2.2.1) hT.symm
   have e4 : (telL v a b S l g (N, z, k)).2.2.2 = ((telL v a b S (iC (l.getD i dIt)) (iB (l.getD i dIt) :: g) (M, z2, k2))).2.2.2 := congrArg (fun q => q.2.2.2) hT.symm
   rw [e1, e2, e3, e4]
   exact qai fun cx_ a_ hI_ => qav (qby (H' := [some (91, [(iv v), (.osl 2 0 ((((telL v a b S (iC (l.getD i dIt)) (iB (l.getD i dIt) :: g) (M, z2, k2))).2.1).length)), (nv (((telL v a b S (iC (l.getD i dIt)) (iB (l.getD i dIt) :: g) (M, z2, k2))).2.2.1)), (iv a), (iv b), (.ssl (spans S) ((((telL v a b S (iC (l.getD i dIt)) (iB (l.getD i dIt) :: g) (M, z2, k2))).2.2.2) * 5) (S.length - (((telL v a b S (iC (l.getD i dIt)) (iB (l.getD i dIt) :: g) (M, z2, k2))).2.2.2)))]), none, some (58, (nos (((telL v a b S (iC (l.getD i dIt)) (iB (l.getD i dIt) :: g) (M, z2, k2))).2.1)))]) (.inr rfl) (Wk.ren3 [ps 6 (iv ((telL v a b S (iC (l.getD i dIt)) (iB (l.getD i dIt) :: g) (M, z2, k2)).1)), pb 0 91 [(iv v), (.osl 2 0 ((((telL v a b S (iC (l.getD i dIt)) (iB (l.getD i dIt) :: g) (M, z2, k2))).2.1).length)), (nv (((telL v a b S (iC (l.getD i dIt)) (iB (l.getD i dIt) :: g) (M, z2, k2))).2.2.1)), (iv a), (iv b), (.ssl (spans S) ((((telL v a b S (iC (l.getD i dIt)) (iB (l.getD i dIt) :: g) (M, z2, k2))).2.2.2) * 5) (S.length - (((telL v a b S (iC (l.getD i dIt)) (iB (l.getD i dIt) :: g) (M, z2, k2))).2.2.2)))], pb 2 58 (nos (((telL v a b S (iC (l.getD i dIt)) (iB (l.getD i dIt) :: g) (M, z2, k2))).2.1))] 2 hc0 [0, 1, 163] [(kb 2, (nos (((telL v a b S (iC (l.getD i dIt)) (iB (l.getD i dIt) :: g) (M, z2, k2))).2.1)))] (oc (qal _) (oz)) (by kernel_rfl) rfl rfl (by kernel_rfl) (by kernel_rfl)) rfl (oc rfl (oc rfl (oz))) (fun cx_ a_ hI_ => qbc (l' := [ps 6 (iv ((telL v a b S (iC (l.getD i dIt)) (iB (l.getD i dIt) :: g) (M, z2, k2)).1)), pb 0 91 [(iv v), (.osl 2 0 ((((telL v a b S (iC (l.getD i dIt)) (iB (l.getD i dIt) :: g) (M, z2, k2))).2.1).length)), (nv (((telL v a b S (iC (l.getD i dIt)) (iB (l.getD i dIt) :: g) (M, z2, k2))).2.2.1)), (iv a), (iv b), (.ssl (spans S) ((((telL v a b S (iC (l.getD i dIt)) (iB (l.getD i dIt) :: g) (M, z2, k2))).2.2.2) * 5) (S.length - (((telL v a b S (iC (l.getD i dIt)) (iB (l.getD i dIt) :: g) (M, z2, k2))).2.2.2)))], pb 2 58 (nos (((telL v a b S (iC (l.getD i dIt)) (iB (l.getD i dIt) :: g) (M, z2, k2))).2.1))]) (by kernel_rfl) cx_ a_ hI_) hI_)
  refine T_el (dtn h4) ?_
  rw [if_neg (by omega)] at hlx
  have hp16 := hxo.1
  have hleaf := qot (l.getD i dIt) g v a b S M z2 k2 (by omega) hSl hok.1 (by omega) (by omega) hab hSr (by omega) hgI (okTs_at hok)
  refine T_k mixed [(3, .call [0, 2] [(.opt 0 0), (.agg [(iv (iK (l.getD i dIt))), (iv (iS (l.getD i dIt))), (.ssl (pts (iP (l.getD i dIt))) 0 ((iP (l.getD i dIt)).length)), (iv ((iB (l.getD i dIt)).1)), (iv ((iB (l.getD i dIt)).2)), (sv (st (iL (l.getD i dIt)))), (.ssl (ics (iC (l.getD i dIt))) 0 ((iC (l.getD i dIt)).length))]), (.ssl (ivs g) 0 g.length)] [some (91, [(iv v), (.osl 1 0 M.length), (nv z2), (iv a), (iv b), (.ssl (spans S) (k2 * 5) (S.length - k2))]), some (58, (nos M))] (iv ((qar v a b S (l.getD i dIt) g (M, z2, k2)).1)) [some (91, [(iv v), (.osl 2 0 ((((qar v a b S (l.getD i dIt) g (M, z2, k2))).2.1).length)), (nv (((qar v a b S (l.getD i dIt) g (M, z2, k2))).2.2.1)), (iv a), (iv b), (.ssl (spans S) ((((qar v a b S (l.getD i dIt) g (M, z2, k2))).2.2.2) * 5) (S.length - (((qar v a b S (l.getD i dIt) g (M, z2, k2))).2.2.2)))]), none, some (58, (nos (((qar v a b S (l.getD i dIt) g (M, z2, k2))).2.1)))])] [.k2, .d, .n, .k3, .d, .d, .n, .d, .d, .n] [ps 9 (iv ((qar v a b S (l.getD i dIt) g (M, z2, k2)).1)), pb 0 91 [(iv v), (.osl 123 0 ((((qar v a b S (l.getD i dIt) g (M, z2, k2))).2.1).length)), (nv (((qar v a b S (l.getD i dIt) g (M, z2, k2))).2.2.1)), (iv a), (iv b), (.ssl (spans S) ((((qar v a b S (l.getD i dIt) g (M, z2, k2))).2.2.2) * 5) (S.length - (((qar v a b S (l.getD i dIt) g (M, z2, k2))).2.2.2)))], pb 123 58 (renL (sigo [0, 2] 123) (nos (((qar v a b S (l.getD i dIt) g (M, z2, k2))).2.1)))] (oc hleaf (oc (rfl : [(.opt 0 0), (.agg [(iv (iK (l.getD i dIt))), (iv (iS (l.getD i dIt))), (.ssl (pts (iP (l.getD i dIt))) 0 ((iP (l.getD i dIt)).length)), (iv ((iB (l.getD i dIt)).1)), (iv ((iB (l.getD i dIt)).2)), (sv (st (iL (l.getD i dIt)))), (.ssl (ics (iC (l.getD i dIt))) 0 ((iC (l.getD i dIt)).length))]), (.ssl (ivs g) 0 g.length)] = renL (sigi [0, 2] 123) [(.opt 0 0), (.agg [(iv (iK (l.getD i dIt))), (iv (iS (l.getD i dIt))), (.ssl (pts (iP (l.getD i dIt))) 0 ((iP (l.getD i dIt)).length)), (iv ((iB (l.getD i dIt)).1)), (iv ((iB (l.getD i dIt)).2)), (sv (st (iL (l.getD i dIt)))), (.ssl (ics (iC (l.getD i dIt))) 0 ((iC (l.getD i dIt)).length))]), (.ssl (ivs g) 0 g.length)]) (oc (rfl : [(iv v), (.osl 2 0 M.length), (nv z2), (iv a), (iv b), (.ssl (spans S) (k2 * 5) (S.length - k2))] = renL (sigi [0, 2] 123) [(iv v), (.osl 1 0 M.length), (nv z2), (iv a), (iv b), (.ssl (spans S) (k2 * 5) (S.length - k2))]) (oc ((qbd (qal _)).symm : (nos M) = renL (sigi [0, 2] 123) (nos M)) oz)))) ?_
  refine qbg <| T_wk (Wk.eq (show _ = [ps 0 (.opt 0 0), ps 2 (.ssl (ivs g) 0 g.length), ps 9 (iv ((qar v a b S (l.getD i dIt) g (M, z2, k2)).1)), ps 10 (.ssl (ics l) 0 l.length), ps 11 (nv l.length), ps 12 (nv i), pb 0 91 [(iv v), (.osl 123 0 ((((qar v a b S (l.getD i dIt) g (M, z2, k2))).2.1).length)), (nv (((qar v a b S (l.getD i dIt) g (M, z2, k2))).2.2.1)), (iv a), (iv b), (.ssl (spans S) ((((qar v a b S (l.getD i dIt) g (M, z2, k2))).2.2.2) * 5) (S.length - (((qar v a b S (l.getD i dIt) g (M, z2, k2))).2.2.2)))], pb 123 58 (nos (((qar v a b S (l.getD i dIt) g (M, z2, k2))).2.1))] from by simp only [qbd (qal _)])) ?_
  refine qaa ?_
  rw [if_neg h2, if_neg h4] at hte
  refine T_k mixed [] [.k6, .n, .r] [ps 41 (bv (!(decide (((qar v a b S (l.getD i dIt) g (M, z2, k2)).1) = 0))))] (oz) ?_
  by_cases h6 : ((qar v a b S (l.getD i dIt) g (M, z2, k2)).1) = 0
  ·refine T_el (bt h6) ?_
   refine qag <| qbg ?_
   refine T_k mixed [] [.k2, .d, .k2, .d, .n, .d, .r] [ps 12 (iv (((i : Nat) : Int) + 1))] (oc (by simp only [InK]; omega : InK .i64 (((i : Nat) : Int) + 1)) oz) ?_
   exact qce ⟨(i + 1, ((qar v a b S (l.getD i dIt) g (M, z2, k2))).2.1, ((qar v a b S (l.getD i dIt) g (M, z2, k2))).2.2.1, ((qar v a b S (l.getD i dIt) g (M, z2, k2))).2.2.2), ⟨by show i + 1 ≤ l.length; omega, by rw [htl, hte, if_pos h6] at hT; exact hT, by rw [hte] at hkp; exact (hkp h6).1, by rw [hte] at hkp; have h3 := (hkp h6).2.2; show ((qar v a b S (l.getD i dIt) g (M, z2, k2))).2.2.2 + lvsL (l.drop (i + 1)) ≤ S.length; dsimp only at h3; omega, by rw [hte] at hkp; have h3 := (hkp h6).2.1; show (((qar v a b S (l.getD i dIt) g (M, z2, k2))).2.1).length + 16 * lvsL (l.drop (i + 1)) ≤ 100000000000; dsimp only at h3; omega⟩⟩ (Wk.trans (Wk.eq (show _ = [ps 0 (.opt 0 0), ps 2 (.ssl (ivs g) 0 g.length), ps 10 (.ssl (ics l) 0 l.length), ps 11 (nv l.length), ps 12 (nv (i + 1)), pb 0 91 [(iv v), (.osl 123 0 ((((qar v a b S (l.getD i dIt) g (M, z2, k2))).2.1).length)), (nv (((qar v a b S (l.getD i dIt) g (M, z2, k2))).2.2.1)), (iv a), (iv b), (.ssl (spans S) ((((qar v a b S (l.getD i dIt) g (M, z2, k2))).2.2.2) * 5) (S.length - (((qar v a b S (l.getD i dIt) g (M, z2, k2))).2.2.2)))], pb 123 58 (nos (((qar v a b S (l.getD i dIt) g (M, z2, k2))).2.1))] from by rfl)) (Wk.ren3 [ps 0 (.opt 0 0), ps 2 (.ssl (ivs g) 0 g.length), ps 10 (.ssl (ics l) 0 l.length), ps 11 (nv l.length), ps 12 (nv (i + 1)), pb 0 91 [(iv v), (.osl 2 0 (((qar v a b S (l.getD i dIt) g (M, z2, k2))).2.1).length), (nv (((qar v a b S (l.getD i dIt) g (M, z2, k2))).2.2.1)), (iv a), (iv b), (.ssl (spans S) ((((qar v a b S (l.getD i dIt) g (M, z2, k2))).2.2.2) * 5) (S.length - (((qar v a b S (l.getD i dIt) g (M, z2, k2))).2.2.2)))], pb 2 58 (nos (((qar v a b S (l.getD i dIt) g (M, z2, k2))).2.1))] 2 hc0 [0, 1, 123] [(kb 2, (nos (((qar v a b S (l.getD i dIt) g (M, z2, k2))).2.1)))] (oc (qal _) (oz)) (by kernel_rfl) rfl rfl (by kernel_rfl) (by kernel_rfl))) (show l.length - (i + 1) < l.length - i from by show l.length - (i + 1) < l.length - i; omega)
  refine T_th (bf h6) ?_
  refine qaa ?_
  refine T_k mixed [] [.d, .d, .n, .d, .d, .d, .d, .d, .r] [ps 6 (iv ((qar v a b S (l.getD i dIt) g (M, z2, k2)).1))] (oz) ?_
  rw [htl, hte, if_neg h6] at hT
  have e1 : (telL v a b S l g (N, z, k)).1 = ((qar v a b S (l.getD i dIt) g (M, z2, k2))).1 := congrArg (fun q => q.1) hT.symm
  have e2 : (telL v a b S l g (N, z, k)).2.1 = ((qar v a b S (l.getD i dIt) g (M, z2, k2))).2.1 := congrArg (fun q => q.2.1) hT.symm
  have e3 : (telL v a b S l g (N, z, k)).2.2.1 = ((qar v a b S (l.getD i dIt) g (M, z2, k2))).2.2.1 := congrArg (fun q => q.2.2.1) hT.symm
  have e4 : (telL v a b S l g (N, z, k)).2.2.2 = ((qar v a b S (l.getD i dIt) g (M, z2, k2))).2.2.2 := congrArg (fun q => q.2.2.2) hT.symm
  rw [e1, e2, e3, e4]
  exact qai fun cx_ a_ hI_ => qav (qby (H' := [some (91, [(iv v), (.osl 2 0 ((((qar v a b S (l.getD i dIt) g (M, z2, k2))).2.1).length)), (nv (((qar v a b S (l.getD i dIt) g (M, z2, k2))).2.2.1)), (iv a), (iv b), (.ssl (spans S) ((((qar v a b S (l.getD i dIt) g (M, z2, k2))).2.2.2) * 5) (S.length - (((qar v a b S (l.getD i dIt) g (M, z2, k2))).2.2.2)))]), none, some (58, (nos (((qar v a b S (l.getD i dIt) g (M, z2, k2))).2.1)))]) (.inr rfl) (Wk.ren3 [ps 6 (iv ((qar v a b S (l.getD i dIt) g (M, z2, k2)).1)), pb 0 91 [(iv v), (.osl 2 0 ((((qar v a b S (l.getD i dIt) g (M, z2, k2))).2.1).length)), (nv (((qar v a b S (l.getD i dIt) g (M, z2, k2))).2.2.1)), (iv a), (iv b), (.ssl (spans S) ((((qar v a b S (l.getD i dIt) g (M, z2, k2))).2.2.2) * 5) (S.length - (((qar v a b S (l.getD i dIt) g (M, z2, k2))).2.2.2)))], pb 2 58 (nos (((qar v a b S (l.getD i dIt) g (M, z2, k2))).2.1))] 2 hc0 [0, 1, 123] [(kb 2, (nos (((qar v a b S (l.getD i dIt) g (M, z2, k2))).2.1)))] (oc (qal _) (oz)) (by kernel_rfl) rfl rfl (by kernel_rfl) (by kernel_rfl)) rfl (oc rfl (oc rfl (oz))) (fun cx_ a_ hI_ => qbc (l' := [ps 6 (iv ((qar v a b S (l.getD i dIt) g (M, z2, k2)).1)), pb 0 91 [(iv v), (.osl 2 0 ((((qar v a b S (l.getD i dIt) g (M, z2, k2))).2.1).length)), (nv (((qar v a b S (l.getD i dIt) g (M, z2, k2))).2.2.1)), (iv a), (iv b), (.ssl (spans S) ((((qar v a b S (l.getD i dIt) g (M, z2, k2))).2.2.2) * 5) (S.length - (((qar v a b S (l.getD i dIt) g (M, z2, k2))).2.2.2)))], pb 2 58 (nos (((qar v a b S (l.getD i dIt) g (M, z2, k2))).2.1))]) (by kernel_rfl) cx_ a_ hI_) hI_)
 refine T_el (dtn h1) ?_
 refine qbu rfl rfl ?_
 refine qaa ?_
 refine T_k mixed [] [.d, .d, .n, .d, .d, .d, .d, .r] [ps 6 (iv 0)] (oz) ?_
 have hR : telL v a b S l g (N, z, k) = (0, M, z2, k2) := by rw [← hT, List.drop_eq_nil_of_le (by omega), telL]
 rw [hR]
 exact qai fun cx_ a_ hI_ => qby (H' := [some (91, [(iv v), (.osl 2 0 M.length), (nv z2), (iv a), (iv b), (.ssl (spans S) (k2 * 5) (S.length - k2))]), none, some (58, (nos M))]) (.inr rfl) (Wk.ren3 [ps 6 (iv 0), pb 0 91 [(iv v), (.osl 2 0 M.length), (nv z2), (iv a), (iv b), (.ssl (spans S) (k2 * 5) (S.length - k2))], pb 2 58 (nos M)] 2 hc0 [0, 1, 2] [(kb 2, (nos M))] (oc (qal _) (oz)) (by kernel_rfl) rfl rfl (by kernel_rfl) (by kernel_rfl)) rfl (oc rfl (oc rfl (oz))) (fun cx_ a_ hI_ => qbc (l' := [ps 6 (iv 0), pb 0 91 [(iv v), (.osl 2 0 M.length), (nv z2), (iv a), (iv b), (.ssl (spans S) (k2 * 5) (S.length - k2))], pb 2 58 (nos M)]) (by kernel_rfl) cx_ a_ hI_) hI_
theorem qrt {v a b : Int} {S : List Sp} (hSl : S.length ≤ 100000) (hab : I64 a ∧ I64 b) (hSr : ∀ i, i < S.length → I64 (S.getD i dS).1 ∧ I64 (S.getD i dS).2.1 ∧ I64 (S.getD i dS).2.2.1 ∧ I64 (S.getD i dS).2.2.2.1) : ∀ (m : Nat) (l : List It), SizeOf.sizeOf l < m → ∀ (g : List Iv) (N : List Nt) (z k : Nat), fitL l → l.length ≤ 1466015503658 → okL l → okTs (N, z, k) → k + lvsL l ≤ S.length → N.length + 16 * lvsL l ≤ 100000000000 → g.length + hgtL l ≤ 40 → (∀ i, i < g.length → i64r (g.getD i dIv).1 ∧ i64r (g.getD i dIv).2) → PC Tryz.prog 68 [.opt 0 0, .ssl (ics l) 0 l.length, .ssl (ivs g) 0 g.length] [some (91, [(iv v), (.osl 1 0 N.length), (nv z), (iv a), (iv b), (.ssl (spans S) (k * 5) (S.length - k))]), some (58, (nos N))] (iv (telL v a b S l g (N, z, k)).1) [some (91, [(iv v), (.osl 2 0 ((((telL v a b S l g (N, z, k))).2.1).length)), (nv (((telL v a b S l g (N, z, k))).2.2.1)), (iv a), (iv b), (.ssl (spans S) ((((telL v a b S l g (N, z, k))).2.2.2) * 5) (S.length - (((telL v a b S l g (N, z, k))).2.2.2)))]), none, some (58, (nos (((telL v a b S l g (N, z, k))).2.1)))]
 | 0, _, h => absurd h (Nat.not_lt_zero _)
 | m + 1, l, h => fun g N z k h1 h2 h3 h4 h5 h6 h7 h8 => tel_step l g v a b S N z k hSl hab hSr (fun c hc => qrt hSl hab hSr m c (by omega)) h1 h2 h3 h4 h5 h6 h7 h8
end Go.Proofs.YtmlnilkbolcknaaGreatDoor.Pm
namespace Go.Proofs.YtmlnilkbolcknaaGreatDoor.Pm
open Go Fr

mutual
/-- A group has kids, and what has kids is a group. -/
def gdI : It → Prop
 | .mk k _ _ _ _ ks => ((k = 4 ∨ k = 5) ↔ ks.length ≠ 0) ∧ gdL ks
def gdL : List It → Prop
 | [] => True
 | x :: l => gdI x ∧ gdL l
end
theorem qhj {x : It} (h : qdg x = true) : (iC x).length = 0 ∧ (iP x).length ≤ 16 := by
 unfold qdg at h
 by_cases c1 : (iP x).length = 0
 ·rw [if_pos c1] at h; cases h
 rw [if_neg c1] at h
 by_cases c2 : 16 < (iP x).length
 ·rw [if_pos c2] at h; cases h
 rw [if_neg c2] at h
 by_cases c3 : 0 < (iC x).length
 ·rw [if_pos c3] at h; cases h
 omega
theorem qhg {x : It} (h : qde x = true) : (iC x).length = 0 ∧ (iP x).length = 0 := by
 unfold qde at h
 by_cases c1 : (iP x).length = 0
 ·rw [if_pos c1] at h
  by_cases c2 : (iC x).length = 0
  ·exact ⟨c2, c1⟩
  ·rw [if_neg c2] at h; cases h
 ·rw [if_neg c1] at h; cases h
theorem qjn {x : It} (h : qbj x = true) : (iC x).length ≠ 0 := by
 unfold qbj at h
 by_cases c1 : (iC x).length = 0
 ·rw [if_pos c1] at h; cases h
 ·exact c1
mutual
theorem itS_good : ∀ (x : It) (lv n : Int), 0 ≤ n → (itS x lv n).1 = true → gdI x ∧ okI x ∧ (hgt x : Int) ≤ 32 - lv ∧ (lvs x : Int) ≤ n - (itS x lv n).2
 | .mk k s ps b ly ks, lv, n, hn, h => by
  rw [itS] at h ⊢
  rw [gdI, okI, hgt, lvs]
  by_cases c0 : n - 1 < 0 ∨ 31 < lv ∨ s < 1 ∨ 65536 < s
  ·rw [if_pos c0] at h; cases h
  rw [if_neg c0] at h ⊢
  by_cases c1 : k = 1
  ·rw [if_pos c1] at h ⊢
   have hk := qhj h
   simp only [iC, iP] at hk
   have hnil : ks = [] := List.length_eq_zero_iff.1 hk.1
   subst hnil
   refine ⟨⟨by simp; omega, by rw [gdL]; trivial⟩, ⟨.inr (.inr hk.2), by rw [okL]; trivial⟩, by rw [hgtL]; omega, by rw [if_neg (by omega)]; dsimp only; omega⟩
  rw [if_neg c1] at h ⊢
  by_cases c2 : k = 2 ∨ k = 3
  ·rw [if_pos c2] at h ⊢
   have hk := qhg h
   simp only [iC, iP] at hk
   have hnil : ks = [] := List.length_eq_zero_iff.1 hk.1
   subst hnil
   refine ⟨⟨by simp; omega, by rw [gdL]; trivial⟩, ⟨.inr (.inr (by omega)), by rw [okL]; trivial⟩, by rw [hgtL]; omega, by rw [if_neg (by omega)]; dsimp only; omega⟩
  rw [if_neg c2] at h ⊢
  by_cases c4 : k = 4 ∨ k = 5
  ·rw [if_pos c4] at h ⊢
   by_cases cg : qbj (.mk k s ps b ly ks) = true
   ·rw [if_pos cg] at h ⊢
    have hk := qjn cg
    simp only [iC] at hk
    have ih := qid ks (lv + 1) (n - 1) (by omega) h
    refine ⟨⟨⟨fun _ => hk, fun _ => c4⟩, ih.1⟩, ⟨by omega, ih.2.1⟩, by have := ih.2.2.1 hk; omega, by rw [if_pos c4]; have := ih.2.2.2; omega⟩
   ·rw [if_neg cg] at h; cases h
  ·rw [if_neg c4] at h; cases h
theorem qid : ∀ (l : List It) (lv n : Int), 0 ≤ n → (itL l lv n).1 = true → gdL l ∧ okL l ∧ (l.length ≠ 0 → (hgtL l : Int) ≤ 32 - lv) ∧ (lvsL l : Int) ≤ n - (itL l lv n).2
 | [], lv, n, hn, h => by rw [gdL, okL, itL, lvsL]; exact ⟨trivial, trivial, fun c => absurd rfl c, by dsimp only; omega⟩
 | x :: l, lv, n, hn, h => by
  rw [itL] at h ⊢
  by_cases c : (itS x lv n).1 = true
  ·rw [if_pos c] at h ⊢
   have h1 := itS_good x lv n hn c
   have hr := qsp x lv n hn
   have h2 := qid l lv (itS x lv n).2 (hr.2.2 c) h
   rw [gdL, okL, hgtL, lvsL]
   refine ⟨⟨h1.1, h2.1⟩, ⟨h1.2.1, h2.2.1⟩, fun _ => ?_, by have := h1.2.2.2; have := h2.2.2.2; omega⟩
   by_cases cl : l.length = 0
   ·have : l = [] := List.length_eq_zero_iff.1 cl
    subst this
    rw [hgtL]
    have := h1.2.2.1
    omega
   ·have := h1.2.2.1; have := h2.2.2.1 cl
    omega
  ·rw [if_neg c] at h; cases h
end
end Go.Proofs.YtmlnilkbolcknaaGreatDoor.Pm
namespace Go.Proofs.YtmlnilkbolcknaaGreatDoor.Pm
open Go Fr

theorem leaf1_len {u d : Int} {L : List Sp} {a b : Int} (h : (qbm 1 u d L a b).1 = 0) : (qbm 1 u d L a b).2.1.length = L.length + 1 := by
 unfold qbm at h ⊢
 split at h
 ·rename_i c
  rw [if_pos c, if_neg (by omega)]
  simp
 ·rename_i c
  exact absurd h c
mutual
theorem qzg : ∀ (x : It) (u d : Int) (t : StS), gdI x → (qah (toB x) u d t).1 = 0 → (qah (toB x) u d t).2.1.length = t.1.length + lvs x
 | .mk k s ps b ly ks, u, d, t, hg, h => by
  rw [gdI] at hg
  rw [toB, qah] at h ⊢
  rw [lvs]
  by_cases c : ks.length = 0
  ·have hk : ¬ (k = 4 ∨ k = 5) := fun q => hg.1.1 q c
   rw [if_pos c, if_neg (by decide)] at h ⊢
   rw [if_neg hk]
   exact leaf1_len h
  ·rw [if_neg c, if_pos rfl] at h ⊢
   rw [if_pos (hg.1.2 c)]
   exact qiv ks _ u d t hg.2 h
theorem qiv : ∀ (l : List It) (al u d : Int) (t : StS), gdL l → (qbx (toBs l) al u d t).1 = 0 → (qbx (toBs l) al u d t).2.1.length = t.1.length + lvsL l
 | [], al, u, d, t, _, h => by rw [toBs, qbx, lvsL]; rfl
 | x :: l, al, u, d, t, hg, h => by
  rw [gdL] at hg
  rw [toBs, qbx] at h ⊢
  rw [lvsL]
  dsimp only at h ⊢
  split at h
  ·rename_i c1
   rw [if_pos c1]
   split at h
   ·rename_i c2
    rw [if_pos c2]
    split at h
    ·rename_i c3
     rw [if_pos c3]
     rw [qiv l _ _ _ _ hg.2 h, qzg x _ _ t hg.1 c3]
     omega
    ·rename_i c3
     exact absurd h c3
   ·rename_i c2
    exact absurd h c2
  ·rename_i c1
   exact absurd h c1
end
/-- All four numbers of each span can be told. -/
def all4 (L : List Sp) : Prop := ∀ n ∈ L, I64 n.1 ∧ I64 n.2.1 ∧ I64 n.2.2.1 ∧ I64 n.2.2.2.1
theorem leaf1_all {u d : Int} {L : List Sp} {a b : Int} (hr : rightB u d = true) (hs : okSt L a b) (h4 : all4 L) (h : (qbm 1 u d L a b).1 = 0) : all4 (qbm 1 u d L a b).2.1 := by
 unfold qbm at h ⊢
 split at h
 ·rename_i c
  rw [if_pos c, if_neg (by omega)]
  intro n hn
  rcases List.mem_append.1 hn with hn | hn
  ·exact h4 n hn
  ·rw [List.mem_singleton.1 hn]
   exact ⟨(qif hs.1).1, (qif hs.1).2, (qif hr).1, (qif hr).2⟩
 ·rename_i c
  exact absurd h c
mutual
theorem qmz : ∀ (x : It) (u d : Int) (t : StS), rightB u d = true → okSt t.1 t.2.1 t.2.2 → all4 t.1 → (qah (toB x) u d t).1 = 0 → all4 (qah (toB x) u d t).2.1
 | .mk k s ps b ly ks, u, d, t, hr, hs, h4, h => by
  rw [toB, qah] at h ⊢
  by_cases c : ks.length = 0
  ·rw [if_pos c, if_neg (by decide)] at h ⊢
   exact leaf1_all hr hs h4 h
  ·rw [if_neg c, if_pos rfl] at h ⊢
   exact qkq ks _ u d t hr hs h4 h
theorem qkq : ∀ (l : List It) (al u d : Int) (t : StS), rightB u d = true → okSt t.1 t.2.1 t.2.2 → all4 t.1 → (qbx (toBs l) al u d t).1 = 0 → all4 (qbx (toBs l) al u d t).2.1
 | [], al, u, d, t, _, _, h4, h => by rw [toBs, qbx]; exact h4
 | x :: l, al, u, d, t, hr, hs, h4, h => by
  rw [toBs, qbx] at h ⊢
  dsimp only at h ⊢
  split at h
  ·rename_i c1
   rw [if_pos c1]
   split at h
   ·rename_i c2
    rw [if_pos c2]
    split at h
    ·rename_i c3
     rw [if_pos c3]
     exact qkq l _ u d _ hr (qnz _ _ _ _ (qkl c2) hs c3) (qmz x _ _ t (qkl c2) hs h4 c3) h
    ·rename_i c3
     exact absurd h c3
   ·rename_i c2
    exact absurd h c2
  ·rename_i c1
   exact absurd h c1
end
/-- A bar, as an item of its own. -/
def qae (l : List It) : It := .mk 0 1 [] (0, 0) [] l
theorem qkm {b : Beat} {u d : Int} (h : qbp b u d = 0) : (qah b u d ([], 0, 1)).1 = 0 := by
 unfold qbp at h
 split at h
 ·split at h
  ·split at h
   ·cases h
   ·exact h
  ·cases h
 ·rename_i c; exact absurd h c
theorem qkn {l : List It} {u d : Int} (hl : l.length ≠ 0) (hg : gdL l) (h : qbp (toB (qae l)) u d = 0) : (qac (toB (qae l)) u d).length = lvsL l := by
 have h1 : (qah (toB (qae l)) u d ([], 0, 1)).1 = 0 := by
  unfold qbp at h
  split at h
  ·split at h
   ·split at h
    ·cases h
    ·exact h
   ·cases h
  ·rename_i c; exact absurd h c
 unfold qac
 unfold qae at h1 ⊢
 rw [toB, qah, if_neg hl, if_pos rfl] at h1 ⊢
 rw [qiv l _ u d _ hg h1]
 exact Nat.zero_add _
theorem qis {l : List It} {u d : Int} (hr : rightB u d = true) (h : qbp (toB (qae l)) u d = 0) : all4 (qac (toB (qae l)) u d) := by
 have h1 : (qah (toB (qae l)) u d ([], 0, 1)).1 = 0 := qkm h
 unfold qac
 exact qmz _ u d _ hr st0_ok (fun n hn => by cases hn) h1
theorem qtk {L : List Sp} (h : all4 L) : ∀ i, i < L.length → I64 (L.getD i dS).1 ∧ I64 (L.getD i dS).2.1 ∧ I64 (L.getD i dS).2.2.1 ∧ I64 (L.getD i dS).2.2.2.1 := fun i hi => by
 rw [List.getD_eq_getElem?_getD, List.getElem?_eq_getElem hi]
 exact h _ (List.getElem_mem hi)
/-- A bar, told: what comes out, the notes, how many a tie makes longer, where the next one begins. -/
def barT (v : Int) (b : Br) (s : (Int × Int) × List Nt × Nat) : Int × (Int × Int) × List Nt × Nat :=
 if (make b.1 b.2.1).2.2 = 0 then
  if qbp (toB (qae b.2.2)) (make b.1 b.2.1).1 (make b.1 b.2.1).2.1 = 0 then
   if (telL v s.1.1 s.1.2 (qac (toB (qae b.2.2)) (make b.1 b.2.1).1 (make b.1 b.2.1).2.1) b.2.2 [] (s.2.1, s.2.2, 0)).1 = 0 then
    ((plus s.1.1 s.1.2 (make b.1 b.2.1).1 (make b.1 b.2.1).2.1).2.2, ((plus s.1.1 s.1.2 (make b.1 b.2.1).1 (make b.1 b.2.1).2.1).1, (plus s.1.1 s.1.2 (make b.1 b.2.1).1 (make b.1 b.2.1).2.1).2.1),
     (telL v s.1.1 s.1.2 (qac (toB (qae b.2.2)) (make b.1 b.2.1).1 (make b.1 b.2.1).2.1) b.2.2 [] (s.2.1, s.2.2, 0)).2.1,
     (telL v s.1.1 s.1.2 (qac (toB (qae b.2.2)) (make b.1 b.2.1).1 (make b.1 b.2.1).2.1) b.2.2 [] (s.2.1, s.2.2, 0)).2.2.1)
   else ((telL v s.1.1 s.1.2 (qac (toB (qae b.2.2)) (make b.1 b.2.1).1 (make b.1 b.2.1).2.1) b.2.2 [] (s.2.1, s.2.2, 0)).1, s)
  else (qbp (toB (qae b.2.2)) (make b.1 b.2.1).1 (make b.1 b.2.1).2.1, s)
 else ((make b.1 b.2.1).2.2, s)
def qcf (v : Int) : List Br → (Int × Int) × List Nt × Nat → Int × (Int × Int) × List Nt × Nat
 | [], s => (0, s)
 | b :: l, s => if (barT v b s).1 = 0 then qcf v l (barT v b s).2 else barT v b s
def qbz : List Vo → Int → List Nt → Int × List Nt
 | [], _, N => (0, N)
 | x :: l, i, N => if (qcf i x.2 ((0, 1), [], 0)).1 = 0 then qbz l (i + 1) (N ++ (qcf i x.2 ((0, 1), [], 0)).2.2.1) else ((qcf i x.2 ((0, 1), [], 0)).1, [])
/-- All that sounds in a piece. -/
def qab (l : List Vo) : Int × List Nt := if qbk l = 0 then qbz l 0 [] else (qbk l, [])
end Go.Proofs.YtmlnilkbolcknaaGreatDoor.Pm
namespace Go.Proofs.YtmlnilkbolcknaaGreatDoor.Pm
open Go Fr

set_option maxRecDepth 100000 in
set_option maxHeartbeats 4000000 in
theorem qnq (y : Br) (v a b : Int) (T : List Sp) (N : List Nt) (z q r : Nat) (hy : qrf y) (hw : (itL y.2.2 1 4095).1 = true) (hne : y.2.2.length ≠ 0) (hok : okTs (N, z, 0)) (hN : N.length ≤ 90000000000) (hab : I64 a ∧ I64 b) : PC Tryz.prog 35 [(.opt 0 0), (.agg [(iv y.1), (iv y.2.1), (.ssl (ics (y.2.2)) 0 ((y.2.2).length))])] [some (91, [(iv v), (.osl 1 0 N.length), (nv z), (iv a), (iv b), (.ssl (spans T) (q * 5) r)]), some (58, (nos N))] (iv ((barT v y ((a, b), N, z)).1)) [none, none, none] := by
 obtain ⟨ha, hb⟩ := hab
 have hab : I64 a ∧ I64 b := ⟨ha, hb⟩
 have hy1 : I64 y.1 := hy.1
 have hy2 : I64 y.2.1 := hy.2.1
 refine qas Tryz.func35 rfl (by kernel_rfl) (Nat.le_of_ble_eq_true rfl) (by kernel_rfl) (l0 := [ps 0 (.opt 0 0), ps 1 (.agg [(iv y.1), (iv y.2.1), (.ssl (ics (y.2.2)) 0 ((y.2.2).length))]), pb 0 91 [(iv v), (.osl 1 0 N.length), (nv z), (iv a), (iv b), (.ssl (spans T) (q * 5) r)], pb 1 58 (nos N)]) rfl (fun c0 Bor hc0 => ?_)
 refine qaa ?_
 refine T_k mixed [] [.k1, .d, .n, .k2, .n] [ps 3 (.opt 2 0), pb 2 47 [(iv y.1), (iv y.2.1), (.ssl (ics (y.2.2)) 0 ((y.2.2).length))]] (oz) ?_
 refine qaa ?_
 refine T_k mixed [(4, .call [] [(iv y.1), (iv y.2.1)] [] (.tup [(.agg [(iv ((Fr.make y.1 y.2.1).1)), (iv ((Fr.make y.1 y.2.1).2.1))]), (iv ((Fr.make y.1 y.2.1).2.2))]) [])] [.k2, .n, .n, .k3, .n] [ps 5 (.opt 82 0), ps 6 (iv ((Fr.make y.1 y.2.1).2.2)), pb 82 56 [(iv ((Fr.make y.1 y.2.1).1)), (iv ((Fr.make y.1 y.2.1).2.1))]] (oc (qsk y.1 y.2.1 (by first | assumption | omega) (by first | assumption | omega)) (oc (rfl : Ren0 50 [(iv y.1), (iv y.2.1)]) oz)) ?_
 refine qaa <| qaa ?_
 refine T_k mixed [] [.k4, .n, .r] [ps 18 (bv (!(decide (((Fr.make y.1 y.2.1).2.2) = 0))))] (oz) ?_
 by_cases h1 : ((Fr.make y.1 y.2.1).2.2) = 0
 ·refine T_el (bt h1) ?_
  refine qag <| qaa ?_
  have hmr := make_r h1
  have hmI := qif hmr
  obtain ⟨hmI1, hmI2⟩ := hmI
  have hmI := qif hmr
  have hfr : fitI (qae y.2.2) := by unfold qae; rw [fitI]; exact ⟨⟨by decide, by decide⟩, by decide, by decide, hy.2.2.1, hy.2.2.2⟩
  refine T_k mixed [(3, .call [] [(.agg [(iv 0), (iv 1), (.ssl [] 0 0), (iv 0), (iv 0), (sv (st ([] : List UInt8))), (.ssl (ics (y.2.2)) 0 ((y.2.2).length))])] [] (.agg [(iv (kd (toB (qae y.2.2)))), (iv (sh (toB (qae y.2.2)))), (.ssl (kc (toB (qae y.2.2))) 0 ((kids (toB (qae y.2.2))).length))]) [])] [.k3, .d, .n, .d, .k4, .n] [ps 7 (.opt 154 0), pb 154 125 [(iv (kd (toB (qae y.2.2)))), (iv (sh (toB (qae y.2.2)))), (.ssl (kc (toB (qae y.2.2))) 0 ((kids (toB (qae y.2.2))).length))]] (oc (beat_pc (qae y.2.2) hfr) (oc (rfl : Ren0 146 [(.agg [(iv 0), (iv 1), (.ssl [] 0 0), (iv 0), (iv 0), (sv (st ([] : List UInt8))), (.ssl (ics (y.2.2)) 0 ((y.2.2).length))])]) oz)) ?_
  refine qaa <| qaa ?_
  by_cases h2 : (qbp (toB (qae y.2.2)) (Fr.make y.1 y.2.1).1 (Fr.make y.1 y.2.1).2.1) = 0
  ·refine T_k mixed [(3, .call [] [(.agg [(iv (kd (toB (qae y.2.2)))), (iv (sh (toB (qae y.2.2)))), (.ssl (kc (toB (qae y.2.2))) 0 ((kids (toB (qae y.2.2))).length))]), (.agg [(iv ((Fr.make y.1 y.2.1).1)), (iv ((Fr.make y.1 y.2.1).2.1))])] [] (.tup [(.ssl (spans (qac (toB (qae y.2.2)) (Fr.make y.1 y.2.1).1 (Fr.make y.1 y.2.1).2.1)) 0 (((qac (toB (qae y.2.2)) (Fr.make y.1 y.2.1).1 (Fr.make y.1 y.2.1).2.1)).length)), (iv 0)]) [])] [.k3, .n, .d, .d, .n, .k3, .d] [ps 6 (iv 0), pb 0 91 [(iv v), (.osl 1 0 N.length), (nv z), (iv a), (iv b), (.ssl (spans (qac (toB (qae y.2.2)) (Fr.make y.1 y.2.1).1 (Fr.make y.1 y.2.1).2.1)) 0 (((qac (toB (qae y.2.2)) (Fr.make y.1 y.2.1).1 (Fr.make y.1 y.2.1).2.1)).length))]] (oc (by have e := qjx (toB (qae y.2.2)) (Fr.make y.1 y.2.1).1 (Fr.make y.1 y.2.1).2.1 hmI.1 hmI.2; rw [qit h2] at e; exact e : PC Tryz.prog 67 [(.agg [(iv (kd (toB (qae y.2.2)))), (iv (sh (toB (qae y.2.2)))), (.ssl (kc (toB (qae y.2.2))) 0 ((kids (toB (qae y.2.2))).length))]), (.agg [(iv ((Fr.make y.1 y.2.1).1)), (iv ((Fr.make y.1 y.2.1).2.1))])] [] (.tup [(.ssl (spans (qac (toB (qae y.2.2)) (Fr.make y.1 y.2.1).1 (Fr.make y.1 y.2.1).2.1)) 0 (((qac (toB (qae y.2.2)) (Fr.make y.1 y.2.1).1 (Fr.make y.1 y.2.1).2.1)).length)), (iv 0)]) []) (oc (rfl : Ren0 194 [(.agg [(iv (kd (toB (qae y.2.2)))), (iv (sh (toB (qae y.2.2)))), (.ssl (kc (toB (qae y.2.2))) 0 ((kids (toB (qae y.2.2))).length))]), (.agg [(iv ((Fr.make y.1 y.2.1).1)), (iv ((Fr.make y.1 y.2.1).2.1))])]) oz)) ?_
   refine qaa ?_
   refine T_k mixed [] [.k4, .n, .r] [ps 34 (bv false)] (oz) ?_
   refine qbf (b := false) rfl rfl ?_
   refine qag <| qaa <| qaa ?_
   have hig := qid y.2.2 1 4095 (by decide) hw
   have hir := qlo y.2.2 1 4095 (by decide)
   have hsl := qkn hne hig.1 h2
   have hi0 := hir.2.2 hw
   have hti := qrt (v := v) (a := a) (b := b) (S := (qac (toB (qae y.2.2)) (Fr.make y.1 y.2.1).1 (Fr.make y.1 y.2.1).2.1)) (by omega) hab (qtk (qis hmr h2)) _ y.2.2 (Nat.lt_succ_self _) [] N z 0 hy.2.2.2 hy.2.2.1 hig.2.1 hok (by omega) (by omega) (by have := hig.2.2.1 hne; simp only [List.length_nil]; omega) (fun i hi => absurd hi (Nat.not_lt_zero i))
   refine T_wk (Wk.eq (show _ = [ps 0 (.opt 0 0), ps 3 (.opt 2 0), ps 5 (.opt 82 0), ps 6 (iv 0), ps 34 (bv false), pb 0 91 [(iv v), (.osl 1 0 N.length), (nv z), (iv a), (iv b), (.ssl (spans (qac (toB (qae y.2.2)) (Fr.make y.1 y.2.1).1 (Fr.make y.1 y.2.1).2.1)) (0 * 5) ((qac (toB (qae y.2.2)) (Fr.make y.1 y.2.1).1 (Fr.make y.1 y.2.1).2.1).length - 0))], pb 1 58 (nos N), pb 2 47 [(iv y.1), (iv y.2.1), (.ssl (ics (y.2.2)) 0 ((y.2.2).length))], pb 82 56 [(iv ((Fr.make y.1 y.2.1).1)), (iv ((Fr.make y.1 y.2.1).2.1))]] from by rfl)) ?_
   refine T_k mixed [(3, .call [0, 1] [(.opt 0 0), (.ssl (ics (y.2.2)) 0 ((y.2.2).length)), (.ssl (ivs ([] : List Iv)) 0 (([] : List Iv).length))] [some (91, [(iv v), (.osl 1 0 N.length), (nv z), (iv a), (iv b), (.ssl (spans (qac (toB (qae y.2.2)) (Fr.make y.1 y.2.1).1 (Fr.make y.1 y.2.1).2.1)) (0 * 5) ((qac (toB (qae y.2.2)) (Fr.make y.1 y.2.1).1 (Fr.make y.1 y.2.1).2.1).length - 0))]), some (58, (nos N))] (iv ((telL v a b (qac (toB (qae y.2.2)) (Fr.make y.1 y.2.1).1 (Fr.make y.1 y.2.1).2.1) y.2.2 [] (N, z, 0)).1)) [some (91, [(iv v), (.osl 2 0 (((telL v a b (qac (toB (qae y.2.2)) (Fr.make y.1 y.2.1).1 (Fr.make y.1 y.2.1).2.1) y.2.2 [] (N, z, 0))).2.1.length)), (nv ((telL v a b (qac (toB (qae y.2.2)) (Fr.make y.1 y.2.1).1 (Fr.make y.1 y.2.1).2.1) y.2.2 [] (N, z, 0)).2.2.1)), (iv a), (iv b), (.ssl (spans (qac (toB (qae y.2.2)) (Fr.make y.1 y.2.1).1 (Fr.make y.1 y.2.1).2.1)) (((telL v a b (qac (toB (qae y.2.2)) (Fr.make y.1 y.2.1).1 (Fr.make y.1 y.2.1).2.1) y.2.2 [] (N, z, 0)).2.2.2) * 5) ((qac (toB (qae y.2.2)) (Fr.make y.1 y.2.1).1 (Fr.make y.1 y.2.1).2.1).length - (telL v a b (qac (toB (qae y.2.2)) (Fr.make y.1 y.2.1).1 (Fr.make y.1 y.2.1).2.1) y.2.2 [] (N, z, 0)).2.2.2))]), none, some (58, (nos ((telL v a b (qac (toB (qae y.2.2)) (Fr.make y.1 y.2.1).1 (Fr.make y.1 y.2.1).2.1) y.2.2 [] (N, z, 0)).2.1)))])] [.k1, .d, .k1, .d, .n, .d, .d, .n, .d, .d, .k1, .n] [ps 8 (iv ((telL v a b (qac (toB (qae y.2.2)) (Fr.make y.1 y.2.1).1 (Fr.make y.1 y.2.1).2.1) y.2.2 [] (N, z, 0)).1)), pb 0 91 [(iv v), (.osl 298 0 (((telL v a b (qac (toB (qae y.2.2)) (Fr.make y.1 y.2.1).1 (Fr.make y.1 y.2.1).2.1) y.2.2 [] (N, z, 0))).2.1.length)), (nv ((telL v a b (qac (toB (qae y.2.2)) (Fr.make y.1 y.2.1).1 (Fr.make y.1 y.2.1).2.1) y.2.2 [] (N, z, 0)).2.2.1)), (iv a), (iv b), (.ssl (spans (qac (toB (qae y.2.2)) (Fr.make y.1 y.2.1).1 (Fr.make y.1 y.2.1).2.1)) (((telL v a b (qac (toB (qae y.2.2)) (Fr.make y.1 y.2.1).1 (Fr.make y.1 y.2.1).2.1) y.2.2 [] (N, z, 0)).2.2.2) * 5) ((qac (toB (qae y.2.2)) (Fr.make y.1 y.2.1).1 (Fr.make y.1 y.2.1).2.1).length - (telL v a b (qac (toB (qae y.2.2)) (Fr.make y.1 y.2.1).1 (Fr.make y.1 y.2.1).2.1) y.2.2 [] (N, z, 0)).2.2.2))], pb 298 58 (renL (sigo [0, 1] 298) (nos ((telL v a b (qac (toB (qae y.2.2)) (Fr.make y.1 y.2.1).1 (Fr.make y.1 y.2.1).2.1) y.2.2 [] (N, z, 0)).2.1)))] (oc hti (oc (rfl : [(.opt 0 0), (.ssl (ics (y.2.2)) 0 ((y.2.2).length)), (.ssl [] 0 0)] = renL (sigi [0, 1] 298) [(.opt 0 0), (.ssl (ics (y.2.2)) 0 ((y.2.2).length)), (.ssl (ivs ([] : List Iv)) 0 (([] : List Iv).length))]) (oc (rfl : [(iv v), (.osl 1 0 N.length), (nv z), (iv a), (iv b), (.ssl (spans (qac (toB (qae y.2.2)) (Fr.make y.1 y.2.1).1 (Fr.make y.1 y.2.1).2.1)) (0 * 5) ((qac (toB (qae y.2.2)) (Fr.make y.1 y.2.1).1 (Fr.make y.1 y.2.1).2.1).length - 0))] = renL (sigi [0, 1] 298) [(iv v), (.osl 1 0 N.length), (nv z), (iv a), (iv b), (.ssl (spans (qac (toB (qae y.2.2)) (Fr.make y.1 y.2.1).1 (Fr.make y.1 y.2.1).2.1)) (0 * 5) ((qac (toB (qae y.2.2)) (Fr.make y.1 y.2.1).1 (Fr.make y.1 y.2.1).2.1).length - 0))]) (oc ((qbd (qal _)).symm : (nos N) = renL (sigi [0, 1] 298) (nos N)) oz)))) ?_
   refine T_wk (Wk.eq (show _ = [ps 0 (.opt 0 0), ps 5 (.opt 82 0), ps 8 (iv ((telL v a b (qac (toB (qae y.2.2)) (Fr.make y.1 y.2.1).1 (Fr.make y.1 y.2.1).2.1) y.2.2 [] (N, z, 0)).1)), pb 0 91 [(iv v), (.osl 298 0 (((telL v a b (qac (toB (qae y.2.2)) (Fr.make y.1 y.2.1).1 (Fr.make y.1 y.2.1).2.1) y.2.2 [] (N, z, 0))).2.1.length)), (nv ((telL v a b (qac (toB (qae y.2.2)) (Fr.make y.1 y.2.1).1 (Fr.make y.1 y.2.1).2.1) y.2.2 [] (N, z, 0)).2.2.1)), (iv a), (iv b), (.ssl (spans (qac (toB (qae y.2.2)) (Fr.make y.1 y.2.1).1 (Fr.make y.1 y.2.1).2.1)) (((telL v a b (qac (toB (qae y.2.2)) (Fr.make y.1 y.2.1).1 (Fr.make y.1 y.2.1).2.1) y.2.2 [] (N, z, 0)).2.2.2) * 5) ((qac (toB (qae y.2.2)) (Fr.make y.1 y.2.1).1 (Fr.make y.1 y.2.1).2.1).length - (telL v a b (qac (toB (qae y.2.2)) (Fr.make y.1 y.2.1).1 (Fr.make y.1 y.2.1).2.1) y.2.2 [] (N, z, 0)).2.2.2))], pb 82 56 [(iv ((Fr.make y.1 y.2.1).1)), (iv ((Fr.make y.1 y.2.1).2.1))], pb 298 58 (nos ((telL v a b (qac (toB (qae y.2.2)) (Fr.make y.1 y.2.1).1 (Fr.make y.1 y.2.1).2.1) y.2.2 [] (N, z, 0)).2.1))] from by simp only [qbd (qal _)])) ?_
   refine qaa ?_
   refine T_k mixed [] [.k3, .n, .r] [ps 41 (bv (!(decide (((telL v a b (qac (toB (qae y.2.2)) (Fr.make y.1 y.2.1).1 (Fr.make y.1 y.2.1).2.1) y.2.2 [] (N, z, 0)).1) = 0))))] (oz) ?_
   by_cases h3 : ((telL v a b (qac (toB (qae y.2.2)) (Fr.make y.1 y.2.1).1 (Fr.make y.1 y.2.1).2.1) y.2.2 [] (N, z, 0)).1) = 0
   ·refine T_el (bt h3) ?_
    refine qag <| qaa ?_
    refine T_kd mixed [(6, .call [] [(.agg [(iv a), (iv b)]), (.agg [(iv ((Fr.make y.1 y.2.1).1)), (iv ((Fr.make y.1 y.2.1).2.1))])] [] (.tup [(.agg [(iv ((Fr.plus a b ((Fr.make y.1 y.2.1).1) ((Fr.make y.1 y.2.1).2.1)).1)), (iv ((Fr.plus a b ((Fr.make y.1 y.2.1).1) ((Fr.make y.1 y.2.1).2.1)).2.1))]), (iv ((Fr.plus a b ((Fr.make y.1 y.2.1).1) ((Fr.make y.1 y.2.1).2.1)).2.2))]) [])] [[], [], [1], [1, 2], [1, 2, 3], [], [1, 2, 3, 4, 5], [1, 2, 3, 4, 5, 6], [1, 2, 3, 4, 5, 6, 7], [1, 2, 3, 4, 5, 6, 7], [0, 1, 2, 3, 4, 5, 6, 7, 8], [0, 1, 2, 3, 4, 5, 6, 7, 8, 10], [0, 1, 2, 3, 4, 5, 6, 7, 8, 10, 11], [0, 1, 2, 3, 4, 5, 6, 7, 8, 9, 10, 11, 12]] [([88], [0]), ([90], [0]), ([92], [90]), ([94], [92]), ([96], [1, 94]), ([98], [10, 165]), ([100], [96, 98]), ([86], [100]), ([102], [86]), ([104], [86]), ([106], [88]), ([108], [106]), ([1], [1, 102, 108]), ([12], [104])] [.d, .d, .n, .d, .d, .d, .n, .d, .r] [ps 6 (iv ((Fr.plus a b ((Fr.make y.1 y.2.1).1) ((Fr.make y.1 y.2.1).2.1)).2.2)), pb 0 91 [(iv v), (.osl 298 0 (((telL v a b (qac (toB (qae y.2.2)) (Fr.make y.1 y.2.1).1 (Fr.make y.1 y.2.1).2.1) y.2.2 [] (N, z, 0))).2.1.length)), (nv ((telL v a b (qac (toB (qae y.2.2)) (Fr.make y.1 y.2.1).1 (Fr.make y.1 y.2.1).2.1) y.2.2 [] (N, z, 0)).2.2.1)), (iv ((Fr.plus a b ((Fr.make y.1 y.2.1).1) ((Fr.make y.1 y.2.1).2.1)).1)), (iv ((Fr.plus a b ((Fr.make y.1 y.2.1).1) ((Fr.make y.1 y.2.1).2.1)).2.1)), (.ssl (spans (qac (toB (qae y.2.2)) (Fr.make y.1 y.2.1).1 (Fr.make y.1 y.2.1).2.1)) (((telL v a b (qac (toB (qae y.2.2)) (Fr.make y.1 y.2.1).1 (Fr.make y.1 y.2.1).2.1) y.2.2 [] (N, z, 0)).2.2.2) * 5) ((qac (toB (qae y.2.2)) (Fr.make y.1 y.2.1).1 (Fr.make y.1 y.2.1).2.1).length - (telL v a b (qac (toB (qae y.2.2)) (Fr.make y.1 y.2.1).1 (Fr.make y.1 y.2.1).2.1) y.2.2 [] (N, z, 0)).2.2.2))]] (oc (qiz a b ((Fr.make y.1 y.2.1).1) ((Fr.make y.1 y.2.1).2.1) (by first | assumption | omega) (by first | assumption | omega) (by first | assumption | omega) (by first | assumption | omega)) (oc (rfl : Ren0 378 [(.agg [(iv a), (iv b)]), (.agg [(iv ((Fr.make y.1 y.2.1).1)), (iv ((Fr.make y.1 y.2.1).2.1))])]) oz)) ?_
    refine qaa ?_
    refine T_k mixed [] [.n, .d, .r] [ps 4 (iv ((Fr.plus a b ((Fr.make y.1 y.2.1).1) ((Fr.make y.1 y.2.1).2.1)).2.2))] (oz) ?_
    have hR : (barT v y ((a, b), N, z)).1 = ((Fr.plus a b ((Fr.make y.1 y.2.1).1) ((Fr.make y.1 y.2.1).2.1)).2.2) := by unfold barT; dsimp only; rw [if_pos h1, if_pos h2, if_pos h3]
    rw [hR]
    exact qai fun cx_ a_ hI_ => qby (H' := [none, none, none]) (.inr rfl) (Wk.ren3 [ps 4 (iv ((Fr.plus a b ((Fr.make y.1 y.2.1).1) ((Fr.make y.1 y.2.1).2.1)).2.2)), pb 0 91 [(iv v), (.osl 2 0 (((telL v a b (qac (toB (qae y.2.2)) (Fr.make y.1 y.2.1).1 (Fr.make y.1 y.2.1).2.1) y.2.2 [] (N, z, 0))).2.1.length)), (nv ((telL v a b (qac (toB (qae y.2.2)) (Fr.make y.1 y.2.1).1 (Fr.make y.1 y.2.1).2.1) y.2.2 [] (N, z, 0)).2.2.1)), (iv ((Fr.plus a b ((Fr.make y.1 y.2.1).1) ((Fr.make y.1 y.2.1).2.1)).1)), (iv ((Fr.plus a b ((Fr.make y.1 y.2.1).1) ((Fr.make y.1 y.2.1).2.1)).2.1)), (.ssl (spans (qac (toB (qae y.2.2)) (Fr.make y.1 y.2.1).1 (Fr.make y.1 y.2.1).2.1)) (((telL v a b (qac (toB (qae y.2.2)) (Fr.make y.1 y.2.1).1 (Fr.make y.1 y.2.1).2.1) y.2.2 [] (N, z, 0)).2.2.2) * 5) ((qac (toB (qae y.2.2)) (Fr.make y.1 y.2.1).1 (Fr.make y.1 y.2.1).2.1).length - (telL v a b (qac (toB (qae y.2.2)) (Fr.make y.1 y.2.1).1 (Fr.make y.1 y.2.1).2.1) y.2.2 [] (N, z, 0)).2.2.2))], pb 2 58 (nos ((telL v a b (qac (toB (qae y.2.2)) (Fr.make y.1 y.2.1).1 (Fr.make y.1 y.2.1).2.1) y.2.2 [] (N, z, 0)).2.1))] 2 hc0 [0, 1, 298] [(kb 2, (nos ((telL v a b (qac (toB (qae y.2.2)) (Fr.make y.1 y.2.1).1 (Fr.make y.1 y.2.1).2.1) y.2.2 [] (N, z, 0)).2.1)))] (oc (qal _) (oz)) (by kernel_rfl) rfl rfl (by kernel_rfl) (by kernel_rfl)) rfl (oz) (fun cx_ a_ hI_ => qbc (l' := [ps 4 (iv ((Fr.plus a b ((Fr.make y.1 y.2.1).1) ((Fr.make y.1 y.2.1).2.1)).2.2)), pb 0 91 [(iv v), (.osl 2 0 (((telL v a b (qac (toB (qae y.2.2)) (Fr.make y.1 y.2.1).1 (Fr.make y.1 y.2.1).2.1) y.2.2 [] (N, z, 0))).2.1.length)), (nv ((telL v a b (qac (toB (qae y.2.2)) (Fr.make y.1 y.2.1).1 (Fr.make y.1 y.2.1).2.1) y.2.2 [] (N, z, 0)).2.2.1)), (iv ((Fr.plus a b ((Fr.make y.1 y.2.1).1) ((Fr.make y.1 y.2.1).2.1)).1)), (iv ((Fr.plus a b ((Fr.make y.1 y.2.1).1) ((Fr.make y.1 y.2.1).2.1)).2.1)), (.ssl (spans (qac (toB (qae y.2.2)) (Fr.make y.1 y.2.1).1 (Fr.make y.1 y.2.1).2.1)) (((telL v a b (qac (toB (qae y.2.2)) (Fr.make y.1 y.2.1).1 (Fr.make y.1 y.2.1).2.1) y.2.2 [] (N, z, 0)).2.2.2) * 5) ((qac (toB (qae y.2.2)) (Fr.make y.1 y.2.1).1 (Fr.make y.1 y.2.1).2.1).length - (telL v a b (qac (toB (qae y.2.2)) (Fr.make y.1 y.2.1).1 (Fr.make y.1 y.2.1).2.1) y.2.2 [] (N, z, 0)).2.2.2))], pb 2 58 (nos ((telL v a b (qac (toB (qae y.2.2)) (Fr.make y.1 y.2.1).1 (Fr.make y.1 y.2.1).2.1) y.2.2 [] (N, z, 0)).2.1))]) (by kernel_rfl) cx_ a_ hI_) hI_
   refine T_th (bf h3) ?_
   refine qaa ?_
   refine T_k mixed [] [.d, .n, .d, .d, .d, .k1, .d, .r] [ps 4 (iv ((telL v a b (qac (toB (qae y.2.2)) (Fr.make y.1 y.2.1).1 (Fr.make y.1 y.2.1).2.1) y.2.2 [] (N, z, 0)).1))] (oz) ?_
   have hR : (barT v y ((a, b), N, z)).1 = ((telL v a b (qac (toB (qae y.2.2)) (Fr.make y.1 y.2.1).1 (Fr.make y.1 y.2.1).2.1) y.2.2 [] (N, z, 0)).1) := by unfold barT; dsimp only; rw [if_pos h1, if_pos h2, if_neg h3]
   rw [hR]
   exact qai fun cx_ a_ hI_ => qby (H' := [none, none, none]) (.inr rfl) (Wk.ren3 [ps 4 (iv ((telL v a b (qac (toB (qae y.2.2)) (Fr.make y.1 y.2.1).1 (Fr.make y.1 y.2.1).2.1) y.2.2 [] (N, z, 0)).1)), pb 0 91 [(iv v), (.osl 2 0 (((telL v a b (qac (toB (qae y.2.2)) (Fr.make y.1 y.2.1).1 (Fr.make y.1 y.2.1).2.1) y.2.2 [] (N, z, 0))).2.1.length)), (nv ((telL v a b (qac (toB (qae y.2.2)) (Fr.make y.1 y.2.1).1 (Fr.make y.1 y.2.1).2.1) y.2.2 [] (N, z, 0)).2.2.1)), (iv a), (iv b), (.ssl (spans (qac (toB (qae y.2.2)) (Fr.make y.1 y.2.1).1 (Fr.make y.1 y.2.1).2.1)) (((telL v a b (qac (toB (qae y.2.2)) (Fr.make y.1 y.2.1).1 (Fr.make y.1 y.2.1).2.1) y.2.2 [] (N, z, 0)).2.2.2) * 5) ((qac (toB (qae y.2.2)) (Fr.make y.1 y.2.1).1 (Fr.make y.1 y.2.1).2.1).length - (telL v a b (qac (toB (qae y.2.2)) (Fr.make y.1 y.2.1).1 (Fr.make y.1 y.2.1).2.1) y.2.2 [] (N, z, 0)).2.2.2))], pb 2 58 (nos ((telL v a b (qac (toB (qae y.2.2)) (Fr.make y.1 y.2.1).1 (Fr.make y.1 y.2.1).2.1) y.2.2 [] (N, z, 0)).2.1))] 2 hc0 [0, 1, 298] [(kb 2, (nos ((telL v a b (qac (toB (qae y.2.2)) (Fr.make y.1 y.2.1).1 (Fr.make y.1 y.2.1).2.1) y.2.2 [] (N, z, 0)).2.1)))] (oc (qal _) (oz)) (by kernel_rfl) rfl rfl (by kernel_rfl) (by kernel_rfl)) rfl (oz) (fun cx_ a_ hI_ => qbc (l' := [ps 4 (iv ((telL v a b (qac (toB (qae y.2.2)) (Fr.make y.1 y.2.1).1 (Fr.make y.1 y.2.1).2.1) y.2.2 [] (N, z, 0)).1)), pb 0 91 [(iv v), (.osl 2 0 (((telL v a b (qac (toB (qae y.2.2)) (Fr.make y.1 y.2.1).1 (Fr.make y.1 y.2.1).2.1) y.2.2 [] (N, z, 0))).2.1.length)), (nv ((telL v a b (qac (toB (qae y.2.2)) (Fr.make y.1 y.2.1).1 (Fr.make y.1 y.2.1).2.1) y.2.2 [] (N, z, 0)).2.2.1)), (iv a), (iv b), (.ssl (spans (qac (toB (qae y.2.2)) (Fr.make y.1 y.2.1).1 (Fr.make y.1 y.2.1).2.1)) (((telL v a b (qac (toB (qae y.2.2)) (Fr.make y.1 y.2.1).1 (Fr.make y.1 y.2.1).2.1) y.2.2 [] (N, z, 0)).2.2.2) * 5) ((qac (toB (qae y.2.2)) (Fr.make y.1 y.2.1).1 (Fr.make y.1 y.2.1).2.1).length - (telL v a b (qac (toB (qae y.2.2)) (Fr.make y.1 y.2.1).1 (Fr.make y.1 y.2.1).2.1) y.2.2 [] (N, z, 0)).2.2.2))], pb 2 58 (nos ((telL v a b (qac (toB (qae y.2.2)) (Fr.make y.1 y.2.1).1 (Fr.make y.1 y.2.1).2.1) y.2.2 [] (N, z, 0)).2.1))]) (by kernel_rfl) cx_ a_ hI_) hI_
  refine T_k mixed [(3, .call [] [(.agg [(iv (kd (toB (qae y.2.2)))), (iv (sh (toB (qae y.2.2)))), (.ssl (kc (toB (qae y.2.2))) 0 ((kids (toB (qae y.2.2))).length))]), (.agg [(iv ((Fr.make y.1 y.2.1).1)), (iv ((Fr.make y.1 y.2.1).2.1))])] [] (.tup [(.ssl [] 0 0), (iv (qbp (toB (qae y.2.2)) (Fr.make y.1 y.2.1).1 (Fr.make y.1 y.2.1).2.1))]) [])] [.k3, .n, .d, .d, .n, .k3, .d] [ps 6 (iv (qbp (toB (qae y.2.2)) (Fr.make y.1 y.2.1).1 (Fr.make y.1 y.2.1).2.1)), pb 0 91 [(iv v), (.osl 1 0 N.length), (nv z), (iv a), (iv b), (.ssl [] 0 0)]] (oc (by have e := qjx (toB (qae y.2.2)) (Fr.make y.1 y.2.1).1 (Fr.make y.1 y.2.1).2.1 hmI.1 hmI.2; rw [qeu rfl h2] at e; exact e : PC Tryz.prog 67 [(.agg [(iv (kd (toB (qae y.2.2)))), (iv (sh (toB (qae y.2.2)))), (.ssl (kc (toB (qae y.2.2))) 0 ((kids (toB (qae y.2.2))).length))]), (.agg [(iv ((Fr.make y.1 y.2.1).1)), (iv ((Fr.make y.1 y.2.1).2.1))])] [] (.tup [(.ssl [] 0 0), (iv (qbp (toB (qae y.2.2)) (Fr.make y.1 y.2.1).1 (Fr.make y.1 y.2.1).2.1))]) []) (oc (rfl : Ren0 194 [(.agg [(iv (kd (toB (qae y.2.2)))), (iv (sh (toB (qae y.2.2)))), (.ssl (kc (toB (qae y.2.2))) 0 ((kids (toB (qae y.2.2))).length))]), (.agg [(iv ((Fr.make y.1 y.2.1).1)), (iv ((Fr.make y.1 y.2.1).2.1))])]) oz)) ?_
  refine qaa ?_
  refine T_k mixed [] [.k4, .n, .r] [ps 34 (bv (!(decide ((qbp (toB (qae y.2.2)) (Fr.make y.1 y.2.1).1 (Fr.make y.1 y.2.1).2.1) = 0))))] (oz) ?_
  refine T_th (bf h2) ?_
  refine qaa ?_
  refine T_k mixed [] [.d, .d, .n, .d, .d, .d, .k2, .d, .d] [ps 4 (iv (qbp (toB (qae y.2.2)) (Fr.make y.1 y.2.1).1 (Fr.make y.1 y.2.1).2.1))] (oz) ?_
  have hR : (barT v y ((a, b), N, z)).1 = (qbp (toB (qae y.2.2)) (Fr.make y.1 y.2.1).1 (Fr.make y.1 y.2.1).2.1) := by unfold barT; dsimp only; rw [if_pos h1, if_neg h2]
  rw [hR]
  exact qai fun cx_ a_ hI_ => qby (H' := [none, none, none]) (.inr rfl) (Wk.ren3D [ps 4 (iv (qbp (toB (qae y.2.2)) (Fr.make y.1 y.2.1).1 (Fr.make y.1 y.2.1).2.1)), pb 0 91 [(iv v), (.osl 2 0 N.length), (nv z), (iv a), (iv b), (.ssl [] 0 0)], pb 2 58 (nos N)] 2 hc0 [0, 1, 1] [(kb 2, (nos N))] (oc (qal _) (oz)) (by kernel_rfl) rfl (by kernel_rfl) (by kernel_rfl) (by kernel_rfl)) rfl (oz) (fun cx_ a_ hI_ => qbc (l' := [ps 4 (iv (qbp (toB (qae y.2.2)) (Fr.make y.1 y.2.1).1 (Fr.make y.1 y.2.1).2.1)), pb 0 91 [(iv v), (.osl 2 0 N.length), (nv z), (iv a), (iv b), (.ssl [] 0 0)], pb 2 58 (nos N)]) (by kernel_rfl) cx_ a_ hI_) hI_
 refine T_th (bf h1) ?_
 refine qaa ?_
 refine T_k mixed [] [.d, .d, .n, .d, .d, .d, .k2, .d, .d] [ps 4 (iv ((Fr.make y.1 y.2.1).2.2))] (oz) ?_
 have hR : (barT v y ((a, b), N, z)).1 = ((Fr.make y.1 y.2.1).2.2) := by unfold barT; dsimp only; rw [if_neg h1]
 rw [hR]
 exact qai fun cx_ a_ hI_ => qby (H' := [none, none, none]) (.inr rfl) (Wk.ren3D [ps 4 (iv ((Fr.make y.1 y.2.1).2.2)), pb 0 91 [(iv v), (.osl 2 0 N.length), (nv z), (iv a), (iv b), (.ssl (spans T) (q * 5) r)], pb 2 58 (nos N)] 2 hc0 [0, 1, 1] [(kb 2, (nos N))] (oc (qal _) (oz)) (by kernel_rfl) rfl (by kernel_rfl) (by kernel_rfl) (by kernel_rfl)) rfl (oz) (fun cx_ a_ hI_ => qbc (l' := [ps 4 (iv ((Fr.make y.1 y.2.1).2.2)), pb 0 91 [(iv v), (.osl 2 0 N.length), (nv z), (iv a), (iv b), (.ssl (spans T) (q * 5) r)], pb 2 58 (nos N)]) (by kernel_rfl) cx_ a_ hI_) hI_
set_option maxRecDepth 100000 in
set_option maxHeartbeats 4000000 in
theorem qro (y : Br) (v a b : Int) (T : List Sp) (N : List Nt) (z q r : Nat) (hy : qrf y) (hw : (itL y.2.2 1 4095).1 = true) (hne : y.2.2.length ≠ 0) (hok : okTs (N, z, 0)) (hN : N.length ≤ 90000000000) (hab : I64 a ∧ I64 b) (h0 : (barT v y ((a, b), N, z)).1 = 0) : PC Tryz.prog 35 [(.opt 0 0), (.agg [(iv y.1), (iv y.2.1), (.ssl (ics (y.2.2)) 0 ((y.2.2).length))])] [some (91, [(iv v), (.osl 1 0 N.length), (nv z), (iv a), (iv b), (.ssl (spans T) (q * 5) r)]), some (58, (nos N))] (iv ((barT v y ((a, b), N, z)).1)) [some (91, [(iv v), (.osl 2 0 (((barT v y ((a, b), N, z)).2.2.1).length)), (nv ((barT v y ((a, b), N, z)).2.2.2)), (iv ((barT v y ((a, b), N, z)).2.1.1)), (iv ((barT v y ((a, b), N, z)).2.1.2)), (.ssl (spans (qac (toB (qae y.2.2)) (Fr.make y.1 y.2.1).1 (Fr.make y.1 y.2.1).2.1)) (((telL v a b (qac (toB (qae y.2.2)) (Fr.make y.1 y.2.1).1 (Fr.make y.1 y.2.1).2.1) y.2.2 [] (N, z, 0)).2.2.2) * 5) ((qac (toB (qae y.2.2)) (Fr.make y.1 y.2.1).1 (Fr.make y.1 y.2.1).2.1).length - (telL v a b (qac (toB (qae y.2.2)) (Fr.make y.1 y.2.1).1 (Fr.make y.1 y.2.1).2.1) y.2.2 [] (N, z, 0)).2.2.2))]), none, some (58, (nos ((barT v y ((a, b), N, z)).2.2.1)))] := by
 obtain ⟨ha, hb⟩ := hab
 have hab : I64 a ∧ I64 b := ⟨ha, hb⟩
 have hy1 : I64 y.1 := hy.1
 have hy2 : I64 y.2.1 := hy.2.1
 refine qas Tryz.func35 rfl (by kernel_rfl) (Nat.le_of_ble_eq_true rfl) (by kernel_rfl) (l0 := [ps 0 (.opt 0 0), ps 1 (.agg [(iv y.1), (iv y.2.1), (.ssl (ics (y.2.2)) 0 ((y.2.2).length))]), pb 0 91 [(iv v), (.osl 1 0 N.length), (nv z), (iv a), (iv b), (.ssl (spans T) (q * 5) r)], pb 1 58 (nos N)]) rfl (fun c0 Bor hc0 => ?_)
 refine qaa ?_
 refine T_k mixed [] [.k1, .d, .n, .k2, .n] [ps 3 (.opt 2 0), pb 2 47 [(iv y.1), (iv y.2.1), (.ssl (ics (y.2.2)) 0 ((y.2.2).length))]] (oz) ?_
 refine qaa ?_
 refine T_k mixed [(4, .call [] [(iv y.1), (iv y.2.1)] [] (.tup [(.agg [(iv ((Fr.make y.1 y.2.1).1)), (iv ((Fr.make y.1 y.2.1).2.1))]), (iv ((Fr.make y.1 y.2.1).2.2))]) [])] [.k2, .n, .n, .k3, .n] [ps 5 (.opt 82 0), ps 6 (iv ((Fr.make y.1 y.2.1).2.2)), pb 82 56 [(iv ((Fr.make y.1 y.2.1).1)), (iv ((Fr.make y.1 y.2.1).2.1))]] (oc (qsk y.1 y.2.1 (by first | assumption | omega) (by first | assumption | omega)) (oc (rfl : Ren0 50 [(iv y.1), (iv y.2.1)]) oz)) ?_
 refine qaa <| qaa ?_
 refine T_k mixed [] [.k4, .n, .r] [ps 18 (bv (!(decide (((Fr.make y.1 y.2.1).2.2) = 0))))] (oz) ?_
 by_cases h1 : ((Fr.make y.1 y.2.1).2.2) = 0
 ·refine T_el (bt h1) ?_
  refine qag <| qaa ?_
  have hmr := make_r h1
  have hmI := qif hmr
  obtain ⟨hmI1, hmI2⟩ := hmI
  have hmI := qif hmr
  have hfr : fitI (qae y.2.2) := by unfold qae; rw [fitI]; exact ⟨⟨by decide, by decide⟩, by decide, by decide, hy.2.2.1, hy.2.2.2⟩
  refine T_k mixed [(3, .call [] [(.agg [(iv 0), (iv 1), (.ssl [] 0 0), (iv 0), (iv 0), (sv (st ([] : List UInt8))), (.ssl (ics (y.2.2)) 0 ((y.2.2).length))])] [] (.agg [(iv (kd (toB (qae y.2.2)))), (iv (sh (toB (qae y.2.2)))), (.ssl (kc (toB (qae y.2.2))) 0 ((kids (toB (qae y.2.2))).length))]) [])] [.k3, .d, .n, .d, .k4, .n] [ps 7 (.opt 154 0), pb 154 125 [(iv (kd (toB (qae y.2.2)))), (iv (sh (toB (qae y.2.2)))), (.ssl (kc (toB (qae y.2.2))) 0 ((kids (toB (qae y.2.2))).length))]] (oc (beat_pc (qae y.2.2) hfr) (oc (rfl : Ren0 146 [(.agg [(iv 0), (iv 1), (.ssl [] 0 0), (iv 0), (iv 0), (sv (st ([] : List UInt8))), (.ssl (ics (y.2.2)) 0 ((y.2.2).length))])]) oz)) ?_
  refine qaa <| qaa ?_
  by_cases h2 : (qbp (toB (qae y.2.2)) (Fr.make y.1 y.2.1).1 (Fr.make y.1 y.2.1).2.1) = 0
  ·refine T_k mixed [(3, .call [] [(.agg [(iv (kd (toB (qae y.2.2)))), (iv (sh (toB (qae y.2.2)))), (.ssl (kc (toB (qae y.2.2))) 0 ((kids (toB (qae y.2.2))).length))]), (.agg [(iv ((Fr.make y.1 y.2.1).1)), (iv ((Fr.make y.1 y.2.1).2.1))])] [] (.tup [(.ssl (spans (qac (toB (qae y.2.2)) (Fr.make y.1 y.2.1).1 (Fr.make y.1 y.2.1).2.1)) 0 (((qac (toB (qae y.2.2)) (Fr.make y.1 y.2.1).1 (Fr.make y.1 y.2.1).2.1)).length)), (iv 0)]) [])] [.k3, .n, .d, .d, .n, .k3, .d] [ps 6 (iv 0), pb 0 91 [(iv v), (.osl 1 0 N.length), (nv z), (iv a), (iv b), (.ssl (spans (qac (toB (qae y.2.2)) (Fr.make y.1 y.2.1).1 (Fr.make y.1 y.2.1).2.1)) 0 (((qac (toB (qae y.2.2)) (Fr.make y.1 y.2.1).1 (Fr.make y.1 y.2.1).2.1)).length))]] (oc (by have e := qjx (toB (qae y.2.2)) (Fr.make y.1 y.2.1).1 (Fr.make y.1 y.2.1).2.1 hmI.1 hmI.2; rw [qit h2] at e; exact e : PC Tryz.prog 67 [(.agg [(iv (kd (toB (qae y.2.2)))), (iv (sh (toB (qae y.2.2)))), (.ssl (kc (toB (qae y.2.2))) 0 ((kids (toB (qae y.2.2))).length))]), (.agg [(iv ((Fr.make y.1 y.2.1).1)), (iv ((Fr.make y.1 y.2.1).2.1))])] [] (.tup [(.ssl (spans (qac (toB (qae y.2.2)) (Fr.make y.1 y.2.1).1 (Fr.make y.1 y.2.1).2.1)) 0 (((qac (toB (qae y.2.2)) (Fr.make y.1 y.2.1).1 (Fr.make y.1 y.2.1).2.1)).length)), (iv 0)]) []) (oc (rfl : Ren0 194 [(.agg [(iv (kd (toB (qae y.2.2)))), (iv (sh (toB (qae y.2.2)))), (.ssl (kc (toB (qae y.2.2))) 0 ((kids (toB (qae y.2.2))).length))]), (.agg [(iv ((Fr.make y.1 y.2.1).1)), (iv ((Fr.make y.1 y.2.1).2.1))])]) oz)) ?_
   refine qaa ?_
   refine T_k mixed [] [.k4, .n, .r] [ps 34 (bv false)] (oz) ?_
   refine qbf (b := false) rfl rfl ?_
   refine qag <| qaa <| qaa ?_
   have hig := qid y.2.2 1 4095 (by decide) hw
   have hir := qlo y.2.2 1 4095 (by decide)
   have hsl := qkn hne hig.1 h2
   have hi0 := hir.2.2 hw
   have hti := qrt (v := v) (a := a) (b := b) (S := (qac (toB (qae y.2.2)) (Fr.make y.1 y.2.1).1 (Fr.make y.1 y.2.1).2.1)) (by omega) hab (qtk (qis hmr h2)) _ y.2.2 (Nat.lt_succ_self _) [] N z 0 hy.2.2.2 hy.2.2.1 hig.2.1 hok (by omega) (by omega) (by have := hig.2.2.1 hne; simp only [List.length_nil]; omega) (fun i hi => absurd hi (Nat.not_lt_zero i))
   refine T_wk (Wk.eq (show _ = [ps 0 (.opt 0 0), ps 3 (.opt 2 0), ps 5 (.opt 82 0), ps 6 (iv 0), ps 34 (bv false), pb 0 91 [(iv v), (.osl 1 0 N.length), (nv z), (iv a), (iv b), (.ssl (spans (qac (toB (qae y.2.2)) (Fr.make y.1 y.2.1).1 (Fr.make y.1 y.2.1).2.1)) (0 * 5) ((qac (toB (qae y.2.2)) (Fr.make y.1 y.2.1).1 (Fr.make y.1 y.2.1).2.1).length - 0))], pb 1 58 (nos N), pb 2 47 [(iv y.1), (iv y.2.1), (.ssl (ics (y.2.2)) 0 ((y.2.2).length))], pb 82 56 [(iv ((Fr.make y.1 y.2.1).1)), (iv ((Fr.make y.1 y.2.1).2.1))]] from by rfl)) ?_
   refine T_k mixed [(3, .call [0, 1] [(.opt 0 0), (.ssl (ics (y.2.2)) 0 ((y.2.2).length)), (.ssl (ivs ([] : List Iv)) 0 (([] : List Iv).length))] [some (91, [(iv v), (.osl 1 0 N.length), (nv z), (iv a), (iv b), (.ssl (spans (qac (toB (qae y.2.2)) (Fr.make y.1 y.2.1).1 (Fr.make y.1 y.2.1).2.1)) (0 * 5) ((qac (toB (qae y.2.2)) (Fr.make y.1 y.2.1).1 (Fr.make y.1 y.2.1).2.1).length - 0))]), some (58, (nos N))] (iv ((telL v a b (qac (toB (qae y.2.2)) (Fr.make y.1 y.2.1).1 (Fr.make y.1 y.2.1).2.1) y.2.2 [] (N, z, 0)).1)) [some (91, [(iv v), (.osl 2 0 (((telL v a b (qac (toB (qae y.2.2)) (Fr.make y.1 y.2.1).1 (Fr.make y.1 y.2.1).2.1) y.2.2 [] (N, z, 0))).2.1.length)), (nv ((telL v a b (qac (toB (qae y.2.2)) (Fr.make y.1 y.2.1).1 (Fr.make y.1 y.2.1).2.1) y.2.2 [] (N, z, 0)).2.2.1)), (iv a), (iv b), (.ssl (spans (qac (toB (qae y.2.2)) (Fr.make y.1 y.2.1).1 (Fr.make y.1 y.2.1).2.1)) (((telL v a b (qac (toB (qae y.2.2)) (Fr.make y.1 y.2.1).1 (Fr.make y.1 y.2.1).2.1) y.2.2 [] (N, z, 0)).2.2.2) * 5) ((qac (toB (qae y.2.2)) (Fr.make y.1 y.2.1).1 (Fr.make y.1 y.2.1).2.1).length - (telL v a b (qac (toB (qae y.2.2)) (Fr.make y.1 y.2.1).1 (Fr.make y.1 y.2.1).2.1) y.2.2 [] (N, z, 0)).2.2.2))]), none, some (58, (nos ((telL v a b (qac (toB (qae y.2.2)) (Fr.make y.1 y.2.1).1 (Fr.make y.1 y.2.1).2.1) y.2.2 [] (N, z, 0)).2.1)))])] [.k1, .d, .k1, .d, .n, .d, .d, .n, .d, .d, .k1, .n] [ps 8 (iv ((telL v a b (qac (toB (qae y.2.2)) (Fr.make y.1 y.2.1).1 (Fr.make y.1 y.2.1).2.1) y.2.2 [] (N, z, 0)).1)), pb 0 91 [(iv v), (.osl 298 0 (((telL v a b (qac (toB (qae y.2.2)) (Fr.make y.1 y.2.1).1 (Fr.make y.1 y.2.1).2.1) y.2.2 [] (N, z, 0))).2.1.length)), (nv ((telL v a b (qac (toB (qae y.2.2)) (Fr.make y.1 y.2.1).1 (Fr.make y.1 y.2.1).2.1) y.2.2 [] (N, z, 0)).2.2.1)), (iv a), (iv b), (.ssl (spans (qac (toB (qae y.2.2)) (Fr.make y.1 y.2.1).1 (Fr.make y.1 y.2.1).2.1)) (((telL v a b (qac (toB (qae y.2.2)) (Fr.make y.1 y.2.1).1 (Fr.make y.1 y.2.1).2.1) y.2.2 [] (N, z, 0)).2.2.2) * 5) ((qac (toB (qae y.2.2)) (Fr.make y.1 y.2.1).1 (Fr.make y.1 y.2.1).2.1).length - (telL v a b (qac (toB (qae y.2.2)) (Fr.make y.1 y.2.1).1 (Fr.make y.1 y.2.1).2.1) y.2.2 [] (N, z, 0)).2.2.2))], pb 298 58 (renL (sigo [0, 1] 298) (nos ((telL v a b (qac (toB (qae y.2.2)) (Fr.make y.1 y.2.1).1 (Fr.make y.1 y.2.1).2.1) y.2.2 [] (N, z, 0)).2.1)))] (oc hti (oc (rfl : [(.opt 0 0), (.ssl (ics (y.2.2)) 0 ((y.2.2).length)), (.ssl [] 0 0)] = renL (sigi [0, 1] 298) [(.opt 0 0), (.ssl (ics (y.2.2)) 0 ((y.2.2).length)), (.ssl (ivs ([] : List Iv)) 0 (([] : List Iv).length))]) (oc (rfl : [(iv v), (.osl 1 0 N.length), (nv z), (iv a), (iv b), (.ssl (spans (qac (toB (qae y.2.2)) (Fr.make y.1 y.2.1).1 (Fr.make y.1 y.2.1).2.1)) (0 * 5) ((qac (toB (qae y.2.2)) (Fr.make y.1 y.2.1).1 (Fr.make y.1 y.2.1).2.1).length - 0))] = renL (sigi [0, 1] 298) [(iv v), (.osl 1 0 N.length), (nv z), (iv a), (iv b), (.ssl (spans (qac (toB (qae y.2.2)) (Fr.make y.1 y.2.1).1 (Fr.make y.1 y.2.1).2.1)) (0 * 5) ((qac (toB (qae y.2.2)) (Fr.make y.1 y.2.1).1 (Fr.make y.1 y.2.1).2.1).length - 0))]) (oc ((qbd (qal _)).symm : (nos N) = renL (sigi [0, 1] 298) (nos N)) oz)))) ?_
   refine T_wk (Wk.eq (show _ = [ps 0 (.opt 0 0), ps 5 (.opt 82 0), ps 8 (iv ((telL v a b (qac (toB (qae y.2.2)) (Fr.make y.1 y.2.1).1 (Fr.make y.1 y.2.1).2.1) y.2.2 [] (N, z, 0)).1)), pb 0 91 [(iv v), (.osl 298 0 (((telL v a b (qac (toB (qae y.2.2)) (Fr.make y.1 y.2.1).1 (Fr.make y.1 y.2.1).2.1) y.2.2 [] (N, z, 0))).2.1.length)), (nv ((telL v a b (qac (toB (qae y.2.2)) (Fr.make y.1 y.2.1).1 (Fr.make y.1 y.2.1).2.1) y.2.2 [] (N, z, 0)).2.2.1)), (iv a), (iv b), (.ssl (spans (qac (toB (qae y.2.2)) (Fr.make y.1 y.2.1).1 (Fr.make y.1 y.2.1).2.1)) (((telL v a b (qac (toB (qae y.2.2)) (Fr.make y.1 y.2.1).1 (Fr.make y.1 y.2.1).2.1) y.2.2 [] (N, z, 0)).2.2.2) * 5) ((qac (toB (qae y.2.2)) (Fr.make y.1 y.2.1).1 (Fr.make y.1 y.2.1).2.1).length - (telL v a b (qac (toB (qae y.2.2)) (Fr.make y.1 y.2.1).1 (Fr.make y.1 y.2.1).2.1) y.2.2 [] (N, z, 0)).2.2.2))], pb 82 56 [(iv ((Fr.make y.1 y.2.1).1)), (iv ((Fr.make y.1 y.2.1).2.1))], pb 298 58 (nos ((telL v a b (qac (toB (qae y.2.2)) (Fr.make y.1 y.2.1).1 (Fr.make y.1 y.2.1).2.1) y.2.2 [] (N, z, 0)).2.1))] from by simp only [qbd (qal _)])) ?_
   refine qaa ?_
   refine T_k mixed [] [.k3, .n, .r] [ps 41 (bv (!(decide (((telL v a b (qac (toB (qae y.2.2)) (Fr.make y.1 y.2.1).1 (Fr.make y.1 y.2.1).2.1) y.2.2 [] (N, z, 0)).1) = 0))))] (oz) ?_
   by_cases h3 : ((telL v a b (qac (toB (qae y.2.2)) (Fr.make y.1 y.2.1).1 (Fr.make y.1 y.2.1).2.1) y.2.2 [] (N, z, 0)).1) = 0
   ·refine T_el (bt h3) ?_
    refine qag <| qaa ?_
    refine T_kd mixed [(6, .call [] [(.agg [(iv a), (iv b)]), (.agg [(iv ((Fr.make y.1 y.2.1).1)), (iv ((Fr.make y.1 y.2.1).2.1))])] [] (.tup [(.agg [(iv ((Fr.plus a b ((Fr.make y.1 y.2.1).1) ((Fr.make y.1 y.2.1).2.1)).1)), (iv ((Fr.plus a b ((Fr.make y.1 y.2.1).1) ((Fr.make y.1 y.2.1).2.1)).2.1))]), (iv ((Fr.plus a b ((Fr.make y.1 y.2.1).1) ((Fr.make y.1 y.2.1).2.1)).2.2))]) [])] [[], [], [1], [1, 2], [1, 2, 3], [], [1, 2, 3, 4, 5], [1, 2, 3, 4, 5, 6], [1, 2, 3, 4, 5, 6, 7], [1, 2, 3, 4, 5, 6, 7], [0, 1, 2, 3, 4, 5, 6, 7, 8], [0, 1, 2, 3, 4, 5, 6, 7, 8, 10], [0, 1, 2, 3, 4, 5, 6, 7, 8, 10, 11], [0, 1, 2, 3, 4, 5, 6, 7, 8, 9, 10, 11, 12]] [([88], [0]), ([90], [0]), ([92], [90]), ([94], [92]), ([96], [1, 94]), ([98], [10, 165]), ([100], [96, 98]), ([86], [100]), ([102], [86]), ([104], [86]), ([106], [88]), ([108], [106]), ([1], [1, 102, 108]), ([12], [104])] [.d, .d, .n, .d, .d, .d, .n, .d, .r] [ps 6 (iv ((Fr.plus a b ((Fr.make y.1 y.2.1).1) ((Fr.make y.1 y.2.1).2.1)).2.2)), pb 0 91 [(iv v), (.osl 298 0 (((telL v a b (qac (toB (qae y.2.2)) (Fr.make y.1 y.2.1).1 (Fr.make y.1 y.2.1).2.1) y.2.2 [] (N, z, 0))).2.1.length)), (nv ((telL v a b (qac (toB (qae y.2.2)) (Fr.make y.1 y.2.1).1 (Fr.make y.1 y.2.1).2.1) y.2.2 [] (N, z, 0)).2.2.1)), (iv ((Fr.plus a b ((Fr.make y.1 y.2.1).1) ((Fr.make y.1 y.2.1).2.1)).1)), (iv ((Fr.plus a b ((Fr.make y.1 y.2.1).1) ((Fr.make y.1 y.2.1).2.1)).2.1)), (.ssl (spans (qac (toB (qae y.2.2)) (Fr.make y.1 y.2.1).1 (Fr.make y.1 y.2.1).2.1)) (((telL v a b (qac (toB (qae y.2.2)) (Fr.make y.1 y.2.1).1 (Fr.make y.1 y.2.1).2.1) y.2.2 [] (N, z, 0)).2.2.2) * 5) ((qac (toB (qae y.2.2)) (Fr.make y.1 y.2.1).1 (Fr.make y.1 y.2.1).2.1).length - (telL v a b (qac (toB (qae y.2.2)) (Fr.make y.1 y.2.1).1 (Fr.make y.1 y.2.1).2.1) y.2.2 [] (N, z, 0)).2.2.2))]] (oc (qiz a b ((Fr.make y.1 y.2.1).1) ((Fr.make y.1 y.2.1).2.1) (by first | assumption | omega) (by first | assumption | omega) (by first | assumption | omega) (by first | assumption | omega)) (oc (rfl : Ren0 378 [(.agg [(iv a), (iv b)]), (.agg [(iv ((Fr.make y.1 y.2.1).1)), (iv ((Fr.make y.1 y.2.1).2.1))])]) oz)) ?_
    refine qaa ?_
    refine T_k mixed [] [.n, .d, .r] [ps 4 (iv ((Fr.plus a b ((Fr.make y.1 y.2.1).1) ((Fr.make y.1 y.2.1).2.1)).2.2))] (oz) ?_
    have hR : (barT v y ((a, b), N, z)) = ((Fr.plus a b (Fr.make y.1 y.2.1).1 (Fr.make y.1 y.2.1).2.1).2.2, ((Fr.plus a b (Fr.make y.1 y.2.1).1 (Fr.make y.1 y.2.1).2.1).1, (Fr.plus a b (Fr.make y.1 y.2.1).1 (Fr.make y.1 y.2.1).2.1).2.1), (telL v a b (qac (toB (qae y.2.2)) (Fr.make y.1 y.2.1).1 (Fr.make y.1 y.2.1).2.1) y.2.2 [] (N, z, 0)).2.1, (telL v a b (qac (toB (qae y.2.2)) (Fr.make y.1 y.2.1).1 (Fr.make y.1 y.2.1).2.1) y.2.2 [] (N, z, 0)).2.2.1) := by unfold barT; dsimp only; rw [if_pos h1, if_pos h2, if_pos h3]
    rw [hR]
    rw [hR] at h0
    exact qai fun cx_ a_ hI_ => qby (H' := [some (91, [(iv v), (.osl 2 0 (((telL v a b (qac (toB (qae y.2.2)) (Fr.make y.1 y.2.1).1 (Fr.make y.1 y.2.1).2.1) y.2.2 [] (N, z, 0)).2.1).length)), (nv ((telL v a b (qac (toB (qae y.2.2)) (Fr.make y.1 y.2.1).1 (Fr.make y.1 y.2.1).2.1) y.2.2 [] (N, z, 0)).2.2.1)), (iv ((Fr.plus a b (Fr.make y.1 y.2.1).1 (Fr.make y.1 y.2.1).2.1).1)), (iv ((Fr.plus a b (Fr.make y.1 y.2.1).1 (Fr.make y.1 y.2.1).2.1).2.1)), (.ssl (spans (qac (toB (qae y.2.2)) (Fr.make y.1 y.2.1).1 (Fr.make y.1 y.2.1).2.1)) (((telL v a b (qac (toB (qae y.2.2)) (Fr.make y.1 y.2.1).1 (Fr.make y.1 y.2.1).2.1) y.2.2 [] (N, z, 0)).2.2.2) * 5) ((qac (toB (qae y.2.2)) (Fr.make y.1 y.2.1).1 (Fr.make y.1 y.2.1).2.1).length - (telL v a b (qac (toB (qae y.2.2)) (Fr.make y.1 y.2.1).1 (Fr.make y.1 y.2.1).2.1) y.2.2 [] (N, z, 0)).2.2.2))]), none, some (58, (nos ((telL v a b (qac (toB (qae y.2.2)) (Fr.make y.1 y.2.1).1 (Fr.make y.1 y.2.1).2.1) y.2.2 [] (N, z, 0)).2.1)))]) (.inr rfl) (Wk.ren3 [ps 4 (iv ((Fr.plus a b ((Fr.make y.1 y.2.1).1) ((Fr.make y.1 y.2.1).2.1)).2.2)), pb 0 91 [(iv v), (.osl 2 0 (((telL v a b (qac (toB (qae y.2.2)) (Fr.make y.1 y.2.1).1 (Fr.make y.1 y.2.1).2.1) y.2.2 [] (N, z, 0))).2.1.length)), (nv ((telL v a b (qac (toB (qae y.2.2)) (Fr.make y.1 y.2.1).1 (Fr.make y.1 y.2.1).2.1) y.2.2 [] (N, z, 0)).2.2.1)), (iv ((Fr.plus a b ((Fr.make y.1 y.2.1).1) ((Fr.make y.1 y.2.1).2.1)).1)), (iv ((Fr.plus a b ((Fr.make y.1 y.2.1).1) ((Fr.make y.1 y.2.1).2.1)).2.1)), (.ssl (spans (qac (toB (qae y.2.2)) (Fr.make y.1 y.2.1).1 (Fr.make y.1 y.2.1).2.1)) (((telL v a b (qac (toB (qae y.2.2)) (Fr.make y.1 y.2.1).1 (Fr.make y.1 y.2.1).2.1) y.2.2 [] (N, z, 0)).2.2.2) * 5) ((qac (toB (qae y.2.2)) (Fr.make y.1 y.2.1).1 (Fr.make y.1 y.2.1).2.1).length - (telL v a b (qac (toB (qae y.2.2)) (Fr.make y.1 y.2.1).1 (Fr.make y.1 y.2.1).2.1) y.2.2 [] (N, z, 0)).2.2.2))], pb 2 58 (nos ((telL v a b (qac (toB (qae y.2.2)) (Fr.make y.1 y.2.1).1 (Fr.make y.1 y.2.1).2.1) y.2.2 [] (N, z, 0)).2.1))] 2 hc0 [0, 1, 298] [(kb 2, (nos ((telL v a b (qac (toB (qae y.2.2)) (Fr.make y.1 y.2.1).1 (Fr.make y.1 y.2.1).2.1) y.2.2 [] (N, z, 0)).2.1)))] (oc (qal _) (oz)) (by kernel_rfl) rfl rfl (by kernel_rfl) (by kernel_rfl)) rfl (oc rfl (oc rfl (oz))) (fun cx_ a_ hI_ => qbc (l' := [ps 4 (iv ((Fr.plus a b ((Fr.make y.1 y.2.1).1) ((Fr.make y.1 y.2.1).2.1)).2.2)), pb 0 91 [(iv v), (.osl 2 0 (((telL v a b (qac (toB (qae y.2.2)) (Fr.make y.1 y.2.1).1 (Fr.make y.1 y.2.1).2.1) y.2.2 [] (N, z, 0))).2.1.length)), (nv ((telL v a b (qac (toB (qae y.2.2)) (Fr.make y.1 y.2.1).1 (Fr.make y.1 y.2.1).2.1) y.2.2 [] (N, z, 0)).2.2.1)), (iv ((Fr.plus a b ((Fr.make y.1 y.2.1).1) ((Fr.make y.1 y.2.1).2.1)).1)), (iv ((Fr.plus a b ((Fr.make y.1 y.2.1).1) ((Fr.make y.1 y.2.1).2.1)).2.1)), (.ssl (spans (qac (toB (qae y.2.2)) (Fr.make y.1 y.2.1).1 (Fr.make y.1 y.2.1).2.1)) (((telL v a b (qac (toB (qae y.2.2)) (Fr.make y.1 y.2.1).1 (Fr.make y.1 y.2.1).2.1) y.2.2 [] (N, z, 0)).2.2.2) * 5) ((qac (toB (qae y.2.2)) (Fr.make y.1 y.2.1).1 (Fr.make y.1 y.2.1).2.1).length - (telL v a b (qac (toB (qae y.2.2)) (Fr.make y.1 y.2.1).1 (Fr.make y.1 y.2.1).2.1) y.2.2 [] (N, z, 0)).2.2.2))], pb 2 58 (nos ((telL v a b (qac (toB (qae y.2.2)) (Fr.make y.1 y.2.1).1 (Fr.make y.1 y.2.1).2.1) y.2.2 [] (N, z, 0)).2.1))]) (by kernel_rfl) cx_ a_ hI_) hI_
   refine T_th (bf h3) ?_
   refine qaa ?_
   refine T_k mixed [] [.d, .n, .d, .d, .d, .k1, .d, .r] [ps 4 (iv ((telL v a b (qac (toB (qae y.2.2)) (Fr.make y.1 y.2.1).1 (Fr.make y.1 y.2.1).2.1) y.2.2 [] (N, z, 0)).1))] (oz) ?_
   have hR : (barT v y ((a, b), N, z)).1 = ((telL v a b (qac (toB (qae y.2.2)) (Fr.make y.1 y.2.1).1 (Fr.make y.1 y.2.1).2.1) y.2.2 [] (N, z, 0)).1) := by unfold barT; dsimp only; rw [if_pos h1, if_pos h2, if_neg h3]
   exact absurd (hR.symm.trans h0) h3
  refine T_k mixed [(3, .call [] [(.agg [(iv (kd (toB (qae y.2.2)))), (iv (sh (toB (qae y.2.2)))), (.ssl (kc (toB (qae y.2.2))) 0 ((kids (toB (qae y.2.2))).length))]), (.agg [(iv ((Fr.make y.1 y.2.1).1)), (iv ((Fr.make y.1 y.2.1).2.1))])] [] (.tup [(.ssl [] 0 0), (iv (qbp (toB (qae y.2.2)) (Fr.make y.1 y.2.1).1 (Fr.make y.1 y.2.1).2.1))]) [])] [.k3, .n, .d, .d, .n, .k3, .d] [ps 6 (iv (qbp (toB (qae y.2.2)) (Fr.make y.1 y.2.1).1 (Fr.make y.1 y.2.1).2.1)), pb 0 91 [(iv v), (.osl 1 0 N.length), (nv z), (iv a), (iv b), (.ssl [] 0 0)]] (oc (by have e := qjx (toB (qae y.2.2)) (Fr.make y.1 y.2.1).1 (Fr.make y.1 y.2.1).2.1 hmI.1 hmI.2; rw [qeu rfl h2] at e; exact e : PC Tryz.prog 67 [(.agg [(iv (kd (toB (qae y.2.2)))), (iv (sh (toB (qae y.2.2)))), (.ssl (kc (toB (qae y.2.2))) 0 ((kids (toB (qae y.2.2))).length))]), (.agg [(iv ((Fr.make y.1 y.2.1).1)), (iv ((Fr.make y.1 y.2.1).2.1))])] [] (.tup [(.ssl [] 0 0), (iv (qbp (toB (qae y.2.2)) (Fr.make y.1 y.2.1).1 (Fr.make y.1 y.2.1).2.1))]) []) (oc (rfl : Ren0 194 [(.agg [(iv (kd (toB (qae y.2.2)))), (iv (sh (toB (qae y.2.2)))), (.ssl (kc (toB (qae y.2.2))) 0 ((kids (toB (qae y.2.2))).length))]), (.agg [(iv ((Fr.make y.1 y.2.1).1)), (iv ((Fr.make y.1 y.2.1).2.1))])]) oz)) ?_
  refine qaa ?_
  refine T_k mixed [] [.k4, .n, .r] [ps 34 (bv (!(decide ((qbp (toB (qae y.2.2)) (Fr.make y.1 y.2.1).1 (Fr.make y.1 y.2.1).2.1) = 0))))] (oz) ?_
  refine T_th (bf h2) ?_
  refine qaa ?_
  refine T_k mixed [] [.d, .d, .n, .d, .d, .d, .k2, .d, .d] [ps 4 (iv (qbp (toB (qae y.2.2)) (Fr.make y.1 y.2.1).1 (Fr.make y.1 y.2.1).2.1))] (oz) ?_
  have hR : (barT v y ((a, b), N, z)).1 = (qbp (toB (qae y.2.2)) (Fr.make y.1 y.2.1).1 (Fr.make y.1 y.2.1).2.1) := by unfold barT; dsimp only; rw [if_pos h1, if_neg h2]
  exact absurd (hR.symm.trans h0) h2
 refine T_th (bf h1) ?_
 refine qaa ?_
 refine T_k mixed [] [.d, .d, .n, .d, .d, .d, .k2, .d, .d] [ps 4 (iv ((Fr.make y.1 y.2.1).2.2))] (oz) ?_
 have hR : (barT v y ((a, b), N, z)).1 = ((Fr.make y.1 y.2.1).2.2) := by unfold barT; dsimp only; rw [if_neg h1]
 exact absurd (hR.symm.trans h0) h1
end Go.Proofs.YtmlnilkbolcknaaGreatDoor.Pm
namespace Go.Proofs.YtmlnilkbolcknaaGreatDoor.Pm
open Go Fr

theorem barE_ok {b : Br} (h : barE b = 0) : (itL b.2.2 1 4095).1 = true ∧ b.2.2.length ≠ 0 := by
 unfold barE at h
 split at h
 ·cases h
 ·split at h
  ·rename_i c; exact ⟨c.1, by omega⟩
  ·cases h
theorem qwl : ∀ {l : List Br}, qme l = 0 → ∀ i, i < l.length → barE (l.getD i dBr) = 0
 | [], _, i, hi => absurd hi (Nat.not_lt_zero i)
 | b :: l, h, i, hi => by
  rw [qme] at h
  split at h
  ·rename_i c
   cases i with
   | zero => exact c
   | succ i => simpa using qwl h i (by simpa using hi)
  ·rename_i c; exact absurd h c
theorem qpo {v : Vo} (h : qcv v = 0) : v.2.length ≤ 1024 ∧ qme v.2 = 0 := by
 unfold qcv at h
 split at h
 ·split at h
  ·cases h
  ·rename_i c; exact ⟨by omega, h⟩
 ·cases h
theorem qir : ∀ {l : List Vo}, qen l = 0 → ∀ i, i < l.length → qcv (l.getD i dVo) = 0
 | [], _, i, hi => absurd hi (Nat.not_lt_zero i)
 | b :: l, h, i, hi => by
  rw [qen] at h
  split at h
  ·rename_i c
   cases i with
   | zero => exact c
   | succ i => simpa using qir h i (by simpa using hi)
  ·rename_i c; exact absurd h c
theorem qdz {l : List Vo} (h : qbk l = 0) : l.length ≤ 64 ∧ ∀ i, i < l.length → (l.getD i dVo).2.length ≤ 1024 ∧ ∀ j, j < (l.getD i dVo).2.length → (itL ((l.getD i dVo).2.getD j dBr).2.2 1 4095).1 = true ∧ ((l.getD i dVo).2.getD j dBr).2.2.length ≠ 0 := by
 unfold qbk at h
 split at h
 ·cases h
 ·exact ⟨by omega, fun i hi => ⟨(qpo (qir h i hi)).1, fun j hj => barE_ok (qwl (qpo (qir h i hi)).2 j hj)⟩⟩
theorem qpf {v : Int} {y : Br} {a b : Int} {N : List Nt} {z : Nat} (hw : (itL y.2.2 1 4095).1 = true) (hne : y.2.2.length ≠ 0) (hok : okTs (N, z, 0)) (h : (barT v y ((a, b), N, z)).1 = 0) :
  okTs ((barT v y ((a, b), N, z)).2.2.1, (barT v y ((a, b), N, z)).2.2.2, 0) ∧ (barT v y ((a, b), N, z)).2.2.1.length ≤ N.length + 65536 ∧ I64 (barT v y ((a, b), N, z)).2.1.1 ∧ I64 (barT v y ((a, b), N, z)).2.1.2 := by
 have hg := qid y.2.2 1 4095 (by decide) hw
 have hr := qlo y.2.2 1 4095 (by decide)
 have h0 := hr.2.2 hw
 unfold barT at h ⊢
 dsimp only at h ⊢
 split at h
 ·rename_i c1
  rw [if_pos c1]
  split at h
  ·rename_i c2
   rw [if_pos c2]
   split at h
   ·rename_i c3
    rw [if_pos c3]
    have hl := qkn hne hg.1 c2
    have hk := qhs (fun i hi => (qtk (qis (make_r c1) c2) i hi).2.2) y.2.2 [] (N, z, 0) hg.2.1 hok (by show 0 + lvsL y.2.2 ≤ _; omega) c3
    have hp := qif (qqh h)
    have h2 := hk.2.1
    dsimp only at h2
    exact ⟨hk.1, by show (telL _ _ _ _ _ _ _).2.1.length ≤ _; omega, hp.1, hp.2⟩
   ·rename_i c3; exact absurd h c3
  ·rename_i c2; exact absurd h c2
 ·rename_i c1; exact absurd h c1
theorem qkk {v : Int} {l : List Br} {i : Nat} {s : (Int × Int) × List Nt × Nat} (h : i < l.length) : qcf v (l.drop i) s = if (barT v (l.getD i dBr) s).1 = 0 then qcf v (l.drop (i + 1)) (barT v (l.getD i dBr) s).2 else barT v (l.getD i dBr) s := by
 rw [List.drop_eq_getElem_cons h, List.getD_eq_getElem?_getD, List.getElem?_eq_getElem h, qcf]; rfl
theorem qhz {l : List Vo} {i : Nat} {k : Int} {N : List Nt} (h : i < l.length) : qbz (l.drop i) k N = if (qcf k (l.getD i dVo).2 ((0, 1), [], 0)).1 = 0 then qbz (l.drop (i + 1)) (k + 1) (N ++ (qcf k (l.getD i dVo).2 ((0, 1), [], 0)).2.2.1) else ((qcf k (l.getD i dVo).2 ((0, 1), [], 0)).1, []) := by
 rw [List.drop_eq_getElem_cons h, List.getD_eq_getElem?_getD, List.getElem?_eq_getElem h, qbz]; rfl
end Go.Proofs.YtmlnilkbolcknaaGreatDoor.Pm
namespace Go.Proofs.YtmlnilkbolcknaaGreatDoor.Pm
open Go Go.Proofs.YtmlnilkbolcknaaGreatDoor.Pi

set_option maxRecDepth 100000 in
set_option maxHeartbeats 4000000 in
theorem qem (l : List Vo) (hf : qsv l) : PC Tryz.prog 8 [(.ssl (vos l) 0 l.length)] [] (iv (qbk l)) [] := by
 obtain ⟨hf1, hf2⟩ := hf
 refine qas Tryz.func8 rfl (by kernel_rfl) (Nat.le_of_ble_eq_true rfl) (by kernel_rfl) (l0 := [ps 0 (.ssl (vos l) 0 l.length)]) rfl (fun c0 Bor hc0 => ?_)
 refine qaa ?_
 refine T_k mixed [] [.r] [] (oz) ?_
 refine qaa <| qaa ?_
 refine T_k mixed [] [.k1, .n] [ps 10 (bv (decide (64 < ((l.length : Nat) : Int))))] (oz) ?_
 by_cases h1 : 64 < ((l.length : Nat) : Int)
 ·refine T_th (dty h1) ?_
  refine qaa ?_
  refine T_r mixed [] [ps 2 (iv 5)] (oz) ?_
  have hT : qbk l = 5 := by unfold qbk; rw [if_pos (by omega)]
  rw [hT]
  exact qai fun cx_ a_ hI_ => rt hc0 [ps 2 (iv 5)] [] hI_
 refine T_el (dtn h1) ?_
 refine qag <| qaa <| qaa ?_
 refine T_r mixed [] [ps 11 (.ssl (vos l) 0 l.length), ps 12 (nv l.length), ps 13 (iv 0)] (oz) ?_
 refine qan ?_
 refine qcm (α := {x : Nat // x ≤ l.length ∧ qen (l.drop x) = qen l}) (fun x => [ps 11 (.ssl (vos l) 0 l.length), ps 12 (nv l.length), ps 13 (nv x.1)]) (fun x => l.length - x.1) 0 ⟨0, ⟨Nat.zero_le _, rfl⟩⟩ (Wk.ren2 [ps 11 (.ssl (vos l) 0 l.length), ps 12 (nv l.length), ps 13 (nv 0)] 0 hc0 [] rfl rfl (by kernel_rfl) (by kernel_rfl)) ?_
 rintro ⟨i, ⟨hi, hW⟩⟩
 refine qaa ?_
 refine T_r mixed [] [ps 11 (.ssl (vos l) 0 l.length), ps 12 (nv l.length), ps 13 (nv i), ps 14 (bv (decide (((i : Nat) : Int) < ((l.length : Nat) : Int))))] (oz) ?_
 refine qaa ?_
 by_cases h2 : ((i : Nat) : Int) < ((l.length : Nat) : Int)
 ·refine T_th (dty h2) ?_
  refine qag <| qaa <| qan <| qaa ?_
  obtain ⟨hv1, hv2, hv3⟩ := hf2 i (by omega)
  refine T_k mixed [(0, .nat (i * 2)), (1, .cells [(sv (st ((l.getD i dVo).1))), (.ssl (brs ((l.getD i dVo).2)) 0 (((l.getD i dVo).2).length))])] [.n, .k3, .d, .n] [ps 4 (.opt 24 0), pb 24 44 [(sv (st ((l.getD i dVo).1))), (.ssl (brs ((l.getD i dVo).2)) 0 (((l.getD i dVo).2).length))]] (oc (by omega : (0 : Int) ≤ ((i : Nat) : Int) ∧ ((i : Nat) : Int) < ((l.length : Nat) : Int)) (oc (by omega : 0 + (((i : Nat) : Int) : Int).toNat * 2 = (i * 2)) (oc (qch voC 2 (fun _ => rfl) dVo l i 0 2 (by omega) (by decide) : (i * 2) + 2 ≤ ((vos l)).length ∧ (((vos l)).drop (i * 2)).take 2 = [(sv (st ((l.getD i dVo).1))), (.ssl (brs ((l.getD i dVo).2)) 0 (((l.getD i dVo).2).length))]) oz))) ?_
  refine qaa <| qaa ?_
  refine T_k mixed [(2, .call [] [(sv (st ((l.getD i dVo).1)))] [] (bv (qec ((l.getD i dVo).1))) [])] [.k4, .n, .r] [ps 20 (bv (!(qec ((l.getD i dVo).1))))] (oc (qto ((l.getD i dVo).1) (by omega)) (oc (rfl : Ren0 56 [(sv (st ((l.getD i dVo).1)))]) oz)) ?_
  by_cases h3 : (qec ((l.getD i dVo).1)) = true
  ·refine T_el (congrArg Bool.not h3) ?_
   refine qag <| qaa <| qaa ?_
   refine T_k mixed [] [.k4, .d, .n, .r] [ps 24 (bv (decide (1024 < ((((l.getD i dVo).2).length : Nat) : Int))))] (oz) ?_
   by_cases h4 : 1024 < ((((l.getD i dVo).2).length : Nat) : Int)
   ·refine T_th (dty h4) ?_
    refine qaa ?_
    refine T_r mixed [] [ps 2 (iv 5)] (oz) ?_
    have hT : qbk l = 5 := by unfold qbk; rw [if_neg (by omega), ← hW, qdd (by omega), show qcv (l.getD i dVo) = 5 from by unfold qcv; rw [if_pos h3, if_pos (by omega)], if_neg (by decide)]
    rw [hT]
    exact qai fun cx_ a_ hI_ => qav (rt hc0 [ps 2 (iv 5)] [] hI_)
   refine T_el (dtn h4) ?_
   refine qag <| qaa ?_
   refine T_k mixed [] [.d, .k3, .d, .n, .n, .n, .d] [ps 26 (.ssl (brs ((l.getD i dVo).2)) 0 (((l.getD i dVo).2).length)), ps 27 (nv (((l.getD i dVo).2).length)), ps 28 (iv 0)] (oz) ?_
   refine qan ?_
   refine qcm (α := {x : Nat // x ≤ (l.getD i dVo).2.length ∧ qme ((l.getD i dVo).2.drop x) = qme (l.getD i dVo).2}) (fun x => [ps 11 (.ssl (vos l) 0 l.length), ps 12 (nv l.length), ps 13 (nv i), ps 26 (.ssl (brs ((l.getD i dVo).2)) 0 (((l.getD i dVo).2).length)), ps 27 (nv (((l.getD i dVo).2).length)), ps 28 (nv x.1)]) (fun x => (l.getD i dVo).2.length - x.1) 0 ⟨0, ⟨Nat.zero_le _, rfl⟩⟩ (Wk.ren2 [ps 11 (.ssl (vos l) 0 l.length), ps 12 (nv l.length), ps 13 (nv i), ps 26 (.ssl (brs ((l.getD i dVo).2)) 0 (((l.getD i dVo).2).length)), ps 27 (nv (((l.getD i dVo).2).length)), ps 28 (nv 0)] 0 hc0 [] rfl rfl (by kernel_rfl) (by kernel_rfl)) ?_
   rintro ⟨j, ⟨hj, hR⟩⟩
   refine qaa ?_
   refine T_r mixed [] [ps 11 (.ssl (vos l) 0 l.length), ps 12 (nv l.length), ps 13 (nv i), ps 26 (.ssl (brs ((l.getD i dVo).2)) 0 (((l.getD i dVo).2).length)), ps 27 (nv (((l.getD i dVo).2).length)), ps 28 (nv j), ps 29 (bv (decide (((j : Nat) : Int) < ((((l.getD i dVo).2).length : Nat) : Int))))] (oz) ?_
   refine qaa ?_
   by_cases h5 : ((j : Nat) : Int) < ((((l.getD i dVo).2).length : Nat) : Int)
   ·refine T_th (dty h5) ?_
    refine qag <| qaa <| qan <| qaa ?_
    obtain ⟨hb1, hb2, hb3, hb4⟩ := hv3 j (by omega)
    refine T_k mixed [(0, .nat (j * 3)), (1, .cells [(iv ((((l.getD i dVo).2).getD j dBr).1)), (iv ((((l.getD i dVo).2).getD j dBr).2.1)), (.ssl (ics ((((l.getD i dVo).2).getD j dBr).2.2)) 0 (((((l.getD i dVo).2).getD j dBr).2.2).length))])] [.n, .k6, .d, .n] [ps 6 (.opt 24 0), pb 24 47 [(iv ((((l.getD i dVo).2).getD j dBr).1)), (iv ((((l.getD i dVo).2).getD j dBr).2.1)), (.ssl (ics ((((l.getD i dVo).2).getD j dBr).2.2)) 0 (((((l.getD i dVo).2).getD j dBr).2.2).length))]] (oc (by omega : (0 : Int) ≤ ((j : Nat) : Int) ∧ ((j : Nat) : Int) < ((((l.getD i dVo).2).length : Nat) : Int)) (oc (by omega : 0 + (((j : Nat) : Int) : Int).toNat * 3 = (j * 3)) (oc (qch brC 3 (fun _ => rfl) dBr ((l.getD i dVo).2) j 0 3 (by omega) (by decide) : (j * 3) + 3 ≤ ((brs ((l.getD i dVo).2))).length ∧ (((brs ((l.getD i dVo).2))).drop (j * 3)).take 3 = [(iv ((((l.getD i dVo).2).getD j dBr).1)), (iv ((((l.getD i dVo).2).getD j dBr).2.1)), (.ssl (ics ((((l.getD i dVo).2).getD j dBr).2.2)) 0 (((((l.getD i dVo).2).getD j dBr).2.2).length))]) oz))) ?_
    refine qaa <| qaa ?_
    by_cases h6 : ((((l.getD i dVo).2).getD j dBr).1) < 1
    ·refine T_k mixed [(4, .gd true .no), (5, .gd true .no), (6, .gd true .no), (7, .yes true), (9, .gd true .no), (10, .gd true .no), (11, .gd true .no), (14, .gd true .no), (15, .gd true .no), (16, .gd true .no)] [.k7, .n, .r] [ps 49 (bv true)] (oc (dty h6) (oc (dty h6) (oc (dty h6) (oc (dty h6) (oc (rfl : true = true) (oc (rfl : true = true) (oc (rfl : true = true) (oc (rfl : true = true) (oc (rfl : true = true) (oc (rfl : true = true) oz)))))))))) ?_
     refine qau (b := true) rfl rfl ?_
     refine qaa ?_
     refine T_r mixed [] [ps 2 (iv 3)] (oz) ?_
     have hT : qbk l = 3 := by unfold qbk; rw [if_neg (by omega), ← hW, qdd (by omega), show qcv (l.getD i dVo) = 3 from by unfold qcv; rw [if_pos h3, if_neg (by omega), ← hR, qgp (by omega), show barE ((l.getD i dVo).2.getD j dBr) = 3 from by unfold barE; rw [if_pos (by omega)], if_neg (by decide)], if_neg (by decide)]
     rw [hT]
     exact qai fun cx_ a_ hI_ => qav (qav (rt hc0 [ps 2 (iv 3)] [] hI_))
    by_cases h7 : 65536 < ((((l.getD i dVo).2).getD j dBr).1)
    ·refine T_k mixed [(4, .gd false (.no)), (5, .gd false (.no)), (6, .gd false (.no)), (7, .yes false), (9, .gd true .no), (10, .gd true .no), (11, .gd true .no), (12, .yes true), (14, .gd true .no), (15, .gd true .no), (16, .gd true .no)] [.k7, .n, .r] [ps 49 (bv true)] (oc (dtn h6) (oc (dtn h6) (oc (dtn h6) (oc (dtn h6) (oc (dty h7) (oc (dty h7) (oc (dty h7) (oc (dty h7) (oc (rfl : true = true) (oc (rfl : true = true) (oc (rfl : true = true) oz))))))))))) ?_
     refine qau (b := true) rfl rfl ?_
     refine qaa ?_
     refine T_r mixed [] [ps 2 (iv 3)] (oz) ?_
     have hT : qbk l = 3 := by unfold qbk; rw [if_neg (by omega), ← hW, qdd (by omega), show qcv (l.getD i dVo) = 3 from by unfold qcv; rw [if_pos h3, if_neg (by omega), ← hR, qgp (by omega), show barE ((l.getD i dVo).2.getD j dBr) = 3 from by unfold barE; rw [if_pos (by omega)], if_neg (by decide)], if_neg (by decide)]
     rw [hT]
     exact qai fun cx_ a_ hI_ => qav (qav (rt hc0 [ps 2 (iv 3)] [] hI_))
    by_cases h8 : ((((l.getD i dVo).2).getD j dBr).2.1) < 1
    ·refine T_k mixed [(4, .gd false (.no)), (5, .gd false (.no)), (6, .gd false (.no)), (7, .yes false), (9, .gd false (.no)), (10, .gd false (.no)), (11, .gd false (.no)), (12, .yes false), (14, .gd true .no), (15, .gd true .no), (16, .gd true .no), (17, .yes true)] [.k7, .n, .r] [ps 49 (bv true)] (oc (dtn h6) (oc (dtn h6) (oc (dtn h6) (oc (dtn h6) (oc (dtn h7) (oc (dtn h7) (oc (dtn h7) (oc (dtn h7) (oc (dty h8) (oc (dty h8) (oc (dty h8) (oc (dty h8) oz)))))))))))) ?_
     refine qau (b := true) rfl rfl ?_
     refine qaa ?_
     refine T_r mixed [] [ps 2 (iv 3)] (oz) ?_
     have hT : qbk l = 3 := by unfold qbk; rw [if_neg (by omega), ← hW, qdd (by omega), show qcv (l.getD i dVo) = 3 from by unfold qcv; rw [if_pos h3, if_neg (by omega), ← hR, qgp (by omega), show barE ((l.getD i dVo).2.getD j dBr) = 3 from by unfold barE; rw [if_pos (by omega)], if_neg (by decide)], if_neg (by decide)]
     rw [hT]
     exact qai fun cx_ a_ hI_ => qav (qav (rt hc0 [ps 2 (iv 3)] [] hI_))
    refine T_k mixed [(4, .gd false (.no)), (5, .gd false (.no)), (6, .gd false (.no)), (7, .yes false), (9, .gd false (.no)), (10, .gd false (.no)), (11, .gd false (.no)), (12, .yes false), (14, .gd false (.no)), (15, .gd false (.no)), (16, .gd false (.no)), (17, .yes false)] [.k7, .n, .r] [ps 49 (bv (decide (65536 < ((((l.getD i dVo).2).getD j dBr).2.1))))] (oc (dtn h6) (oc (dtn h6) (oc (dtn h6) (oc (dtn h6) (oc (dtn h7) (oc (dtn h7) (oc (dtn h7) (oc (dtn h7) (oc (dtn h8) (oc (dtn h8) (oc (dtn h8) (oc (dtn h8) oz)))))))))))) ?_
    by_cases h9 : 65536 < ((((l.getD i dVo).2).getD j dBr).2.1)
    ·refine T_th (dty h9) ?_
     refine qaa ?_
     refine T_r mixed [] [ps 2 (iv 3)] (oz) ?_
     have hT : qbk l = 3 := by unfold qbk; rw [if_neg (by omega), ← hW, qdd (by omega), show qcv (l.getD i dVo) = 3 from by unfold qcv; rw [if_pos h3, if_neg (by omega), ← hR, qgp (by omega), show barE ((l.getD i dVo).2.getD j dBr) = 3 from by unfold barE; rw [if_pos (by omega)], if_neg (by decide)], if_neg (by decide)]
     rw [hT]
     exact qai fun cx_ a_ hI_ => qav (qav (rt hc0 [ps 2 (iv 3)] [] hI_))
    refine T_el (dtn h9) ?_
    refine qag <| qaa ?_
    refine T_k mixed [] [.k1, .n, .k6, .d, .k1, .n] [ps 7 (.opt 192 0), pb 192 67 [(iv 4095)]] (oz) ?_
    refine qaa ?_
    refine T_k mixed [(3, .call [192] [(.opt 0 0), (.ssl (ics ((((l.getD i dVo).2).getD j dBr).2.2)) 0 (((((l.getD i dVo).2).getD j dBr).2.2).length)), (iv 1)] [some (67, [(iv 4095)])] (bv (decide ((itL (((l.getD i dVo).2.getD j dBr).2.2) 1 4095).1 = true ∧ 0 < (((l.getD i dVo).2.getD j dBr).2.2).length))) [some (67, [(iv ((itL (((l.getD i dVo).2.getD j dBr).2.2) 1 4095).2))])])] [.d, .d, .k6, .n, .d, .d] [ps 56 (bv (!(decide ((itL (((l.getD i dVo).2.getD j dBr).2.2) 1 4095).1 = true ∧ 0 < (((l.getD i dVo).2.getD j dBr).2.2).length))))] (oc (items_pc (((l.getD i dVo).2.getD j dBr).2.2) 1 4095 (by decide) (by decide) (by decide) (by decide) hb4 (by omega)) (oc (rfl : [(.opt 192 0), (.ssl (ics ((((l.getD i dVo).2).getD j dBr).2.2)) 0 (((((l.getD i dVo).2).getD j dBr).2.2).length)), (iv 1)] = renL (sigi [192] 232) [(.opt 0 0), (.ssl (ics ((((l.getD i dVo).2).getD j dBr).2.2)) 0 (((((l.getD i dVo).2).getD j dBr).2.2).length)), (iv 1)]) (oc (rfl : [(iv 4095)] = renL (sigi [192] 232) [(iv 4095)]) oz))) ?_
    by_cases h10 : (decide ((itL (((l.getD i dVo).2.getD j dBr).2.2) 1 4095).1 = true ∧ 0 < (((l.getD i dVo).2.getD j dBr).2.2).length)) = true
    ·refine T_el (congrArg Bool.not h10) ?_
     refine qag <| qbg ?_
     refine T_k mixed [] [.k5, .d, .n, .d] [ps 28 (iv (((j : Nat) : Int) + 1))] (oc (by simp only [InK]; omega : InK .i64 (((j : Nat) : Int) + 1)) oz) ?_
     exact qce ⟨j + 1, ⟨by show j + 1 ≤ (l.getD i dVo).2.length; omega, by have h1 := qgp (l := (l.getD i dVo).2) (i := j) (by omega); have h2 : barE ((l.getD i dVo).2.getD j dBr) = 0 := by {unfold barE; rw [if_neg (by omega), if_pos (by simpa using h10)]}; rw [if_pos h2] at h1; rw [← hR, h1]⟩⟩ (Wk.trans (Wk.eq (show _ = [ps 11 (.ssl (vos l) 0 l.length), ps 12 (nv l.length), ps 13 (nv i), ps 26 (.ssl (brs ((l.getD i dVo).2)) 0 (((l.getD i dVo).2).length)), ps 27 (nv (((l.getD i dVo).2).length)), ps 28 (nv (j + 1))] from by rfl)) (Wk.ren2 [ps 11 (.ssl (vos l) 0 l.length), ps 12 (nv l.length), ps 13 (nv i), ps 26 (.ssl (brs ((l.getD i dVo).2)) 0 (((l.getD i dVo).2).length)), ps 27 (nv (((l.getD i dVo).2).length)), ps 28 (nv (j + 1))] 0 hc0 [] rfl rfl (by kernel_rfl) (by kernel_rfl))) (show (l.getD i dVo).2.length - (j + 1) < (l.getD i dVo).2.length - j from by show (l.getD i dVo).2.length - (j + 1) < (l.getD i dVo).2.length - j; omega)
    refine T_th (congrArg Bool.not (Bool.eq_false_iff.2 h10)) ?_
    refine qaa ?_
    refine T_r mixed [] [ps 2 (iv 2)] (oz) ?_
    have hT : qbk l = 2 := by unfold qbk; rw [if_neg (by omega), ← hW, qdd (by omega), show qcv (l.getD i dVo) = 2 from by unfold qcv; rw [if_pos h3, if_neg (by omega), ← hR, qgp (by omega), show barE ((l.getD i dVo).2.getD j dBr) = 2 from by unfold barE; rw [if_neg (by omega), if_neg (by simpa using h10)], if_neg (by decide)], if_neg (by decide)]
    rw [hT]
    exact qai fun cx_ a_ hI_ => qav (qav (rt hc0 [ps 2 (iv 2)] [] hI_))
   refine T_el (dtn h5) ?_
   refine qbu rfl rfl ?_
   refine qbg ?_
   refine T_k mixed [] [.k2, .d, .n, .d, .d, .d, .d] [ps 13 (iv (((i : Nat) : Int) + 1))] (oc (by simp only [InK]; omega : InK .i64 (((i : Nat) : Int) + 1)) oz) ?_
   exact qce ⟨i + 1, ⟨by show i + 1 ≤ l.length; omega, by have h1 := qdd (l := l) (i := i) (by omega); have h2 : qcv (l.getD i dVo) = 0 := by {unfold qcv; rw [if_pos h3, if_neg (by omega), ← hR, List.drop_eq_nil_of_le (by omega), qme]}; rw [if_pos h2] at h1; rw [← hW, h1]⟩⟩ (Wk.trans (Wk.eq (show _ = [ps 11 (.ssl (vos l) 0 l.length), ps 12 (nv l.length), ps 13 (nv (i + 1))] from by rfl)) (Wk.ren2 [ps 11 (.ssl (vos l) 0 l.length), ps 12 (nv l.length), ps 13 (nv (i + 1))] 0 hc0 [] rfl rfl (by kernel_rfl) (by kernel_rfl))) (show l.length - (i + 1) < l.length - i from by show l.length - (i + 1) < l.length - i; omega)
  refine T_th (congrArg Bool.not (Bool.eq_false_iff.2 h3)) ?_
  refine qaa ?_
  refine T_r mixed [] [ps 2 (iv 7)] (oz) ?_
  have hT : qbk l = 7 := by unfold qbk; rw [if_neg (by omega), ← hW, qdd (by omega), show qcv (l.getD i dVo) = 7 from by unfold qcv; rw [if_neg h3], if_neg (by decide)]
  rw [hT]
  exact qai fun cx_ a_ hI_ => qav (rt hc0 [ps 2 (iv 7)] [] hI_)
 refine T_el (dtn h2) ?_
 refine qbu rfl rfl ?_
 refine qaa ?_
 refine T_r mixed [] [ps 2 (iv 0)] (oz) ?_
 have hT : qbk l = 0 := by unfold qbk; rw [if_neg (by omega), ← hW, List.drop_eq_nil_of_le (by omega), qen]
 rw [hT]
 exact qai fun cx_ a_ hI_ => rt hc0 [ps 2 (iv 0)] [] hI_
end Go.Proofs.YtmlnilkbolcknaaGreatDoor.Pm
namespace Go.Proofs.YtmlnilkbolcknaaGreatDoor.Pm
open Go Fr

theorem nos_src (N : List Nt) : 0 + N.length * 9 ≤ (nos N).length ∧ ((nos N).drop 0).take (N.length * 9) = nos N := by
 rw [List.drop_zero, List.take_of_length_le (by rw [qlh]; omega), qlh]
 exact ⟨by omega, rfl⟩
set_option maxRecDepth 100000 in
set_option maxHeartbeats 4000000 in
theorem qex (l : List Vo) (hf : qsv l) (h0 : (qab l).1 = 0) : PC Tryz.prog 12 [(.ssl (vos l) 0 l.length)] [] (.tup [(.osl 0 0 ((qab l).2.length)), (iv 0)]) [some (58, (nos ((qab l).2)))] := by
 refine qas Tryz.func12 rfl (by kernel_rfl) (Nat.le_of_ble_eq_true rfl) (by kernel_rfl) (l0 := [ps 0 (.ssl (vos l) 0 l.length)]) rfl (fun c0 Bor hc0 => ?_)
 refine qaa ?_
 refine T_k mixed [] [.r] [] (oz) ?_
 refine qaa <| qaa ?_
 refine T_k mixed [(1, .call [] [(.ssl (vos l) 0 l.length)] [] (iv (qbk l)) [])] [.k1, .n] [ps 4 (iv (qbk l))] (oc (qem l hf) (oc (rfl : Ren0 24 [(.ssl (vos l) 0 l.length)]) oz)) ?_
 refine qaa ?_
 refine T_k mixed [] [.k2, .n] [ps 15 (bv (!(decide ((qbk l) = 0))))] (oz) ?_
 by_cases h1 : (qbk l) = 0
 ·refine T_el (bt h1) ?_
  refine qag <| qaa ?_
  refine T_k mixed [] [.k1, .d, .n, .d] [ps 5 (.av (.slice none 0 0))] (oz) ?_
  refine qaa <| qaa ?_
  refine T_k mixed [] [.d, .k1, .n, .n, .n] [ps 17 (.ssl (vos l) 0 l.length), ps 18 (nv l.length), ps 19 (iv 0)] (oz) ?_
  refine qan ?_
  refine T_wk (Wk.nil (s := 5) 58 (by kernel_rfl)) ?_
  refine T_wk (Wk.less (l' := [ps 5 (.osl 88 0 0), ps 17 (.ssl (vos l) 0 l.length), ps 18 (nv l.length), ps 19 (iv 0), pb 88 58 []]) 89 (by kernel_rfl) (by kernel_rfl)) ?_
  have hwp := qdz h1
  refine T_wk (Wk.eq (show _ = [ps 5 (.osl 88 0 (([] : List Nt).length)), ps 17 (.ssl (vos l) 0 l.length), ps 18 (nv l.length), ps 19 (iv 0), pb 88 58 (nos ([] : List Nt))] from by rfl)) ?_
  refine qcm (α := {x : Nat × List Nt // x.1 ≤ l.length ∧ qbz (l.drop x.1) ((x.1 : Nat) : Int) x.2 = qbz l 0 [] ∧ x.2.length ≤ x.1 * 70000000}) (fun x => [ps 5 (.osl 0 0 x.1.2.length), ps 17 (.ssl (vos l) 0 l.length), ps 18 (nv l.length), ps 19 (nv x.1.1), pb 0 58 (nos x.1.2)]) (fun x => l.length - x.1.1) 1 ⟨(0, []), ⟨Nat.zero_le _, rfl, Nat.zero_le _⟩⟩ (Wk.ren3 [ps 5 (.osl 0 0 ([] : List Nt).length), ps 17 (.ssl (vos l) 0 l.length), ps 18 (nv l.length), ps 19 (nv 0), pb 0 58 (nos ([] : List Nt))] 0 hc0 [88] [(kb 0, (nos ([] : List Nt)))] (oc (qal _) (oz)) (by kernel_rfl) rfl rfl (by kernel_rfl) (by kernel_rfl)) ?_
  rintro ⟨⟨i, M⟩, ⟨hi, hT, hM⟩⟩
  dsimp only at hi hT hM
  refine qaa ?_
  refine T_r mixed [] [ps 5 (.osl 0 0 M.length), ps 17 (.ssl (vos l) 0 l.length), ps 18 (nv l.length), ps 19 (nv i), ps 20 (bv (decide (((i : Nat) : Int) < ((l.length : Nat) : Int)))), pb 0 58 (nos M)] (oz) ?_
  refine qaa ?_
  by_cases h2 : ((i : Nat) : Int) < ((l.length : Nat) : Int)
  ·refine T_th (dty h2) ?_
   refine qag <| qaa <| qan <| qaa ?_
   have hfv := hf.2 i (by omega)
   have hwv := (hwp.2 i (by omega)).1
   have hwr := (hwp.2 i (by omega)).2
   have hl64 := hwp.1
   refine T_k mixed [(1, .nat (i * 2)), (2, .cells [(sv (st ((l.getD i dVo).1))), (.ssl (brs ((l.getD i dVo).2)) 0 (((l.getD i dVo).2).length))])] [.k1, .n, .n, .k3, .d, .k1, .n] [ps 6 (nv i), ps 7 (.opt 33 0), pb 33 44 [(sv (st ((l.getD i dVo).1))), (.ssl (brs ((l.getD i dVo).2)) 0 (((l.getD i dVo).2).length))]] (oc (by omega : (0 : Int) ≤ ((i : Nat) : Int) ∧ ((i : Nat) : Int) < ((l.length : Nat) : Int)) (oc (by omega : 0 + (((i : Nat) : Int) : Int).toNat * 2 = (i * 2)) (oc (qch voC 2 (fun _ => rfl) dVo l i 0 2 (by omega) (by decide) : (i * 2) + 2 ≤ ((vos l)).length ∧ (((vos l)).drop (i * 2)).take 2 = [(sv (st ((l.getD i dVo).1))), (.ssl (brs ((l.getD i dVo).2)) 0 (((l.getD i dVo).2).length))]) oz))) ?_
   refine qaa ?_
   refine T_k mixed [] [.k1, .d, .k1, .n, .k5, .n] [ps 8 (.opt 81 0), pb 81 91 [(nv i), (.av (.slice none 0 0)), (iv 0), (iv 0), (iv 1), (.av (.slice none 0 0))]] (oz) ?_
   refine qaa <| qaa ?_
   refine T_k mixed [] [.k1, .d, .k4, .n, .n, .n, .k1, .d, .r] [ps 29 (.ssl (brs ((l.getD i dVo).2)) 0 (((l.getD i dVo).2).length)), ps 30 (nv (((l.getD i dVo).2).length)), ps 31 (iv 0)] (oz) ?_
   refine qan ?_
   refine T_wk (Wk.nilc (B := 91) (cells := [(nv i), (.av (.slice none 0 0)), (iv 0), (iv 0), (iv 1), (.av (.slice none 0 0))]) 81 1 58 (by kernel_rfl) rfl) ?_
   refine T_wk (Wk.less (l' := [ps 5 (.osl 0 0 M.length), ps 8 (.opt 81 0), ps 17 (.ssl (vos l) 0 l.length), ps 18 (nv l.length), ps 19 (nv i), ps 29 (.ssl (brs ((l.getD i dVo).2)) 0 (((l.getD i dVo).2).length)), ps 30 (nv (((l.getD i dVo).2).length)), ps 31 (iv 0), pb 0 58 (nos M), pb 81 91 [(nv i), (.osl 129 0 0), (iv 0), (iv 0), (iv 1), (.av (.slice none 0 0))], pb 129 58 []]) 130 (by kernel_rfl) (by kernel_rfl)) ?_
   refine T_wk (Wk.nilc (B := 91) (cells := [(nv i), (.osl 129 0 0), (iv 0), (iv 0), (iv 1), (.av (.slice none 0 0))]) 81 5 187 (by kernel_rfl) rfl) ?_
   refine T_wk (Wk.less (l' := [ps 5 (.osl 0 0 M.length), ps 8 (.opt 81 0), ps 17 (.ssl (vos l) 0 l.length), ps 18 (nv l.length), ps 19 (nv i), ps 29 (.ssl (brs ((l.getD i dVo).2)) 0 (((l.getD i dVo).2).length)), ps 30 (nv (((l.getD i dVo).2).length)), ps 31 (iv 0), pb 0 58 (nos M), pb 81 91 [(nv i), (.osl 129 0 0), (iv 0), (iv 0), (iv 1), (.osl 130 0 0)], pb 129 58 [], pb 130 187 []]) 131 (by kernel_rfl) (by kernel_rfl)) ?_
   refine T_wk (Wk.frz2 (l' := [ps 5 (.osl 0 0 M.length), ps 8 (.opt 81 0), ps 17 (.ssl (vos l) 0 l.length), ps 18 (nv l.length), ps 19 (nv i), ps 29 (.ssl (brs ((l.getD i dVo).2)) 0 (((l.getD i dVo).2).length)), ps 30 (nv (((l.getD i dVo).2).length)), ps 31 (iv 0), pb 0 58 (nos M), pb 81 91 [(nv i), (.osl 129 0 0), (iv 0), (iv 0), (iv 1), (.ssl [] 0 0)], pb 129 58 [], (kb 130, none)]) 130 (T := 187) (cs := []) [(kb 0, (nos M))] (oc (qal _) (oz)) (by kernel_rfl) (by kernel_rfl) (fun p hp => List.all_eq_true.1 (show [].all PV.shd = true from rfl) p hp) (by kernel_rfl)) ?_
   refine T_wk (Wk.less (l' := [ps 5 (.osl 0 0 M.length), ps 8 (.opt 81 0), ps 17 (.ssl (vos l) 0 l.length), ps 18 (nv l.length), ps 19 (nv i), ps 29 (.ssl (brs ((l.getD i dVo).2)) 0 (((l.getD i dVo).2).length)), ps 30 (nv (((l.getD i dVo).2).length)), ps 31 (iv 0), pb 0 58 (nos M), pb 81 91 [(nv i), (.osl 129 0 0), (iv 0), (iv 0), (iv 1), (.ssl [] 0 0)], pb 129 58 []]) 131 (by kernel_rfl) (by kernel_rfl)) ?_
   refine T_wk (Wk.eq (show _ = [ps 5 (.osl 0 0 M.length), ps 8 (.opt 81 0), ps 17 (.ssl (vos l) 0 l.length), ps 18 (nv l.length), ps 19 (nv i), ps 29 (.ssl (brs ((l.getD i dVo).2)) 0 (((l.getD i dVo).2).length)), ps 30 (nv (((l.getD i dVo).2).length)), ps 31 (iv 0), pb 0 58 (nos M), pb 81 91 [(iv ((i : Nat) : Int)), (.osl 129 0 (([] : List Nt).length)), (nv 0), (iv 0), (iv 1), (.ssl (spans ([] : List Sp)) (0 * 5) 0)], pb 129 58 (nos ([] : List Nt))] from by rfl)) ?_
   refine qcm (α := {x : Nat × Int × Int × List Nt × Nat × List Sp × Nat × Nat // x.1 ≤ (l.getD i dVo).2.length ∧ qcf ((i : Nat) : Int) ((l.getD i dVo).2.drop x.1) ((x.2.1, x.2.2.1), x.2.2.2.1, x.2.2.2.2.1) = qcf ((i : Nat) : Int) (l.getD i dVo).2 ((0, 1), [], 0) ∧ okTs (x.2.2.2.1, x.2.2.2.2.1, 0) ∧ x.2.2.2.1.length ≤ x.1 * 65536 ∧ I64 x.2.1 ∧ I64 x.2.2.1}) (fun x => [ps 5 (.osl 0 0 M.length), ps 8 (.opt 1 0), ps 17 (.ssl (vos l) 0 l.length), ps 18 (nv l.length), ps 19 (nv i), ps 29 (.ssl (brs ((l.getD i dVo).2)) 0 (((l.getD i dVo).2).length)), ps 30 (nv (((l.getD i dVo).2).length)), ps 31 (nv x.1.1), pb 0 58 (nos M), pb 1 91 [(iv ((i : Nat) : Int)), (.osl 2 0 x.1.2.2.2.1.length), (nv x.1.2.2.2.2.1), (iv x.1.2.1), (iv x.1.2.2.1), (.ssl (spans x.1.2.2.2.2.2.1) (x.1.2.2.2.2.2.2.1 * 5) x.1.2.2.2.2.2.2.2)], pb 2 58 (nos x.1.2.2.2.1)]) (fun x => (l.getD i dVo).2.length - x.1.1) 3 ⟨(0, 0, 1, [], 0, [], 0, 0), ⟨Nat.zero_le _, rfl, ⟨Nat.le_refl _, fun n hn => by cases hn⟩, Nat.zero_le _, by unfold I64; decide, by unfold I64; decide⟩⟩ (Wk.ren3 [ps 5 (.osl 0 0 M.length), ps 8 (.opt 1 0), ps 17 (.ssl (vos l) 0 l.length), ps 18 (nv l.length), ps 19 (nv i), ps 29 (.ssl (brs ((l.getD i dVo).2)) 0 (((l.getD i dVo).2).length)), ps 30 (nv (((l.getD i dVo).2).length)), ps 31 (nv 0), pb 0 58 (nos M), pb 1 91 [(iv ((i : Nat) : Int)), (.osl 2 0 ([] : List Nt).length), (nv 0), (iv (0 : Int)), (iv (1 : Int)), (.ssl (spans ([] : List Sp)) (0 * 5) 0)], pb 2 58 (nos ([] : List Nt))] 0 hc0 [0, 81, 129] [(kb 0, (nos M)), (kb 2, (nos ([] : List Nt)))] (oc (qal _) (oc (qal _) (oz))) (by kernel_rfl) rfl rfl (by kernel_rfl) (by kernel_rfl)) ?_
   rintro ⟨⟨j, a, b, N, z, T, q, r⟩, ⟨hj, hBt, hok, hNl, ha, hb⟩⟩
   dsimp only at hj hBt hok hNl ha hb
   refine qaa ?_
   refine T_r mixed [] [ps 5 (.osl 0 0 M.length), ps 8 (.opt 1 0), ps 17 (.ssl (vos l) 0 l.length), ps 18 (nv l.length), ps 19 (nv i), ps 29 (.ssl (brs ((l.getD i dVo).2)) 0 (((l.getD i dVo).2).length)), ps 30 (nv (((l.getD i dVo).2).length)), ps 31 (nv j), ps 32 (bv (decide (((j : Nat) : Int) < ((((l.getD i dVo).2).length : Nat) : Int)))), pb 0 58 (nos M), pb 1 91 [(iv ((i : Nat) : Int)), (.osl 2 0 N.length), (nv z), (iv a), (iv b), (.ssl (spans T) (q * 5) r)], pb 2 58 (nos N)] (oz) ?_
   refine qaa ?_
   by_cases h3 : ((j : Nat) : Int) < ((((l.getD i dVo).2).length : Nat) : Int)
   ·refine T_th (dty h3) ?_
    refine qag <| qaa <| qan <| qaa ?_
    refine T_k mixed [(0, .nat (j * 3)), (1, .cells [(iv ((((l.getD i dVo).2).getD j dBr).1)), (iv ((((l.getD i dVo).2).getD j dBr).2.1)), (.ssl (ics ((((l.getD i dVo).2).getD j dBr).2.2)) 0 (((((l.getD i dVo).2).getD j dBr).2.2).length))])] [.k2, .n, .k6, .d, .k3, .n] [ps 10 (.opt 27 0), pb 27 47 [(iv ((((l.getD i dVo).2).getD j dBr).1)), (iv ((((l.getD i dVo).2).getD j dBr).2.1)), (.ssl (ics ((((l.getD i dVo).2).getD j dBr).2.2)) 0 (((((l.getD i dVo).2).getD j dBr).2.2).length))]] (oc (by omega : (0 : Int) ≤ ((j : Nat) : Int) ∧ ((j : Nat) : Int) < ((((l.getD i dVo).2).length : Nat) : Int)) (oc (by omega : 0 + (((j : Nat) : Int) : Int).toNat * 3 = (j * 3)) (oc (qch brC 3 (fun _ => rfl) dBr ((l.getD i dVo).2) j 0 3 (by omega) (by decide) : (j * 3) + 3 ≤ ((brs ((l.getD i dVo).2))).length ∧ (((brs ((l.getD i dVo).2))).drop (j * 3)).take 3 = [(iv ((((l.getD i dVo).2).getD j dBr).1)), (iv ((((l.getD i dVo).2).getD j dBr).2.1)), (.ssl (ics ((((l.getD i dVo).2).getD j dBr).2.2)) 0 (((((l.getD i dVo).2).getD j dBr).2.2).length))]) oz))) ?_
    refine qaa ?_
    have hyf := hfv.2.2 j (by omega)
    by_cases h4 : ((barT ((i : Nat) : Int) ((l.getD i dVo).2.getD j dBr) ((a, b), N, z)).1) = 0
    ·refine T_k mixed [(2, .call [1, 2] [(.opt 0 0), (.agg [(iv ((((l.getD i dVo).2).getD j dBr).1)), (iv ((((l.getD i dVo).2).getD j dBr).2.1)), (.ssl (ics ((((l.getD i dVo).2).getD j dBr).2.2)) 0 (((((l.getD i dVo).2).getD j dBr).2.2).length))])] [some (91, [(iv ((i : Nat) : Int)), (.osl 1 0 N.length), (nv z), (iv a), (iv b), (.ssl (spans T) (q * 5) r)]), some (58, (nos N))] (iv ((barT ((i : Nat) : Int) ((l.getD i dVo).2.getD j dBr) ((a, b), N, z)).1)) [some (91, [(iv ((i : Nat) : Int)), (.osl 2 0 (((barT ((i : Nat) : Int) ((l.getD i dVo).2.getD j dBr) ((a, b), N, z)).2.2.1).length)), (nv ((barT ((i : Nat) : Int) ((l.getD i dVo).2.getD j dBr) ((a, b), N, z)).2.2.2)), (iv ((barT ((i : Nat) : Int) ((l.getD i dVo).2.getD j dBr) ((a, b), N, z)).2.1.1)), (iv ((barT ((i : Nat) : Int) ((l.getD i dVo).2.getD j dBr) ((a, b), N, z)).2.1.2)), (.ssl (spans (qac (toB (qae ((l.getD i dVo).2.getD j dBr).2.2)) (Fr.make ((l.getD i dVo).2.getD j dBr).1 ((l.getD i dVo).2.getD j dBr).2.1).1 (Fr.make ((l.getD i dVo).2.getD j dBr).1 ((l.getD i dVo).2.getD j dBr).2.1).2.1)) (((telL ((i : Nat) : Int) a b (qac (toB (qae ((l.getD i dVo).2.getD j dBr).2.2)) (Fr.make ((l.getD i dVo).2.getD j dBr).1 ((l.getD i dVo).2.getD j dBr).2.1).1 (Fr.make ((l.getD i dVo).2.getD j dBr).1 ((l.getD i dVo).2.getD j dBr).2.1).2.1) ((l.getD i dVo).2.getD j dBr).2.2 [] (N, z, 0)).2.2.2) * 5) ((qac (toB (qae ((l.getD i dVo).2.getD j dBr).2.2)) (Fr.make ((l.getD i dVo).2.getD j dBr).1 ((l.getD i dVo).2.getD j dBr).2.1).1 (Fr.make ((l.getD i dVo).2.getD j dBr).1 ((l.getD i dVo).2.getD j dBr).2.1).2.1).length - (telL ((i : Nat) : Int) a b (qac (toB (qae ((l.getD i dVo).2.getD j dBr).2.2)) (Fr.make ((l.getD i dVo).2.getD j dBr).1 ((l.getD i dVo).2.getD j dBr).2.1).1 (Fr.make ((l.getD i dVo).2.getD j dBr).1 ((l.getD i dVo).2.getD j dBr).2.1).2.1) ((l.getD i dVo).2.getD j dBr).2.2 [] (N, z, 0)).2.2.2))]), none, some (58, (nos ((barT ((i : Nat) : Int) ((l.getD i dVo).2.getD j dBr) ((a, b), N, z)).2.2.1)))])] [.k2, .d, .n, .k7, .d, .n, .d, .d, .n] [ps 11 (iv ((barT ((i : Nat) : Int) ((l.getD i dVo).2.getD j dBr) ((a, b), N, z)).1)), pb 1 91 [(iv ((i : Nat) : Int)), (.osl 59 0 (((barT ((i : Nat) : Int) ((l.getD i dVo).2.getD j dBr) ((a, b), N, z)).2.2.1).length)), (nv ((barT ((i : Nat) : Int) ((l.getD i dVo).2.getD j dBr) ((a, b), N, z)).2.2.2)), (iv ((barT ((i : Nat) : Int) ((l.getD i dVo).2.getD j dBr) ((a, b), N, z)).2.1.1)), (iv ((barT ((i : Nat) : Int) ((l.getD i dVo).2.getD j dBr) ((a, b), N, z)).2.1.2)), (.ssl (spans (qac (toB (qae ((l.getD i dVo).2.getD j dBr).2.2)) (Fr.make ((l.getD i dVo).2.getD j dBr).1 ((l.getD i dVo).2.getD j dBr).2.1).1 (Fr.make ((l.getD i dVo).2.getD j dBr).1 ((l.getD i dVo).2.getD j dBr).2.1).2.1)) (((telL ((i : Nat) : Int) a b (qac (toB (qae ((l.getD i dVo).2.getD j dBr).2.2)) (Fr.make ((l.getD i dVo).2.getD j dBr).1 ((l.getD i dVo).2.getD j dBr).2.1).1 (Fr.make ((l.getD i dVo).2.getD j dBr).1 ((l.getD i dVo).2.getD j dBr).2.1).2.1) ((l.getD i dVo).2.getD j dBr).2.2 [] (N, z, 0)).2.2.2) * 5) ((qac (toB (qae ((l.getD i dVo).2.getD j dBr).2.2)) (Fr.make ((l.getD i dVo).2.getD j dBr).1 ((l.getD i dVo).2.getD j dBr).2.1).1 (Fr.make ((l.getD i dVo).2.getD j dBr).1 ((l.getD i dVo).2.getD j dBr).2.1).2.1).length - (telL ((i : Nat) : Int) a b (qac (toB (qae ((l.getD i dVo).2.getD j dBr).2.2)) (Fr.make ((l.getD i dVo).2.getD j dBr).1 ((l.getD i dVo).2.getD j dBr).2.1).1 (Fr.make ((l.getD i dVo).2.getD j dBr).1 ((l.getD i dVo).2.getD j dBr).2.1).2.1) ((l.getD i dVo).2.getD j dBr).2.2 [] (N, z, 0)).2.2.2))], pb 59 58 (renL (sigo [1, 2] 59) (nos ((barT ((i : Nat) : Int) ((l.getD i dVo).2.getD j dBr) ((a, b), N, z)).2.2.1)))] (oc (qro ((l.getD i dVo).2.getD j dBr) ((i : Nat) : Int) a b T N z q r hyf (hwr j (by omega)).1 (hwr j (by omega)).2 hok (by omega) ⟨ha, hb⟩ h4 : PC Tryz.prog 35 [(.opt 0 0), (.agg [(iv ((((l.getD i dVo).2).getD j dBr).1)), (iv ((((l.getD i dVo).2).getD j dBr).2.1)), (.ssl (ics ((((l.getD i dVo).2).getD j dBr).2.2)) 0 (((((l.getD i dVo).2).getD j dBr).2.2).length))])] [some (91, [(iv ((i : Nat) : Int)), (.osl 1 0 N.length), (nv z), (iv a), (iv b), (.ssl (spans T) (q * 5) r)]), some (58, (nos N))] (iv ((barT ((i : Nat) : Int) ((l.getD i dVo).2.getD j dBr) ((a, b), N, z)).1)) [some (91, [(iv ((i : Nat) : Int)), (.osl 2 0 (((barT ((i : Nat) : Int) ((l.getD i dVo).2.getD j dBr) ((a, b), N, z)).2.2.1).length)), (nv ((barT ((i : Nat) : Int) ((l.getD i dVo).2.getD j dBr) ((a, b), N, z)).2.2.2)), (iv ((barT ((i : Nat) : Int) ((l.getD i dVo).2.getD j dBr) ((a, b), N, z)).2.1.1)), (iv ((barT ((i : Nat) : Int) ((l.getD i dVo).2.getD j dBr) ((a, b), N, z)).2.1.2)), (.ssl (spans (qac (toB (qae ((l.getD i dVo).2.getD j dBr).2.2)) (Fr.make ((l.getD i dVo).2.getD j dBr).1 ((l.getD i dVo).2.getD j dBr).2.1).1 (Fr.make ((l.getD i dVo).2.getD j dBr).1 ((l.getD i dVo).2.getD j dBr).2.1).2.1)) (((telL ((i : Nat) : Int) a b (qac (toB (qae ((l.getD i dVo).2.getD j dBr).2.2)) (Fr.make ((l.getD i dVo).2.getD j dBr).1 ((l.getD i dVo).2.getD j dBr).2.1).1 (Fr.make ((l.getD i dVo).2.getD j dBr).1 ((l.getD i dVo).2.getD j dBr).2.1).2.1) ((l.getD i dVo).2.getD j dBr).2.2 [] (N, z, 0)).2.2.2) * 5) ((qac (toB (qae ((l.getD i dVo).2.getD j dBr).2.2)) (Fr.make ((l.getD i dVo).2.getD j dBr).1 ((l.getD i dVo).2.getD j dBr).2.1).1 (Fr.make ((l.getD i dVo).2.getD j dBr).1 ((l.getD i dVo).2.getD j dBr).2.1).2.1).length - (telL ((i : Nat) : Int) a b (qac (toB (qae ((l.getD i dVo).2.getD j dBr).2.2)) (Fr.make ((l.getD i dVo).2.getD j dBr).1 ((l.getD i dVo).2.getD j dBr).2.1).1 (Fr.make ((l.getD i dVo).2.getD j dBr).1 ((l.getD i dVo).2.getD j dBr).2.1).2.1) ((l.getD i dVo).2.getD j dBr).2.2 [] (N, z, 0)).2.2.2))]), none, some (58, (nos ((barT ((i : Nat) : Int) ((l.getD i dVo).2.getD j dBr) ((a, b), N, z)).2.2.1)))]) (oc (rfl : [(.opt 1 0), (.agg [(iv ((((l.getD i dVo).2).getD j dBr).1)), (iv ((((l.getD i dVo).2).getD j dBr).2.1)), (.ssl (ics ((((l.getD i dVo).2).getD j dBr).2.2)) 0 (((((l.getD i dVo).2).getD j dBr).2.2).length))])] = renL (sigi [1, 2] 59) [(.opt 0 0), (.agg [(iv ((((l.getD i dVo).2).getD j dBr).1)), (iv ((((l.getD i dVo).2).getD j dBr).2.1)), (.ssl (ics ((((l.getD i dVo).2).getD j dBr).2.2)) 0 (((((l.getD i dVo).2).getD j dBr).2.2).length))])]) (oc (rfl : [(iv ((i : Nat) : Int)), (.osl 2 0 N.length), (nv z), (iv a), (iv b), (.ssl (spans T) (q * 5) r)] = renL (sigi [1, 2] 59) [(iv ((i : Nat) : Int)), (.osl 1 0 N.length), (nv z), (iv a), (iv b), (.ssl (spans T) (q * 5) r)]) (oc ((qbd (qal _)).symm : (nos N) = renL (sigi [1, 2] 59) (nos N)) oz)))) ?_
     refine T_wk (Wk.eq (show _ = [ps 5 (.osl 0 0 M.length), ps 8 (.opt 1 0), ps 11 (iv ((barT ((i : Nat) : Int) ((l.getD i dVo).2.getD j dBr) ((a, b), N, z)).1)), ps 17 (.ssl (vos l) 0 l.length), ps 18 (nv l.length), ps 19 (nv i), ps 29 (.ssl (brs ((l.getD i dVo).2)) 0 (((l.getD i dVo).2).length)), ps 30 (nv (((l.getD i dVo).2).length)), ps 31 (nv j), pb 0 58 (nos M), pb 1 91 [(iv ((i : Nat) : Int)), (.osl 59 0 (((barT ((i : Nat) : Int) ((l.getD i dVo).2.getD j dBr) ((a, b), N, z)).2.2.1).length)), (nv ((barT ((i : Nat) : Int) ((l.getD i dVo).2.getD j dBr) ((a, b), N, z)).2.2.2)), (iv ((barT ((i : Nat) : Int) ((l.getD i dVo).2.getD j dBr) ((a, b), N, z)).2.1.1)), (iv ((barT ((i : Nat) : Int) ((l.getD i dVo).2.getD j dBr) ((a, b), N, z)).2.1.2)), (.ssl (spans (qac (toB (qae ((l.getD i dVo).2.getD j dBr).2.2)) (Fr.make ((l.getD i dVo).2.getD j dBr).1 ((l.getD i dVo).2.getD j dBr).2.1).1 (Fr.make ((l.getD i dVo).2.getD j dBr).1 ((l.getD i dVo).2.getD j dBr).2.1).2.1)) (((telL ((i : Nat) : Int) a b (qac (toB (qae ((l.getD i dVo).2.getD j dBr).2.2)) (Fr.make ((l.getD i dVo).2.getD j dBr).1 ((l.getD i dVo).2.getD j dBr).2.1).1 (Fr.make ((l.getD i dVo).2.getD j dBr).1 ((l.getD i dVo).2.getD j dBr).2.1).2.1) ((l.getD i dVo).2.getD j dBr).2.2 [] (N, z, 0)).2.2.2) * 5) ((qac (toB (qae ((l.getD i dVo).2.getD j dBr).2.2)) (Fr.make ((l.getD i dVo).2.getD j dBr).1 ((l.getD i dVo).2.getD j dBr).2.1).1 (Fr.make ((l.getD i dVo).2.getD j dBr).1 ((l.getD i dVo).2.getD j dBr).2.1).2.1).length - (telL ((i : Nat) : Int) a b (qac (toB (qae ((l.getD i dVo).2.getD j dBr).2.2)) (Fr.make ((l.getD i dVo).2.getD j dBr).1 ((l.getD i dVo).2.getD j dBr).2.1).1 (Fr.make ((l.getD i dVo).2.getD j dBr).1 ((l.getD i dVo).2.getD j dBr).2.1).2.1) ((l.getD i dVo).2.getD j dBr).2.2 [] (N, z, 0)).2.2.2))], pb 59 58 (nos ((barT ((i : Nat) : Int) ((l.getD i dVo).2.getD j dBr) ((a, b), N, z)).2.2.1))] from by simp only [qbd (qal _)])) ?_
     refine qaa ?_
     refine T_k mixed [] [.k8, .k1, .n, .r] [ps 39 (bv (!(decide (((barT ((i : Nat) : Int) ((l.getD i dVo).2.getD j dBr) ((a, b), N, z)).1) = 0))))] (oz) ?_
     refine T_el (bt h4) ?_
     refine qag <| qbg ?_
     refine T_k mixed [] [.k2, .d, .k5, .d, .n, .d, .r] [ps 31 (iv (((j : Nat) : Int) + 1))] (oc (by simp only [InK]; omega : InK .i64 (((j : Nat) : Int) + 1)) oz) ?_
     have hkp := qpf (hwr j (by omega)).1 (hwr j (by omega)).2 hok h4
     exact qce ⟨(j + 1, ((barT ((i : Nat) : Int) ((l.getD i dVo).2.getD j dBr) ((a, b), N, z)).2.1.1), ((barT ((i : Nat) : Int) ((l.getD i dVo).2.getD j dBr) ((a, b), N, z)).2.1.2), ((barT ((i : Nat) : Int) ((l.getD i dVo).2.getD j dBr) ((a, b), N, z)).2.2.1), ((barT ((i : Nat) : Int) ((l.getD i dVo).2.getD j dBr) ((a, b), N, z)).2.2.2), (qac (toB (qae ((l.getD i dVo).2.getD j dBr).2.2)) (Fr.make ((l.getD i dVo).2.getD j dBr).1 ((l.getD i dVo).2.getD j dBr).2.1).1 (Fr.make ((l.getD i dVo).2.getD j dBr).1 ((l.getD i dVo).2.getD j dBr).2.1).2.1), ((telL ((i : Nat) : Int) a b (qac (toB (qae ((l.getD i dVo).2.getD j dBr).2.2)) (Fr.make ((l.getD i dVo).2.getD j dBr).1 ((l.getD i dVo).2.getD j dBr).2.1).1 (Fr.make ((l.getD i dVo).2.getD j dBr).1 ((l.getD i dVo).2.getD j dBr).2.1).2.1) ((l.getD i dVo).2.getD j dBr).2.2 [] (N, z, 0)).2.2.2), ((qac (toB (qae ((l.getD i dVo).2.getD j dBr).2.2)) (Fr.make ((l.getD i dVo).2.getD j dBr).1 ((l.getD i dVo).2.getD j dBr).2.1).1 (Fr.make ((l.getD i dVo).2.getD j dBr).1 ((l.getD i dVo).2.getD j dBr).2.1).2.1).length - (telL ((i : Nat) : Int) a b (qac (toB (qae ((l.getD i dVo).2.getD j dBr).2.2)) (Fr.make ((l.getD i dVo).2.getD j dBr).1 ((l.getD i dVo).2.getD j dBr).2.1).1 (Fr.make ((l.getD i dVo).2.getD j dBr).1 ((l.getD i dVo).2.getD j dBr).2.1).2.1) ((l.getD i dVo).2.getD j dBr).2.2 [] (N, z, 0)).2.2.2)), ⟨by show j + 1 ≤ (l.getD i dVo).2.length; omega, by rw [qkk (by omega), if_pos h4] at hBt; exact hBt, hkp.1, by show ((barT ((i : Nat) : Int) ((l.getD i dVo).2.getD j dBr) ((a, b), N, z)).2.2.1).length ≤ (j + 1) * 65536; have := hkp.2.1; omega, hkp.2.2.1, hkp.2.2.2⟩⟩ (Wk.trans (Wk.eq (show _ = [ps 5 (.osl 0 0 M.length), ps 8 (.opt 1 0), ps 17 (.ssl (vos l) 0 l.length), ps 18 (nv l.length), ps 19 (nv i), ps 29 (.ssl (brs ((l.getD i dVo).2)) 0 (((l.getD i dVo).2).length)), ps 30 (nv (((l.getD i dVo).2).length)), ps 31 (nv (j + 1)), pb 0 58 (nos M), pb 1 91 [(iv ((i : Nat) : Int)), (.osl 59 0 (((barT ((i : Nat) : Int) ((l.getD i dVo).2.getD j dBr) ((a, b), N, z)).2.2.1).length)), (nv ((barT ((i : Nat) : Int) ((l.getD i dVo).2.getD j dBr) ((a, b), N, z)).2.2.2)), (iv ((barT ((i : Nat) : Int) ((l.getD i dVo).2.getD j dBr) ((a, b), N, z)).2.1.1)), (iv ((barT ((i : Nat) : Int) ((l.getD i dVo).2.getD j dBr) ((a, b), N, z)).2.1.2)), (.ssl (spans (qac (toB (qae ((l.getD i dVo).2.getD j dBr).2.2)) (Fr.make ((l.getD i dVo).2.getD j dBr).1 ((l.getD i dVo).2.getD j dBr).2.1).1 (Fr.make ((l.getD i dVo).2.getD j dBr).1 ((l.getD i dVo).2.getD j dBr).2.1).2.1)) (((telL ((i : Nat) : Int) a b (qac (toB (qae ((l.getD i dVo).2.getD j dBr).2.2)) (Fr.make ((l.getD i dVo).2.getD j dBr).1 ((l.getD i dVo).2.getD j dBr).2.1).1 (Fr.make ((l.getD i dVo).2.getD j dBr).1 ((l.getD i dVo).2.getD j dBr).2.1).2.1) ((l.getD i dVo).2.getD j dBr).2.2 [] (N, z, 0)).2.2.2) * 5) ((qac (toB (qae ((l.getD i dVo).2.getD j dBr).2.2)) (Fr.make ((l.getD i dVo).2.getD j dBr).1 ((l.getD i dVo).2.getD j dBr).2.1).1 (Fr.make ((l.getD i dVo).2.getD j dBr).1 ((l.getD i dVo).2.getD j dBr).2.1).2.1).length - (telL ((i : Nat) : Int) a b (qac (toB (qae ((l.getD i dVo).2.getD j dBr).2.2)) (Fr.make ((l.getD i dVo).2.getD j dBr).1 ((l.getD i dVo).2.getD j dBr).2.1).1 (Fr.make ((l.getD i dVo).2.getD j dBr).1 ((l.getD i dVo).2.getD j dBr).2.1).2.1) ((l.getD i dVo).2.getD j dBr).2.2 [] (N, z, 0)).2.2.2))], pb 59 58 (nos ((barT ((i : Nat) : Int) ((l.getD i dVo).2.getD j dBr) ((a, b), N, z)).2.2.1))] from by rfl)) (Wk.ren3 [ps 5 (.osl 0 0 M.length), ps 8 (.opt 1 0), ps 17 (.ssl (vos l) 0 l.length), ps 18 (nv l.length), ps 19 (nv i), ps 29 (.ssl (brs ((l.getD i dVo).2)) 0 (((l.getD i dVo).2).length)), ps 30 (nv (((l.getD i dVo).2).length)), ps 31 (nv (j + 1)), pb 0 58 (nos M), pb 1 91 [(iv ((i : Nat) : Int)), (.osl 2 0 ((barT ((i : Nat) : Int) ((l.getD i dVo).2.getD j dBr) ((a, b), N, z)).2.2.1).length), (nv ((barT ((i : Nat) : Int) ((l.getD i dVo).2.getD j dBr) ((a, b), N, z)).2.2.2)), (iv ((barT ((i : Nat) : Int) ((l.getD i dVo).2.getD j dBr) ((a, b), N, z)).2.1.1)), (iv ((barT ((i : Nat) : Int) ((l.getD i dVo).2.getD j dBr) ((a, b), N, z)).2.1.2)), (.ssl (spans (qac (toB (qae ((l.getD i dVo).2.getD j dBr).2.2)) (Fr.make ((l.getD i dVo).2.getD j dBr).1 ((l.getD i dVo).2.getD j dBr).2.1).1 (Fr.make ((l.getD i dVo).2.getD j dBr).1 ((l.getD i dVo).2.getD j dBr).2.1).2.1)) (((telL ((i : Nat) : Int) a b (qac (toB (qae ((l.getD i dVo).2.getD j dBr).2.2)) (Fr.make ((l.getD i dVo).2.getD j dBr).1 ((l.getD i dVo).2.getD j dBr).2.1).1 (Fr.make ((l.getD i dVo).2.getD j dBr).1 ((l.getD i dVo).2.getD j dBr).2.1).2.1) ((l.getD i dVo).2.getD j dBr).2.2 [] (N, z, 0)).2.2.2) * 5) ((qac (toB (qae ((l.getD i dVo).2.getD j dBr).2.2)) (Fr.make ((l.getD i dVo).2.getD j dBr).1 ((l.getD i dVo).2.getD j dBr).2.1).1 (Fr.make ((l.getD i dVo).2.getD j dBr).1 ((l.getD i dVo).2.getD j dBr).2.1).2.1).length - (telL ((i : Nat) : Int) a b (qac (toB (qae ((l.getD i dVo).2.getD j dBr).2.2)) (Fr.make ((l.getD i dVo).2.getD j dBr).1 ((l.getD i dVo).2.getD j dBr).2.1).1 (Fr.make ((l.getD i dVo).2.getD j dBr).1 ((l.getD i dVo).2.getD j dBr).2.1).2.1) ((l.getD i dVo).2.getD j dBr).2.2 [] (N, z, 0)).2.2.2))], pb 2 58 (nos ((barT ((i : Nat) : Int) ((l.getD i dVo).2.getD j dBr) ((a, b), N, z)).2.2.1))] 0 hc0 [0, 1, 59] [(kb 0, (nos M)), (kb 2, (nos ((barT ((i : Nat) : Int) ((l.getD i dVo).2.getD j dBr) ((a, b), N, z)).2.2.1)))] (oc (qal _) (oc (qal _) (oz))) (by kernel_rfl) rfl rfl (by kernel_rfl) (by kernel_rfl))) (show (l.getD i dVo).2.length - (j + 1) < (l.getD i dVo).2.length - j from by show (l.getD i dVo).2.length - (j + 1) < (l.getD i dVo).2.length - j; omega)
    refine T_k mixed [(2, .call [1, 2] [(.opt 0 0), (.agg [(iv ((((l.getD i dVo).2).getD j dBr).1)), (iv ((((l.getD i dVo).2).getD j dBr).2.1)), (.ssl (ics ((((l.getD i dVo).2).getD j dBr).2.2)) 0 (((((l.getD i dVo).2).getD j dBr).2.2).length))])] [some (91, [(iv ((i : Nat) : Int)), (.osl 1 0 N.length), (nv z), (iv a), (iv b), (.ssl (spans T) (q * 5) r)]), some (58, (nos N))] (iv ((barT ((i : Nat) : Int) ((l.getD i dVo).2.getD j dBr) ((a, b), N, z)).1)) [none, none, none])] [.k2, .d, .n, .k7, .d, .d, .d] [ps 11 (iv ((barT ((i : Nat) : Int) ((l.getD i dVo).2.getD j dBr) ((a, b), N, z)).1))] (oc (qnq ((l.getD i dVo).2.getD j dBr) ((i : Nat) : Int) a b T N z q r hyf (hwr j (by omega)).1 (hwr j (by omega)).2 hok (by omega) ⟨ha, hb⟩ : PC Tryz.prog 35 [(.opt 0 0), (.agg [(iv ((((l.getD i dVo).2).getD j dBr).1)), (iv ((((l.getD i dVo).2).getD j dBr).2.1)), (.ssl (ics ((((l.getD i dVo).2).getD j dBr).2.2)) 0 (((((l.getD i dVo).2).getD j dBr).2.2).length))])] [some (91, [(iv ((i : Nat) : Int)), (.osl 1 0 N.length), (nv z), (iv a), (iv b), (.ssl (spans T) (q * 5) r)]), some (58, (nos N))] (iv ((barT ((i : Nat) : Int) ((l.getD i dVo).2.getD j dBr) ((a, b), N, z)).1)) [none, none, none]) (oc (rfl : [(.opt 1 0), (.agg [(iv ((((l.getD i dVo).2).getD j dBr).1)), (iv ((((l.getD i dVo).2).getD j dBr).2.1)), (.ssl (ics ((((l.getD i dVo).2).getD j dBr).2.2)) 0 (((((l.getD i dVo).2).getD j dBr).2.2).length))])] = renL (sigi [1, 2] 59) [(.opt 0 0), (.agg [(iv ((((l.getD i dVo).2).getD j dBr).1)), (iv ((((l.getD i dVo).2).getD j dBr).2.1)), (.ssl (ics ((((l.getD i dVo).2).getD j dBr).2.2)) 0 (((((l.getD i dVo).2).getD j dBr).2.2).length))])]) (oc (rfl : [(iv ((i : Nat) : Int)), (.osl 2 0 N.length), (nv z), (iv a), (iv b), (.ssl (spans T) (q * 5) r)] = renL (sigi [1, 2] 59) [(iv ((i : Nat) : Int)), (.osl 1 0 N.length), (nv z), (iv a), (iv b), (.ssl (spans T) (q * 5) r)]) (oc ((qbd (qal _)).symm : (nos N) = renL (sigi [1, 2] 59) (nos N)) oz)))) ?_
    refine qaa ?_
    refine T_k mixed [] [.k8, .k1, .n, .r] [ps 39 (bv (!(decide (((barT ((i : Nat) : Int) ((l.getD i dVo).2.getD j dBr) ((a, b), N, z)).1) = 0))))] (oz) ?_
    refine T_th (bf h4) ?_
    refine qaa ?_
    refine T_r mixed [] [ps 2 (.av (.slice none 0 0)), ps 3 (iv ((barT ((i : Nat) : Int) ((l.getD i dVo).2.getD j dBr) ((a, b), N, z)).1))] (oz) ?_
    have hbE : qcf ((i : Nat) : Int) (l.getD i dVo).2 ((0, 1), [], 0) = (barT ((i : Nat) : Int) ((l.getD i dVo).2.getD j dBr) ((a, b), N, z)) := by rw [← hBt, qkk (by omega), if_neg h4]
    have hR1 : (qab l).1 = (barT ((i : Nat) : Int) ((l.getD i dVo).2.getD j dBr) ((a, b), N, z)).1 := by unfold qab; rw [if_pos h1, ← hT, qhz (by omega), hbE, if_neg h4]
    exact absurd (hR1.symm.trans h0) h4
   refine T_el (dtn h3) ?_
   refine qbu rfl rfl ?_
   have hbt : qcf ((i : Nat) : Int) (l.getD i dVo).2 ((0, 1), [], 0) = (0, (a, b), N, z) := by rw [← hBt, List.drop_eq_nil_of_le (by omega), qcf]
   refine T_k mixed [(5, .app (some (nos N)) (some (nos (M ++ N))))] [.d, .n, .d, .k3, .d, .d, .d, .d, .d, .d, .d, .n] [ps 5 (.osl 51 0 (M.length + N.length)), pb 51 58 (nos (M ++ N))] (oc (nos_src N : 0 + N.length * 9 ≤ ((nos N)).length ∧ (((nos N)).drop 0).take (N.length * 9) = (nos N)) (oc (qlh _ : ((nos M)).length = M.length * 9) (oc (by omega : (M.length + N.length) * 80 ≤ 140737488355328 ∧ M.length + N.length ≤ 9223372036854775807) (oc ((qih noC M N).symm : (nos M) ++ (nos N) = (nos (M ++ N))) oz)))) ?_
   refine qbg ?_
   refine T_k mixed [] [.k3, .d, .n, .r] [ps 19 (iv (((i : Nat) : Int) + 1))] (oc (by simp only [InK]; omega : InK .i64 (((i : Nat) : Int) + 1)) oz) ?_
   exact qce ⟨(i + 1, M ++ N), ⟨by show i + 1 ≤ l.length; omega, by rw [qhz (by omega), hbt, if_pos rfl] at hT; rw [show (((i + 1 : Nat) : Nat) : Int) = ((i : Nat) : Int) + 1 from by omega]; exact hT, by show (M ++ N).length ≤ (i + 1) * 70000000; rw [List.length_append]; omega⟩⟩ (Wk.trans (Wk.eq (show _ = [ps 5 (.osl 51 0 ((M ++ N).length)), ps 17 (.ssl (vos l) 0 l.length), ps 18 (nv l.length), ps 19 (nv (i + 1)), pb 51 58 (nos (M ++ N))] from by rw [List.length_append]; rfl)) (Wk.ren3 [ps 5 (.osl 0 0 (M ++ N).length), ps 17 (.ssl (vos l) 0 l.length), ps 18 (nv l.length), ps 19 (nv (i + 1)), pb 0 58 (nos (M ++ N))] 0 hc0 [51] [(kb 0, (nos (M ++ N)))] (oc (qal _) (oz)) (by kernel_rfl) rfl rfl (by kernel_rfl) (by kernel_rfl))) (show l.length - (i + 1) < l.length - i from by show l.length - (i + 1) < l.length - i; omega)
  refine T_el (dtn h2) ?_
  refine qbu rfl rfl ?_
  refine qaa ?_
  refine T_r mixed [] [ps 2 (.osl 0 0 M.length), ps 3 (iv 0), pb 0 58 (nos M)] (oz) ?_
  have hR : qab l = (0, M) := by unfold qab; rw [if_pos h1, ← hT, List.drop_eq_nil_of_le (by omega), qbz]
  rw [hR]
  exact qai fun cx_ a_ hI_ => qby (H' := [some (58, (nos M))]) (.inr rfl) (Wk.ren3 [ps 2 (.osl 0 0 M.length), ps 3 (iv 0), pb 0 58 (nos M)] 0 hc0 [0] [(kb 0, (nos M))] (oc (qal _) (oz)) (by kernel_rfl) rfl rfl (by kernel_rfl) (by kernel_rfl)) rfl (oc rfl (oz)) (fun cx_ a_ hI_ => qbc (l' := [ps 2 (.osl 0 0 M.length), ps 3 (iv 0), pb 0 58 (nos M)]) (by kernel_rfl) cx_ a_ hI_) hI_
 refine T_th (bf h1) ?_
 refine qaa ?_
 refine T_r mixed [] [ps 2 (.av (.slice none 0 0)), ps 3 (iv (qbk l))] (oz) ?_
 have hR1 : (qab l).1 = qbk l := by unfold qab; rw [if_neg h1]
 exact absurd (hR1.symm.trans h0) h1
set_option maxRecDepth 100000 in
set_option maxHeartbeats 4000000 in
theorem qey (l : List Vo) (hf : qsv l) (h0 : ¬ (qab l).1 = 0) : PC Tryz.prog 12 [(.ssl (vos l) 0 l.length)] [] (.tup [(.ssl [] 0 0), (iv ((qab l).1))]) [] := by
 refine qas Tryz.func12 rfl (by kernel_rfl) (Nat.le_of_ble_eq_true rfl) (by kernel_rfl) (l0 := [ps 0 (.ssl (vos l) 0 l.length)]) rfl (fun c0 Bor hc0 => ?_)
 refine qaa ?_
 refine T_k mixed [] [.r] [] (oz) ?_
 refine qaa <| qaa ?_
 refine T_k mixed [(1, .call [] [(.ssl (vos l) 0 l.length)] [] (iv (qbk l)) [])] [.k1, .n] [ps 4 (iv (qbk l))] (oc (qem l hf) (oc (rfl : Ren0 24 [(.ssl (vos l) 0 l.length)]) oz)) ?_
 refine qaa ?_
 refine T_k mixed [] [.k2, .n] [ps 15 (bv (!(decide ((qbk l) = 0))))] (oz) ?_
 by_cases h1 : (qbk l) = 0
 ·refine T_el (bt h1) ?_
  refine qag <| qaa ?_
  refine T_k mixed [] [.k1, .d, .n, .d] [ps 5 (.av (.slice none 0 0))] (oz) ?_
  refine qaa <| qaa ?_
  refine T_k mixed [] [.d, .k1, .n, .n, .n] [ps 17 (.ssl (vos l) 0 l.length), ps 18 (nv l.length), ps 19 (iv 0)] (oz) ?_
  refine qan ?_
  refine T_wk (Wk.nil (s := 5) 58 (by kernel_rfl)) ?_
  refine T_wk (Wk.less (l' := [ps 5 (.osl 88 0 0), ps 17 (.ssl (vos l) 0 l.length), ps 18 (nv l.length), ps 19 (iv 0), pb 88 58 []]) 89 (by kernel_rfl) (by kernel_rfl)) ?_
  have hwp := qdz h1
  refine T_wk (Wk.eq (show _ = [ps 5 (.osl 88 0 (([] : List Nt).length)), ps 17 (.ssl (vos l) 0 l.length), ps 18 (nv l.length), ps 19 (iv 0), pb 88 58 (nos ([] : List Nt))] from by rfl)) ?_
  refine qcm (α := {x : Nat × List Nt // x.1 ≤ l.length ∧ qbz (l.drop x.1) ((x.1 : Nat) : Int) x.2 = qbz l 0 [] ∧ x.2.length ≤ x.1 * 70000000}) (fun x => [ps 5 (.osl 0 0 x.1.2.length), ps 17 (.ssl (vos l) 0 l.length), ps 18 (nv l.length), ps 19 (nv x.1.1), pb 0 58 (nos x.1.2)]) (fun x => l.length - x.1.1) 1 ⟨(0, []), ⟨Nat.zero_le _, rfl, Nat.zero_le _⟩⟩ (Wk.ren3 [ps 5 (.osl 0 0 ([] : List Nt).length), ps 17 (.ssl (vos l) 0 l.length), ps 18 (nv l.length), ps 19 (nv 0), pb 0 58 (nos ([] : List Nt))] 0 hc0 [88] [(kb 0, (nos ([] : List Nt)))] (oc (qal _) (oz)) (by kernel_rfl) rfl rfl (by kernel_rfl) (by kernel_rfl)) ?_
  rintro ⟨⟨i, M⟩, ⟨hi, hT, hM⟩⟩
  dsimp only at hi hT hM
  refine qaa ?_
  refine T_r mixed [] [ps 5 (.osl 0 0 M.length), ps 17 (.ssl (vos l) 0 l.length), ps 18 (nv l.length), ps 19 (nv i), ps 20 (bv (decide (((i : Nat) : Int) < ((l.length : Nat) : Int)))), pb 0 58 (nos M)] (oz) ?_
  refine qaa ?_
  by_cases h2 : ((i : Nat) : Int) < ((l.length : Nat) : Int)
  ·refine T_th (dty h2) ?_
   refine qag <| qaa <| qan <| qaa ?_
   have hfv := hf.2 i (by omega)
   have hwv := (hwp.2 i (by omega)).1
   have hwr := (hwp.2 i (by omega)).2
   have hl64 := hwp.1
   refine T_k mixed [(1, .nat (i * 2)), (2, .cells [(sv (st ((l.getD i dVo).1))), (.ssl (brs ((l.getD i dVo).2)) 0 (((l.getD i dVo).2).length))])] [.k1, .n, .n, .k3, .d, .k1, .n] [ps 6 (nv i), ps 7 (.opt 33 0), pb 33 44 [(sv (st ((l.getD i dVo).1))), (.ssl (brs ((l.getD i dVo).2)) 0 (((l.getD i dVo).2).length))]] (oc (by omega : (0 : Int) ≤ ((i : Nat) : Int) ∧ ((i : Nat) : Int) < ((l.length : Nat) : Int)) (oc (by omega : 0 + (((i : Nat) : Int) : Int).toNat * 2 = (i * 2)) (oc (qch voC 2 (fun _ => rfl) dVo l i 0 2 (by omega) (by decide) : (i * 2) + 2 ≤ ((vos l)).length ∧ (((vos l)).drop (i * 2)).take 2 = [(sv (st ((l.getD i dVo).1))), (.ssl (brs ((l.getD i dVo).2)) 0 (((l.getD i dVo).2).length))]) oz))) ?_
   refine qaa ?_
   refine T_k mixed [] [.k1, .d, .k1, .n, .k5, .n] [ps 8 (.opt 81 0), pb 81 91 [(nv i), (.av (.slice none 0 0)), (iv 0), (iv 0), (iv 1), (.av (.slice none 0 0))]] (oz) ?_
   refine qaa <| qaa ?_
   refine T_k mixed [] [.k1, .d, .k4, .n, .n, .n, .k1, .d, .r] [ps 29 (.ssl (brs ((l.getD i dVo).2)) 0 (((l.getD i dVo).2).length)), ps 30 (nv (((l.getD i dVo).2).length)), ps 31 (iv 0)] (oz) ?_
   refine qan ?_
   refine T_wk (Wk.nilc (B := 91) (cells := [(nv i), (.av (.slice none 0 0)), (iv 0), (iv 0), (iv 1), (.av (.slice none 0 0))]) 81 1 58 (by kernel_rfl) rfl) ?_
   refine T_wk (Wk.less (l' := [ps 5 (.osl 0 0 M.length), ps 8 (.opt 81 0), ps 17 (.ssl (vos l) 0 l.length), ps 18 (nv l.length), ps 19 (nv i), ps 29 (.ssl (brs ((l.getD i dVo).2)) 0 (((l.getD i dVo).2).length)), ps 30 (nv (((l.getD i dVo).2).length)), ps 31 (iv 0), pb 0 58 (nos M), pb 81 91 [(nv i), (.osl 129 0 0), (iv 0), (iv 0), (iv 1), (.av (.slice none 0 0))], pb 129 58 []]) 130 (by kernel_rfl) (by kernel_rfl)) ?_
   refine T_wk (Wk.nilc (B := 91) (cells := [(nv i), (.osl 129 0 0), (iv 0), (iv 0), (iv 1), (.av (.slice none 0 0))]) 81 5 187 (by kernel_rfl) rfl) ?_
   refine T_wk (Wk.less (l' := [ps 5 (.osl 0 0 M.length), ps 8 (.opt 81 0), ps 17 (.ssl (vos l) 0 l.length), ps 18 (nv l.length), ps 19 (nv i), ps 29 (.ssl (brs ((l.getD i dVo).2)) 0 (((l.getD i dVo).2).length)), ps 30 (nv (((l.getD i dVo).2).length)), ps 31 (iv 0), pb 0 58 (nos M), pb 81 91 [(nv i), (.osl 129 0 0), (iv 0), (iv 0), (iv 1), (.osl 130 0 0)], pb 129 58 [], pb 130 187 []]) 131 (by kernel_rfl) (by kernel_rfl)) ?_
   refine T_wk (Wk.frz2 (l' := [ps 5 (.osl 0 0 M.length), ps 8 (.opt 81 0), ps 17 (.ssl (vos l) 0 l.length), ps 18 (nv l.length), ps 19 (nv i), ps 29 (.ssl (brs ((l.getD i dVo).2)) 0 (((l.getD i dVo).2).length)), ps 30 (nv (((l.getD i dVo).2).length)), ps 31 (iv 0), pb 0 58 (nos M), pb 81 91 [(nv i), (.osl 129 0 0), (iv 0), (iv 0), (iv 1), (.ssl [] 0 0)], pb 129 58 [], (kb 130, none)]) 130 (T := 187) (cs := []) [(kb 0, (nos M))] (oc (qal _) (oz)) (by kernel_rfl) (by kernel_rfl) (fun p hp => List.all_eq_true.1 (show [].all PV.shd = true from rfl) p hp) (by kernel_rfl)) ?_
   refine T_wk (Wk.less (l' := [ps 5 (.osl 0 0 M.length), ps 8 (.opt 81 0), ps 17 (.ssl (vos l) 0 l.length), ps 18 (nv l.length), ps 19 (nv i), ps 29 (.ssl (brs ((l.getD i dVo).2)) 0 (((l.getD i dVo).2).length)), ps 30 (nv (((l.getD i dVo).2).length)), ps 31 (iv 0), pb 0 58 (nos M), pb 81 91 [(nv i), (.osl 129 0 0), (iv 0), (iv 0), (iv 1), (.ssl [] 0 0)], pb 129 58 []]) 131 (by kernel_rfl) (by kernel_rfl)) ?_
   refine T_wk (Wk.eq (show _ = [ps 5 (.osl 0 0 M.length), ps 8 (.opt 81 0), ps 17 (.ssl (vos l) 0 l.length), ps 18 (nv l.length), ps 19 (nv i), ps 29 (.ssl (brs ((l.getD i dVo).2)) 0 (((l.getD i dVo).2).length)), ps 30 (nv (((l.getD i dVo).2).length)), ps 31 (iv 0), pb 0 58 (nos M), pb 81 91 [(iv ((i : Nat) : Int)), (.osl 129 0 (([] : List Nt).length)), (nv 0), (iv 0), (iv 1), (.ssl (spans ([] : List Sp)) (0 * 5) 0)], pb 129 58 (nos ([] : List Nt))] from by rfl)) ?_
   refine qcm (α := {x : Nat × Int × Int × List Nt × Nat × List Sp × Nat × Nat // x.1 ≤ (l.getD i dVo).2.length ∧ qcf ((i : Nat) : Int) ((l.getD i dVo).2.drop x.1) ((x.2.1, x.2.2.1), x.2.2.2.1, x.2.2.2.2.1) = qcf ((i : Nat) : Int) (l.getD i dVo).2 ((0, 1), [], 0) ∧ okTs (x.2.2.2.1, x.2.2.2.2.1, 0) ∧ x.2.2.2.1.length ≤ x.1 * 65536 ∧ I64 x.2.1 ∧ I64 x.2.2.1}) (fun x => [ps 5 (.osl 0 0 M.length), ps 8 (.opt 1 0), ps 17 (.ssl (vos l) 0 l.length), ps 18 (nv l.length), ps 19 (nv i), ps 29 (.ssl (brs ((l.getD i dVo).2)) 0 (((l.getD i dVo).2).length)), ps 30 (nv (((l.getD i dVo).2).length)), ps 31 (nv x.1.1), pb 0 58 (nos M), pb 1 91 [(iv ((i : Nat) : Int)), (.osl 2 0 x.1.2.2.2.1.length), (nv x.1.2.2.2.2.1), (iv x.1.2.1), (iv x.1.2.2.1), (.ssl (spans x.1.2.2.2.2.2.1) (x.1.2.2.2.2.2.2.1 * 5) x.1.2.2.2.2.2.2.2)], pb 2 58 (nos x.1.2.2.2.1)]) (fun x => (l.getD i dVo).2.length - x.1.1) 3 ⟨(0, 0, 1, [], 0, [], 0, 0), ⟨Nat.zero_le _, rfl, ⟨Nat.le_refl _, fun n hn => by cases hn⟩, Nat.zero_le _, by unfold I64; decide, by unfold I64; decide⟩⟩ (Wk.ren3 [ps 5 (.osl 0 0 M.length), ps 8 (.opt 1 0), ps 17 (.ssl (vos l) 0 l.length), ps 18 (nv l.length), ps 19 (nv i), ps 29 (.ssl (brs ((l.getD i dVo).2)) 0 (((l.getD i dVo).2).length)), ps 30 (nv (((l.getD i dVo).2).length)), ps 31 (nv 0), pb 0 58 (nos M), pb 1 91 [(iv ((i : Nat) : Int)), (.osl 2 0 ([] : List Nt).length), (nv 0), (iv (0 : Int)), (iv (1 : Int)), (.ssl (spans ([] : List Sp)) (0 * 5) 0)], pb 2 58 (nos ([] : List Nt))] 0 hc0 [0, 81, 129] [(kb 0, (nos M)), (kb 2, (nos ([] : List Nt)))] (oc (qal _) (oc (qal _) (oz))) (by kernel_rfl) rfl rfl (by kernel_rfl) (by kernel_rfl)) ?_
   rintro ⟨⟨j, a, b, N, z, T, q, r⟩, ⟨hj, hBt, hok, hNl, ha, hb⟩⟩
   dsimp only at hj hBt hok hNl ha hb
   refine qaa ?_
   refine T_r mixed [] [ps 5 (.osl 0 0 M.length), ps 8 (.opt 1 0), ps 17 (.ssl (vos l) 0 l.length), ps 18 (nv l.length), ps 19 (nv i), ps 29 (.ssl (brs ((l.getD i dVo).2)) 0 (((l.getD i dVo).2).length)), ps 30 (nv (((l.getD i dVo).2).length)), ps 31 (nv j), ps 32 (bv (decide (((j : Nat) : Int) < ((((l.getD i dVo).2).length : Nat) : Int)))), pb 0 58 (nos M), pb 1 91 [(iv ((i : Nat) : Int)), (.osl 2 0 N.length), (nv z), (iv a), (iv b), (.ssl (spans T) (q * 5) r)], pb 2 58 (nos N)] (oz) ?_
   refine qaa ?_
   by_cases h3 : ((j : Nat) : Int) < ((((l.getD i dVo).2).length : Nat) : Int)
   ·refine T_th (dty h3) ?_
    refine qag <| qaa <| qan <| qaa ?_
    refine T_k mixed [(0, .nat (j * 3)), (1, .cells [(iv ((((l.getD i dVo).2).getD j dBr).1)), (iv ((((l.getD i dVo).2).getD j dBr).2.1)), (.ssl (ics ((((l.getD i dVo).2).getD j dBr).2.2)) 0 (((((l.getD i dVo).2).getD j dBr).2.2).length))])] [.k2, .n, .k6, .d, .k3, .n] [ps 10 (.opt 27 0), pb 27 47 [(iv ((((l.getD i dVo).2).getD j dBr).1)), (iv ((((l.getD i dVo).2).getD j dBr).2.1)), (.ssl (ics ((((l.getD i dVo).2).getD j dBr).2.2)) 0 (((((l.getD i dVo).2).getD j dBr).2.2).length))]] (oc (by omega : (0 : Int) ≤ ((j : Nat) : Int) ∧ ((j : Nat) : Int) < ((((l.getD i dVo).2).length : Nat) : Int)) (oc (by omega : 0 + (((j : Nat) : Int) : Int).toNat * 3 = (j * 3)) (oc (qch brC 3 (fun _ => rfl) dBr ((l.getD i dVo).2) j 0 3 (by omega) (by decide) : (j * 3) + 3 ≤ ((brs ((l.getD i dVo).2))).length ∧ (((brs ((l.getD i dVo).2))).drop (j * 3)).take 3 = [(iv ((((l.getD i dVo).2).getD j dBr).1)), (iv ((((l.getD i dVo).2).getD j dBr).2.1)), (.ssl (ics ((((l.getD i dVo).2).getD j dBr).2.2)) 0 (((((l.getD i dVo).2).getD j dBr).2.2).length))]) oz))) ?_
    refine qaa ?_
    have hyf := hfv.2.2 j (by omega)
    by_cases h4 : ((barT ((i : Nat) : Int) ((l.getD i dVo).2.getD j dBr) ((a, b), N, z)).1) = 0
    ·refine T_k mixed [(2, .call [1, 2] [(.opt 0 0), (.agg [(iv ((((l.getD i dVo).2).getD j dBr).1)), (iv ((((l.getD i dVo).2).getD j dBr).2.1)), (.ssl (ics ((((l.getD i dVo).2).getD j dBr).2.2)) 0 (((((l.getD i dVo).2).getD j dBr).2.2).length))])] [some (91, [(iv ((i : Nat) : Int)), (.osl 1 0 N.length), (nv z), (iv a), (iv b), (.ssl (spans T) (q * 5) r)]), some (58, (nos N))] (iv ((barT ((i : Nat) : Int) ((l.getD i dVo).2.getD j dBr) ((a, b), N, z)).1)) [some (91, [(iv ((i : Nat) : Int)), (.osl 2 0 (((barT ((i : Nat) : Int) ((l.getD i dVo).2.getD j dBr) ((a, b), N, z)).2.2.1).length)), (nv ((barT ((i : Nat) : Int) ((l.getD i dVo).2.getD j dBr) ((a, b), N, z)).2.2.2)), (iv ((barT ((i : Nat) : Int) ((l.getD i dVo).2.getD j dBr) ((a, b), N, z)).2.1.1)), (iv ((barT ((i : Nat) : Int) ((l.getD i dVo).2.getD j dBr) ((a, b), N, z)).2.1.2)), (.ssl (spans (qac (toB (qae ((l.getD i dVo).2.getD j dBr).2.2)) (Fr.make ((l.getD i dVo).2.getD j dBr).1 ((l.getD i dVo).2.getD j dBr).2.1).1 (Fr.make ((l.getD i dVo).2.getD j dBr).1 ((l.getD i dVo).2.getD j dBr).2.1).2.1)) (((telL ((i : Nat) : Int) a b (qac (toB (qae ((l.getD i dVo).2.getD j dBr).2.2)) (Fr.make ((l.getD i dVo).2.getD j dBr).1 ((l.getD i dVo).2.getD j dBr).2.1).1 (Fr.make ((l.getD i dVo).2.getD j dBr).1 ((l.getD i dVo).2.getD j dBr).2.1).2.1) ((l.getD i dVo).2.getD j dBr).2.2 [] (N, z, 0)).2.2.2) * 5) ((qac (toB (qae ((l.getD i dVo).2.getD j dBr).2.2)) (Fr.make ((l.getD i dVo).2.getD j dBr).1 ((l.getD i dVo).2.getD j dBr).2.1).1 (Fr.make ((l.getD i dVo).2.getD j dBr).1 ((l.getD i dVo).2.getD j dBr).2.1).2.1).length - (telL ((i : Nat) : Int) a b (qac (toB (qae ((l.getD i dVo).2.getD j dBr).2.2)) (Fr.make ((l.getD i dVo).2.getD j dBr).1 ((l.getD i dVo).2.getD j dBr).2.1).1 (Fr.make ((l.getD i dVo).2.getD j dBr).1 ((l.getD i dVo).2.getD j dBr).2.1).2.1) ((l.getD i dVo).2.getD j dBr).2.2 [] (N, z, 0)).2.2.2))]), none, some (58, (nos ((barT ((i : Nat) : Int) ((l.getD i dVo).2.getD j dBr) ((a, b), N, z)).2.2.1)))])] [.k2, .d, .n, .k7, .d, .n, .d, .d, .n] [ps 11 (iv ((barT ((i : Nat) : Int) ((l.getD i dVo).2.getD j dBr) ((a, b), N, z)).1)), pb 1 91 [(iv ((i : Nat) : Int)), (.osl 59 0 (((barT ((i : Nat) : Int) ((l.getD i dVo).2.getD j dBr) ((a, b), N, z)).2.2.1).length)), (nv ((barT ((i : Nat) : Int) ((l.getD i dVo).2.getD j dBr) ((a, b), N, z)).2.2.2)), (iv ((barT ((i : Nat) : Int) ((l.getD i dVo).2.getD j dBr) ((a, b), N, z)).2.1.1)), (iv ((barT ((i : Nat) : Int) ((l.getD i dVo).2.getD j dBr) ((a, b), N, z)).2.1.2)), (.ssl (spans (qac (toB (qae ((l.getD i dVo).2.getD j dBr).2.2)) (Fr.make ((l.getD i dVo).2.getD j dBr).1 ((l.getD i dVo).2.getD j dBr).2.1).1 (Fr.make ((l.getD i dVo).2.getD j dBr).1 ((l.getD i dVo).2.getD j dBr).2.1).2.1)) (((telL ((i : Nat) : Int) a b (qac (toB (qae ((l.getD i dVo).2.getD j dBr).2.2)) (Fr.make ((l.getD i dVo).2.getD j dBr).1 ((l.getD i dVo).2.getD j dBr).2.1).1 (Fr.make ((l.getD i dVo).2.getD j dBr).1 ((l.getD i dVo).2.getD j dBr).2.1).2.1) ((l.getD i dVo).2.getD j dBr).2.2 [] (N, z, 0)).2.2.2) * 5) ((qac (toB (qae ((l.getD i dVo).2.getD j dBr).2.2)) (Fr.make ((l.getD i dVo).2.getD j dBr).1 ((l.getD i dVo).2.getD j dBr).2.1).1 (Fr.make ((l.getD i dVo).2.getD j dBr).1 ((l.getD i dVo).2.getD j dBr).2.1).2.1).length - (telL ((i : Nat) : Int) a b (qac (toB (qae ((l.getD i dVo).2.getD j dBr).2.2)) (Fr.make ((l.getD i dVo).2.getD j dBr).1 ((l.getD i dVo).2.getD j dBr).2.1).1 (Fr.make ((l.getD i dVo).2.getD j dBr).1 ((l.getD i dVo).2.getD j dBr).2.1).2.1) ((l.getD i dVo).2.getD j dBr).2.2 [] (N, z, 0)).2.2.2))], pb 59 58 (renL (sigo [1, 2] 59) (nos ((barT ((i : Nat) : Int) ((l.getD i dVo).2.getD j dBr) ((a, b), N, z)).2.2.1)))] (oc (qro ((l.getD i dVo).2.getD j dBr) ((i : Nat) : Int) a b T N z q r hyf (hwr j (by omega)).1 (hwr j (by omega)).2 hok (by omega) ⟨ha, hb⟩ h4 : PC Tryz.prog 35 [(.opt 0 0), (.agg [(iv ((((l.getD i dVo).2).getD j dBr).1)), (iv ((((l.getD i dVo).2).getD j dBr).2.1)), (.ssl (ics ((((l.getD i dVo).2).getD j dBr).2.2)) 0 (((((l.getD i dVo).2).getD j dBr).2.2).length))])] [some (91, [(iv ((i : Nat) : Int)), (.osl 1 0 N.length), (nv z), (iv a), (iv b), (.ssl (spans T) (q * 5) r)]), some (58, (nos N))] (iv ((barT ((i : Nat) : Int) ((l.getD i dVo).2.getD j dBr) ((a, b), N, z)).1)) [some (91, [(iv ((i : Nat) : Int)), (.osl 2 0 (((barT ((i : Nat) : Int) ((l.getD i dVo).2.getD j dBr) ((a, b), N, z)).2.2.1).length)), (nv ((barT ((i : Nat) : Int) ((l.getD i dVo).2.getD j dBr) ((a, b), N, z)).2.2.2)), (iv ((barT ((i : Nat) : Int) ((l.getD i dVo).2.getD j dBr) ((a, b), N, z)).2.1.1)), (iv ((barT ((i : Nat) : Int) ((l.getD i dVo).2.getD j dBr) ((a, b), N, z)).2.1.2)), (.ssl (spans (qac (toB (qae ((l.getD i dVo).2.getD j dBr).2.2)) (Fr.make ((l.getD i dVo).2.getD j dBr).1 ((l.getD i dVo).2.getD j dBr).2.1).1 (Fr.make ((l.getD i dVo).2.getD j dBr).1 ((l.getD i dVo).2.getD j dBr).2.1).2.1)) (((telL ((i : Nat) : Int) a b (qac (toB (qae ((l.getD i dVo).2.getD j dBr).2.2)) (Fr.make ((l.getD i dVo).2.getD j dBr).1 ((l.getD i dVo).2.getD j dBr).2.1).1 (Fr.make ((l.getD i dVo).2.getD j dBr).1 ((l.getD i dVo).2.getD j dBr).2.1).2.1) ((l.getD i dVo).2.getD j dBr).2.2 [] (N, z, 0)).2.2.2) * 5) ((qac (toB (qae ((l.getD i dVo).2.getD j dBr).2.2)) (Fr.make ((l.getD i dVo).2.getD j dBr).1 ((l.getD i dVo).2.getD j dBr).2.1).1 (Fr.make ((l.getD i dVo).2.getD j dBr).1 ((l.getD i dVo).2.getD j dBr).2.1).2.1).length - (telL ((i : Nat) : Int) a b (qac (toB (qae ((l.getD i dVo).2.getD j dBr).2.2)) (Fr.make ((l.getD i dVo).2.getD j dBr).1 ((l.getD i dVo).2.getD j dBr).2.1).1 (Fr.make ((l.getD i dVo).2.getD j dBr).1 ((l.getD i dVo).2.getD j dBr).2.1).2.1) ((l.getD i dVo).2.getD j dBr).2.2 [] (N, z, 0)).2.2.2))]), none, some (58, (nos ((barT ((i : Nat) : Int) ((l.getD i dVo).2.getD j dBr) ((a, b), N, z)).2.2.1)))]) (oc (rfl : [(.opt 1 0), (.agg [(iv ((((l.getD i dVo).2).getD j dBr).1)), (iv ((((l.getD i dVo).2).getD j dBr).2.1)), (.ssl (ics ((((l.getD i dVo).2).getD j dBr).2.2)) 0 (((((l.getD i dVo).2).getD j dBr).2.2).length))])] = renL (sigi [1, 2] 59) [(.opt 0 0), (.agg [(iv ((((l.getD i dVo).2).getD j dBr).1)), (iv ((((l.getD i dVo).2).getD j dBr).2.1)), (.ssl (ics ((((l.getD i dVo).2).getD j dBr).2.2)) 0 (((((l.getD i dVo).2).getD j dBr).2.2).length))])]) (oc (rfl : [(iv ((i : Nat) : Int)), (.osl 2 0 N.length), (nv z), (iv a), (iv b), (.ssl (spans T) (q * 5) r)] = renL (sigi [1, 2] 59) [(iv ((i : Nat) : Int)), (.osl 1 0 N.length), (nv z), (iv a), (iv b), (.ssl (spans T) (q * 5) r)]) (oc ((qbd (qal _)).symm : (nos N) = renL (sigi [1, 2] 59) (nos N)) oz)))) ?_
     refine T_wk (Wk.eq (show _ = [ps 5 (.osl 0 0 M.length), ps 8 (.opt 1 0), ps 11 (iv ((barT ((i : Nat) : Int) ((l.getD i dVo).2.getD j dBr) ((a, b), N, z)).1)), ps 17 (.ssl (vos l) 0 l.length), ps 18 (nv l.length), ps 19 (nv i), ps 29 (.ssl (brs ((l.getD i dVo).2)) 0 (((l.getD i dVo).2).length)), ps 30 (nv (((l.getD i dVo).2).length)), ps 31 (nv j), pb 0 58 (nos M), pb 1 91 [(iv ((i : Nat) : Int)), (.osl 59 0 (((barT ((i : Nat) : Int) ((l.getD i dVo).2.getD j dBr) ((a, b), N, z)).2.2.1).length)), (nv ((barT ((i : Nat) : Int) ((l.getD i dVo).2.getD j dBr) ((a, b), N, z)).2.2.2)), (iv ((barT ((i : Nat) : Int) ((l.getD i dVo).2.getD j dBr) ((a, b), N, z)).2.1.1)), (iv ((barT ((i : Nat) : Int) ((l.getD i dVo).2.getD j dBr) ((a, b), N, z)).2.1.2)), (.ssl (spans (qac (toB (qae ((l.getD i dVo).2.getD j dBr).2.2)) (Fr.make ((l.getD i dVo).2.getD j dBr).1 ((l.getD i dVo).2.getD j dBr).2.1).1 (Fr.make ((l.getD i dVo).2.getD j dBr).1 ((l.getD i dVo).2.getD j dBr).2.1).2.1)) (((telL ((i : Nat) : Int) a b (qac (toB (qae ((l.getD i dVo).2.getD j dBr).2.2)) (Fr.make ((l.getD i dVo).2.getD j dBr).1 ((l.getD i dVo).2.getD j dBr).2.1).1 (Fr.make ((l.getD i dVo).2.getD j dBr).1 ((l.getD i dVo).2.getD j dBr).2.1).2.1) ((l.getD i dVo).2.getD j dBr).2.2 [] (N, z, 0)).2.2.2) * 5) ((qac (toB (qae ((l.getD i dVo).2.getD j dBr).2.2)) (Fr.make ((l.getD i dVo).2.getD j dBr).1 ((l.getD i dVo).2.getD j dBr).2.1).1 (Fr.make ((l.getD i dVo).2.getD j dBr).1 ((l.getD i dVo).2.getD j dBr).2.1).2.1).length - (telL ((i : Nat) : Int) a b (qac (toB (qae ((l.getD i dVo).2.getD j dBr).2.2)) (Fr.make ((l.getD i dVo).2.getD j dBr).1 ((l.getD i dVo).2.getD j dBr).2.1).1 (Fr.make ((l.getD i dVo).2.getD j dBr).1 ((l.getD i dVo).2.getD j dBr).2.1).2.1) ((l.getD i dVo).2.getD j dBr).2.2 [] (N, z, 0)).2.2.2))], pb 59 58 (nos ((barT ((i : Nat) : Int) ((l.getD i dVo).2.getD j dBr) ((a, b), N, z)).2.2.1))] from by simp only [qbd (qal _)])) ?_
     refine qaa ?_
     refine T_k mixed [] [.k8, .k1, .n, .r] [ps 39 (bv (!(decide (((barT ((i : Nat) : Int) ((l.getD i dVo).2.getD j dBr) ((a, b), N, z)).1) = 0))))] (oz) ?_
     refine T_el (bt h4) ?_
     refine qag <| qbg ?_
     refine T_k mixed [] [.k2, .d, .k5, .d, .n, .d, .r] [ps 31 (iv (((j : Nat) : Int) + 1))] (oc (by simp only [InK]; omega : InK .i64 (((j : Nat) : Int) + 1)) oz) ?_
     have hkp := qpf (hwr j (by omega)).1 (hwr j (by omega)).2 hok h4
     exact qce ⟨(j + 1, ((barT ((i : Nat) : Int) ((l.getD i dVo).2.getD j dBr) ((a, b), N, z)).2.1.1), ((barT ((i : Nat) : Int) ((l.getD i dVo).2.getD j dBr) ((a, b), N, z)).2.1.2), ((barT ((i : Nat) : Int) ((l.getD i dVo).2.getD j dBr) ((a, b), N, z)).2.2.1), ((barT ((i : Nat) : Int) ((l.getD i dVo).2.getD j dBr) ((a, b), N, z)).2.2.2), (qac (toB (qae ((l.getD i dVo).2.getD j dBr).2.2)) (Fr.make ((l.getD i dVo).2.getD j dBr).1 ((l.getD i dVo).2.getD j dBr).2.1).1 (Fr.make ((l.getD i dVo).2.getD j dBr).1 ((l.getD i dVo).2.getD j dBr).2.1).2.1), ((telL ((i : Nat) : Int) a b (qac (toB (qae ((l.getD i dVo).2.getD j dBr).2.2)) (Fr.make ((l.getD i dVo).2.getD j dBr).1 ((l.getD i dVo).2.getD j dBr).2.1).1 (Fr.make ((l.getD i dVo).2.getD j dBr).1 ((l.getD i dVo).2.getD j dBr).2.1).2.1) ((l.getD i dVo).2.getD j dBr).2.2 [] (N, z, 0)).2.2.2), ((qac (toB (qae ((l.getD i dVo).2.getD j dBr).2.2)) (Fr.make ((l.getD i dVo).2.getD j dBr).1 ((l.getD i dVo).2.getD j dBr).2.1).1 (Fr.make ((l.getD i dVo).2.getD j dBr).1 ((l.getD i dVo).2.getD j dBr).2.1).2.1).length - (telL ((i : Nat) : Int) a b (qac (toB (qae ((l.getD i dVo).2.getD j dBr).2.2)) (Fr.make ((l.getD i dVo).2.getD j dBr).1 ((l.getD i dVo).2.getD j dBr).2.1).1 (Fr.make ((l.getD i dVo).2.getD j dBr).1 ((l.getD i dVo).2.getD j dBr).2.1).2.1) ((l.getD i dVo).2.getD j dBr).2.2 [] (N, z, 0)).2.2.2)), ⟨by show j + 1 ≤ (l.getD i dVo).2.length; omega, by rw [qkk (by omega), if_pos h4] at hBt; exact hBt, hkp.1, by show ((barT ((i : Nat) : Int) ((l.getD i dVo).2.getD j dBr) ((a, b), N, z)).2.2.1).length ≤ (j + 1) * 65536; have := hkp.2.1; omega, hkp.2.2.1, hkp.2.2.2⟩⟩ (Wk.trans (Wk.eq (show _ = [ps 5 (.osl 0 0 M.length), ps 8 (.opt 1 0), ps 17 (.ssl (vos l) 0 l.length), ps 18 (nv l.length), ps 19 (nv i), ps 29 (.ssl (brs ((l.getD i dVo).2)) 0 (((l.getD i dVo).2).length)), ps 30 (nv (((l.getD i dVo).2).length)), ps 31 (nv (j + 1)), pb 0 58 (nos M), pb 1 91 [(iv ((i : Nat) : Int)), (.osl 59 0 (((barT ((i : Nat) : Int) ((l.getD i dVo).2.getD j dBr) ((a, b), N, z)).2.2.1).length)), (nv ((barT ((i : Nat) : Int) ((l.getD i dVo).2.getD j dBr) ((a, b), N, z)).2.2.2)), (iv ((barT ((i : Nat) : Int) ((l.getD i dVo).2.getD j dBr) ((a, b), N, z)).2.1.1)), (iv ((barT ((i : Nat) : Int) ((l.getD i dVo).2.getD j dBr) ((a, b), N, z)).2.1.2)), (.ssl (spans (qac (toB (qae ((l.getD i dVo).2.getD j dBr).2.2)) (Fr.make ((l.getD i dVo).2.getD j dBr).1 ((l.getD i dVo).2.getD j dBr).2.1).1 (Fr.make ((l.getD i dVo).2.getD j dBr).1 ((l.getD i dVo).2.getD j dBr).2.1).2.1)) (((telL ((i : Nat) : Int) a b (qac (toB (qae ((l.getD i dVo).2.getD j dBr).2.2)) (Fr.make ((l.getD i dVo).2.getD j dBr).1 ((l.getD i dVo).2.getD j dBr).2.1).1 (Fr.make ((l.getD i dVo).2.getD j dBr).1 ((l.getD i dVo).2.getD j dBr).2.1).2.1) ((l.getD i dVo).2.getD j dBr).2.2 [] (N, z, 0)).2.2.2) * 5) ((qac (toB (qae ((l.getD i dVo).2.getD j dBr).2.2)) (Fr.make ((l.getD i dVo).2.getD j dBr).1 ((l.getD i dVo).2.getD j dBr).2.1).1 (Fr.make ((l.getD i dVo).2.getD j dBr).1 ((l.getD i dVo).2.getD j dBr).2.1).2.1).length - (telL ((i : Nat) : Int) a b (qac (toB (qae ((l.getD i dVo).2.getD j dBr).2.2)) (Fr.make ((l.getD i dVo).2.getD j dBr).1 ((l.getD i dVo).2.getD j dBr).2.1).1 (Fr.make ((l.getD i dVo).2.getD j dBr).1 ((l.getD i dVo).2.getD j dBr).2.1).2.1) ((l.getD i dVo).2.getD j dBr).2.2 [] (N, z, 0)).2.2.2))], pb 59 58 (nos ((barT ((i : Nat) : Int) ((l.getD i dVo).2.getD j dBr) ((a, b), N, z)).2.2.1))] from by rfl)) (Wk.ren3 [ps 5 (.osl 0 0 M.length), ps 8 (.opt 1 0), ps 17 (.ssl (vos l) 0 l.length), ps 18 (nv l.length), ps 19 (nv i), ps 29 (.ssl (brs ((l.getD i dVo).2)) 0 (((l.getD i dVo).2).length)), ps 30 (nv (((l.getD i dVo).2).length)), ps 31 (nv (j + 1)), pb 0 58 (nos M), pb 1 91 [(iv ((i : Nat) : Int)), (.osl 2 0 ((barT ((i : Nat) : Int) ((l.getD i dVo).2.getD j dBr) ((a, b), N, z)).2.2.1).length), (nv ((barT ((i : Nat) : Int) ((l.getD i dVo).2.getD j dBr) ((a, b), N, z)).2.2.2)), (iv ((barT ((i : Nat) : Int) ((l.getD i dVo).2.getD j dBr) ((a, b), N, z)).2.1.1)), (iv ((barT ((i : Nat) : Int) ((l.getD i dVo).2.getD j dBr) ((a, b), N, z)).2.1.2)), (.ssl (spans (qac (toB (qae ((l.getD i dVo).2.getD j dBr).2.2)) (Fr.make ((l.getD i dVo).2.getD j dBr).1 ((l.getD i dVo).2.getD j dBr).2.1).1 (Fr.make ((l.getD i dVo).2.getD j dBr).1 ((l.getD i dVo).2.getD j dBr).2.1).2.1)) (((telL ((i : Nat) : Int) a b (qac (toB (qae ((l.getD i dVo).2.getD j dBr).2.2)) (Fr.make ((l.getD i dVo).2.getD j dBr).1 ((l.getD i dVo).2.getD j dBr).2.1).1 (Fr.make ((l.getD i dVo).2.getD j dBr).1 ((l.getD i dVo).2.getD j dBr).2.1).2.1) ((l.getD i dVo).2.getD j dBr).2.2 [] (N, z, 0)).2.2.2) * 5) ((qac (toB (qae ((l.getD i dVo).2.getD j dBr).2.2)) (Fr.make ((l.getD i dVo).2.getD j dBr).1 ((l.getD i dVo).2.getD j dBr).2.1).1 (Fr.make ((l.getD i dVo).2.getD j dBr).1 ((l.getD i dVo).2.getD j dBr).2.1).2.1).length - (telL ((i : Nat) : Int) a b (qac (toB (qae ((l.getD i dVo).2.getD j dBr).2.2)) (Fr.make ((l.getD i dVo).2.getD j dBr).1 ((l.getD i dVo).2.getD j dBr).2.1).1 (Fr.make ((l.getD i dVo).2.getD j dBr).1 ((l.getD i dVo).2.getD j dBr).2.1).2.1) ((l.getD i dVo).2.getD j dBr).2.2 [] (N, z, 0)).2.2.2))], pb 2 58 (nos ((barT ((i : Nat) : Int) ((l.getD i dVo).2.getD j dBr) ((a, b), N, z)).2.2.1))] 0 hc0 [0, 1, 59] [(kb 0, (nos M)), (kb 2, (nos ((barT ((i : Nat) : Int) ((l.getD i dVo).2.getD j dBr) ((a, b), N, z)).2.2.1)))] (oc (qal _) (oc (qal _) (oz))) (by kernel_rfl) rfl rfl (by kernel_rfl) (by kernel_rfl))) (show (l.getD i dVo).2.length - (j + 1) < (l.getD i dVo).2.length - j from by show (l.getD i dVo).2.length - (j + 1) < (l.getD i dVo).2.length - j; omega)
    refine T_k mixed [(2, .call [1, 2] [(.opt 0 0), (.agg [(iv ((((l.getD i dVo).2).getD j dBr).1)), (iv ((((l.getD i dVo).2).getD j dBr).2.1)), (.ssl (ics ((((l.getD i dVo).2).getD j dBr).2.2)) 0 (((((l.getD i dVo).2).getD j dBr).2.2).length))])] [some (91, [(iv ((i : Nat) : Int)), (.osl 1 0 N.length), (nv z), (iv a), (iv b), (.ssl (spans T) (q * 5) r)]), some (58, (nos N))] (iv ((barT ((i : Nat) : Int) ((l.getD i dVo).2.getD j dBr) ((a, b), N, z)).1)) [none, none, none])] [.k2, .d, .n, .k7, .d, .d, .d] [ps 11 (iv ((barT ((i : Nat) : Int) ((l.getD i dVo).2.getD j dBr) ((a, b), N, z)).1))] (oc (qnq ((l.getD i dVo).2.getD j dBr) ((i : Nat) : Int) a b T N z q r hyf (hwr j (by omega)).1 (hwr j (by omega)).2 hok (by omega) ⟨ha, hb⟩ : PC Tryz.prog 35 [(.opt 0 0), (.agg [(iv ((((l.getD i dVo).2).getD j dBr).1)), (iv ((((l.getD i dVo).2).getD j dBr).2.1)), (.ssl (ics ((((l.getD i dVo).2).getD j dBr).2.2)) 0 (((((l.getD i dVo).2).getD j dBr).2.2).length))])] [some (91, [(iv ((i : Nat) : Int)), (.osl 1 0 N.length), (nv z), (iv a), (iv b), (.ssl (spans T) (q * 5) r)]), some (58, (nos N))] (iv ((barT ((i : Nat) : Int) ((l.getD i dVo).2.getD j dBr) ((a, b), N, z)).1)) [none, none, none]) (oc (rfl : [(.opt 1 0), (.agg [(iv ((((l.getD i dVo).2).getD j dBr).1)), (iv ((((l.getD i dVo).2).getD j dBr).2.1)), (.ssl (ics ((((l.getD i dVo).2).getD j dBr).2.2)) 0 (((((l.getD i dVo).2).getD j dBr).2.2).length))])] = renL (sigi [1, 2] 59) [(.opt 0 0), (.agg [(iv ((((l.getD i dVo).2).getD j dBr).1)), (iv ((((l.getD i dVo).2).getD j dBr).2.1)), (.ssl (ics ((((l.getD i dVo).2).getD j dBr).2.2)) 0 (((((l.getD i dVo).2).getD j dBr).2.2).length))])]) (oc (rfl : [(iv ((i : Nat) : Int)), (.osl 2 0 N.length), (nv z), (iv a), (iv b), (.ssl (spans T) (q * 5) r)] = renL (sigi [1, 2] 59) [(iv ((i : Nat) : Int)), (.osl 1 0 N.length), (nv z), (iv a), (iv b), (.ssl (spans T) (q * 5) r)]) (oc ((qbd (qal _)).symm : (nos N) = renL (sigi [1, 2] 59) (nos N)) oz)))) ?_
    refine qaa ?_
    refine T_k mixed [] [.k8, .k1, .n, .r] [ps 39 (bv (!(decide (((barT ((i : Nat) : Int) ((l.getD i dVo).2.getD j dBr) ((a, b), N, z)).1) = 0))))] (oz) ?_
    refine T_th (bf h4) ?_
    refine qaa ?_
    refine T_r mixed [] [ps 2 (.av (.slice none 0 0)), ps 3 (iv ((barT ((i : Nat) : Int) ((l.getD i dVo).2.getD j dBr) ((a, b), N, z)).1))] (oz) ?_
    have hbE : qcf ((i : Nat) : Int) (l.getD i dVo).2 ((0, 1), [], 0) = (barT ((i : Nat) : Int) ((l.getD i dVo).2.getD j dBr) ((a, b), N, z)) := by rw [← hBt, qkk (by omega), if_neg h4]
    have hR1 : (qab l).1 = (barT ((i : Nat) : Int) ((l.getD i dVo).2.getD j dBr) ((a, b), N, z)).1 := by unfold qab; rw [if_pos h1, ← hT, qhz (by omega), hbE, if_neg h4]
    rw [hR1]
    exact qai fun cx_ a_ hI_ => qav (qav (rt hc0 [ps 2 (.av (.slice none 0 0)), ps 3 (iv ((barT ((i : Nat) : Int) ((l.getD i dVo).2.getD j dBr) ((a, b), N, z)).1))] [] hI_))
   refine T_el (dtn h3) ?_
   refine qbu rfl rfl ?_
   have hbt : qcf ((i : Nat) : Int) (l.getD i dVo).2 ((0, 1), [], 0) = (0, (a, b), N, z) := by rw [← hBt, List.drop_eq_nil_of_le (by omega), qcf]
   refine T_k mixed [(5, .app (some (nos N)) (some (nos (M ++ N))))] [.d, .n, .d, .k3, .d, .d, .d, .d, .d, .d, .d, .n] [ps 5 (.osl 51 0 (M.length + N.length)), pb 51 58 (nos (M ++ N))] (oc (nos_src N : 0 + N.length * 9 ≤ ((nos N)).length ∧ (((nos N)).drop 0).take (N.length * 9) = (nos N)) (oc (qlh _ : ((nos M)).length = M.length * 9) (oc (by omega : (M.length + N.length) * 80 ≤ 140737488355328 ∧ M.length + N.length ≤ 9223372036854775807) (oc ((qih noC M N).symm : (nos M) ++ (nos N) = (nos (M ++ N))) oz)))) ?_
   refine qbg ?_
   refine T_k mixed [] [.k3, .d, .n, .r] [ps 19 (iv (((i : Nat) : Int) + 1))] (oc (by simp only [InK]; omega : InK .i64 (((i : Nat) : Int) + 1)) oz) ?_
   exact qce ⟨(i + 1, M ++ N), ⟨by show i + 1 ≤ l.length; omega, by rw [qhz (by omega), hbt, if_pos rfl] at hT; rw [show (((i + 1 : Nat) : Nat) : Int) = ((i : Nat) : Int) + 1 from by omega]; exact hT, by show (M ++ N).length ≤ (i + 1) * 70000000; rw [List.length_append]; omega⟩⟩ (Wk.trans (Wk.eq (show _ = [ps 5 (.osl 51 0 ((M ++ N).length)), ps 17 (.ssl (vos l) 0 l.length), ps 18 (nv l.length), ps 19 (nv (i + 1)), pb 51 58 (nos (M ++ N))] from by rw [List.length_append]; rfl)) (Wk.ren3 [ps 5 (.osl 0 0 (M ++ N).length), ps 17 (.ssl (vos l) 0 l.length), ps 18 (nv l.length), ps 19 (nv (i + 1)), pb 0 58 (nos (M ++ N))] 0 hc0 [51] [(kb 0, (nos (M ++ N)))] (oc (qal _) (oz)) (by kernel_rfl) rfl rfl (by kernel_rfl) (by kernel_rfl))) (show l.length - (i + 1) < l.length - i from by show l.length - (i + 1) < l.length - i; omega)
  refine T_el (dtn h2) ?_
  refine qbu rfl rfl ?_
  refine qaa ?_
  refine T_r mixed [] [ps 2 (.osl 0 0 M.length), ps 3 (iv 0), pb 0 58 (nos M)] (oz) ?_
  have hR : qab l = (0, M) := by unfold qab; rw [if_pos h1, ← hT, List.drop_eq_nil_of_le (by omega), qbz]
  exact absurd (congrArg Prod.fst hR) h0
 refine T_th (bf h1) ?_
 refine qaa ?_
 refine T_r mixed [] [ps 2 (.av (.slice none 0 0)), ps 3 (iv (qbk l))] (oz) ?_
 have hR1 : (qab l).1 = qbk l := by unfold qab; rw [if_neg h1]
 rw [hR1]
 exact qai fun cx_ a_ hI_ => rt hc0 [ps 2 (.av (.slice none 0 0)), ps 3 (iv (qbk l))] [] hI_
end Go.Proofs.YtmlnilkbolcknaaGreatDoor.Pm
