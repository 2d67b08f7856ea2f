/-
  RingThrough (RhE): printed by pm/rb.py, pm/ra.py. | RingThrough (RhG): printed by pm/rb.py, pm/ra.py. | RingThrough (RhF): printed by pm/rb.py, pm/ra.py. | RingThrough (RhH): printed by pm/rb.py, pm/ra.py. | RingThrough (RhI): printed by pm/rb.py, pm/ra.py. | RingThrough (RhJ): printed by pm/rb.py, pm/ra.py. | RingThrough (RhM): printed by pm/rb.py, pm/ra.py. | RingThrough (HK): where each of the two stands; what was asked of them. | RingThrough (HP): goroutine 0 alone ahead of the go statement: what it makes; two bells made in whatever order. No program in sight. | RingThrough (HQ): two bells, and the variables that hold them, made in whatever order. No program in sight. | RingThrough (HR): goroutine 0 alone: what it asks of the program's texts. | RingThrough (RhS): printed by pm/rl.py. | RingThrough (RhT): printed by pm/rl.py.
-/
import Derived.Test.YtdmiilgdkmbmeaaJRqQ2
import Derived.Conc.CrowdMono
import Derived.Test.YtdmiilgdkmbmeaaJRqQ1
import Derived.Conc.AppendWalk
import Derived.Laws.Tables
namespace Go.Proofs.Ytdmiilgdkmbmeaa.Rg
open Go Go.Conc
section
variable {L : Lay} {D : Dat} {Shun : Loc → Prop} {w₀ w : World} {e : Env} {cs : List Frame} {i : Nat} {g : Goroutine} {s : Sh}
def ALd (L : Lay) (D : Dat) (e : Env) (cs : List Frame) (i : Nat) (oa : Option Addr) (oc : Nat) (g : Goroutine) : Prop :=
  ∃ (b5 b12 b18 : Act), Tm b5 48 [(3, .pointer (some ⟨e.bl, 0, none⟩)), (6, .pointer (some ⟨e.bR, 0, none⟩)), (8, .pointer (some ⟨e.bF, 0, none⟩)), (9, .pointer (some ⟨e.bE, 0, none⟩)), (10, .pointer (some ⟨L.W, 0, none⟩)), (11, .slice oa i oc)] [] ∧ Tm b12 36 [(0, .pointer (some ⟨L.R, 0, none⟩)), (4, .int .i64 i), (10, .int .i64 i)] [] ∧ Tm b18 7 [(5, .pointer (some ⟨L.R, 1, none⟩))] [] ∧ g = G ((base 15).at b18 [.inRegion c18.pd.pa.po.toArray [3, 4], .code c18.pd.pd]) (((base 9).at b12 [.inRegion c12.pd.pd.pa.pa.po.toArray [4, 5], .code c12.pd.pd.pa.pd, .code c12.pd.pd.pd]) :: ((base 6).at b5 [.inRegion c5.pd.pd.pd.pd.pd.pd.pd.pa.pa.pa.pd.pa.pa.po.toArray [1, 2, 3, 4, 5, 6], .code c5.pd.pd.pd.pd.pd.pd.pd.pa.pa.pa.pd.pa.pd, .inBlock 1, .inLoop c5.pd.pd.pd.pd.pd.pd.pd.pa.pa.pa, .inBlock 0, .code c5.pd.pd.pd.pd.pd.pd.pd.pd]) :: cs)
def AW0 (L : Lay) (D : Dat) (e : Env) (cs : List Frame) (i : Nat) (oa : Option Addr) (oc : Nat) (g : Goroutine) : Prop :=
  ∃ (b5 b13 : Act), Tm b5 48 [(11, .slice oa i oc)] [] ∧ Tm b13 84 [(0, .pointer (some ⟨L.W, 0, none⟩))] [] ∧ g = G ((base 14).at b13 [.inRegion c13.pa.pa.po.toArray [0], .code c13.pd]) (((base 6).at b5 [.inRegion c5.pd.pd.pd.pd.pd.pd.pd.pd.pa.po.toArray [0], .code c5.pd.pd.pd.pd.pd.pd.pd.pd.pd]) :: cs)
def ASl (L : Lay) (D : Dat) (e : Env) (cs : List Frame) (i : Nat) (oa : Option Addr) (oc : Nat) (g : Goroutine) : Prop :=
  ∃ (b5 b12 : Act) (fuel t : Nat) (listed : Array Bool), Tm b5 48 [(3, .pointer (some ⟨e.bl, 0, none⟩)), (6, .pointer (some ⟨e.bR, 0, none⟩)), (8, .pointer (some ⟨e.bF, 0, none⟩)), (9, .pointer (some ⟨e.bE, 0, none⟩)), (10, .pointer (some ⟨L.W, 0, none⟩)), (11, .slice oa i oc)] [] ∧ Mid c12.pd.pd.pd.pa.po 36 [(0, .pointer (some ⟨L.R, 0, none⟩)), (4, .int .i64 i)] [.pointer (some ⟨L.R, 0, none⟩), .pointer (some ⟨L.R, 0, none⟩), .pointer (some ⟨L.R, 0, none⟩), .slice (some ⟨L.M, 0, none⟩) L.n L.n, .int .i64 i, .pointer (some ⟨L.R, 0, none⟩), .pointer (some ⟨L.R, 0, none⟩), .pointer (some ⟨L.R, 0, none⟩), .slice (some ⟨L.M, 0, none⟩) L.n L.n, .int .i64 L.n, .int .i64 (((i % L.n : Nat) : Int)), .pointer (some ⟨L.M, i % L.n, none⟩), undef, undef] [] 12 listed b12 ∧ (∀ j, ([12, 13] : List Nat).contains j = true → listed.getD j false = false) ∧ left (fun j => (listed.setIfInBounds 12 true).getD j false) c12.pd.pd.pd.pa.po.length ≤ fuel ∧ g = G ((base 9).at b12 [.inRegion c12.pd.pd.pd.pa.po.toArray (12 :: Region.linearise.go .any c12.pd.pd.pd.pa.po.toArray fuel t (listed.setIfInBounds 12 true) []), .code c12.pd.pd.pd.pd]) (((base 6).at b5 [.inRegion c5.pd.pd.pd.pd.pd.pd.pd.pa.pa.pa.pd.pa.pa.po.toArray [1, 2, 3, 4, 5, 6], .code c5.pd.pd.pd.pd.pd.pd.pd.pa.pa.pa.pd.pa.pd, .inBlock 1, .inLoop c5.pd.pd.pd.pd.pd.pd.pd.pa.pa.pa, .inBlock 0, .code c5.pd.pd.pd.pd.pd.pd.pd.pd]) :: cs)
def ASt (L : Lay) (D : Dat) (e : Env) (cs : List Frame) (i : Nat) (oa : Option Addr) (oc : Nat) (g : Goroutine) : Prop :=
  ∃ (b5 b12 b19 : Act), Tm b5 48 [(3, .pointer (some ⟨e.bl, 0, none⟩)), (6, .pointer (some ⟨e.bR, 0, none⟩)), (8, .pointer (some ⟨e.bF, 0, none⟩)), (9, .pointer (some ⟨e.bE, 0, none⟩)), (10, .pointer (some ⟨L.W, 0, none⟩)), (11, .slice oa i oc)] [] ∧ Tm b12 36 [(5, .int .i64 ((e.z i)))] [] ∧ Tm b19 9 [(6, .pointer (some ⟨L.R, 2, none⟩)), (7, .int .i64 (((i + 1 : Nat) : Int)))] [] ∧ g = G ((base 16).at b19 [.inRegion c19.po.toArray [4]]) (((base 9).at b12 [.inRegion c12.pd.pd.pd.pd.pa.po.toArray [5], .code c12.pd.pd.pd.pd.pd]) :: ((base 6).at b5 [.inRegion c5.pd.pd.pd.pd.pd.pd.pd.pa.pa.pa.pd.pa.pa.po.toArray [1, 2, 3, 4, 5, 6], .code c5.pd.pd.pd.pd.pd.pd.pd.pa.pa.pa.pd.pa.pd, .inBlock 1, .inLoop c5.pd.pd.pd.pd.pd.pd.pd.pa.pa.pa, .inBlock 0, .code c5.pd.pd.pd.pd.pd.pd.pd.pd]) :: cs)
def ABl (L : Lay) (D : Dat) (e : Env) (cs : List Frame) (i : Nat) (oa : Option Addr) (oc : Nat) (g : Goroutine) : Prop :=
  ∃ (b5 b11 : Act), Tm b5 48 [(3, .pointer (some ⟨e.bl, 0, none⟩)), (6, .pointer (some ⟨e.bR, 0, none⟩)), (8, .pointer (some ⟨e.bF, 0, none⟩)), (9, .pointer (some ⟨e.bE, 0, none⟩)), (10, .pointer (some ⟨L.W, 0, none⟩)), (11, .slice oa i oc)] [] ∧ Tm b11 7 [(2, .chan (some L.F)), (3, .agg #[])] [] ∧ g = G ((base 13).at b11 [.inRegion c11.pd.pa.po.toArray [0, 1, 2], .code c11.pd.pd]) (((base 6).at b5 [.inRegion c5.pd.pd.pd.pd.pd.pd.pd.pa.pa.pa.pd.pa.pd.pd.pd.po.toArray [1], .inBlock 1, .inLoop c5.pd.pd.pd.pd.pd.pd.pd.pa.pa.pa, .inBlock 0, .code c5.pd.pd.pd.pd.pd.pd.pd.pd]) :: cs)
def ARc (L : Lay) (D : Dat) (e : Env) (cs : List Frame) (i : Nat) (oa : Option Addr) (oc : Nat) (g : Goroutine) : Prop :=
  ∃ (b5 : Act), Tm b5 48 [(3, .pointer (some ⟨e.bl, 0, none⟩)), (6, .pointer (some ⟨e.bR, 0, none⟩)), (8, .pointer (some ⟨e.bF, 0, none⟩)), (9, .pointer (some ⟨e.bE, 0, none⟩)), (10, .pointer (some ⟨L.W, 0, none⟩)), (11, .slice oa i oc), (38, .chan (some L.E))] [] ∧ g = G ((base 6).at b5 [.inRegion c5.pd.pd.pd.pd.pd.pd.pd.pa.pa.pa.pd.pa.pd.pa.pd.pa.pa.po.toArray [1], .code c5.pd.pd.pd.pd.pd.pd.pd.pa.pa.pa.pd.pa.pd.pa.pd.pa.pd, .code c5.pd.pd.pd.pd.pd.pd.pd.pa.pa.pa.pd.pa.pd.pd, .inBlock 1, .inLoop c5.pd.pd.pd.pd.pd.pd.pd.pa.pa.pa, .inBlock 0, .code c5.pd.pd.pd.pd.pd.pd.pd.pd]) (cs)
def AW1 (L : Lay) (D : Dat) (e : Env) (cs : List Frame) (i : Nat) (oa : Option Addr) (oc : Nat) (g : Goroutine) : Prop :=
  ∃ (b5 b13 b21 : Act), Tm b5 48 [(11, .slice oa i oc)] [] ∧ Tm b13 84 [(0, .pointer (some ⟨L.W, 0, none⟩))] [] ∧ Tm b21 7 [(5, .pointer (some ⟨L.W, 0, none⟩))] [] ∧ g = G ((base 22).at b21 [.inRegion c21.pd.pa.po.toArray [3, 4], .code c21.pd.pd]) (((base 14).at b13 [.inRegion c13.pd.pa.pa.pa.pa.po.toArray [3, 4], .code c13.pd.pa.pa.pa.pd, .inBlock 1, .inLoop c13.pd.pa.pa, .inBlock 0]) :: ((base 6).at b5 [.inRegion c5.pd.pd.pd.pd.pd.pd.pd.pd.pa.po.toArray [0], .code c5.pd.pd.pd.pd.pd.pd.pd.pd.pd]) :: cs)
def AW2 (L : Lay) (D : Dat) (e : Env) (cs : List Frame) (i : Nat) (oa : Option Addr) (oc : Nat) (g : Goroutine) : Prop :=
  ∃ (b5 b13 b25 : Act), Tm b5 48 [(11, .slice oa i oc)] [] ∧ Tm b13 84 [(0, .pointer (some ⟨L.W, 0, none⟩)), (2, .int .u64 4294967296), (4, .int .u32 0)] [] ∧ Tm b25 13 [(9, .pointer (some ⟨L.W, 0, none⟩)), (10, .int .u64 4294967296), (11, .int .u64 4294967297)] [] ∧ g = G ((base 26).at b25 [.inRegion c25.pd.pa.po.toArray [5, 6], .code c25.pd.pd]) (((base 14).at b13 [.inRegion c13.pd.pa.pa.pa.pd.pd.pd.pd.pa.po.toArray [6], .code c13.pd.pa.pa.pa.pd.pd.pd.pd.pd, .inBlock 1, .inLoop c13.pd.pa.pa, .inBlock 0]) :: ((base 6).at b5 [.inRegion c5.pd.pd.pd.pd.pd.pd.pd.pd.pa.po.toArray [0], .code c5.pd.pd.pd.pd.pd.pd.pd.pd.pd]) :: cs)
def AW3 (L : Lay) (D : Dat) (e : Env) (cs : List Frame) (i : Nat) (oa : Option Addr) (oc : Nat) (g : Goroutine) : Prop :=
  ∃ (b5 b13 : Act), Tm b5 48 [(11, .slice oa i oc)] [] ∧ Tm b13 84 [(0, .pointer (some ⟨L.W, 0, none⟩)), (70, .pointer (some ⟨L.W, 1, none⟩)), (71, .bool false)] [] ∧ g = G ((base 14).at b13 [.inRegion c13.pd.pa.pa.pa.pd.pd.pd.pd.pd.pa.pd.pd.pd.pa.po.toArray [4], .code c13.pd.pa.pa.pa.pd.pd.pd.pd.pd.pa.pd.pd.pd.pd, .inBlock 1, .inLoop c13.pd.pa.pa, .inBlock 0]) (((base 6).at b5 [.inRegion c5.pd.pd.pd.pd.pd.pd.pd.pd.pa.po.toArray [0], .code c5.pd.pd.pd.pd.pd.pd.pd.pd.pd]) :: cs)
def AW4 (L : Lay) (D : Dat) (e : Env) (cs : List Frame) (i : Nat) (oa : Option Addr) (oc : Nat) (g : Goroutine) : Prop :=
  ∃ (b5 b13 b21 : Act), Tm b5 48 [(11, .slice oa i oc)] [] ∧ Tm b13 84 [(0, .pointer (some ⟨L.W, 0, none⟩))] [] ∧ Tm b21 7 [(5, .pointer (some ⟨L.W, 0, none⟩))] [] ∧ g = G ((base 22).at b21 [.inRegion c21.pd.pa.po.toArray [3, 4], .code c21.pd.pd]) (((base 14).at b13 [.inRegion c13.pd.pa.pa.pa.pd.pd.pd.pd.pd.pa.pd.pd.pd.pd.pa.po.toArray [3, 4, 5], .code c13.pd.pa.pa.pa.pd.pd.pd.pd.pd.pa.pd.pd.pd.pd.pd, .inBlock 1, .inLoop c13.pd.pa.pa, .inBlock 0]) :: ((base 6).at b5 [.inRegion c5.pd.pd.pd.pd.pd.pd.pd.pd.pa.po.toArray [0], .code c5.pd.pd.pd.pd.pd.pd.pd.pd.pd]) :: cs)
def AWe1 (L : Lay) (D : Dat) (e : Env) (cs : List Frame) (i : Nat) (oa : Option Addr) (oc : Nat) (g : Goroutine) : Prop :=
  ∃ (b5 b13 : Act), Tm b5 48 [(11, .slice oa i oc)] [] ∧ Tm b13 84 [(0, .pointer (some ⟨L.W, 0, none⟩)), (2, .int .u64 0), (4, .int .u32 0)] [] ∧ g = G ((base 14).at b13 [.inRegion c13.pd.pa.pa.pa.pd.pd.pd.pa.pd.pa.pa.pa.pa.po.toArray [0], .code c13.pd.pa.pa.pa.pd.pd.pd.pa.pd.pa.pa.pa.pd, .code c13.pd.pa.pa.pa.pd.pd.pd.pa.pd.pa.pd, .code c13.pd.pa.pa.pa.pd.pd.pd.pd, .inBlock 1, .inLoop c13.pd.pa.pa, .inBlock 0]) (((base 6).at b5 [.inRegion c5.pd.pd.pd.pd.pd.pd.pd.pd.pa.po.toArray [0], .code c5.pd.pd.pd.pd.pd.pd.pd.pd.pd]) :: cs)
def AWe2 (L : Lay) (D : Dat) (e : Env) (cs : List Frame) (i : Nat) (oa : Option Addr) (oc : Nat) (g : Goroutine) : Prop :=
  ∃ (b5 b13 : Act), Tm b5 48 [(11, .slice oa i oc)] [] ∧ Tm b13 84 [(0, .pointer (some ⟨L.W, 0, none⟩)), (6, .bool false)] [] ∧ g = G ((base 14).at b13 [.inRegion c13.pd.pa.pa.pa.pd.pd.pd.pd.pd.pa.pd.pd.pd.pd.pd.pa.pa.pa.po.toArray [0], .code c13.pd.pa.pa.pa.pd.pd.pd.pd.pd.pa.pd.pd.pd.pd.pd.pa.pa.pd, .code c13.pd.pa.pa.pa.pd.pd.pd.pd.pd.pa.pd.pd.pd.pd.pd.pd, .inBlock 1, .inLoop c13.pd.pa.pa, .inBlock 0]) (((base 6).at b5 [.inRegion c5.pd.pd.pd.pd.pd.pd.pd.pd.pa.po.toArray [0], .code c5.pd.pd.pd.pd.pd.pd.pd.pd.pd]) :: cs)
def AWq1 (L : Lay) (D : Dat) (e : Env) (cs : List Frame) (i : Nat) (oa : Option Addr) (oc : Nat) (g : Goroutine) : Prop :=
  ∃ (b5 b13 : Act), Tm b5 48 [(11, .slice oa i oc)] [] ∧ Tm b13 84 [(0, .pointer (some ⟨L.W, 0, none⟩)), (2, .int .u64 0), (4, .int .u32 0), (22, .pointer (some ⟨L.W, 0, none⟩))] [] ∧ g = G ((base 14).at b13 [.inRegion c13.pd.pa.pa.pa.pd.pd.pd.pa.pd.pa.pa.pa.pd.po.toArray [2], .code c13.pd.pa.pa.pa.pd.pd.pd.pa.pd.pa.pd, .code c13.pd.pa.pa.pa.pd.pd.pd.pd, .inBlock 1, .inLoop c13.pd.pa.pa, .inBlock 0]) (((base 6).at b5 [.inRegion c5.pd.pd.pd.pd.pd.pd.pd.pd.pa.po.toArray [0], .code c5.pd.pd.pd.pd.pd.pd.pd.pd.pd]) :: cs)
def AWq2 (L : Lay) (D : Dat) (e : Env) (cs : List Frame) (i : Nat) (oa : Option Addr) (oc : Nat) (g : Goroutine) : Prop :=
  ∃ (b5 b13 : Act), Tm b5 48 [(11, .slice oa i oc)] [] ∧ Tm b13 84 [(6, .bool false), (80, .pointer (some ⟨L.W, 0, none⟩))] [] ∧ g = G ((base 14).at b13 [.inRegion c13.pd.pa.pa.pa.pd.pd.pd.pd.pd.pa.pd.pd.pd.pd.pd.pa.pa.pd.po.toArray [2], .code c13.pd.pa.pa.pa.pd.pd.pd.pd.pd.pa.pd.pd.pd.pd.pd.pd, .inBlock 1, .inLoop c13.pd.pa.pa, .inBlock 0]) (((base 6).at b5 [.inRegion c5.pd.pd.pd.pd.pd.pd.pd.pd.pa.po.toArray [0], .code c5.pd.pd.pd.pd.pd.pd.pd.pd.pd]) :: cs)
def AOut (L : Lay) (D : Dat) (e : Env) (cs : List Frame) (i : Nat) (oa : Option Addr) (oc : Nat) (g : Goroutine) : Prop :=
  ∃ (b5 : Act), Tm b5 48 [(11, .slice oa i oc)] [] ∧ g = G ((base 6).at b5 [.inRegion c5.pd.pd.pd.pd.pd.pd.pd.pd.pa.po.toArray [], .code c5.pd.pd.pd.pd.pd.pd.pd.pd.pd]) (cs)

end
end Go.Proofs.Ytdmiilgdkmbmeaa.Rg
namespace Go.Proofs.Ytdmiilgdkmbmeaa.Rg
open Go Go.Conc
section
variable {L : Lay} {D : Dat} {Shun : Loc → Prop} {w₀ w : World} {e : Env} {cs : List Frame} {i : Nat} {g : Goroutine} {s : Sh}
theorem A_ld (H : Hyp L D Shun w₀ e) (hK : KW L D w₀ true i w) (hi : i < D.N) (h : ∃ oa oc, OutAt L D 3 i oa oc w ∧ ALd L D e cs i oa oc g) (hs : ShAt L D s w) (hk : i ≤ s.j) :
    ∃ g', stepG Try.prog true g w = .go g' w #[rdE (L.ctr false)] ∧ (i < s.j → Goes Try.prog true (RX L true) (DX L Shun true .sl) (fun g w => KW L D w₀ true i w ∧ ∃ oa oc, OutAt L D 3 i oa oc w ∧ ASl L D e cs i oa oc g) 4000 g' w) ∧ (¬ i < s.j → Goes Try.prog true (RX L true) (DX L Shun true .rc) (fun g w => KW L D w₀ true i w ∧ ∃ oa oc, OutAt L D 3 i oa oc w ∧ ARc L D e cs i oa oc g) 4000 g' w) := by
  obtain ⟨oa, oc, hO, b5, b12, b18, hb5, hb12, hb18, rfl⟩ := h
  obtain ⟨a1, hT1, hst⟩ := step_aload (P := Try.prog) (x := true) (w := w) (ops := c18.pd.pa.po.toArray) (i := 3) (o := opq c18.pd.pa 3) (d := 6) (f := 31) (ats := #[72]) (y := .tmp 5) (kd := .i64) (z := s.j) (k := [.code c18.pd.pd]) (rest := [4]) (cs := (((base 9).at b12 [.inRegion c12.pd.pd.pa.pa.po.toArray [4, 5], .code c12.pd.pd.pa.pd, .code c12.pd.pd.pd]) :: ((base 6).at b5 [.inRegion c5.pd.pd.pd.pd.pd.pd.pd.pa.pa.pa.pd.pa.pa.po.toArray [1, 2, 3, 4, 5, 6], .code c5.pd.pd.pd.pd.pd.pd.pd.pa.pa.pa.pd.pa.pd, .inBlock 1, .inLoop c5.pd.pd.pd.pd.pd.pd.pd.pa.pa.pa, .inBlock 0, .code c5.pd.pd.pd.pd.pd.pd.pd.pd]) :: cs)) (b := (base 15)) (by decide) hb18 (by kernel_rfl) (by kernel_rfl) (by decide) (by kernel_rfl) (by kernel_rfl) Try.func31 (by kernel_rfl) (by kernel_rfl) (by kernel_rfl) (by kernel_rfl) (by kernel_rfl) ((hs.ctr false).1)
  refine ⟨_, hst, fun hc => ?_, fun hc => ?_⟩
  · have TD : Tmd (RX L true) (DX L Shun true .sl) := tmd
    have T := TD.toTms
    have K : Ken Try.prog (RX L true) (DX L Shun true .sl) (Cw L D Shun w₀) w := ken H.good hK rfl
    refine Gz.row T K (by decide) hT1 [] [4] [] [2] (g' := [(2, .int .i64 s.j)]) (qs := []) (by kernel_rfl) (by kernel_rfl) (by simp) (fun a2 hT2 => ?_)
    refine Gz.rend T ?_
    refine Gz.retE T (by kernel_rfl) ?_
    refine Gz.back1 (t := 2) (v := .int .i64 s.j) (d := 14) T hT2 hb12 rfl Try.func15 (by kernel_rfl) (by kernel_rfl) (by kernel_rfl) (by decide) (fun a3 hT3 => ?_)
    refine Gz.hint (o := opq c12.pd.pd.pa.pa 5) (d := 15) T (by decide) hT3 (v := .bool false) (by kernel_rfl) (by kernel_rfl) (by decide) (by kernel_rfl) (by kernel_rfl) (congrArg some (n_other (by omega))) (fun a4 hT4 => ?_)
    refine Gz.rend T ?_
    refine Gz.condFE (q := .tmp 15) (y := c12.pd.pd.pa.pd.pa) (z := c12.pd.pd.pa.pd.pd) T (by kernel_rfl) hT4 (by kernel_rfl) ?_
    refine Gz.skipE T (by kernel_rfl) ?_
    refine Gz.seqE T (by kernel_rfl : c12.pd.pd.pd = .seq c12.pd.pd.pd.pa c12.pd.pd.pd.pd) ?_
    have hT5 := hT4.live [0, 4] (g' := [(0, .pointer (some ⟨L.R, 0, none⟩)), (4, .int .i64 i)]) (by kernel_rfl)
    refine Gz.drawnE (id := 4) 3700 (l := c12.pd.pd.pd.pa.po) (sp := [12, 13]) (H := [(3, .ld ⟨L.R, 0, none⟩ (.slice (some ⟨L.M, 0, none⟩) L.n L.n)), (8, .ld ⟨L.R, 0, none⟩ (.slice (some ⟨L.M, 0, none⟩) L.n L.n)), (10, .val (.int .i64 (((i % L.n : Nat) : Int)))), (11, .val (.pointer (some ⟨L.M, i % L.n, none⟩)))]) (vals := [.pointer (some ⟨L.R, 0, none⟩), .pointer (some ⟨L.R, 0, none⟩), .pointer (some ⟨L.R, 0, none⟩), .slice (some ⟨L.M, 0, none⟩) L.n L.n, .int .i64 i, .pointer (some ⟨L.R, 0, none⟩), .pointer (some ⟨L.R, 0, none⟩), .pointer (some ⟨L.R, 0, none⟩), .slice (some ⟨L.M, 0, none⟩) L.n L.n, .int .i64 L.n, .int .i64 (((i % L.n : Nat) : Int)), .pointer (some ⟨L.M, i % L.n, none⟩), undef, undef]) (rds := [[0], [16], [17], [18], [4], [0], [21], [22], [23], [24], [20, 25], [19, 26], [27], [28]]) (bf := befs c12.pd.pd.pd.pa.po) (qs := [(some (.pointer (some ⟨L.R, 0, none⟩)) : Option Value) = some (.pointer (some ⟨L.R, 0, none⟩)), (Cw L D Shun w₀) ⟨L.R, 0, none⟩ (.slice (some ⟨L.M, 0, none⟩) L.n L.n), (some (.pointer (some ⟨L.R, 0, none⟩)) : Option Value) = some (.pointer (some ⟨L.R, 0, none⟩)), (Cw L D Shun w₀) ⟨L.R, 0, none⟩ (.slice (some ⟨L.M, 0, none⟩) L.n L.n), (if (L.n : Int) = 0 then none else some (.int .i64 (Int.tmod (i) (L.n))) : Option Value) = some (.int .i64 (((i % L.n : Nat) : Int))), (if 0 ≤ (((i % L.n : Nat) : Int) : Int) ∧ (((i % L.n : Nat) : Int) : Int) < ((L.n : Nat) : Int) then some (.pointer (some ⟨L.M, Int.toNat (((i % L.n : Nat) : Int)) + 0, none⟩)) else none : Option Value) = some (.pointer (some ⟨L.M, i % L.n, none⟩))]) TD (by kernel_rfl) mixed K (by decide) hT5 (by kernel_rfl) (by kernel_rfl) (by kernel_rfl) (by kernel_rfl) (Rg.oc rfl (Rg.oc H.hR (Rg.oc rfl (Rg.oc H.hR (Rg.oc (n_rem H.good.n) (Rg.oc (n_idx (off := 0) (Nat.mod_lt _ H.good.n)) Rg.on)))))) (by kernel_rfl) (by kernel_rfl) (fun j fuel t listed a6 hsp hlf hM hun => ?_) (fun listed a6 hall hJ hun => ?_)
    rotate_left
    · have h0 := hun 12 (by kernel_rfl)
      rw [hall 12 (by decide)] at h0
      cases h0
    have hj : j = 12 ∨ j = 13 := by simpa using hsp
    rcases hj with rfl | rfl
    rotate_left
    · exact (hM.not hun (by kernel_rfl)).elim
    refine Goes.mono (n := 3700) ?_ (by omega)
    have hS6 := hM.sees (bf := befs c12.pd.pd.pd.pa.po) (by kernel_rfl) (o := opq c12.pd.pd.pd.pa 12) (by kernel_rfl) [27] (g' := [(27, .pointer (some ⟨L.M, i % L.n, none⟩))]) (by kernel_rfl)
    have h5ASl := hb5.live [3, 6, 8, 9, 10, 11] (g' := [(3, .pointer (some ⟨e.bl, 0, none⟩)), (6, .pointer (some ⟨e.bR, 0, none⟩)), (8, .pointer (some ⟨e.bF, 0, none⟩)), (9, .pointer (some ⟨e.bE, 0, none⟩)), (10, .pointer (some ⟨L.W, 0, none⟩)), (11, .slice oa i oc)]) (by kernel_rfl)
    exact Goes.stop fun w₁ h₁ => ⟨hK.rely h₁, _, _, hO.rely h₁, b5, a6, fuel, t, listed, h5ASl, hM, hun, hlf, rfl⟩
  · have TD : Tmd (RX L true) (DX L Shun true .rc) := tmd
    have T := TD.toTms
    have K : Ken Try.prog (RX L true) (DX L Shun true .rc) (Cw L D Shun w₀) w := ken H.good hK rfl
    refine Gz.row T K (by decide) hT1 [] [4] [] [2] (g' := [(2, .int .i64 s.j)]) (qs := []) (by kernel_rfl) (by kernel_rfl) (by simp) (fun a2 hT2 => ?_)
    refine Gz.rend T ?_
    refine Gz.retE T (by kernel_rfl) ?_
    refine Gz.back1 (t := 2) (v := .int .i64 s.j) (d := 14) T hT2 hb12 rfl Try.func15 (by kernel_rfl) (by kernel_rfl) (by kernel_rfl) (by decide) (fun a3 hT3 => ?_)
    refine Gz.hint (o := opq c12.pd.pd.pa.pa 5) (d := 15) T (by decide) hT3 (v := .bool true) (by kernel_rfl) (by kernel_rfl) (by decide) (by kernel_rfl) (by kernel_rfl) (congrArg some (n_same (by omega))) (fun a4 hT4 => ?_)
    refine Gz.rend T ?_
    refine Gz.condTE (q := .tmp 15) (y := c12.pd.pd.pa.pd.pa) (z := c12.pd.pd.pa.pd.pd) T (by kernel_rfl) hT4 (by kernel_rfl) ?_
    refine Gz.seqE T (by kernel_rfl : c12.pd.pd.pa.pd.pa = .seq c12.pd.pd.pa.pd.pa.pa c12.pd.pd.pa.pd.pa.pd) ?_
    refine Gz.regionE (id := 3) (l := c12.pd.pd.pa.pd.pa.pa.po) (r := [0, 1]) T (by kernel_rfl) (by kernel_rfl) ?_
    refine Gz.row T K (by decide) hT4 [] [0, 1] [] [3, 2] (g' := [(3, .bool false), (2, .int .i64 0)]) (qs := []) (by kernel_rfl) (by kernel_rfl) (by simp) (fun a5 hT5 => ?_)
    refine Gz.rend T ?_
    refine Gz.retE T (by kernel_rfl) ?_
    refine Gz.back2 (t := 2) (t' := 3) (v := .int .i64 0) (u := .bool false) (d := 33) T hT5 hb5 rfl Try.func9 (by kernel_rfl) (by kernel_rfl) (by kernel_rfl) (by kernel_rfl) (by decide) (fun a6 hT6 => ?_)
    refine Gz.row T K (by decide) hT6 [] [2, 3, 4, 5, 6] [] [13, 12, 3, 6, 8, 9, 10, 11] (g' := [(13, .bool false), (12, .int .i64 0), (3, .pointer (some ⟨e.bl, 0, none⟩)), (6, .pointer (some ⟨e.bR, 0, none⟩)), (8, .pointer (some ⟨e.bF, 0, none⟩)), (9, .pointer (some ⟨e.bE, 0, none⟩)), (10, .pointer (some ⟨L.W, 0, none⟩)), (11, .slice oa i oc)]) (qs := []) (by kernel_rfl) (by kernel_rfl) (by simp) (fun a7 hT7 => ?_)
    refine Gz.rend T ?_
    refine Gz.seqE T (by kernel_rfl : c5.pd.pd.pd.pd.pd.pd.pd.pa.pa.pa.pd.pa.pd = .seq c5.pd.pd.pd.pd.pd.pd.pd.pa.pa.pa.pd.pa.pd.pa c5.pd.pd.pd.pd.pd.pd.pd.pa.pa.pa.pd.pa.pd.pd) ?_
    refine Gz.seqE T (by kernel_rfl : c5.pd.pd.pd.pd.pd.pd.pd.pa.pa.pa.pd.pa.pd.pa = .seq c5.pd.pd.pd.pd.pd.pd.pd.pa.pa.pa.pd.pa.pd.pa.pa c5.pd.pd.pd.pd.pd.pd.pd.pa.pa.pa.pd.pa.pd.pa.pd) ?_
    refine Gz.regionE (id := 10) (l := c5.pd.pd.pd.pd.pd.pd.pd.pa.pa.pa.pd.pa.pd.pa.pa.po) (r := [0, 1]) T (by kernel_rfl) (by kernel_rfl) ?_
    refine Gz.row T K (by decide) hT7 [] [0, 1] [] [37, 12, 3, 6, 8, 9, 10, 11] (g' := [(37, .bool true), (12, .int .i64 0), (3, .pointer (some ⟨e.bl, 0, none⟩)), (6, .pointer (some ⟨e.bR, 0, none⟩)), (8, .pointer (some ⟨e.bF, 0, none⟩)), (9, .pointer (some ⟨e.bE, 0, none⟩)), (10, .pointer (some ⟨L.W, 0, none⟩)), (11, .slice oa i oc)]) (qs := []) (by kernel_rfl) (by kernel_rfl) (by simp) (fun a8 hT8 => ?_)
    refine Gz.rend T ?_
    refine Gz.condTE (q := .tmp 37) (y := c5.pd.pd.pd.pd.pd.pd.pd.pa.pa.pa.pd.pa.pd.pa.pd.pa) (z := c5.pd.pd.pd.pd.pd.pd.pd.pa.pa.pa.pd.pa.pd.pa.pd.pd) T (by kernel_rfl) hT8 (by kernel_rfl) ?_
    refine Gz.seqE T (by kernel_rfl : c5.pd.pd.pd.pd.pd.pd.pd.pa.pa.pa.pd.pa.pd.pa.pd.pa = .seq c5.pd.pd.pd.pd.pd.pd.pd.pa.pa.pa.pd.pa.pd.pa.pd.pa.pa c5.pd.pd.pd.pd.pd.pd.pd.pa.pa.pa.pd.pa.pd.pa.pd.pa.pd) ?_
    refine Gz.regionE (id := 11) (l := c5.pd.pd.pd.pd.pd.pd.pd.pa.pa.pa.pd.pa.pd.pa.pd.pa.pa.po) (r := [0, 1]) T (by kernel_rfl) (by kernel_rfl) ?_
    refine Gz.load (o := opq c5.pd.pd.pd.pd.pd.pd.pd.pa.pa.pa.pd.pa.pd.pa.pd.pa.pa 0) (d := 38) (X := 41) (y := .tmp 9) (ad := ⟨e.bE, 0, none⟩) T K (by decide) hT8 (v := .chan (some L.E)) (by kernel_rfl) (by kernel_rfl) (by decide) (by kernel_rfl) (by kernel_rfl) (by kernel_rfl) (by kernel_rfl) (by kernel_rfl) H.cE (fun a9 hT9 => ?_)
    have h5ARc := hT9.live [3, 6, 8, 9, 10, 11, 38] (g' := [(3, .pointer (some ⟨e.bl, 0, none⟩)), (6, .pointer (some ⟨e.bR, 0, none⟩)), (8, .pointer (some ⟨e.bF, 0, none⟩)), (9, .pointer (some ⟨e.bE, 0, none⟩)), (10, .pointer (some ⟨L.W, 0, none⟩)), (11, .slice oa i oc), (38, .chan (some L.E))]) (by kernel_rfl)
    exact Goes.stop fun w₁ h₁ => ⟨hK.rely h₁, _, _, hO.rely h₁, a9, h5ARc, rfl⟩
theorem A_sl (H : Hyp L D Shun w₀ e) (hK : KW L D w₀ true i w) (hi : i < D.N) (h : ∃ oa oc, OutAt L D 3 i oa oc w ∧ ASl L D e cs i oa oc g) (hs : ShAt L D s w) (hk : s.k ≤ i) (hj : i < s.j) :
    ∃ g', stepG Try.prog true g w = .go g' w #[⟨.cell ⟨L.M, i % L.n, none⟩, false, false⟩] ∧ Goes Try.prog true (RX L true) (DX L Shun true .st) (fun g w => KW L D w₀ true i w ∧ ∃ oa oc, OutAt L D 3 i oa oc w ∧ ASt L D e cs i oa oc g) 4000 g' w := by
  obtain ⟨oa, oc, hO, b5, b12, fuel, t, listed, hb5, hM, hun, hlf, rfl⟩ := h
  have hS := hM.sees (bf := befs c12.pd.pd.pd.pa.po) (by kernel_rfl) (o := opq c12.pd.pd.pd.pa 12) (by kernel_rfl) [27] (g' := [(27, .pointer (some ⟨L.M, i % L.n, none⟩))]) (by kernel_rfl)
  have hst := step_load (P := Try.prog) (x := true) (w := w) (b := (base 9)) (k := [.code c12.pd.pd.pd.pd]) (rest := Region.linearise.go .any c12.pd.pd.pd.pa.po.toArray fuel t (listed.setIfInBounds 12 true) []) (cs := (((base 6).at b5 [.inRegion c5.pd.pd.pd.pd.pd.pd.pd.pa.pa.pa.pd.pa.pa.po.toArray [1, 2, 3, 4, 5, 6], .code c5.pd.pd.pd.pd.pd.pd.pd.pa.pa.pa.pd.pa.pd, .inBlock 1, .inLoop c5.pd.pd.pd.pd.pd.pd.pd.pa.pa.pa, .inBlock 0, .code c5.pd.pd.pd.pd.pd.pd.pd.pd]) :: cs)) hS (ops := c12.pd.pd.pd.pa.po.toArray) (i := 12) (o := opq c12.pd.pd.pd.pa 12) (X := 3) (y := .tmp 27) (v := .int .i64 ((e.z i))) (by kernel_rfl) (by kernel_rfl) (by decide) (by kernel_rfl) (by kernel_rfl) (by kernel_rfl) (by have := hs.slotv (m := i) hk hj; rw [H.val] at this; exact this) (by kernel_rfl)
  refine ⟨_, hst, ?_⟩
  have TD : Tmd (RX L true) (DX L Shun true .st) := tmd
  have T := TD.toTms
  have K : Ken Try.prog (RX L true) (DX L Shun true .st) (Cw L D Shun w₀) w := ken H.good hK rfl
  refine Gz.moreE (sp0 := [12, 13]) (i := 12) (l := c12.pd.pd.pd.pa.po) (n := 36) (g := [(0, .pointer (some ⟨L.R, 0, none⟩)), (4, .int .i64 i)]) (vals := [.pointer (some ⟨L.R, 0, none⟩), .pointer (some ⟨L.R, 0, none⟩), .pointer (some ⟨L.R, 0, none⟩), .slice (some ⟨L.M, 0, none⟩) L.n L.n, .int .i64 i, .pointer (some ⟨L.R, 0, none⟩), .pointer (some ⟨L.R, 0, none⟩), .pointer (some ⟨L.R, 0, none⟩), .slice (some ⟨L.M, 0, none⟩) L.n L.n, .int .i64 L.n, .int .i64 (((i % L.n : Nat) : Int)), .pointer (some ⟨L.M, i % L.n, none⟩), undef, undef]) (vals' := [.pointer (some ⟨L.R, 0, none⟩), .pointer (some ⟨L.R, 0, none⟩), .pointer (some ⟨L.R, 0, none⟩), .slice (some ⟨L.M, 0, none⟩) L.n L.n, .int .i64 i, .pointer (some ⟨L.R, 0, none⟩), .pointer (some ⟨L.R, 0, none⟩), .pointer (some ⟨L.R, 0, none⟩), .slice (some ⟨L.M, 0, none⟩) L.n L.n, .int .i64 L.n, .int .i64 (((i % L.n : Nat) : Int)), .pointer (some ⟨L.M, i % L.n, none⟩), .int .i64 ((e.z i)), .int .i64 ((e.z i))]) (H := [(3, .ld ⟨L.R, 0, none⟩ (.slice (some ⟨L.M, 0, none⟩) L.n L.n)), (8, .ld ⟨L.R, 0, none⟩ (.slice (some ⟨L.M, 0, none⟩) L.n L.n)), (10, .val (.int .i64 (((i % L.n : Nat) : Int)))), (11, .val (.pointer (some ⟨L.M, i % L.n, none⟩)))]) (bf := befs c12.pd.pd.pd.pa.po) (rds := [[0], [16], [17], [18], [4], [0], [21], [22], [23], [24], [20, 25], [19, 26], [27], [28]]) (qs := [(some (.pointer (some ⟨L.R, 0, none⟩)) : Option Value) = some (.pointer (some ⟨L.R, 0, none⟩)), (Cw L D Shun w₀) ⟨L.R, 0, none⟩ (.slice (some ⟨L.M, 0, none⟩) L.n L.n), (some (.pointer (some ⟨L.R, 0, none⟩)) : Option Value) = some (.pointer (some ⟨L.R, 0, none⟩)), (Cw L D Shun w₀) ⟨L.R, 0, none⟩ (.slice (some ⟨L.M, 0, none⟩) L.n L.n), (if (L.n : Int) = 0 then none else some (.int .i64 (Int.tmod (i) (L.n))) : Option Value) = some (.int .i64 (((i % L.n : Nat) : Int))), (if 0 ≤ (((i % L.n : Nat) : Int) : Int) ∧ (((i % L.n : Nat) : Int) : Int) < ((L.n : Nat) : Int) then some (.pointer (some ⟨L.M, Int.toNat (((i % L.n : Nat) : Int)) + 0, none⟩)) else none : Option Value) = some (.pointer (some ⟨L.M, i % L.n, none⟩))]) (ds := []) (u := .int .i64 ((e.z i))) [(12, .int .i64 ((e.z i))), (13, .int .i64 ((e.z i)))] 3700 TD K (by decide) (by kernel_rfl) (by kernel_rfl) (by kernel_rfl) (by kernel_rfl) (Rg.oc rfl (Rg.oc H.hR (Rg.oc rfl (Rg.oc H.hR (Rg.oc (n_rem H.good.n) (Rg.oc (n_idx (off := 0) (Nat.mod_lt _ H.good.n)) Rg.on)))))) (by kernel_rfl) hM hun hlf (o := opq c12.pd.pd.pd.pa 12) (by kernel_rfl) rfl (fun _ _ => by kernel_rfl) (by kernel_rfl) (by kernel_rfl) (by kernel_rfl) (fun listed a1 hall hJ => ?_)
  have hT1 := hJ.finE hall [0, 4, 5] (g' := [(0, .pointer (some ⟨L.R, 0, none⟩)), (4, .int .i64 i), (5, .int .i64 ((e.z i)))]) (by kernel_rfl)
  refine Gz.rend T ?_
  refine Gz.seqE T (by kernel_rfl : c12.pd.pd.pd.pd = .seq c12.pd.pd.pd.pd.pa c12.pd.pd.pd.pd.pd) ?_
  refine Gz.regionE (id := 5) (l := c12.pd.pd.pd.pd.pa.po) (r := [0, 1, 2, 3, 4, 5]) T (by kernel_rfl) (by kernel_rfl) ?_
  refine Gz.row T K (by decide) hT1 [] [0, 1, 2, 3] [4, 5] [32, 31, 5] (g' := [(32, .int .i64 i), (31, .pointer (some ⟨L.R, 2, none⟩)), (5, .int .i64 ((e.z i)))]) (qs := []) (by kernel_rfl) (by kernel_rfl) (by simp) (fun a2 hT2 => ?_)
  refine Gz.hint (o := opq c12.pd.pd.pd.pd.pa 4) (d := 33) T (by decide) hT2 (v := .int .i64 (((i + 1 : Nat) : Int))) (by kernel_rfl) (by kernel_rfl) (by decide) (by kernel_rfl) (by kernel_rfl) (n_inc (by have := H.Nb; omega)) (fun a3 hT3 => ?_)
  refine Mz.enter (o := opq c12.pd.pd.pd.pd.pa 5) (q := .func 16) (f := 16) (cc := c19) (cap := []) (args := #[.tmp 31, .tmp 33]) (ats := #[54, 2]) (mvG T) hT3 [.pointer (some ⟨L.R, 2, none⟩), .int .i64 (((i + 1 : Nat) : Int))] 9 (by kernel_rfl) (by kernel_rfl) (by decide) (by kernel_rfl) (by kernel_rfl) Try.func16 (by kernel_rfl) (by kernel_rfl) (by kernel_rfl) (by kernel_rfl) (by kernel_rfl) (fun a4 hT4 => ?_)
  refine Gz.regionE (id := 0) (l := c19.po) (r := [0, 1, 2, 3, 4]) T (by kernel_rfl) (by kernel_rfl) ?_
  refine Gz.row T K (by decide) hT4 [] [0, 1, 2, 3] [4] [7, 6] (g' := [(7, .int .i64 (((i + 1 : Nat) : Int))), (6, .pointer (some ⟨L.R, 2, none⟩))]) (qs := []) (by kernel_rfl) (by kernel_rfl) (by simp) (fun a5 hT5 => ?_)
  have h5ASt := hb5.live [3, 6, 8, 9, 10, 11] (g' := [(3, .pointer (some ⟨e.bl, 0, none⟩)), (6, .pointer (some ⟨e.bR, 0, none⟩)), (8, .pointer (some ⟨e.bF, 0, none⟩)), (9, .pointer (some ⟨e.bE, 0, none⟩)), (10, .pointer (some ⟨L.W, 0, none⟩)), (11, .slice oa i oc)]) (by kernel_rfl)
  have h12ASt := hT3.live [5] (g' := [(5, .int .i64 ((e.z i)))]) (by kernel_rfl)
  have h19ASt := hT5.live [6, 7] (g' := [(6, .pointer (some ⟨L.R, 2, none⟩)), (7, .int .i64 (((i + 1 : Nat) : Int)))]) (by kernel_rfl)
  exact Goes.stop fun w₁ h₁ => ⟨hK.rely h₁, _, _, hO.rely h₁, b5, a3, a5, h5ASt, h12ASt, h19ASt, rfl⟩
theorem A_st (H : Hyp L D Shun w₀ e) (hi : i < D.N) (h : ∃ oa oc, OutAt L D 3 i oa oc w ∧ ASt L D e cs i oa oc g) (hs : ShAt L D s w) (hK : KW L D w₀ true (i + 1) (w.setCell ⟨L.R, 2, none⟩ (.int .i64 ((i + 1 : Nat) : Int)))) :
    ∃ g', stepG Try.prog true g w = .go g' (w.setCell ⟨L.R, 2, none⟩ (.int .i64 ((i + 1 : Nat) : Int))) #[wrE (L.ctr true)] ∧ Goes Try.prog true (RX L true) (DX L Shun true .bl) (fun g w => KW L D w₀ true (i + 1) w ∧ ∃ oa oc, OutAt L D 3 (i + 1) oa oc w ∧ ABl L D e cs (i + 1) oa oc g) 4000 g' (w.setCell ⟨L.R, 2, none⟩ (.int .i64 ((i + 1 : Nat) : Int))) := by
  obtain ⟨oa, oc, hO, b5, b12, b19, hb5, hb12, hb19, rfl⟩ := h
  obtain ⟨a1, hT1, hst⟩ := step_astore (P := Try.prog) (x := true) (w := w) (ops := c19.po.toArray) (i := 4) (o := opq c19 4) (d := 8) (f := 32) (ats := #[72, 2]) (y := .tmp 6) (z := .tmp 7) (kd := .i64) (v := ((i + 1 : Nat) : Int)) (k := []) (rest := []) (cs := (((base 9).at b12 [.inRegion c12.pd.pd.pd.pd.pa.po.toArray [5], .code c12.pd.pd.pd.pd.pd]) :: ((base 6).at b5 [.inRegion c5.pd.pd.pd.pd.pd.pd.pd.pa.pa.pa.pd.pa.pa.po.toArray [1, 2, 3, 4, 5, 6], .code c5.pd.pd.pd.pd.pd.pd.pd.pa.pa.pa.pd.pa.pd, .inBlock 1, .inLoop c5.pd.pd.pd.pd.pd.pd.pd.pa.pa.pa, .inBlock 0, .code c5.pd.pd.pd.pd.pd.pd.pd.pd]) :: cs)) (b := (base 16)) (by decide) hb19 (by kernel_rfl) (by kernel_rfl) (by decide) (by kernel_rfl) (by kernel_rfl) Try.func32 (by kernel_rfl) (by kernel_rfl) (by kernel_rfl) (by kernel_rfl) (by kernel_rfl) (by kernel_rfl) ((hs.ctr true).1) ((hs.ctr true).2)
  refine ⟨_, hst, ?_⟩
  replace hO := hO.turn H.good (Turn.set w (ad := ⟨L.R, 2, none⟩) (.int .i64 ((i + 1 : Nat) : Int)) (.inl rfl))
  have TD : Tmd (RX L true) (DX L Shun true .bl) := tmd
  have T := TD.toTms
  have K : Ken Try.prog (RX L true) (DX L Shun true .bl) (Cw L D Shun w₀) (w.setCell ⟨L.R, 2, none⟩ (.int .i64 ((i + 1 : Nat) : Int))) := ken H.good hK rfl
  refine Gz.rend T ?_
  refine Gz.fin T ?_
  refine Gz.back0 (d := 34) T hT1 hb12 rfl Try.func16 (by kernel_rfl) (by kernel_rfl) (by decide) (fun a2 hT2 => ?_)
  refine Gz.rend T ?_
  refine Gz.seqE T (by kernel_rfl : c12.pd.pd.pd.pd.pd = .seq c12.pd.pd.pd.pd.pd.pa c12.pd.pd.pd.pd.pd.pd) ?_
  refine Gz.regionE (id := 6) (l := c12.pd.pd.pd.pd.pd.pa.po) (r := [0, 1, 2]) T (by kernel_rfl) (by kernel_rfl) ?_
  refine Gz.row T K (by decide) hT2 [] [0, 1, 2] [] [3, 2] (g' := [(3, .bool true), (2, .int .i64 ((e.z i)))]) (qs := []) (by kernel_rfl) (by kernel_rfl) (by simp) (fun a3 hT3 => ?_)
  refine Gz.rend T ?_
  refine Gz.retE T (by kernel_rfl) ?_
  refine Gz.back2 (t := 2) (t' := 3) (v := .int .i64 ((e.z i))) (u := .bool true) (d := 33) T hT3 hb5 rfl Try.func9 (by kernel_rfl) (by kernel_rfl) (by kernel_rfl) (by kernel_rfl) (by decide) (fun a4 hT4 => ?_)
  refine Gz.row T K (by decide) hT4 [] [2, 3, 4, 5, 6] [] [13, 12, 3, 6, 8, 9, 10, 11] (g' := [(13, .bool true), (12, .int .i64 ((e.z i))), (3, .pointer (some ⟨e.bl, 0, none⟩)), (6, .pointer (some ⟨e.bR, 0, none⟩)), (8, .pointer (some ⟨e.bF, 0, none⟩)), (9, .pointer (some ⟨e.bE, 0, none⟩)), (10, .pointer (some ⟨L.W, 0, none⟩)), (11, .slice oa i oc)]) (qs := []) (by kernel_rfl) (by kernel_rfl) (by simp) (fun a5 hT5 => ?_)
  refine Gz.rend T ?_
  refine Gz.seqE T (by kernel_rfl : c5.pd.pd.pd.pd.pd.pd.pd.pa.pa.pa.pd.pa.pd = .seq c5.pd.pd.pd.pd.pd.pd.pd.pa.pa.pa.pd.pa.pd.pa c5.pd.pd.pd.pd.pd.pd.pd.pa.pa.pa.pd.pa.pd.pd) ?_
  refine Gz.seqE T (by kernel_rfl : c5.pd.pd.pd.pd.pd.pd.pd.pa.pa.pa.pd.pa.pd.pa = .seq c5.pd.pd.pd.pd.pd.pd.pd.pa.pa.pa.pd.pa.pd.pa.pa c5.pd.pd.pd.pd.pd.pd.pd.pa.pa.pa.pd.pa.pd.pa.pd) ?_
  refine Gz.regionE (id := 10) (l := c5.pd.pd.pd.pd.pd.pd.pd.pa.pa.pa.pd.pa.pd.pa.pa.po) (r := [0, 1]) T (by kernel_rfl) (by kernel_rfl) ?_
  refine Gz.row T K (by decide) hT5 [] [0, 1] [] [37, 12, 3, 6, 8, 9, 10, 11] (g' := [(37, .bool false), (12, .int .i64 ((e.z i))), (3, .pointer (some ⟨e.bl, 0, none⟩)), (6, .pointer (some ⟨e.bR, 0, none⟩)), (8, .pointer (some ⟨e.bF, 0, none⟩)), (9, .pointer (some ⟨e.bE, 0, none⟩)), (10, .pointer (some ⟨L.W, 0, none⟩)), (11, .slice oa i oc)]) (qs := []) (by kernel_rfl) (by kernel_rfl) (by simp) (fun a6 hT6 => ?_)
  refine Gz.rend T ?_
  refine Gz.condFE (q := .tmp 37) (y := c5.pd.pd.pd.pd.pd.pd.pd.pa.pa.pa.pd.pa.pd.pa.pd.pa) (z := c5.pd.pd.pd.pd.pd.pd.pd.pa.pa.pa.pd.pa.pd.pa.pd.pd) T (by kernel_rfl) hT6 (by kernel_rfl) ?_
  refine Gz.skipE T (by kernel_rfl) ?_
  refine Gz.seqE T (by kernel_rfl : c5.pd.pd.pd.pd.pd.pd.pd.pa.pa.pa.pd.pa.pd.pd = .seq c5.pd.pd.pd.pd.pd.pd.pd.pa.pa.pa.pd.pa.pd.pd.pa c5.pd.pd.pd.pd.pd.pd.pd.pa.pa.pa.pd.pa.pd.pd.pd) ?_
  refine Gz.regionE (id := 12) (l := c5.pd.pd.pd.pd.pd.pd.pd.pa.pa.pa.pd.pa.pd.pd.pa.po) (r := [0, 1, 2, 3, 4]) T (by kernel_rfl) (by kernel_rfl) ?_
  refine Gz.row T K (by decide) hT6 [] [0, 1] [2, 3, 4] [41, 40, 3, 6, 8, 9, 10] (g' := [(41, .int .i64 ((e.z i))), (40, .slice oa i oc), (3, .pointer (some ⟨e.bl, 0, none⟩)), (6, .pointer (some ⟨e.bR, 0, none⟩)), (8, .pointer (some ⟨e.bF, 0, none⟩)), (9, .pointer (some ⟨e.bE, 0, none⟩)), (10, .pointer (some ⟨L.W, 0, none⟩))]) (qs := []) (by kernel_rfl) (by kernel_rfl) (by simp) (fun a7 hT7 => ?_)
  refine Gz.push (b := (base 6)) (k := i) (E := 3) (X := 22) (ti := (Try.prog.info? 3).getD default) (i1 := 2) (i2 := 3) (d1 := 42) (d2 := 43) (o1 := opq c5.pd.pd.pd.pd.pd.pd.pd.pa.pa.pa.pd.pa.pd.pd.pa 2) (o2 := opq c5.pd.pd.pd.pd.pd.pd.pd.pa.pa.pa.pd.pa.pd.pd.pa 3) (y := .tmp 41) (y1 := .tmp 40) (y2 := .tmp 42) (ty := 22) (z := e.z i) T H.good H.sh rfl hK hO (by decide) hT7 (by kernel_rfl) (by kernel_rfl) (by kernel_rfl) (by kernel_rfl) (by kernel_rfl) (by have := H.Nb; omega) (by kernel_rfl) (by kernel_rfl) (by decide) (by kernel_rfl) (by kernel_rfl) (by kernel_rfl) (H.val i) (by kernel_rfl) (by kernel_rfl) (by decide) (by kernel_rfl) (by kernel_rfl) (by kernel_rfl) rfl (fun t e => by cases e; decide) (fun a8 w2 oa oc hT8 hK hO => ?_) (fun v e => by cases (show none = some v from e))
  have K : Ken Try.prog (RX L true) (DX L Shun true .bl) (Cw L D Shun w₀) w2 := ken H.good hK rfl
  refine Gz.row T K (by decide) hT8 [] [4] [] [11, 3, 6, 8, 9, 10] (g' := [(11, .slice oa (i + 1) oc), (3, .pointer (some ⟨e.bl, 0, none⟩)), (6, .pointer (some ⟨e.bR, 0, none⟩)), (8, .pointer (some ⟨e.bF, 0, none⟩)), (9, .pointer (some ⟨e.bE, 0, none⟩)), (10, .pointer (some ⟨L.W, 0, none⟩))]) (qs := []) (by kernel_rfl) (by kernel_rfl) (by simp) (fun a9 hT9 => ?_)
  refine Gz.rend T ?_
  refine Gz.regionE (id := 13) (l := c5.pd.pd.pd.pd.pd.pd.pd.pa.pa.pa.pd.pa.pd.pd.pd.po) (r := [0, 1]) T (by kernel_rfl) (by kernel_rfl) ?_
  refine Gz.load (o := opq c5.pd.pd.pd.pd.pd.pd.pd.pa.pa.pa.pd.pa.pd.pd.pd 0) (d := 44) (X := 41) (y := .tmp 8) (ad := ⟨e.bF, 0, none⟩) T K (by decide) hT9 (v := .chan (some L.F)) (by kernel_rfl) (by kernel_rfl) (by decide) (by kernel_rfl) (by kernel_rfl) (by kernel_rfl) (by kernel_rfl) (by kernel_rfl) H.cF (fun a10 hT10 => ?_)
  refine Mz.enter (o := opq c5.pd.pd.pd.pd.pd.pd.pd.pa.pa.pa.pd.pa.pd.pd.pd 1) (q := .func 13) (f := 13) (cc := c11) (cap := []) (args := #[.tmp 44]) (ats := #[41]) (mvG T) hT10 [.chan (some L.F)] 7 (by kernel_rfl) (by kernel_rfl) (by decide) (by kernel_rfl) (by kernel_rfl) Try.func13 (by kernel_rfl) (by kernel_rfl) (by kernel_rfl) (by kernel_rfl) (by kernel_rfl) (fun a11 hT11 => ?_)
  refine Gz.seqE T (by kernel_rfl : c11 = .seq c11.pa c11.pd) ?_
  refine Gz.seqE T (by kernel_rfl : c11.pa = .seq c11.pa.pa c11.pa.pd) ?_
  refine Gz.regionE (id := 0) (l := c11.pa.pa.po) (r := [0]) T (by kernel_rfl) (by kernel_rfl) ?_
  refine Gz.row T K (by decide) hT11 [] [0] [] [2] (g' := [(2, .chan (some L.F))]) (qs := []) (by kernel_rfl) (by kernel_rfl) (by simp) (fun a12 hT12 => ?_)
  refine Gz.rend T ?_
  refine Gz.regionE (id := 1) (l := c11.pa.pd.po) (r := [0]) T (by kernel_rfl) (by kernel_rfl) ?_
  refine Mz.opv (o := opq c11.pa.pd 0) (d := 3) (mvG T) (by decide) hT12 (v := .agg #[]) (by kernel_rfl) (by kernel_rfl) (by decide) (by kernel_rfl) (by kernel_rfl) (op_unit (T := 42) (by kernel_rfl) (by kernel_rfl) (ti := (Try.prog.info? 42).getD default) (by kernel_rfl) (by kernel_rfl)) (fun a13 hT13 => ?_)
  refine Gz.rend T ?_
  refine Gz.seqE T (by kernel_rfl : c11.pd = .seq c11.pd.pa c11.pd.pd) ?_
  refine Gz.regionE (id := 2) (l := c11.pd.pa.po) (r := [0, 1, 2]) T (by kernel_rfl) (by kernel_rfl) ?_
  have h5ABl := hT10.live [3, 6, 8, 9, 10, 11] (g' := [(3, .pointer (some ⟨e.bl, 0, none⟩)), (6, .pointer (some ⟨e.bR, 0, none⟩)), (8, .pointer (some ⟨e.bF, 0, none⟩)), (9, .pointer (some ⟨e.bE, 0, none⟩)), (10, .pointer (some ⟨L.W, 0, none⟩)), (11, .slice oa (i + 1) oc)]) (by kernel_rfl)
  have h11ABl := hT13.live [2, 3] (g' := [(2, .chan (some L.F)), (3, .agg #[])]) (by kernel_rfl)
  exact Goes.stop fun w₁ h₁ => ⟨hK.rely h₁, _, _, hO.rely h₁, a10, a13, h5ABl, h11ABl, rfl⟩

end
end Go.Proofs.Ytdmiilgdkmbmeaa.Rg
namespace Go.Proofs.Ytdmiilgdkmbmeaa.Rg
open Go Go.Conc
section
variable {L : Lay} {D : Dat} {Shun : Loc → Prop} {w₀ w : World} {e : Env} {cs : List Frame} {i : Nat} {g : Goroutine} {s : Sh}
theorem A_head1 (H : Hyp L D Shun w₀ e) (hi : i < D.N) (hK : KW L D w₀ true i w) {oa : Option Addr} {oc : Nat} (hO : OutAt L D 3 i oa oc w) {b5 : Act} (hb5 : Tm b5 48 [(3, .pointer (some ⟨e.bl, 0, none⟩)), (6, .pointer (some ⟨e.bR, 0, none⟩)), (8, .pointer (some ⟨e.bF, 0, none⟩)), (9, .pointer (some ⟨e.bE, 0, none⟩)), (10, .pointer (some ⟨L.W, 0, none⟩)), (11, .slice oa i oc)] []) :
    Goes Try.prog true (RX L true) (DX L Shun true .ld) (fun g w => KW L D w₀ true i w ∧ ∃ oa oc, OutAt L D 3 i oa oc w ∧ ALd L D e cs i oa oc g) 4000 (G ((base 6).at b5 [.code c5.pd.pd.pd.pd.pd.pd.pd.pa.pa.pa, .inLoop c5.pd.pd.pd.pd.pd.pd.pd.pa.pa.pa, .inBlock 0, .code c5.pd.pd.pd.pd.pd.pd.pd.pd]) (cs)) w := by
  have TD : Tmd (RX L true) (DX L Shun true .ld) := tmd
  have T := TD.toTms
  have K : Ken Try.prog (RX L true) (DX L Shun true .ld) (Cw L D Shun w₀) w := ken H.good hK rfl
  refine Gz.seqE T (by kernel_rfl : c5.pd.pd.pd.pd.pd.pd.pd.pa.pa.pa = .seq c5.pd.pd.pd.pd.pd.pd.pd.pa.pa.pa.pa c5.pd.pd.pd.pd.pd.pd.pd.pa.pa.pa.pd) ?_
  refine Gz.seqE T (by kernel_rfl : c5.pd.pd.pd.pd.pd.pd.pd.pa.pa.pa.pa = .seq c5.pd.pd.pd.pd.pd.pd.pd.pa.pa.pa.pa.pa c5.pd.pd.pd.pd.pd.pd.pd.pa.pa.pa.pa.pd) ?_
  refine Gz.regionE (id := 8) (l := c5.pd.pd.pd.pd.pd.pd.pd.pa.pa.pa.pa.pa.po) (r := [0, 1, 2, 3, 4]) T (by kernel_rfl) (by kernel_rfl) ?_
  refine Gz.row T K (by decide) hb5 [] [0, 1] [2, 3, 4] [27, 3, 6, 8, 9, 10, 11] (g' := [(27, .int .i64 i), (3, .pointer (some ⟨e.bl, 0, none⟩)), (6, .pointer (some ⟨e.bR, 0, none⟩)), (8, .pointer (some ⟨e.bF, 0, none⟩)), (9, .pointer (some ⟨e.bE, 0, none⟩)), (10, .pointer (some ⟨L.W, 0, none⟩)), (11, .slice oa i oc)]) (qs := []) (by kernel_rfl) (by kernel_rfl) (by simp) (fun a1 hT1 => ?_)
  refine Gz.load (o := opq c5.pd.pd.pd.pd.pd.pd.pd.pa.pa.pa.pa.pa 2) (d := 28) (X := 22) (y := .tmp 3) (ad := ⟨e.bl, 0, none⟩) T K (by decide) hT1 (v := .slice e.la D.N e.cap) (by kernel_rfl) (by kernel_rfl) (by decide) (by kernel_rfl) (by kernel_rfl) (by kernel_rfl) (by kernel_rfl) (by kernel_rfl) H.cl (fun a2 hT2 => ?_)
  refine Gz.row T K (by decide) hT2 [] [3] [4] [29, 27, 3, 6, 8, 9, 10, 11] (g' := [(29, .int .i64 D.N), (27, .int .i64 i), (3, .pointer (some ⟨e.bl, 0, none⟩)), (6, .pointer (some ⟨e.bR, 0, none⟩)), (8, .pointer (some ⟨e.bF, 0, none⟩)), (9, .pointer (some ⟨e.bE, 0, none⟩)), (10, .pointer (some ⟨L.W, 0, none⟩)), (11, .slice oa i oc)]) (qs := []) (by kernel_rfl) (by kernel_rfl) (by simp) (fun a3 hT3 => ?_)
  refine Gz.hint (o := opq c5.pd.pd.pd.pd.pd.pd.pd.pa.pa.pa.pa.pa 4) (d := 30) T (by decide) hT3 (v := .bool true) (by kernel_rfl) (by kernel_rfl) (by decide) (by kernel_rfl) (by kernel_rfl) (congrArg some (n_lt hi)) (fun a4 hT4 => ?_)
  refine Gz.rend T ?_
  refine Gz.condTE (q := .tmp 30) (y := c5.pd.pd.pd.pd.pd.pd.pd.pa.pa.pa.pa.pd.pa) (z := c5.pd.pd.pd.pd.pd.pd.pd.pa.pa.pa.pa.pd.pd) T (by kernel_rfl) hT4 (by kernel_rfl) ?_
  refine Gz.skipE T (by kernel_rfl) ?_
  refine Gz.blockE (id := 1) (y := c5.pd.pd.pd.pd.pd.pd.pd.pa.pa.pa.pd.pa) T (by kernel_rfl) ?_
  refine Gz.seqE T (by kernel_rfl : c5.pd.pd.pd.pd.pd.pd.pd.pa.pa.pa.pd.pa = .seq c5.pd.pd.pd.pd.pd.pd.pd.pa.pa.pa.pd.pa.pa c5.pd.pd.pd.pd.pd.pd.pd.pa.pa.pa.pd.pa.pd) ?_
  refine Gz.regionE (id := 9) (l := c5.pd.pd.pd.pd.pd.pd.pd.pa.pa.pa.pd.pa.pa.po) (r := [0, 1, 2, 3, 4, 5, 6]) T (by kernel_rfl) (by kernel_rfl) ?_
  refine Gz.load (o := opq c5.pd.pd.pd.pd.pd.pd.pd.pa.pa.pa.pd.pa.pa 0) (d := 32) (X := 33) (y := .tmp 6) (ad := ⟨e.bR, 0, none⟩) T K (by decide) hT4 (v := .pointer (some ⟨L.R, 0, none⟩)) (by kernel_rfl) (by kernel_rfl) (by decide) (by kernel_rfl) (by kernel_rfl) (by kernel_rfl) (by kernel_rfl) (by kernel_rfl) H.cR (fun a5 hT5 => ?_)
  refine Mz.enter (o := opq c5.pd.pd.pd.pd.pd.pd.pd.pa.pa.pa.pd.pa.pa 1) (q := .func 9) (f := 9) (cc := c12) (cap := []) (args := #[.tmp 32]) (ats := #[33]) (mvG T) hT5 [.pointer (some ⟨L.R, 0, none⟩)] 36 (by kernel_rfl) (by kernel_rfl) (by decide) (by kernel_rfl) (by kernel_rfl) Try.func9 (by kernel_rfl) (by kernel_rfl) (by kernel_rfl) (by kernel_rfl) (by kernel_rfl) (fun a6 hT6 => ?_)
  refine Gz.seqE T (by kernel_rfl : c12 = .seq c12.pa c12.pd) ?_
  refine Gz.regionE (id := 0) (l := c12.pa.po) (r := [0, 1]) T (by kernel_rfl) (by kernel_rfl) ?_
  refine Gz.row T K (by decide) hT6 [] [0, 1] [] [0] (g' := [(0, .pointer (some ⟨L.R, 0, none⟩))]) (qs := []) (by kernel_rfl) (by kernel_rfl) (by simp) (fun a7 hT7 => ?_)
  refine Gz.rend T ?_
  refine Gz.seqE T (by kernel_rfl : c12.pd = .seq c12.pd.pa c12.pd.pd) ?_
  refine Gz.regionE (id := 1) (l := c12.pd.pa.po) (r := [0, 1, 2, 3, 4]) T (by kernel_rfl) (by kernel_rfl) ?_
  refine Gz.row T K (by decide) hT7 [] [0, 1, 2] [3, 4] [8, 0] (g' := [(8, .pointer (some ⟨L.R, 2, none⟩)), (0, .pointer (some ⟨L.R, 0, none⟩))]) (qs := []) (by kernel_rfl) (by kernel_rfl) (by simp) (fun a8 hT8 => ?_)
  refine Mz.enter (o := opq c12.pd.pa 3) (q := .func 15) (f := 15) (cc := c18) (cap := []) (args := #[.tmp 8]) (ats := #[54]) (mvG T) hT8 [.pointer (some ⟨L.R, 2, none⟩)] 7 (by kernel_rfl) (by kernel_rfl) (by decide) (by kernel_rfl) (by kernel_rfl) Try.func15 (by kernel_rfl) (by kernel_rfl) (by kernel_rfl) (by kernel_rfl) (by kernel_rfl) (fun a9 hT9 => ?_)
  refine Gz.seqE T (by kernel_rfl : c18 = .seq c18.pa c18.pd) ?_
  refine Gz.regionE (id := 0) (l := c18.pa.po) (r := [0]) T (by kernel_rfl) (by kernel_rfl) ?_
  refine Gz.row T K (by decide) hT9 [] [0] [] [0] (g' := [(0, .pointer (some ⟨L.R, 2, none⟩))]) (qs := []) (by kernel_rfl) (by kernel_rfl) (by simp) (fun a10 hT10 => ?_)
  refine Gz.rend T ?_
  refine Gz.seqE T (by kernel_rfl : c18.pd = .seq c18.pd.pa c18.pd.pd) ?_
  refine Gz.regionE (id := 1) (l := c18.pd.pa.po) (r := [0, 1, 2, 3, 4]) T (by kernel_rfl) (by kernel_rfl) ?_
  refine Gz.row T K (by decide) hT10 [] [0, 1, 2] [3, 4] [5] (g' := [(5, .pointer (some ⟨L.R, 2, none⟩))]) (qs := []) (by kernel_rfl) (by kernel_rfl) (by simp) (fun a11 hT11 => ?_)
  refine Gz.aload (o := opq c18.pd.pa 3) (d := 6) (ats := #[72]) (y := .tmp 5) (f := 31) T (by decide) hT11 (by kernel_rfl) (by kernel_rfl) (by decide) (by kernel_rfl) (by kernel_rfl) Try.func31 (by kernel_rfl) (by kernel_rfl) (by kernel_rfl) (by kernel_rfl) (by kernel_rfl) (own_look H.good hK rfl) (fun a12 hT12 => ?_)
  refine Gz.row T K (by decide) hT12 [] [4] [] [2] (g' := [(2, .int .i64 i)]) (qs := []) (by kernel_rfl) (by kernel_rfl) (by simp) (fun a13 hT13 => ?_)
  refine Gz.rend T ?_
  refine Gz.retE T (by kernel_rfl) ?_
  refine Gz.back1 (t := 2) (v := .int .i64 i) (d := 9) T hT13 hT8 rfl Try.func15 (by kernel_rfl) (by kernel_rfl) (by kernel_rfl) (by decide) (fun a14 hT14 => ?_)
  refine Gz.row T K (by decide) hT14 [] [4] [] [4, 0] (g' := [(4, .int .i64 i), (0, .pointer (some ⟨L.R, 0, none⟩))]) (qs := []) (by kernel_rfl) (by kernel_rfl) (by simp) (fun a15 hT15 => ?_)
  refine Gz.rend T ?_
  refine Gz.seqE T (by kernel_rfl : c12.pd.pd = .seq c12.pd.pd.pa c12.pd.pd.pd) ?_
  refine Gz.seqE T (by kernel_rfl : c12.pd.pd.pa = .seq c12.pd.pd.pa.pa c12.pd.pd.pa.pd) ?_
  refine Gz.regionE (id := 2) (l := c12.pd.pd.pa.pa.po) (r := [0, 1, 2, 3, 4, 5]) T (by kernel_rfl) (by kernel_rfl) ?_
  refine Gz.row T K (by decide) hT15 [] [0, 1, 2, 3] [4, 5] [13, 10, 4, 0] (g' := [(13, .pointer (some ⟨L.R, 1, none⟩)), (10, .int .i64 i), (4, .int .i64 i), (0, .pointer (some ⟨L.R, 0, none⟩))]) (qs := []) (by kernel_rfl) (by kernel_rfl) (by simp) (fun a16 hT16 => ?_)
  refine Mz.enter (o := opq c12.pd.pd.pa.pa 4) (q := .func 15) (f := 15) (cc := c18) (cap := []) (args := #[.tmp 13]) (ats := #[54]) (mvG T) hT16 [.pointer (some ⟨L.R, 1, none⟩)] 7 (by kernel_rfl) (by kernel_rfl) (by decide) (by kernel_rfl) (by kernel_rfl) Try.func15 (by kernel_rfl) (by kernel_rfl) (by kernel_rfl) (by kernel_rfl) (by kernel_rfl) (fun a17 hT17 => ?_)
  refine Gz.seqE T (by kernel_rfl : c18 = .seq c18.pa c18.pd) ?_
  refine Gz.regionE (id := 0) (l := c18.pa.po) (r := [0]) T (by kernel_rfl) (by kernel_rfl) ?_
  refine Gz.row T K (by decide) hT17 [] [0] [] [0] (g' := [(0, .pointer (some ⟨L.R, 1, none⟩))]) (qs := []) (by kernel_rfl) (by kernel_rfl) (by simp) (fun a18 hT18 => ?_)
  refine Gz.rend T ?_
  refine Gz.seqE T (by kernel_rfl : c18.pd = .seq c18.pd.pa c18.pd.pd) ?_
  refine Gz.regionE (id := 1) (l := c18.pd.pa.po) (r := [0, 1, 2, 3, 4]) T (by kernel_rfl) (by kernel_rfl) ?_
  refine Gz.row T K (by decide) hT18 [] [0, 1, 2] [3, 4] [5] (g' := [(5, .pointer (some ⟨L.R, 1, none⟩))]) (qs := []) (by kernel_rfl) (by kernel_rfl) (by simp) (fun a19 hT19 => ?_)
  have h5ALd := hT5.live [3, 6, 8, 9, 10, 11] (g' := [(3, .pointer (some ⟨e.bl, 0, none⟩)), (6, .pointer (some ⟨e.bR, 0, none⟩)), (8, .pointer (some ⟨e.bF, 0, none⟩)), (9, .pointer (some ⟨e.bE, 0, none⟩)), (10, .pointer (some ⟨L.W, 0, none⟩)), (11, .slice oa i oc)]) (by kernel_rfl)
  have h12ALd := hT16.live [0, 4, 10] (g' := [(0, .pointer (some ⟨L.R, 0, none⟩)), (4, .int .i64 i), (10, .int .i64 i)]) (by kernel_rfl)
  have h18ALd := hT19.live [5] (g' := [(5, .pointer (some ⟨L.R, 1, none⟩))]) (by kernel_rfl)
  exact Goes.stop fun w₁ h₁ => ⟨hK.rely h₁, _, _, hO.rely h₁, a5, a16, a19, h5ALd, h12ALd, h18ALd, rfl⟩
theorem A_head0 (H : Hyp L D Shun w₀ e) (hi : i = D.N) (hK : KW L D w₀ true i w) {oa : Option Addr} {oc : Nat} (hO : OutAt L D 3 i oa oc w) {b5 : Act} (hb5 : Tm b5 48 [(3, .pointer (some ⟨e.bl, 0, none⟩)), (6, .pointer (some ⟨e.bR, 0, none⟩)), (8, .pointer (some ⟨e.bF, 0, none⟩)), (9, .pointer (some ⟨e.bE, 0, none⟩)), (10, .pointer (some ⟨L.W, 0, none⟩)), (11, .slice oa i oc)] []) :
    Goes Try.prog true (RX L true) (DX L Shun true .w0) (fun g w => KW L D w₀ true i w ∧ ∃ oa oc, OutAt L D 3 i oa oc w ∧ AW0 L D e cs i oa oc g) 4000 (G ((base 6).at b5 [.code c5.pd.pd.pd.pd.pd.pd.pd.pa.pa.pa, .inLoop c5.pd.pd.pd.pd.pd.pd.pd.pa.pa.pa, .inBlock 0, .code c5.pd.pd.pd.pd.pd.pd.pd.pd]) (cs)) w := by
  have TD : Tmd (RX L true) (DX L Shun true .w0) := tmd
  have T := TD.toTms
  have K : Ken Try.prog (RX L true) (DX L Shun true .w0) (Cw L D Shun w₀) w := ken H.good hK rfl
  refine Gz.seqE T (by kernel_rfl : c5.pd.pd.pd.pd.pd.pd.pd.pa.pa.pa = .seq c5.pd.pd.pd.pd.pd.pd.pd.pa.pa.pa.pa c5.pd.pd.pd.pd.pd.pd.pd.pa.pa.pa.pd) ?_
  refine Gz.seqE T (by kernel_rfl : c5.pd.pd.pd.pd.pd.pd.pd.pa.pa.pa.pa = .seq c5.pd.pd.pd.pd.pd.pd.pd.pa.pa.pa.pa.pa c5.pd.pd.pd.pd.pd.pd.pd.pa.pa.pa.pa.pd) ?_
  refine Gz.regionE (id := 8) (l := c5.pd.pd.pd.pd.pd.pd.pd.pa.pa.pa.pa.pa.po) (r := [0, 1, 2, 3, 4]) T (by kernel_rfl) (by kernel_rfl) ?_
  refine Gz.row T K (by decide) hb5 [] [0, 1] [2, 3, 4] [27, 3, 6, 8, 9, 10, 11] (g' := [(27, .int .i64 i), (3, .pointer (some ⟨e.bl, 0, none⟩)), (6, .pointer (some ⟨e.bR, 0, none⟩)), (8, .pointer (some ⟨e.bF, 0, none⟩)), (9, .pointer (some ⟨e.bE, 0, none⟩)), (10, .pointer (some ⟨L.W, 0, none⟩)), (11, .slice oa i oc)]) (qs := []) (by kernel_rfl) (by kernel_rfl) (by simp) (fun a1 hT1 => ?_)
  refine Gz.load (o := opq c5.pd.pd.pd.pd.pd.pd.pd.pa.pa.pa.pa.pa 2) (d := 28) (X := 22) (y := .tmp 3) (ad := ⟨e.bl, 0, none⟩) T K (by decide) hT1 (v := .slice e.la D.N e.cap) (by kernel_rfl) (by kernel_rfl) (by decide) (by kernel_rfl) (by kernel_rfl) (by kernel_rfl) (by kernel_rfl) (by kernel_rfl) H.cl (fun a2 hT2 => ?_)
  refine Gz.row T K (by decide) hT2 [] [3] [4] [29, 27, 3, 6, 8, 9, 10, 11] (g' := [(29, .int .i64 D.N), (27, .int .i64 i), (3, .pointer (some ⟨e.bl, 0, none⟩)), (6, .pointer (some ⟨e.bR, 0, none⟩)), (8, .pointer (some ⟨e.bF, 0, none⟩)), (9, .pointer (some ⟨e.bE, 0, none⟩)), (10, .pointer (some ⟨L.W, 0, none⟩)), (11, .slice oa i oc)]) (qs := []) (by kernel_rfl) (by kernel_rfl) (by simp) (fun a3 hT3 => ?_)
  refine Gz.hint (o := opq c5.pd.pd.pd.pd.pd.pd.pd.pa.pa.pa.pa.pa 4) (d := 30) T (by decide) hT3 (v := .bool false) (by kernel_rfl) (by kernel_rfl) (by decide) (by kernel_rfl) (by kernel_rfl) (congrArg some (n_nlt (by omega))) (fun a4 hT4 => ?_)
  refine Gz.rend T ?_
  refine Gz.condFE (q := .tmp 30) (y := c5.pd.pd.pd.pd.pd.pd.pd.pa.pa.pa.pa.pd.pa) (z := c5.pd.pd.pd.pd.pd.pd.pd.pa.pa.pa.pa.pd.pd) T (by kernel_rfl) hT4 (by kernel_rfl) ?_
  refine Gz.exitE (id := 0) T (by kernel_rfl) rfl ?_
  refine Gz.seqE T (by kernel_rfl : c5.pd.pd.pd.pd.pd.pd.pd.pd = .seq c5.pd.pd.pd.pd.pd.pd.pd.pd.pa c5.pd.pd.pd.pd.pd.pd.pd.pd.pd) ?_
  refine Gz.regionE (id := 14) (l := c5.pd.pd.pd.pd.pd.pd.pd.pd.pa.po) (r := [0]) T (by kernel_rfl) (by kernel_rfl) ?_
  refine Mz.enter (o := opq c5.pd.pd.pd.pd.pd.pd.pd.pd.pa 0) (q := .func 14) (f := 14) (cc := c13) (cap := []) (args := #[.tmp 10]) (ats := #[51]) (mvG T) hT4 [.pointer (some ⟨L.W, 0, none⟩)] 84 (by kernel_rfl) (by kernel_rfl) (by decide) (by kernel_rfl) (by kernel_rfl) Try.func14 (by kernel_rfl) (by kernel_rfl) (by kernel_rfl) (by kernel_rfl) (by kernel_rfl) (fun a5 hT5 => ?_)
  refine Gz.seqE T (by kernel_rfl : c13 = .seq c13.pa c13.pd) ?_
  refine Gz.condTE (q := .const (.bool true)) (y := c13.pa.pa) (z := c13.pa.pd) T (by kernel_rfl) hT5 (by kernel_rfl) ?_
  refine Gz.regionE (id := 0) (l := c13.pa.pa.po) (r := [0]) T (by kernel_rfl) (by kernel_rfl) ?_
  have h5AW0 := hT4.live [11] (g' := [(11, .slice oa i oc)]) (by kernel_rfl)
  have h13AW0 := hT5.live [0] (g' := [(0, .pointer (some ⟨L.W, 0, none⟩))]) (by kernel_rfl)
  exact Goes.stop fun w₁ h₁ => ⟨hK.rely h₁, _, _, hO.rely h₁, a4, a5, h5AW0, h13AW0, rfl⟩
theorem A_entry1 (H : Hyp L D Shun w₀ e) (hi : 0 < D.N) (hK : KW L D w₀ true 0 w) {b5 : Act} (hb5 : Tm b5 48 [(3, .pointer (some ⟨e.bl, 0, none⟩)), (6, .pointer (some ⟨e.bR, 0, none⟩)), (8, .pointer (some ⟨e.bF, 0, none⟩)), (9, .pointer (some ⟨e.bE, 0, none⟩)), (10, .pointer (some ⟨L.W, 0, none⟩))] []) {b8 : Act} (hb8 : Tm b8 7 [] []) :
    Goes Try.prog true (RX L true) (DX L Shun true .ld) (fun g w => KW L D w₀ true 0 w ∧ ∃ oa oc, OutAt L D 3 0 oa oc w ∧ ALd L D e cs 0 oa oc g) 5000 (G ((base 11).at b8 [.inRegion c8.pd.pd.po.toArray []]) (((base 6).at b5 [.inRegion c5.pd.pd.pd.pd.pd.pa.po.toArray [1], .code c5.pd.pd.pd.pd.pd.pd]) :: cs)) w := by
  have TD : Tmd (RX L true) (DX L Shun true .ld) := tmd
  have T := TD.toTms
  have K : Ken Try.prog (RX L true) (DX L Shun true .ld) (Cw L D Shun w₀) w := ken H.good hK rfl
  refine Gz.rend T ?_
  refine Gz.fin T ?_
  refine Gz.back0 (d := 25) T hb8 hb5 rfl Try.func11 (by kernel_rfl) (by kernel_rfl) (by decide) (fun a1 hT1 => ?_)
  refine Gz.rend T ?_
  refine Gz.seqE T (by kernel_rfl : c5.pd.pd.pd.pd.pd.pd = .seq c5.pd.pd.pd.pd.pd.pd.pa c5.pd.pd.pd.pd.pd.pd.pd) ?_
  refine Gz.regionE (id := 7) (l := c5.pd.pd.pd.pd.pd.pd.pa.po) (r := [0]) T (by kernel_rfl) (by kernel_rfl) ?_
  refine Gz.row T K (by decide) hT1 [] [0] [] [11, 3, 6, 8, 9, 10] (g' := [(11, .slice none 0 0), (3, .pointer (some ⟨e.bl, 0, none⟩)), (6, .pointer (some ⟨e.bR, 0, none⟩)), (8, .pointer (some ⟨e.bF, 0, none⟩)), (9, .pointer (some ⟨e.bE, 0, none⟩)), (10, .pointer (some ⟨L.W, 0, none⟩))]) (qs := []) (by kernel_rfl) (by kernel_rfl) (by simp) (fun a2 hT2 => ?_)
  refine Gz.rend T ?_
  refine Gz.seqE T (by kernel_rfl : c5.pd.pd.pd.pd.pd.pd.pd = .seq c5.pd.pd.pd.pd.pd.pd.pd.pa c5.pd.pd.pd.pd.pd.pd.pd.pd) ?_
  refine Gz.blockE (id := 0) (y := c5.pd.pd.pd.pd.pd.pd.pd.pa.pa) T (by kernel_rfl) ?_
  refine Gz.loopE (y := c5.pd.pd.pd.pd.pd.pd.pd.pa.pa.pa) T (by kernel_rfl) ?_
  have h5AHead := hT2.live [3, 6, 8, 9, 10, 11] (g' := [(3, .pointer (some ⟨e.bl, 0, none⟩)), (6, .pointer (some ⟨e.bR, 0, none⟩)), (8, .pointer (some ⟨e.bF, 0, none⟩)), (9, .pointer (some ⟨e.bE, 0, none⟩)), (10, .pointer (some ⟨L.W, 0, none⟩)), (11, .slice none 0 0)]) (by kernel_rfl)
  exact Goes.mono (A_head1 H hi hK OutAt.zero h5AHead) (by decide)
theorem A_entry0 (H : Hyp L D Shun w₀ e) (hi : 0 = D.N) (hK : KW L D w₀ true 0 w) {b5 : Act} (hb5 : Tm b5 48 [(3, .pointer (some ⟨e.bl, 0, none⟩)), (6, .pointer (some ⟨e.bR, 0, none⟩)), (8, .pointer (some ⟨e.bF, 0, none⟩)), (9, .pointer (some ⟨e.bE, 0, none⟩)), (10, .pointer (some ⟨L.W, 0, none⟩))] []) {b8 : Act} (hb8 : Tm b8 7 [] []) :
    Goes Try.prog true (RX L true) (DX L Shun true .w0) (fun g w => KW L D w₀ true 0 w ∧ ∃ oa oc, OutAt L D 3 0 oa oc w ∧ AW0 L D e cs 0 oa oc g) 5000 (G ((base 11).at b8 [.inRegion c8.pd.pd.po.toArray []]) (((base 6).at b5 [.inRegion c5.pd.pd.pd.pd.pd.pa.po.toArray [1], .code c5.pd.pd.pd.pd.pd.pd]) :: cs)) w := by
  have TD : Tmd (RX L true) (DX L Shun true .w0) := tmd
  have T := TD.toTms
  have K : Ken Try.prog (RX L true) (DX L Shun true .w0) (Cw L D Shun w₀) w := ken H.good hK rfl
  refine Gz.rend T ?_
  refine Gz.fin T ?_
  refine Gz.back0 (d := 25) T hb8 hb5 rfl Try.func11 (by kernel_rfl) (by kernel_rfl) (by decide) (fun a1 hT1 => ?_)
  refine Gz.rend T ?_
  refine Gz.seqE T (by kernel_rfl : c5.pd.pd.pd.pd.pd.pd = .seq c5.pd.pd.pd.pd.pd.pd.pa c5.pd.pd.pd.pd.pd.pd.pd) ?_
  refine Gz.regionE (id := 7) (l := c5.pd.pd.pd.pd.pd.pd.pa.po) (r := [0]) T (by kernel_rfl) (by kernel_rfl) ?_
  refine Gz.row T K (by decide) hT1 [] [0] [] [11, 3, 6, 8, 9, 10] (g' := [(11, .slice none 0 0), (3, .pointer (some ⟨e.bl, 0, none⟩)), (6, .pointer (some ⟨e.bR, 0, none⟩)), (8, .pointer (some ⟨e.bF, 0, none⟩)), (9, .pointer (some ⟨e.bE, 0, none⟩)), (10, .pointer (some ⟨L.W, 0, none⟩))]) (qs := []) (by kernel_rfl) (by kernel_rfl) (by simp) (fun a2 hT2 => ?_)
  refine Gz.rend T ?_
  refine Gz.seqE T (by kernel_rfl : c5.pd.pd.pd.pd.pd.pd.pd = .seq c5.pd.pd.pd.pd.pd.pd.pd.pa c5.pd.pd.pd.pd.pd.pd.pd.pd) ?_
  refine Gz.blockE (id := 0) (y := c5.pd.pd.pd.pd.pd.pd.pd.pa.pa) T (by kernel_rfl) ?_
  refine Gz.loopE (y := c5.pd.pd.pd.pd.pd.pd.pd.pa.pa.pa) T (by kernel_rfl) ?_
  have h5AHead := hT2.live [3, 6, 8, 9, 10, 11] (g' := [(3, .pointer (some ⟨e.bl, 0, none⟩)), (6, .pointer (some ⟨e.bR, 0, none⟩)), (8, .pointer (some ⟨e.bF, 0, none⟩)), (9, .pointer (some ⟨e.bE, 0, none⟩)), (10, .pointer (some ⟨L.W, 0, none⟩)), (11, .slice none 0 0)]) (by kernel_rfl)
  exact Goes.mono (A_head0 H hi hK OutAt.zero h5AHead) (by decide)

end
end Go.Proofs.Ytdmiilgdkmbmeaa.Rg
namespace Go.Proofs.Ytdmiilgdkmbmeaa.Rg
open Go Go.Conc
section
variable {L : Lay} {D : Dat} {Shun : Loc → Prop} {w₀ w : World} {e : Env} {cs : List Frame} {i : Nat} {g : Goroutine} {s : Sh}
theorem A_bl1_a (H : Hyp L D Shun w₀ e) (hK : KW L D w₀ true i w) (hi : i < D.N) (h : ∃ oa oc, OutAt L D 3 i oa oc w ∧ ABl L D e cs i oa oc g) :
    stepG Try.prog true g w = .comm g #[scase (L.bell !true) (.agg #[]) (.agg #[])] false .select w #[] ∧ ∀ w', KW L D w₀ true i w' → (∀ oa oc, OutAt L D 3 i oa oc w → OutAt L D 3 i oa oc w') → Goes Try.prog true (RX L true) (DX L Shun true .ld) (fun g w => KW L D w₀ true i w ∧ ∃ oa oc, OutAt L D 3 i oa oc w ∧ ALd L D e cs i oa oc g) 6000 (g.finishComm Try.prog #[scase (L.bell !true) (.agg #[]) (.agg #[])] .select 0 undef false) w' := by
  obtain ⟨oa, oc, hO, b5, b11, hb5, hb11, rfl⟩ := h
  refine ⟨step_select (P := Try.prog) (x := true) (w := w) (b := (base 13)) (k := [.code c11.pd.pd]) (rest := [1, 2]) (cs := (((base 6).at b5 [.inRegion c5.pd.pd.pd.pd.pd.pd.pd.pa.pa.pa.pd.pa.pd.pd.pd.po.toArray [1], .inBlock 1, .inLoop c5.pd.pd.pd.pd.pd.pd.pd.pa.pa.pa, .inBlock 0, .code c5.pd.pd.pd.pd.pd.pd.pd.pd]) :: cs)) hb11 (o := opq c11.pd.pa 0) (E := 42) (y := .tmp 2) (u := .tmp 3) (v := .agg #[]) (ti := (Try.prog.info? 42).getD default) (z := .agg #[]) (by kernel_rfl) (by kernel_rfl) (by decide) (by kernel_rfl) (by kernel_rfl) (by kernel_rfl) (by kernel_rfl) (by kernel_rfl), ?_⟩
  intro w' hK hO'
  have TD : Tmd (RX L true) (DX L Shun true .ld) := tmd
  have T := TD.toTms
  have K : Ken Try.prog (RX L true) (DX L Shun true .ld) (Cw L D Shun w₀) w' := ken H.good hK rfl
  replace hO := hO' oa oc hO
  rw [fin_comm (ops := c11.pd.pa.po.toArray) (i := 0) (d := 4) (by kernel_rfl)]
  have hT1 := hb11.put 4 (by decide) (.tuple #[.int .i64 0, .bool false])
  rw [res_select]
  generalize Act.put _ _ (.tuple #[.int .i64 0, .bool false]) = a1 at hT1 ⊢
  refine Gz.row T K (by decide) hT1 [] [1, 2] [] [6] (g' := [(6, .bool true)]) (qs := []) (by kernel_rfl) (by kernel_rfl) (by simp) (fun a2 hT2 => ?_)
  refine Gz.rend T ?_
  refine Gz.blockE (id := 0) (y := c11.pd.pd.pa) T (by kernel_rfl) ?_
  refine Gz.condTE (q := .tmp 6) (y := c11.pd.pd.pa.pa) (z := c11.pd.pd.pa.pd) T (by kernel_rfl) hT2 (by kernel_rfl) ?_
  refine Gz.skipE T (by kernel_rfl) ?_
  refine Gz.out T ?_
  refine Gz.fin T ?_
  refine Gz.back0 (d := 45) T hT2 hb5 rfl Try.func13 (by kernel_rfl) (by kernel_rfl) (by decide) (fun a3 hT3 => ?_)
  refine Gz.rend T ?_
  refine Gz.out T ?_
  refine Gz.again T ?_
  have h5AHead2 := hT3.live [3, 6, 8, 9, 10, 11] (g' := [(3, .pointer (some ⟨e.bl, 0, none⟩)), (6, .pointer (some ⟨e.bR, 0, none⟩)), (8, .pointer (some ⟨e.bF, 0, none⟩)), (9, .pointer (some ⟨e.bE, 0, none⟩)), (10, .pointer (some ⟨L.W, 0, none⟩)), (11, .slice oa i oc)]) (by kernel_rfl)
  exact Goes.mono (A_head1 H hi hK hO h5AHead2) (by decide)
theorem A_bl1_b (H : Hyp L D Shun w₀ e) (hK : KW L D w₀ true i w) (hi : i < D.N) (h : ∃ oa oc, OutAt L D 3 i oa oc w ∧ ABl L D e cs i oa oc g) :
    stepG Try.prog true g w = .comm g #[scase (L.bell !true) (.agg #[]) (.agg #[])] false .select w #[] ∧ ∀ w', KW L D w₀ true i w' → (∀ oa oc, OutAt L D 3 i oa oc w → OutAt L D 3 i oa oc w') → Goes Try.prog true (RX L true) (DX L Shun true .ld) (fun g w => KW L D w₀ true i w ∧ ∃ oa oc, OutAt L D 3 i oa oc w ∧ ALd L D e cs i oa oc g) 6000 (g.finishComm Try.prog #[scase (L.bell !true) (.agg #[]) (.agg #[])] .select (-1) undef false) w' := by
  obtain ⟨oa, oc, hO, b5, b11, hb5, hb11, rfl⟩ := h
  refine ⟨step_select (P := Try.prog) (x := true) (w := w) (b := (base 13)) (k := [.code c11.pd.pd]) (rest := [1, 2]) (cs := (((base 6).at b5 [.inRegion c5.pd.pd.pd.pd.pd.pd.pd.pa.pa.pa.pd.pa.pd.pd.pd.po.toArray [1], .inBlock 1, .inLoop c5.pd.pd.pd.pd.pd.pd.pd.pa.pa.pa, .inBlock 0, .code c5.pd.pd.pd.pd.pd.pd.pd.pd]) :: cs)) hb11 (o := opq c11.pd.pa 0) (E := 42) (y := .tmp 2) (u := .tmp 3) (v := .agg #[]) (ti := (Try.prog.info? 42).getD default) (z := .agg #[]) (by kernel_rfl) (by kernel_rfl) (by decide) (by kernel_rfl) (by kernel_rfl) (by kernel_rfl) (by kernel_rfl) (by kernel_rfl), ?_⟩
  intro w' hK hO'
  have TD : Tmd (RX L true) (DX L Shun true .ld) := tmd
  have T := TD.toTms
  have K : Ken Try.prog (RX L true) (DX L Shun true .ld) (Cw L D Shun w₀) w' := ken H.good hK rfl
  replace hO := hO' oa oc hO
  rw [fin_comm (ops := c11.pd.pa.po.toArray) (i := 0) (d := 4) (by kernel_rfl)]
  have hT1 := hb11.put 4 (by decide) (.tuple #[.int .i64 (-1), .bool false])
  rw [res_select]
  generalize Act.put _ _ (.tuple #[.int .i64 (-1), .bool false]) = a1 at hT1 ⊢
  refine Gz.row T K (by decide) hT1 [] [1, 2] [] [6] (g' := [(6, .bool false)]) (qs := []) (by kernel_rfl) (by kernel_rfl) (by simp) (fun a2 hT2 => ?_)
  refine Gz.rend T ?_
  refine Gz.blockE (id := 0) (y := c11.pd.pd.pa) T (by kernel_rfl) ?_
  refine Gz.condFE (q := .tmp 6) (y := c11.pd.pd.pa.pa) (z := c11.pd.pd.pa.pd) T (by kernel_rfl) hT2 (by kernel_rfl) ?_
  refine Gz.skipE T (by kernel_rfl) ?_
  refine Gz.out T ?_
  refine Gz.fin T ?_
  refine Gz.back0 (d := 45) T hT2 hb5 rfl Try.func13 (by kernel_rfl) (by kernel_rfl) (by decide) (fun a3 hT3 => ?_)
  refine Gz.rend T ?_
  refine Gz.out T ?_
  refine Gz.again T ?_
  have h5AHead2 := hT3.live [3, 6, 8, 9, 10, 11] (g' := [(3, .pointer (some ⟨e.bl, 0, none⟩)), (6, .pointer (some ⟨e.bR, 0, none⟩)), (8, .pointer (some ⟨e.bF, 0, none⟩)), (9, .pointer (some ⟨e.bE, 0, none⟩)), (10, .pointer (some ⟨L.W, 0, none⟩)), (11, .slice oa i oc)]) (by kernel_rfl)
  exact Goes.mono (A_head1 H hi hK hO h5AHead2) (by decide)
theorem A_bl0_a (H : Hyp L D Shun w₀ e) (hK : KW L D w₀ true i w) (hi : i = D.N) (h : ∃ oa oc, OutAt L D 3 i oa oc w ∧ ABl L D e cs i oa oc g) :
    stepG Try.prog true g w = .comm g #[scase (L.bell !true) (.agg #[]) (.agg #[])] false .select w #[] ∧ ∀ w', KW L D w₀ true i w' → (∀ oa oc, OutAt L D 3 i oa oc w → OutAt L D 3 i oa oc w') → Goes Try.prog true (RX L true) (DX L Shun true .w0) (fun g w => KW L D w₀ true i w ∧ ∃ oa oc, OutAt L D 3 i oa oc w ∧ AW0 L D e cs i oa oc g) 6000 (g.finishComm Try.prog #[scase (L.bell !true) (.agg #[]) (.agg #[])] .select 0 undef false) w' := by
  obtain ⟨oa, oc, hO, b5, b11, hb5, hb11, rfl⟩ := h
  refine ⟨step_select (P := Try.prog) (x := true) (w := w) (b := (base 13)) (k := [.code c11.pd.pd]) (rest := [1, 2]) (cs := (((base 6).at b5 [.inRegion c5.pd.pd.pd.pd.pd.pd.pd.pa.pa.pa.pd.pa.pd.pd.pd.po.toArray [1], .inBlock 1, .inLoop c5.pd.pd.pd.pd.pd.pd.pd.pa.pa.pa, .inBlock 0, .code c5.pd.pd.pd.pd.pd.pd.pd.pd]) :: cs)) hb11 (o := opq c11.pd.pa 0) (E := 42) (y := .tmp 2) (u := .tmp 3) (v := .agg #[]) (ti := (Try.prog.info? 42).getD default) (z := .agg #[]) (by kernel_rfl) (by kernel_rfl) (by decide) (by kernel_rfl) (by kernel_rfl) (by kernel_rfl) (by kernel_rfl) (by kernel_rfl), ?_⟩
  intro w' hK hO'
  have TD : Tmd (RX L true) (DX L Shun true .w0) := tmd
  have T := TD.toTms
  have K : Ken Try.prog (RX L true) (DX L Shun true .w0) (Cw L D Shun w₀) w' := ken H.good hK rfl
  replace hO := hO' oa oc hO
  rw [fin_comm (ops := c11.pd.pa.po.toArray) (i := 0) (d := 4) (by kernel_rfl)]
  have hT1 := hb11.put 4 (by decide) (.tuple #[.int .i64 0, .bool false])
  rw [res_select]
  generalize Act.put _ _ (.tuple #[.int .i64 0, .bool false]) = a1 at hT1 ⊢
  refine Gz.row T K (by decide) hT1 [] [1, 2] [] [6] (g' := [(6, .bool true)]) (qs := []) (by kernel_rfl) (by kernel_rfl) (by simp) (fun a2 hT2 => ?_)
  refine Gz.rend T ?_
  refine Gz.blockE (id := 0) (y := c11.pd.pd.pa) T (by kernel_rfl) ?_
  refine Gz.condTE (q := .tmp 6) (y := c11.pd.pd.pa.pa) (z := c11.pd.pd.pa.pd) T (by kernel_rfl) hT2 (by kernel_rfl) ?_
  refine Gz.skipE T (by kernel_rfl) ?_
  refine Gz.out T ?_
  refine Gz.fin T ?_
  refine Gz.back0 (d := 45) T hT2 hb5 rfl Try.func13 (by kernel_rfl) (by kernel_rfl) (by decide) (fun a3 hT3 => ?_)
  refine Gz.rend T ?_
  refine Gz.out T ?_
  refine Gz.again T ?_
  have h5AHead2 := hT3.live [3, 6, 8, 9, 10, 11] (g' := [(3, .pointer (some ⟨e.bl, 0, none⟩)), (6, .pointer (some ⟨e.bR, 0, none⟩)), (8, .pointer (some ⟨e.bF, 0, none⟩)), (9, .pointer (some ⟨e.bE, 0, none⟩)), (10, .pointer (some ⟨L.W, 0, none⟩)), (11, .slice oa i oc)]) (by kernel_rfl)
  exact Goes.mono (A_head0 H hi hK hO h5AHead2) (by decide)
theorem A_bl0_b (H : Hyp L D Shun w₀ e) (hK : KW L D w₀ true i w) (hi : i = D.N) (h : ∃ oa oc, OutAt L D 3 i oa oc w ∧ ABl L D e cs i oa oc g) :
    stepG Try.prog true g w = .comm g #[scase (L.bell !true) (.agg #[]) (.agg #[])] false .select w #[] ∧ ∀ w', KW L D w₀ true i w' → (∀ oa oc, OutAt L D 3 i oa oc w → OutAt L D 3 i oa oc w') → Goes Try.prog true (RX L true) (DX L Shun true .w0) (fun g w => KW L D w₀ true i w ∧ ∃ oa oc, OutAt L D 3 i oa oc w ∧ AW0 L D e cs i oa oc g) 6000 (g.finishComm Try.prog #[scase (L.bell !true) (.agg #[]) (.agg #[])] .select (-1) undef false) w' := by
  obtain ⟨oa, oc, hO, b5, b11, hb5, hb11, rfl⟩ := h
  refine ⟨step_select (P := Try.prog) (x := true) (w := w) (b := (base 13)) (k := [.code c11.pd.pd]) (rest := [1, 2]) (cs := (((base 6).at b5 [.inRegion c5.pd.pd.pd.pd.pd.pd.pd.pa.pa.pa.pd.pa.pd.pd.pd.po.toArray [1], .inBlock 1, .inLoop c5.pd.pd.pd.pd.pd.pd.pd.pa.pa.pa, .inBlock 0, .code c5.pd.pd.pd.pd.pd.pd.pd.pd]) :: cs)) hb11 (o := opq c11.pd.pa 0) (E := 42) (y := .tmp 2) (u := .tmp 3) (v := .agg #[]) (ti := (Try.prog.info? 42).getD default) (z := .agg #[]) (by kernel_rfl) (by kernel_rfl) (by decide) (by kernel_rfl) (by kernel_rfl) (by kernel_rfl) (by kernel_rfl) (by kernel_rfl), ?_⟩
  intro w' hK hO'
  have TD : Tmd (RX L true) (DX L Shun true .w0) := tmd
  have T := TD.toTms
  have K : Ken Try.prog (RX L true) (DX L Shun true .w0) (Cw L D Shun w₀) w' := ken H.good hK rfl
  replace hO := hO' oa oc hO
  rw [fin_comm (ops := c11.pd.pa.po.toArray) (i := 0) (d := 4) (by kernel_rfl)]
  have hT1 := hb11.put 4 (by decide) (.tuple #[.int .i64 (-1), .bool false])
  rw [res_select]
  generalize Act.put _ _ (.tuple #[.int .i64 (-1), .bool false]) = a1 at hT1 ⊢
  refine Gz.row T K (by decide) hT1 [] [1, 2] [] [6] (g' := [(6, .bool false)]) (qs := []) (by kernel_rfl) (by kernel_rfl) (by simp) (fun a2 hT2 => ?_)
  refine Gz.rend T ?_
  refine Gz.blockE (id := 0) (y := c11.pd.pd.pa) T (by kernel_rfl) ?_
  refine Gz.condFE (q := .tmp 6) (y := c11.pd.pd.pa.pa) (z := c11.pd.pd.pa.pd) T (by kernel_rfl) hT2 (by kernel_rfl) ?_
  refine Gz.skipE T (by kernel_rfl) ?_
  refine Gz.out T ?_
  refine Gz.fin T ?_
  refine Gz.back0 (d := 45) T hT2 hb5 rfl Try.func13 (by kernel_rfl) (by kernel_rfl) (by decide) (fun a3 hT3 => ?_)
  refine Gz.rend T ?_
  refine Gz.out T ?_
  refine Gz.again T ?_
  have h5AHead2 := hT3.live [3, 6, 8, 9, 10, 11] (g' := [(3, .pointer (some ⟨e.bl, 0, none⟩)), (6, .pointer (some ⟨e.bR, 0, none⟩)), (8, .pointer (some ⟨e.bF, 0, none⟩)), (9, .pointer (some ⟨e.bE, 0, none⟩)), (10, .pointer (some ⟨L.W, 0, none⟩)), (11, .slice oa i oc)]) (by kernel_rfl)
  exact Goes.mono (A_head0 H hi hK hO h5AHead2) (by decide)
theorem A_rc (H : Hyp L D Shun w₀ e) (hK : KW L D w₀ true i w) (hi : i < D.N) (h : ∃ oa oc, OutAt L D 3 i oa oc w ∧ ARc L D e cs i oa oc g) :
    stepG Try.prog true g w = .comm g #[rcase (L.bell true) (.agg #[])] true (.recv false) w #[] ∧ ∀ w', KW L D w₀ true i w' → (∀ oa oc, OutAt L D 3 i oa oc w → OutAt L D 3 i oa oc w') → Goes Try.prog true (RX L true) (DX L Shun true .ld) (fun g w => KW L D w₀ true i w ∧ ∃ oa oc, OutAt L D 3 i oa oc w ∧ ALd L D e cs i oa oc g) 5000 (g.finishComm Try.prog #[rcase (L.bell true) (.agg #[])] (.recv false) 0 (.agg #[]) true) w' := by
  obtain ⟨oa, oc, hO, b5, hb5, rfl⟩ := h
  refine ⟨step_recv (P := Try.prog) (x := true) (w := w) (b := (base 6)) (k := [.code c5.pd.pd.pd.pd.pd.pd.pd.pa.pa.pa.pd.pa.pd.pa.pd.pa.pd, .code c5.pd.pd.pd.pd.pd.pd.pd.pa.pa.pa.pd.pa.pd.pd, .inBlock 1, .inLoop c5.pd.pd.pd.pd.pd.pd.pd.pa.pa.pa, .inBlock 0, .code c5.pd.pd.pd.pd.pd.pd.pd.pd]) (rest := []) (cs := (cs)) hb5 (o := opq c5.pd.pd.pd.pd.pd.pd.pd.pa.pa.pa.pd.pa.pd.pa.pd.pa.pa 1) (T := 41) (E := 42) (cd := .both) (y := .tmp 38) (ti := (Try.prog.info? 42).getD default) (z := .agg #[]) (by kernel_rfl) (by kernel_rfl) (by decide) (by kernel_rfl) (by kernel_rfl) (by kernel_rfl) (by kernel_rfl) (by kernel_rfl), ?_⟩
  intro w' hK hO'
  have TD : Tmd (RX L true) (DX L Shun true .ld) := tmd
  have T := TD.toTms
  have K : Ken Try.prog (RX L true) (DX L Shun true .ld) (Cw L D Shun w₀) w' := ken H.good hK rfl
  replace hO := hO' oa oc hO
  rw [fin_comm (ops := c5.pd.pd.pd.pd.pd.pd.pd.pa.pa.pa.pd.pa.pd.pa.pd.pa.pa.po.toArray) (i := 1) (d := 39) (by kernel_rfl)]
  have hT1 := hb5.put 39 (by decide) (.agg #[])
  rw [res_recv]
  generalize Act.put _ _ (.agg #[]) = a1 at hT1 ⊢
  refine Gz.rend T ?_
  refine Gz.exitE (id := 1) T (by kernel_rfl) rfl ?_
  refine Gz.again T ?_
  have h5AHead2 := hT1.live [3, 6, 8, 9, 10, 11] (g' := [(3, .pointer (some ⟨e.bl, 0, none⟩)), (6, .pointer (some ⟨e.bR, 0, none⟩)), (8, .pointer (some ⟨e.bF, 0, none⟩)), (9, .pointer (some ⟨e.bE, 0, none⟩)), (10, .pointer (some ⟨L.W, 0, none⟩)), (11, .slice oa i oc)]) (by kernel_rfl)
  exact Goes.mono (A_head1 H hi hK hO h5AHead2) (by decide)

end
end Go.Proofs.Ytdmiilgdkmbmeaa.Rg
namespace Go.Proofs.Ytdmiilgdkmbmeaa.Rg
open Go Go.Conc
section
variable {L : Lay} {D : Dat} {Shun : Loc → Prop} {w₀ w : World} {e : Env} {cs : List Frame} {i : Nat} {g : Goroutine} {s : Sh}
theorem A_w0 (H : Hyp L D Shun w₀ e) (hK : KW L D w₀ true i w) (h : ∃ oa oc, OutAt L D 3 i oa oc w ∧ AW0 L D e cs i oa oc g) :
    ∃ g', stepG Try.prog true g w = .go g' w #[mkE .disable] ∧ Goes Try.prog true (RX L true) (DX L Shun true .w1) (fun g w => KW L D w₀ true i w ∧ ∃ oa oc, OutAt L D 3 i oa oc w ∧ AW1 L D e cs i oa oc g) 4000 g' w := by
  obtain ⟨oa, oc, hO, b5, b13, hb5, hb13, rfl⟩ := h
  obtain ⟨a1, hT1, hst⟩ := step_mark0 (P := Try.prog) (x := true) (ops := c13.pa.pa.po.toArray) (i := 0) (o := opq c13.pa.pa 0) (d := 7) (f := 21) (ags := #[]) (ats := #[]) (k := [.code c13.pd]) (rest := []) (cs := (((base 6).at b5 [.inRegion c5.pd.pd.pd.pd.pd.pd.pd.pd.pa.po.toArray [0], .code c5.pd.pd.pd.pd.pd.pd.pd.pd.pd]) :: cs)) (b := (base 14)) .disable (fun _ h => by cases h) (by decide) hb13 (by kernel_rfl) (by kernel_rfl) (by decide) (by kernel_rfl) (by kernel_rfl) Try.func21 (by kernel_rfl) (by kernel_rfl) (by kernel_rfl) (by kernel_rfl)
  refine ⟨_, hst w, ?_⟩
  have TD : Tmd (RX L true) (DX L Shun true .w1) := tmd
  have T := TD.toTms
  have K : Ken Try.prog (RX L true) (DX L Shun true .w1) (Cw L D Shun w₀) w := ken H.good hK rfl
  have hK0 := hK
  refine Gz.rend T ?_
  refine Gz.blockE (id := 0) (y := c13.pd.pa) T (by kernel_rfl) ?_
  refine Gz.loopE (y := c13.pd.pa.pa) T (by kernel_rfl) ?_
  refine Gz.blockE (id := 1) (y := c13.pd.pa.pa.pa) T (by kernel_rfl) ?_
  refine Gz.seqE T (by kernel_rfl : c13.pd.pa.pa.pa = .seq c13.pd.pa.pa.pa.pa c13.pd.pa.pa.pa.pd) ?_
  refine Gz.regionE (id := 1) (l := c13.pd.pa.pa.pa.pa.po) (r := [0, 1, 2, 3, 4]) T (by kernel_rfl) (by kernel_rfl) ?_
  refine Gz.row T K (by decide) hT1 [] [0, 1, 2] [3, 4] [10, 0] (g' := [(10, .pointer (some ⟨L.W, 0, none⟩)), (0, .pointer (some ⟨L.W, 0, none⟩))]) (qs := []) (by kernel_rfl) (by kernel_rfl) (by simp) (fun a2 hT2 => ?_)
  refine Mz.enter (o := opq c13.pd.pa.pa.pa.pa 3) (q := .func 22) (f := 22) (cc := c21) (cap := []) (args := #[.tmp 10]) (ats := #[48]) (mvG T) hT2 [.pointer (some ⟨L.W, 0, none⟩)] 7 (by kernel_rfl) (by kernel_rfl) (by decide) (by kernel_rfl) (by kernel_rfl) Try.func22 (by kernel_rfl) (by kernel_rfl) (by kernel_rfl) (by kernel_rfl) (by kernel_rfl) (fun a3 hT3 => ?_)
  refine Gz.seqE T (by kernel_rfl : c21 = .seq c21.pa c21.pd) ?_
  refine Gz.regionE (id := 0) (l := c21.pa.po) (r := [0]) T (by kernel_rfl) (by kernel_rfl) ?_
  refine Gz.row T K (by decide) hT3 [] [0] [] [0] (g' := [(0, .pointer (some ⟨L.W, 0, none⟩))]) (qs := []) (by kernel_rfl) (by kernel_rfl) (by simp) (fun a4 hT4 => ?_)
  refine Gz.rend T ?_
  refine Gz.seqE T (by kernel_rfl : c21.pd = .seq c21.pd.pa c21.pd.pd) ?_
  refine Gz.regionE (id := 1) (l := c21.pd.pa.po) (r := [0, 1, 2, 3, 4]) T (by kernel_rfl) (by kernel_rfl) ?_
  refine Gz.row T K (by decide) hT4 [] [0, 1, 2] [3, 4] [5] (g' := [(5, .pointer (some ⟨L.W, 0, none⟩))]) (qs := []) (by kernel_rfl) (by kernel_rfl) (by simp) (fun a5 hT5 => ?_)
  have h5AW1 := hb5.live [11] (g' := [(11, .slice oa i oc)]) (by kernel_rfl)
  have h13AW1 := hT2.live [0] (g' := [(0, .pointer (some ⟨L.W, 0, none⟩))]) (by kernel_rfl)
  have h21AW1 := hT5.live [5] (g' := [(5, .pointer (some ⟨L.W, 0, none⟩))]) (by kernel_rfl)
  exact Goes.stop fun w₁ h₁ => ⟨hK.rely h₁, _, _, hO.rely h₁, b5, a2, a5, h5AW1, h13AW1, h21AW1, rfl⟩
theorem A_w1a (H : Hyp L D Shun w₀ e) (hK : KW L D w₀ true i w) (h : ∃ oa oc, OutAt L D 3 i oa oc w ∧ AW1 L D e cs i oa oc g) (hs : ShAt L D s w) (hg : s.wg = .a) :
    ∃ g', stepG Try.prog true g w = .go g' w #[rdE L.grp] ∧ Goes Try.prog true (RX L true) (DX L Shun true .w2) (fun g w => KW L D w₀ true i w ∧ ∃ oa oc, OutAt L D 3 i oa oc w ∧ AW2 L D e cs i oa oc g) 4000 g' w := by
  obtain ⟨oa, oc, hO, b5, b13, b21, hb5, hb13, hb21, rfl⟩ := h
  obtain ⟨a1, hT1, hst⟩ := step_aload (P := Try.prog) (x := true) (w := w) (ops := c21.pd.pa.po.toArray) (i := 3) (o := opq c21.pd.pa 3) (d := 6) (f := 41) (ats := #[82]) (y := .tmp 5) (kd := .u64) (z := 4294967296) (k := [.code c21.pd.pd]) (rest := [4]) (cs := (((base 14).at b13 [.inRegion c13.pd.pa.pa.pa.pa.po.toArray [3, 4], .code c13.pd.pa.pa.pa.pd, .inBlock 1, .inLoop c13.pd.pa.pa, .inBlock 0]) :: ((base 6).at b5 [.inRegion c5.pd.pd.pd.pd.pd.pd.pd.pd.pa.po.toArray [0], .code c5.pd.pd.pd.pd.pd.pd.pd.pd.pd]) :: cs)) (b := (base 22)) (by decide) hb21 (by kernel_rfl) (by kernel_rfl) (by decide) (by kernel_rfl) (by kernel_rfl) Try.func41 (by kernel_rfl) (by kernel_rfl) (by kernel_rfl) (by kernel_rfl) (by kernel_rfl) ((by have := hs.grpc.1; rw [hg] at this; exact this))
  refine ⟨_, hst, ?_⟩
  have TD : Tmd (RX L true) (DX L Shun true .w2) := tmd
  have T := TD.toTms
  have K : Ken Try.prog (RX L true) (DX L Shun true .w2) (Cw L D Shun w₀) w := ken H.good hK rfl
  have hK0 := hK
  refine Gz.row T K (by decide) hT1 [] [4] [] [2] (g' := [(2, .int .u64 4294967296)]) (qs := []) (by kernel_rfl) (by kernel_rfl) (by simp) (fun a2 hT2 => ?_)
  refine Gz.rend T ?_
  refine Gz.retE T (by kernel_rfl) ?_
  refine Gz.back1 (t := 2) (v := .int .u64 4294967296) (d := 11) T hT2 hb13 rfl Try.func22 (by kernel_rfl) (by kernel_rfl) (by kernel_rfl) (by decide) (fun a3 hT3 => ?_)
  refine Gz.row T K (by decide) hT3 [] [4] [] [2, 0] (g' := [(2, .int .u64 4294967296), (0, .pointer (some ⟨L.W, 0, none⟩))]) (qs := []) (by kernel_rfl) (by kernel_rfl) (by simp) (fun a4 hT4 => ?_)
  refine Gz.rend T ?_
  refine Gz.seqE T (by kernel_rfl : c13.pd.pa.pa.pa.pd = .seq c13.pd.pa.pa.pa.pd.pa c13.pd.pa.pa.pa.pd.pd) ?_
  refine Gz.regionE (id := 2) (l := c13.pd.pa.pa.pa.pd.pa.po) (r := [0, 1, 2, 3]) T (by kernel_rfl) (by kernel_rfl) ?_
  refine Gz.row T K (by decide) hT4 [] [0, 1, 2, 3] [] [3, 2, 0] (g' := [(3, .int .i32 1), (2, .int .u64 4294967296), (0, .pointer (some ⟨L.W, 0, none⟩))]) (qs := []) (by kernel_rfl) (by kernel_rfl) (by simp) (fun a5 hT5 => ?_)
  refine Gz.rend T ?_
  refine Gz.seqE T (by kernel_rfl : c13.pd.pa.pa.pa.pd.pd = .seq c13.pd.pa.pa.pa.pd.pd.pa c13.pd.pa.pa.pa.pd.pd.pd) ?_
  refine Gz.regionE (id := 3) (l := c13.pd.pa.pa.pa.pd.pd.pa.po) (r := [0, 1, 2, 3]) T (by kernel_rfl) (by kernel_rfl) ?_
  refine Gz.row T K (by decide) hT5 [] [0, 1, 2, 3] [] [4, 3, 2, 0] (g' := [(4, .int .u32 0), (3, .int .i32 1), (2, .int .u64 4294967296), (0, .pointer (some ⟨L.W, 0, none⟩))]) (qs := []) (by kernel_rfl) (by kernel_rfl) (by simp) (fun a6 hT6 => ?_)
  refine Gz.rend T ?_
  refine Gz.seqE T (by kernel_rfl : c13.pd.pa.pa.pa.pd.pd.pd = .seq c13.pd.pa.pa.pa.pd.pd.pd.pa c13.pd.pa.pa.pa.pd.pd.pd.pd) ?_
  refine Gz.seqE T (by kernel_rfl : c13.pd.pa.pa.pa.pd.pd.pd.pa = .seq c13.pd.pa.pa.pa.pd.pd.pd.pa.pa c13.pd.pa.pa.pa.pd.pd.pd.pa.pd) ?_
  refine Gz.regionE (id := 4) (l := c13.pd.pa.pa.pa.pd.pd.pd.pa.pa.po) (r := [0, 1]) T (by kernel_rfl) (by kernel_rfl) ?_
  refine Gz.row T K (by decide) hT6 [] [0, 1] [] [19, 4, 2, 0] (g' := [(19, .bool false), (4, .int .u32 0), (2, .int .u64 4294967296), (0, .pointer (some ⟨L.W, 0, none⟩))]) (qs := []) (by kernel_rfl) (by kernel_rfl) (by simp) (fun a7 hT7 => ?_)
  refine Gz.rend T ?_
  refine Gz.condFE (q := .tmp 19) (y := c13.pd.pa.pa.pa.pd.pd.pd.pa.pd.pa) (z := c13.pd.pa.pa.pa.pd.pd.pd.pa.pd.pd) T (by kernel_rfl) hT7 (by kernel_rfl) ?_
  refine Gz.skipE T (by kernel_rfl) ?_
  refine Gz.seqE T (by kernel_rfl : c13.pd.pa.pa.pa.pd.pd.pd.pd = .seq c13.pd.pa.pa.pa.pd.pd.pd.pd.pa c13.pd.pa.pa.pa.pd.pd.pd.pd.pd) ?_
  refine Gz.regionE (id := 10) (l := c13.pd.pa.pa.pa.pd.pd.pd.pd.pa.po) (r := [0, 1, 2, 3, 4, 5, 6]) T (by kernel_rfl) (by kernel_rfl) ?_
  refine Gz.row T K (by decide) hT7 [] [0, 1, 2, 3, 4, 5] [6] [47, 45, 44, 4, 2, 0] (g' := [(47, .int .u64 4294967297), (45, .int .u64 4294967296), (44, .pointer (some ⟨L.W, 0, none⟩)), (4, .int .u32 0), (2, .int .u64 4294967296), (0, .pointer (some ⟨L.W, 0, none⟩))]) (qs := []) (by kernel_rfl) (by kernel_rfl) (by simp) (fun a8 hT8 => ?_)
  refine Mz.enter (o := opq c13.pd.pa.pa.pa.pd.pd.pd.pd.pa 6) (q := .func 26) (f := 26) (cc := c25) (cap := []) (args := #[.tmp 44, .tmp 45, .tmp 47]) (ats := #[48, 46, 46]) (mvG T) hT8 [.pointer (some ⟨L.W, 0, none⟩), .int .u64 4294967296, .int .u64 4294967297] 13 (by kernel_rfl) (by kernel_rfl) (by decide) (by kernel_rfl) (by kernel_rfl) Try.func26 (by kernel_rfl) (by kernel_rfl) (by kernel_rfl) (by kernel_rfl) (by kernel_rfl) (fun a9 hT9 => ?_)
  refine Gz.seqE T (by kernel_rfl : c25 = .seq c25.pa c25.pd) ?_
  refine Gz.regionE (id := 0) (l := c25.pa.po) (r := [0]) T (by kernel_rfl) (by kernel_rfl) ?_
  refine Gz.row T K (by decide) hT9 [] [0] [] [0, 1, 2] (g' := [(0, .pointer (some ⟨L.W, 0, none⟩)), (1, .int .u64 4294967296), (2, .int .u64 4294967297)]) (qs := []) (by kernel_rfl) (by kernel_rfl) (by simp) (fun a10 hT10 => ?_)
  refine Gz.rend T ?_
  refine Gz.seqE T (by kernel_rfl : c25.pd = .seq c25.pd.pa c25.pd.pd) ?_
  refine Gz.regionE (id := 1) (l := c25.pd.pa.po) (r := [0, 1, 2, 3, 4, 5, 6]) T (by kernel_rfl) (by kernel_rfl) ?_
  refine Gz.row T K (by decide) hT10 [] [0, 1, 2, 3, 4] [5, 6] [11, 10, 9] (g' := [(11, .int .u64 4294967297), (10, .int .u64 4294967296), (9, .pointer (some ⟨L.W, 0, none⟩))]) (qs := []) (by kernel_rfl) (by kernel_rfl) (by simp) (fun a11 hT11 => ?_)
  have h5AW2 := hb5.live [11] (g' := [(11, .slice oa i oc)]) (by kernel_rfl)
  have h13AW2 := hT8.live [0, 2, 4] (g' := [(0, .pointer (some ⟨L.W, 0, none⟩)), (2, .int .u64 4294967296), (4, .int .u32 0)]) (by kernel_rfl)
  have h25AW2 := hT11.live [9, 10, 11] (g' := [(9, .pointer (some ⟨L.W, 0, none⟩)), (10, .int .u64 4294967296), (11, .int .u64 4294967297)]) (by kernel_rfl)
  exact Goes.stop fun w₁ h₁ => ⟨hK.rely h₁, _, _, hO.rely h₁, b5, a8, a11, h5AW2, h13AW2, h25AW2, rfl⟩
theorem A_w1c (H : Hyp L D Shun w₀ e) (hK : KW L D w₀ true i w) (h : ∃ oa oc, OutAt L D 3 i oa oc w ∧ AW1 L D e cs i oa oc g) (hs : ShAt L D s w) (hg : s.wg = .c) :
    ∃ g', stepG Try.prog true g w = .go g' w #[rdE L.grp] ∧ Goes Try.prog true (RX L true) (DX L Shun true .we) (fun g w => KW L D w₀ true i w ∧ ∃ oa oc, OutAt L D 3 i oa oc w ∧ AWe1 L D e cs i oa oc g) 4000 g' w := by
  obtain ⟨oa, oc, hO, b5, b13, b21, hb5, hb13, hb21, rfl⟩ := h
  obtain ⟨a1, hT1, hst⟩ := step_aload (P := Try.prog) (x := true) (w := w) (ops := c21.pd.pa.po.toArray) (i := 3) (o := opq c21.pd.pa 3) (d := 6) (f := 41) (ats := #[82]) (y := .tmp 5) (kd := .u64) (z := 0) (k := [.code c21.pd.pd]) (rest := [4]) (cs := (((base 14).at b13 [.inRegion c13.pd.pa.pa.pa.pa.po.toArray [3, 4], .code c13.pd.pa.pa.pa.pd, .inBlock 1, .inLoop c13.pd.pa.pa, .inBlock 0]) :: ((base 6).at b5 [.inRegion c5.pd.pd.pd.pd.pd.pd.pd.pd.pa.po.toArray [0], .code c5.pd.pd.pd.pd.pd.pd.pd.pd.pd]) :: cs)) (b := (base 22)) (by decide) hb21 (by kernel_rfl) (by kernel_rfl) (by decide) (by kernel_rfl) (by kernel_rfl) Try.func41 (by kernel_rfl) (by kernel_rfl) (by kernel_rfl) (by kernel_rfl) (by kernel_rfl) ((by have := hs.grpc.1; rw [hg] at this; exact this))
  refine ⟨_, hst, ?_⟩
  have TD : Tmd (RX L true) (DX L Shun true .we) := tmd
  have T := TD.toTms
  have K : Ken Try.prog (RX L true) (DX L Shun true .we) (Cw L D Shun w₀) w := ken H.good hK rfl
  have hK0 := hK
  refine Gz.row T K (by decide) hT1 [] [4] [] [2] (g' := [(2, .int .u64 0)]) (qs := []) (by kernel_rfl) (by kernel_rfl) (by simp) (fun a2 hT2 => ?_)
  refine Gz.rend T ?_
  refine Gz.retE T (by kernel_rfl) ?_
  refine Gz.back1 (t := 2) (v := .int .u64 0) (d := 11) T hT2 hb13 rfl Try.func22 (by kernel_rfl) (by kernel_rfl) (by kernel_rfl) (by decide) (fun a3 hT3 => ?_)
  refine Gz.row T K (by decide) hT3 [] [4] [] [2, 0] (g' := [(2, .int .u64 0), (0, .pointer (some ⟨L.W, 0, none⟩))]) (qs := []) (by kernel_rfl) (by kernel_rfl) (by simp) (fun a4 hT4 => ?_)
  refine Gz.rend T ?_
  refine Gz.seqE T (by kernel_rfl : c13.pd.pa.pa.pa.pd = .seq c13.pd.pa.pa.pa.pd.pa c13.pd.pa.pa.pa.pd.pd) ?_
  refine Gz.regionE (id := 2) (l := c13.pd.pa.pa.pa.pd.pa.po) (r := [0, 1, 2, 3]) T (by kernel_rfl) (by kernel_rfl) ?_
  refine Gz.row T K (by decide) hT4 [] [0, 1, 2, 3] [] [3, 2, 0] (g' := [(3, .int .i32 0), (2, .int .u64 0), (0, .pointer (some ⟨L.W, 0, none⟩))]) (qs := []) (by kernel_rfl) (by kernel_rfl) (by simp) (fun a5 hT5 => ?_)
  refine Gz.rend T ?_
  refine Gz.seqE T (by kernel_rfl : c13.pd.pa.pa.pa.pd.pd = .seq c13.pd.pa.pa.pa.pd.pd.pa c13.pd.pa.pa.pa.pd.pd.pd) ?_
  refine Gz.regionE (id := 3) (l := c13.pd.pa.pa.pa.pd.pd.pa.po) (r := [0, 1, 2, 3]) T (by kernel_rfl) (by kernel_rfl) ?_
  refine Gz.row T K (by decide) hT5 [] [0, 1, 2, 3] [] [4, 3, 2, 0] (g' := [(4, .int .u32 0), (3, .int .i32 0), (2, .int .u64 0), (0, .pointer (some ⟨L.W, 0, none⟩))]) (qs := []) (by kernel_rfl) (by kernel_rfl) (by simp) (fun a6 hT6 => ?_)
  refine Gz.rend T ?_
  refine Gz.seqE T (by kernel_rfl : c13.pd.pa.pa.pa.pd.pd.pd = .seq c13.pd.pa.pa.pa.pd.pd.pd.pa c13.pd.pa.pa.pa.pd.pd.pd.pd) ?_
  refine Gz.seqE T (by kernel_rfl : c13.pd.pa.pa.pa.pd.pd.pd.pa = .seq c13.pd.pa.pa.pa.pd.pd.pd.pa.pa c13.pd.pa.pa.pa.pd.pd.pd.pa.pd) ?_
  refine Gz.regionE (id := 4) (l := c13.pd.pa.pa.pa.pd.pd.pd.pa.pa.po) (r := [0, 1]) T (by kernel_rfl) (by kernel_rfl) ?_
  refine Gz.row T K (by decide) hT6 [] [0, 1] [] [19, 4, 2, 0] (g' := [(19, .bool true), (4, .int .u32 0), (2, .int .u64 0), (0, .pointer (some ⟨L.W, 0, none⟩))]) (qs := []) (by kernel_rfl) (by kernel_rfl) (by simp) (fun a7 hT7 => ?_)
  refine Gz.rend T ?_
  refine Gz.condTE (q := .tmp 19) (y := c13.pd.pa.pa.pa.pd.pd.pd.pa.pd.pa) (z := c13.pd.pa.pa.pa.pd.pd.pd.pa.pd.pd) T (by kernel_rfl) hT7 (by kernel_rfl) ?_
  refine Gz.seqE T (by kernel_rfl : c13.pd.pa.pa.pa.pd.pd.pd.pa.pd.pa = .seq c13.pd.pa.pa.pa.pd.pd.pd.pa.pd.pa.pa c13.pd.pa.pa.pa.pd.pd.pd.pa.pd.pa.pd) ?_
  refine Gz.condTE (q := .const (.bool true)) (y := c13.pd.pa.pa.pa.pd.pd.pd.pa.pd.pa.pa.pa) (z := c13.pd.pa.pa.pa.pd.pd.pd.pa.pd.pa.pa.pd) T (by kernel_rfl) hT7 (by kernel_rfl) ?_
  refine Gz.seqE T (by kernel_rfl : c13.pd.pa.pa.pa.pd.pd.pd.pa.pd.pa.pa.pa = .seq c13.pd.pa.pa.pa.pd.pd.pd.pa.pd.pa.pa.pa.pa c13.pd.pa.pa.pa.pd.pd.pd.pa.pd.pa.pa.pa.pd) ?_
  refine Gz.regionE (id := 5) (l := c13.pd.pa.pa.pa.pd.pd.pd.pa.pd.pa.pa.pa.pa.po) (r := [0]) T (by kernel_rfl) (by kernel_rfl) ?_
  have h5AWe1 := hb5.live [11] (g' := [(11, .slice oa i oc)]) (by kernel_rfl)
  have h13AWe1 := hT7.live [0, 2, 4] (g' := [(0, .pointer (some ⟨L.W, 0, none⟩)), (2, .int .u64 0), (4, .int .u32 0)]) (by kernel_rfl)
  exact Goes.stop fun w₁ h₁ => ⟨hK.rely h₁, _, _, hO.rely h₁, b5, a7, h5AWe1, h13AWe1, rfl⟩
theorem A_w2a (H : Hyp L D Shun w₀ e) (h : ∃ oa oc, OutAt L D 3 i oa oc w ∧ AW2 L D e cs i oa oc g) (hs : ShAt L D s w) (hg : s.wg = .a) (hK : KW L D w₀ true i (w.setCell ⟨L.W, 0, none⟩ (.int .u64 4294967297))) :
    ∃ g', stepG Try.prog true g w = .go g' (w.setCell ⟨L.W, 0, none⟩ (.int .u64 4294967297)) #[rdE L.grp, wrE L.grp] ∧ Goes Try.prog true (RX L true) (DX L Shun true .w3) (fun g w => KW L D w₀ true i w ∧ ∃ oa oc, OutAt L D 3 i oa oc w ∧ AW3 L D e cs i oa oc g) 4000 g' (w.setCell ⟨L.W, 0, none⟩ (.int .u64 4294967297)) := by
  obtain ⟨oa, oc, hO, b5, b13, b25, hb5, hb13, hb25, rfl⟩ := h
  obtain ⟨a1, hT1, hst⟩ := step_casT (P := Try.prog) (x := true) (w := w) (ops := c25.pd.pa.po.toArray) (i := 5) (o := opq c25.pd.pa 5) (d := 12) (f := 42) (ats := #[82, 46, 46]) (y := .tmp 9) (y' := .tmp 10) (z := .tmp 11) (kd := .u64) (v := 4294967296) (u := 4294967297) (k := [.code c25.pd.pd]) (rest := [6]) (cs := (((base 14).at b13 [.inRegion c13.pd.pa.pa.pa.pd.pd.pd.pd.pa.po.toArray [6], .code c13.pd.pa.pa.pa.pd.pd.pd.pd.pd, .inBlock 1, .inLoop c13.pd.pa.pa, .inBlock 0]) :: ((base 6).at b5 [.inRegion c5.pd.pd.pd.pd.pd.pd.pd.pd.pa.po.toArray [0], .code c5.pd.pd.pd.pd.pd.pd.pd.pd.pd]) :: cs)) (b := (base 26)) (by decide) hb25 (by kernel_rfl) (by kernel_rfl) (by decide) (by kernel_rfl) (by kernel_rfl) Try.func42 (by kernel_rfl) (by kernel_rfl) (by kernel_rfl) (by kernel_rfl) (by kernel_rfl) (by kernel_rfl) (by kernel_rfl) ((by have := hs.grpc.1; rw [hg] at this; exact this)) (hs.grpc.2)
  refine ⟨_, hst, ?_⟩
  replace hO := hO.turn H.good (Turn.set w (ad := ⟨L.W, 0, none⟩) (.int .u64 4294967297) (.inr (.inr (.inr (.inr rfl)))))
  have TD : Tmd (RX L true) (DX L Shun true .w3) := tmd
  have T := TD.toTms
  have K : Ken Try.prog (RX L true) (DX L Shun true .w3) (Cw L D Shun w₀) (w.setCell ⟨L.W, 0, none⟩ (.int .u64 4294967297)) := ken H.good hK rfl
  have hK0 := hK
  refine Gz.row T K (by decide) hT1 [] [6] [] [6] (g' := [(6, .bool true)]) (qs := []) (by kernel_rfl) (by kernel_rfl) (by simp) (fun a2 hT2 => ?_)
  refine Gz.rend T ?_
  refine Gz.retE T (by kernel_rfl) ?_
  refine Gz.back1 (t := 6) (v := .bool true) (d := 48) T hT2 hb13 rfl Try.func26 (by kernel_rfl) (by kernel_rfl) (by kernel_rfl) (by decide) (fun a3 hT3 => ?_)
  refine Gz.rend T ?_
  refine Gz.condTE (q := .tmp 48) (y := c13.pd.pa.pa.pa.pd.pd.pd.pd.pd.pa) (z := c13.pd.pa.pa.pa.pd.pd.pd.pd.pd.pd) T (by kernel_rfl) hT3 (by kernel_rfl) ?_
  refine Gz.seqE T (by kernel_rfl : c13.pd.pa.pa.pa.pd.pd.pd.pd.pd.pa = .seq c13.pd.pa.pa.pa.pd.pd.pd.pd.pd.pa.pa c13.pd.pa.pa.pa.pd.pd.pd.pd.pd.pa.pd) ?_
  refine Gz.seqE T (by kernel_rfl : c13.pd.pa.pa.pa.pd.pd.pd.pd.pd.pa.pa = .seq c13.pd.pa.pa.pa.pd.pd.pd.pd.pd.pa.pa.pa c13.pd.pa.pa.pa.pd.pd.pd.pd.pd.pa.pa.pd) ?_
  refine Gz.regionE (id := 11) (l := c13.pd.pa.pa.pa.pd.pd.pd.pd.pd.pa.pa.pa.po) (r := [0, 1, 2, 3]) T (by kernel_rfl) (by kernel_rfl) ?_
  refine Gz.row T K (by decide) hT3 [] [0, 1, 2, 3] [] [52, 0, 2] (g' := [(52, .bool true), (0, .pointer (some ⟨L.W, 0, none⟩)), (2, .int .u64 4294967296)]) (qs := []) (by kernel_rfl) (by kernel_rfl) (by simp) (fun a4 hT4 => ?_)
  refine Gz.rend T ?_
  refine Gz.condTE (q := .tmp 52) (y := c13.pd.pa.pa.pa.pd.pd.pd.pd.pd.pa.pa.pd.pa) (z := c13.pd.pa.pa.pa.pd.pd.pd.pd.pd.pa.pa.pd.pd) T (by kernel_rfl) hT4 (by kernel_rfl) ?_
  refine Gz.regionE (id := 12) (l := c13.pd.pa.pa.pa.pd.pd.pd.pd.pd.pa.pa.pd.pa.po) (r := [0, 1, 2, 3, 4]) T (by kernel_rfl) (by kernel_rfl) ?_
  refine Gz.row T K (by decide) hT4 [] [0, 1, 2] [3, 4] [55, 0, 2] (g' := [(55, .pointer (some ⟨L.W, 1, none⟩)), (0, .pointer (some ⟨L.W, 0, none⟩)), (2, .int .u64 4294967296)]) (qs := []) (by kernel_rfl) (by kernel_rfl) (by simp) (fun a5 hT5 => ?_)
  refine Gz.conv (o := opq c13.pd.pa.pa.pa.pd.pd.pd.pd.pd.pa.pa.pd.pa 3) (d := 56) (src := 68) (dst := 64) (t := 49) (y := .tmp 55) T (by decide) hT5 (ad := ⟨L.W, 1, none⟩) (by kernel_rfl) (by kernel_rfl) (by decide) (by kernel_rfl) (by kernel_rfl) (by kernel_rfl) (by kernel_rfl) (by kernel_rfl) (by kernel_rfl) (fun w₁ h₁ => (hK.rely h₁).grpc.2) (fun a6 hT6 => ?_)
  obtain ⟨a7, hT7, hst2⟩ := step_markAt (P := Try.prog) (x := true) (ops := c13.pd.pa.pa.pa.pd.pd.pd.pd.pd.pa.pa.pd.pa.po.toArray) (i := 4) (o := opq c13.pd.pa.pa.pa.pd.pd.pd.pd.pd.pa.pa.pd.pa 4) (d := 57) (f := 28) (ags := #[.tmp 56]) (ats := #[64]) (y := .tmp 56) (l := []) (k := [.code c13.pd.pa.pa.pa.pd.pd.pd.pd.pd.pa.pd, .inBlock 1, .inLoop c13.pd.pa.pa, .inBlock 0]) (rest := []) (cs := (((base 6).at b5 [.inRegion c5.pd.pd.pd.pd.pd.pd.pd.pd.pa.po.toArray [0], .code c5.pd.pd.pd.pd.pd.pd.pd.pd.pd]) :: cs)) (b := (base 14)) .write (fun _ _ h => by cases h) (by decide) hT6 (by kernel_rfl) (by kernel_rfl) (by decide) (by kernel_rfl) (by kernel_rfl) Try.func28 (by kernel_rfl) (by kernel_rfl) (by kernel_rfl) (by kernel_rfl) rfl (by kernel_rfl)
  refine Gz.st T rfl (fun w₁ h₁ => ⟨_, hst2 w₁, dx_said H.good (hK.rely h₁).size rfl⟩) ?_
  refine Gz.rend T ?_
  refine Gz.seqE T (by kernel_rfl : c13.pd.pa.pa.pa.pd.pd.pd.pd.pd.pa.pd = .seq c13.pd.pa.pa.pa.pd.pd.pd.pd.pd.pa.pd.pa c13.pd.pa.pa.pa.pd.pd.pd.pd.pd.pa.pd.pd) ?_
  refine Gz.regionE (id := 13) (l := c13.pd.pa.pa.pa.pd.pd.pd.pd.pd.pa.pd.pa.po) (r := [0]) T (by kernel_rfl) (by kernel_rfl) ?_
  refine Gz.row T K (by decide) hT7 [] [0] [] [5, 0, 2] (g' := [(5, .bool false), (0, .pointer (some ⟨L.W, 0, none⟩)), (2, .int .u64 4294967296)]) (qs := []) (by kernel_rfl) (by kernel_rfl) (by simp) (fun a8 hT8 => ?_)
  refine Gz.rend T ?_
  refine Gz.seqE T (by kernel_rfl : c13.pd.pa.pa.pa.pd.pd.pd.pd.pd.pa.pd.pd = .seq c13.pd.pa.pa.pa.pd.pd.pd.pd.pd.pa.pd.pd.pa c13.pd.pa.pa.pa.pd.pd.pd.pd.pd.pa.pd.pd.pd) ?_
  refine Gz.seqE T (by kernel_rfl : c13.pd.pa.pa.pa.pd.pd.pd.pd.pd.pa.pd.pd.pa = .seq c13.pd.pa.pa.pa.pd.pd.pd.pd.pd.pa.pd.pd.pa.pa c13.pd.pa.pa.pa.pd.pd.pd.pd.pd.pa.pd.pd.pa.pd) ?_
  refine Gz.regionE (id := 14) (l := c13.pd.pa.pa.pa.pd.pd.pd.pd.pd.pa.pd.pd.pa.pa.po) (r := [0, 1, 2, 3, 4, 5]) T (by kernel_rfl) (by kernel_rfl) ?_
  refine Gz.row T K (by decide) hT8 [] [0, 1, 2, 3, 4, 5] [] [63, 5, 0] (g' := [(63, .bool false), (5, .bool false), (0, .pointer (some ⟨L.W, 0, none⟩))]) (qs := []) (by kernel_rfl) (by kernel_rfl) (by simp) (fun a9 hT9 => ?_)
  refine Gz.rend T ?_
  refine Gz.condFE (q := .tmp 63) (y := c13.pd.pa.pa.pa.pd.pd.pd.pd.pd.pa.pd.pd.pa.pd.pa) (z := c13.pd.pa.pa.pa.pd.pd.pd.pd.pd.pa.pd.pd.pa.pd.pd) T (by kernel_rfl) hT9 (by kernel_rfl) ?_
  refine Gz.skipE T (by kernel_rfl) ?_
  refine Gz.seqE T (by kernel_rfl : c13.pd.pa.pa.pa.pd.pd.pd.pd.pd.pa.pd.pd.pd = .seq c13.pd.pa.pa.pa.pd.pd.pd.pd.pd.pa.pd.pd.pd.pa c13.pd.pa.pa.pa.pd.pd.pd.pd.pd.pa.pd.pd.pd.pd) ?_
  refine Gz.regionE (id := 19) (l := c13.pd.pa.pa.pa.pd.pd.pd.pd.pd.pa.pd.pd.pd.pa.po) (r := [0, 1, 2, 3, 4]) T (by kernel_rfl) (by kernel_rfl) ?_
  refine Gz.row T K (by decide) hT9 [] [0, 1, 2, 3] [4] [71, 70, 0] (g' := [(71, .bool false), (70, .pointer (some ⟨L.W, 1, none⟩)), (0, .pointer (some ⟨L.W, 0, none⟩))]) (qs := []) (by kernel_rfl) (by kernel_rfl) (by simp) (fun a10 hT10 => ?_)
  have h5AW3 := hb5.live [11] (g' := [(11, .slice oa i oc)]) (by kernel_rfl)
  have h13AW3 := hT10.live [0, 70, 71] (g' := [(0, .pointer (some ⟨L.W, 0, none⟩)), (70, .pointer (some ⟨L.W, 1, none⟩)), (71, .bool false)]) (by kernel_rfl)
  exact Goes.stop fun w₁ h₁ => ⟨hK.rely h₁, _, _, hO.rely h₁, b5, a10, h5AW3, h13AW3, rfl⟩
theorem A_w2c (H : Hyp L D Shun w₀ e) (hK : KW L D w₀ true i w) (h : ∃ oa oc, OutAt L D 3 i oa oc w ∧ AW2 L D e cs i oa oc g) (hs : ShAt L D s w) (hg : s.wg = .c) :
    ∃ g', stepG Try.prog true g w = .go g' w #[rdE L.grp] ∧ Goes Try.prog true (RX L true) (DX L Shun true .w1) (fun g w => KW L D w₀ true i w ∧ ∃ oa oc, OutAt L D 3 i oa oc w ∧ AW1 L D e cs i oa oc g) 4000 g' w := by
  obtain ⟨oa, oc, hO, b5, b13, b25, hb5, hb13, hb25, rfl⟩ := h
  obtain ⟨a1, hT1, hst⟩ := step_casF (P := Try.prog) (x := true) (w := w) (ops := c25.pd.pa.po.toArray) (i := 5) (o := opq c25.pd.pa 5) (d := 12) (f := 42) (ats := #[82, 46, 46]) (y := .tmp 9) (y' := .tmp 10) (z := .tmp 11) (kd := .u64) (v := 4294967296) (u := 4294967297) (k := [.code c25.pd.pd]) (rest := [6]) (cs := (((base 14).at b13 [.inRegion c13.pd.pa.pa.pa.pd.pd.pd.pd.pa.po.toArray [6], .code c13.pd.pa.pa.pa.pd.pd.pd.pd.pd, .inBlock 1, .inLoop c13.pd.pa.pa, .inBlock 0]) :: ((base 6).at b5 [.inRegion c5.pd.pd.pd.pd.pd.pd.pd.pd.pa.po.toArray [0], .code c5.pd.pd.pd.pd.pd.pd.pd.pd.pd]) :: cs)) (b := (base 26)) (by decide) hb25 (by kernel_rfl) (by kernel_rfl) (by decide) (by kernel_rfl) (by kernel_rfl) Try.func42 (by kernel_rfl) (by kernel_rfl) (by kernel_rfl) (by kernel_rfl) (by kernel_rfl) (by kernel_rfl) (by kernel_rfl) ((by have := hs.grpc.1; rw [hg] at this; exact this)) (hs.grpc.2) (by decide)
  refine ⟨_, hst, ?_⟩
  have TD : Tmd (RX L true) (DX L Shun true .w1) := tmd
  have T := TD.toTms
  have K : Ken Try.prog (RX L true) (DX L Shun true .w1) (Cw L D Shun w₀) w := ken H.good hK rfl
  have hK0 := hK
  refine Gz.row T K (by decide) hT1 [] [6] [] [6] (g' := [(6, .bool false)]) (qs := []) (by kernel_rfl) (by kernel_rfl) (by simp) (fun a2 hT2 => ?_)
  refine Gz.rend T ?_
  refine Gz.retE T (by kernel_rfl) ?_
  refine Gz.back1 (t := 6) (v := .bool false) (d := 48) T hT2 hb13 rfl Try.func26 (by kernel_rfl) (by kernel_rfl) (by kernel_rfl) (by decide) (fun a3 hT3 => ?_)
  refine Gz.rend T ?_
  refine Gz.condFE (q := .tmp 48) (y := c13.pd.pa.pa.pa.pd.pd.pd.pd.pd.pa) (z := c13.pd.pa.pa.pa.pd.pd.pd.pd.pd.pd) T (by kernel_rfl) hT3 (by kernel_rfl) ?_
  refine Gz.skipE T (by kernel_rfl) ?_
  refine Gz.out T ?_
  refine Gz.again T ?_
  refine Gz.blockE (id := 1) (y := c13.pd.pa.pa.pa) T (by kernel_rfl) ?_
  refine Gz.seqE T (by kernel_rfl : c13.pd.pa.pa.pa = .seq c13.pd.pa.pa.pa.pa c13.pd.pa.pa.pa.pd) ?_
  refine Gz.regionE (id := 1) (l := c13.pd.pa.pa.pa.pa.po) (r := [0, 1, 2, 3, 4]) T (by kernel_rfl) (by kernel_rfl) ?_
  refine Gz.row T K (by decide) hT3 [] [0, 1, 2] [3, 4] [10, 0] (g' := [(10, .pointer (some ⟨L.W, 0, none⟩)), (0, .pointer (some ⟨L.W, 0, none⟩))]) (qs := []) (by kernel_rfl) (by kernel_rfl) (by simp) (fun a4 hT4 => ?_)
  refine Mz.enter (o := opq c13.pd.pa.pa.pa.pa 3) (q := .func 22) (f := 22) (cc := c21) (cap := []) (args := #[.tmp 10]) (ats := #[48]) (mvG T) hT4 [.pointer (some ⟨L.W, 0, none⟩)] 7 (by kernel_rfl) (by kernel_rfl) (by decide) (by kernel_rfl) (by kernel_rfl) Try.func22 (by kernel_rfl) (by kernel_rfl) (by kernel_rfl) (by kernel_rfl) (by kernel_rfl) (fun a5 hT5 => ?_)
  refine Gz.seqE T (by kernel_rfl : c21 = .seq c21.pa c21.pd) ?_
  refine Gz.regionE (id := 0) (l := c21.pa.po) (r := [0]) T (by kernel_rfl) (by kernel_rfl) ?_
  refine Gz.row T K (by decide) hT5 [] [0] [] [0] (g' := [(0, .pointer (some ⟨L.W, 0, none⟩))]) (qs := []) (by kernel_rfl) (by kernel_rfl) (by simp) (fun a6 hT6 => ?_)
  refine Gz.rend T ?_
  refine Gz.seqE T (by kernel_rfl : c21.pd = .seq c21.pd.pa c21.pd.pd) ?_
  refine Gz.regionE (id := 1) (l := c21.pd.pa.po) (r := [0, 1, 2, 3, 4]) T (by kernel_rfl) (by kernel_rfl) ?_
  refine Gz.row T K (by decide) hT6 [] [0, 1, 2] [3, 4] [5] (g' := [(5, .pointer (some ⟨L.W, 0, none⟩))]) (qs := []) (by kernel_rfl) (by kernel_rfl) (by simp) (fun a7 hT7 => ?_)
  have h5AW1 := hb5.live [11] (g' := [(11, .slice oa i oc)]) (by kernel_rfl)
  have h13AW1 := hT4.live [0] (g' := [(0, .pointer (some ⟨L.W, 0, none⟩))]) (by kernel_rfl)
  have h21AW1 := hT7.live [5] (g' := [(5, .pointer (some ⟨L.W, 0, none⟩))]) (by kernel_rfl)
  exact Goes.stop fun w₁ h₁ => ⟨hK.rely h₁, _, _, hO.rely h₁, b5, a4, a7, h5AW1, h13AW1, h21AW1, rfl⟩
theorem A_w3 (H : Hyp L D Shun w₀ e) (h : ∃ oa oc, OutAt L D 3 i oa oc w ∧ AW3 L D e cs i oa oc g) (hs : ShAt L D s w) (hg : s.wg = .f) (hK : KW L D w₀ true i (w.setCell ⟨L.W, 1, none⟩ (.int .u32 (1 - 1)))) :
    ∃ g', stepG Try.prog true g w = .go g' (w.setCell ⟨L.W, 1, none⟩ (.int .u32 (1 - 1))) (semEvents L.sem) ∧ Goes Try.prog true (RX L true) (DX L Shun true .w4) (fun g w => KW L D w₀ true i w ∧ ∃ oa oc, OutAt L D 3 i oa oc w ∧ AW4 L D e cs i oa oc g) 4000 g' (w.setCell ⟨L.W, 1, none⟩ (.int .u32 (1 - 1))) := by
  obtain ⟨oa, oc, hO, b5, b13, hb5, hb13, rfl⟩ := h
  obtain ⟨a1, hT1, hst⟩ := step_semacq (P := Try.prog) (x := true) (w := w) (ops := c13.pd.pa.pa.pa.pd.pd.pd.pd.pd.pa.pd.pd.pd.pa.po.toArray) (i := 4) (o := opq c13.pd.pa.pa.pa.pd.pd.pd.pd.pd.pa.pd.pd.pd.pa 4) (d := 72) (f := 30) (ags := #[.tmp 70, .tmp 71]) (ats := #[68, 4]) (y := .tmp 70) (l := [.tmp 71]) (z := 1) (k := [.code c13.pd.pa.pa.pa.pd.pd.pd.pd.pd.pa.pd.pd.pd.pd, .inBlock 1, .inLoop c13.pd.pa.pa, .inBlock 0]) (rest := []) (cs := (((base 6).at b5 [.inRegion c5.pd.pd.pd.pd.pd.pd.pd.pd.pa.po.toArray [0], .code c5.pd.pd.pd.pd.pd.pd.pd.pd.pd]) :: cs)) (b := (base 14)) (by decide) hb13 (by kernel_rfl) (by kernel_rfl) (by decide) (by kernel_rfl) (by kernel_rfl) Try.func30 (by kernel_rfl) (by kernel_rfl) (by kernel_rfl) (by kernel_rfl) rfl (by kernel_rfl) ((by have := hs.semc.1; rw [hg] at this; exact this)) (hs.semc.2) (by decide)
  refine ⟨_, hst, ?_⟩
  replace hO := hO.turn H.good (Turn.set w (ad := ⟨L.W, 1, none⟩) (.int .u32 (1 - 1)) (.inr (.inr (.inr (.inr rfl)))))
  have TD : Tmd (RX L true) (DX L Shun true .w4) := tmd
  have T := TD.toTms
  have K : Ken Try.prog (RX L true) (DX L Shun true .w4) (Cw L D Shun w₀) (w.setCell ⟨L.W, 1, none⟩ (.int .u32 (1 - 1))) := ken H.good hK rfl
  have hK0 := hK
  refine Gz.rend T ?_
  refine Gz.seqE T (by kernel_rfl : c13.pd.pa.pa.pa.pd.pd.pd.pd.pd.pa.pd.pd.pd.pd = .seq c13.pd.pa.pa.pa.pd.pd.pd.pd.pd.pa.pd.pd.pd.pd.pa c13.pd.pa.pa.pa.pd.pd.pd.pd.pd.pa.pd.pd.pd.pd.pd) ?_
  refine Gz.regionE (id := 20) (l := c13.pd.pa.pa.pa.pd.pd.pd.pd.pd.pa.pd.pd.pd.pd.pa.po) (r := [0, 1, 2, 3, 4, 5]) T (by kernel_rfl) (by kernel_rfl) ?_
  refine Gz.row T K (by decide) hT1 [] [0, 1, 2] [3, 4, 5] [75, 0] (g' := [(75, .pointer (some ⟨L.W, 0, none⟩)), (0, .pointer (some ⟨L.W, 0, none⟩))]) (qs := []) (by kernel_rfl) (by kernel_rfl) (by simp) (fun a2 hT2 => ?_)
  refine Mz.enter (o := opq c13.pd.pa.pa.pa.pd.pd.pd.pd.pd.pa.pd.pd.pd.pd.pa 3) (q := .func 22) (f := 22) (cc := c21) (cap := []) (args := #[.tmp 75]) (ats := #[48]) (mvG T) hT2 [.pointer (some ⟨L.W, 0, none⟩)] 7 (by kernel_rfl) (by kernel_rfl) (by decide) (by kernel_rfl) (by kernel_rfl) Try.func22 (by kernel_rfl) (by kernel_rfl) (by kernel_rfl) (by kernel_rfl) (by kernel_rfl) (fun a3 hT3 => ?_)
  refine Gz.seqE T (by kernel_rfl : c21 = .seq c21.pa c21.pd) ?_
  refine Gz.regionE (id := 0) (l := c21.pa.po) (r := [0]) T (by kernel_rfl) (by kernel_rfl) ?_
  refine Gz.row T K (by decide) hT3 [] [0] [] [0] (g' := [(0, .pointer (some ⟨L.W, 0, none⟩))]) (qs := []) (by kernel_rfl) (by kernel_rfl) (by simp) (fun a4 hT4 => ?_)
  refine Gz.rend T ?_
  refine Gz.seqE T (by kernel_rfl : c21.pd = .seq c21.pd.pa c21.pd.pd) ?_
  refine Gz.regionE (id := 1) (l := c21.pd.pa.po) (r := [0, 1, 2, 3, 4]) T (by kernel_rfl) (by kernel_rfl) ?_
  refine Gz.row T K (by decide) hT4 [] [0, 1, 2] [3, 4] [5] (g' := [(5, .pointer (some ⟨L.W, 0, none⟩))]) (qs := []) (by kernel_rfl) (by kernel_rfl) (by simp) (fun a5 hT5 => ?_)
  have h5AW4 := hb5.live [11] (g' := [(11, .slice oa i oc)]) (by kernel_rfl)
  have h13AW4 := hT2.live [0] (g' := [(0, .pointer (some ⟨L.W, 0, none⟩))]) (by kernel_rfl)
  have h21AW4 := hT5.live [5] (g' := [(5, .pointer (some ⟨L.W, 0, none⟩))]) (by kernel_rfl)
  exact Goes.stop fun w₁ h₁ => ⟨hK.rely h₁, _, _, hO.rely h₁, b5, a2, a5, h5AW4, h13AW4, h21AW4, rfl⟩
theorem A_wait {oa : Option Addr} {oc : Nat} (h : AW3 L D e cs i oa oc g) : g.offers = none ∧ ∀ s, ShAt L D s w → s.wg.sm = 0 → stepG Try.prog true g w = .go { g with status := .blocked } w #[] := by
  obtain ⟨b5, b13, hb5, hb13, rfl⟩ := h
  exact ⟨rfl, fun s hs hz => step_semwait (P := Try.prog) (x := true) (w := w) (ops := c13.pd.pa.pa.pa.pd.pd.pd.pd.pd.pa.pd.pd.pd.pa.po.toArray) (i := 4) (o := opq c13.pd.pa.pa.pa.pd.pd.pd.pd.pd.pa.pd.pd.pd.pa 4) (f := 30) (ags := #[.tmp 70, .tmp 71]) (ats := #[68, 4]) (y := .tmp 70) (l := [.tmp 71]) hb13 (by kernel_rfl) (by kernel_rfl) (by kernel_rfl) Try.func30 (by kernel_rfl) (by kernel_rfl) (by kernel_rfl) (by kernel_rfl) rfl (by kernel_rfl) (by have := hs.semc.1; rw [hz] at this; exact this)⟩
theorem A_w4 (H : Hyp L D Shun w₀ e) (hK : KW L D w₀ true i w) (h : ∃ oa oc, OutAt L D 3 i oa oc w ∧ AW4 L D e cs i oa oc g) (hs : ShAt L D s w) (hg : s.wg = .c) :
    ∃ g', stepG Try.prog true g w = .go g' w #[rdE L.grp] ∧ Goes Try.prog true (RX L true) (DX L Shun true .we) (fun g w => KW L D w₀ true i w ∧ ∃ oa oc, OutAt L D 3 i oa oc w ∧ AWe2 L D e cs i oa oc g) 4000 g' w := by
  obtain ⟨oa, oc, hO, b5, b13, b21, hb5, hb13, hb21, rfl⟩ := h
  obtain ⟨a1, hT1, hst⟩ := step_aload (P := Try.prog) (x := true) (w := w) (ops := c21.pd.pa.po.toArray) (i := 3) (o := opq c21.pd.pa 3) (d := 6) (f := 41) (ats := #[82]) (y := .tmp 5) (kd := .u64) (z := 0) (k := [.code c21.pd.pd]) (rest := [4]) (cs := (((base 14).at b13 [.inRegion c13.pd.pa.pa.pa.pd.pd.pd.pd.pd.pa.pd.pd.pd.pd.pa.po.toArray [3, 4, 5], .code c13.pd.pa.pa.pa.pd.pd.pd.pd.pd.pa.pd.pd.pd.pd.pd, .inBlock 1, .inLoop c13.pd.pa.pa, .inBlock 0]) :: ((base 6).at b5 [.inRegion c5.pd.pd.pd.pd.pd.pd.pd.pd.pa.po.toArray [0], .code c5.pd.pd.pd.pd.pd.pd.pd.pd.pd]) :: cs)) (b := (base 22)) (by decide) hb21 (by kernel_rfl) (by kernel_rfl) (by decide) (by kernel_rfl) (by kernel_rfl) Try.func41 (by kernel_rfl) (by kernel_rfl) (by kernel_rfl) (by kernel_rfl) (by kernel_rfl) ((by have := hs.grpc.1; rw [hg] at this; exact this))
  refine ⟨_, hst, ?_⟩
  have TD : Tmd (RX L true) (DX L Shun true .we) := tmd
  have T := TD.toTms
  have K : Ken Try.prog (RX L true) (DX L Shun true .we) (Cw L D Shun w₀) w := ken H.good hK rfl
  have hK0 := hK
  refine Gz.row T K (by decide) hT1 [] [4] [] [2] (g' := [(2, .int .u64 0)]) (qs := []) (by kernel_rfl) (by kernel_rfl) (by simp) (fun a2 hT2 => ?_)
  refine Gz.rend T ?_
  refine Gz.retE T (by kernel_rfl) ?_
  refine Gz.back1 (t := 2) (v := .int .u64 0) (d := 76) T hT2 hb13 rfl Try.func22 (by kernel_rfl) (by kernel_rfl) (by kernel_rfl) (by decide) (fun a3 hT3 => ?_)
  refine Gz.row T K (by decide) hT3 [] [4, 5] [] [6, 0] (g' := [(6, .bool false), (0, .pointer (some ⟨L.W, 0, none⟩))]) (qs := []) (by kernel_rfl) (by kernel_rfl) (by simp) (fun a4 hT4 => ?_)
  refine Gz.rend T ?_
  refine Gz.seqE T (by kernel_rfl : c13.pd.pa.pa.pa.pd.pd.pd.pd.pd.pa.pd.pd.pd.pd.pd = .seq c13.pd.pa.pa.pa.pd.pd.pd.pd.pd.pa.pd.pd.pd.pd.pd.pa c13.pd.pa.pa.pa.pd.pd.pd.pd.pd.pa.pd.pd.pd.pd.pd.pd) ?_
  refine Gz.condTE (q := .const (.bool true)) (y := c13.pd.pa.pa.pa.pd.pd.pd.pd.pd.pa.pd.pd.pd.pd.pd.pa.pa) (z := c13.pd.pa.pa.pa.pd.pd.pd.pd.pd.pa.pd.pd.pd.pd.pd.pa.pd) T (by kernel_rfl) hT4 (by kernel_rfl) ?_
  refine Gz.seqE T (by kernel_rfl : c13.pd.pa.pa.pa.pd.pd.pd.pd.pd.pa.pd.pd.pd.pd.pd.pa.pa = .seq c13.pd.pa.pa.pa.pd.pd.pd.pd.pd.pa.pd.pd.pd.pd.pd.pa.pa.pa c13.pd.pa.pa.pa.pd.pd.pd.pd.pd.pa.pd.pd.pd.pd.pd.pa.pa.pd) ?_
  refine Gz.regionE (id := 21) (l := c13.pd.pa.pa.pa.pd.pd.pd.pd.pd.pa.pd.pd.pd.pd.pd.pa.pa.pa.po) (r := [0]) T (by kernel_rfl) (by kernel_rfl) ?_
  have h5AWe2 := hb5.live [11] (g' := [(11, .slice oa i oc)]) (by kernel_rfl)
  have h13AWe2 := hT4.live [0, 6] (g' := [(0, .pointer (some ⟨L.W, 0, none⟩)), (6, .bool false)]) (by kernel_rfl)
  exact Goes.stop fun w₁ h₁ => ⟨hK.rely h₁, _, _, hO.rely h₁, b5, a4, h5AWe2, h13AWe2, rfl⟩

end
end Go.Proofs.Ytdmiilgdkmbmeaa.Rg
namespace Go.Proofs.Ytdmiilgdkmbmeaa.Rg
open Go Go.Conc
section
variable {L : Lay} {D : Dat} {Shun : Loc → Prop} {w₀ w : World} {e : Env} {cs : List Frame} {i : Nat} {g : Goroutine} {s : Sh}
theorem A_we1 (H : Hyp L D Shun w₀ e) (hK : KW L D w₀ true i w) (h : ∃ oa oc, OutAt L D 3 i oa oc w ∧ AWe1 L D e cs i oa oc g) :
    ∃ g', stepG Try.prog true g w = .go g' w #[mkE .enable] ∧ Goes Try.prog true (RX L true) (DX L Shun true .wq) (fun g w => KW L D w₀ true i w ∧ ∃ oa oc, OutAt L D 3 i oa oc w ∧ AWq1 L D e cs i oa oc g) 4000 g' w := by
  obtain ⟨oa, oc, hO, b5, b13, hb5, hb13, rfl⟩ := h
  obtain ⟨a1, hT1, hst⟩ := step_mark0 (P := Try.prog) (x := true) (ops := c13.pd.pa.pa.pa.pd.pd.pd.pa.pd.pa.pa.pa.pa.po.toArray) (i := 0) (o := opq c13.pd.pa.pa.pa.pd.pd.pd.pa.pd.pa.pa.pa.pa 0) (d := 20) (f := 23) (ags := #[]) (ats := #[]) (k := [.code c13.pd.pa.pa.pa.pd.pd.pd.pa.pd.pa.pa.pa.pd, .code c13.pd.pa.pa.pa.pd.pd.pd.pa.pd.pa.pd, .code c13.pd.pa.pa.pa.pd.pd.pd.pd, .inBlock 1, .inLoop c13.pd.pa.pa, .inBlock 0]) (rest := []) (cs := (((base 6).at b5 [.inRegion c5.pd.pd.pd.pd.pd.pd.pd.pd.pa.po.toArray [0], .code c5.pd.pd.pd.pd.pd.pd.pd.pd.pd]) :: cs)) (b := (base 14)) .enable (fun _ h => by cases h) (by decide) hb13 (by kernel_rfl) (by kernel_rfl) (by decide) (by kernel_rfl) (by kernel_rfl) Try.func23 (by kernel_rfl) (by kernel_rfl) (by kernel_rfl) (by kernel_rfl)
  refine ⟨_, hst w, ?_⟩
  have TD : Tmd (RX L true) (DX L Shun true .wq) := tmd
  have T := TD.toTms
  have K : Ken Try.prog (RX L true) (DX L Shun true .wq) (Cw L D Shun w₀) w := ken H.good hK rfl
  have hK0 := hK
  refine Gz.rend T ?_
  refine Gz.regionE (id := 6) (l := c13.pd.pa.pa.pa.pd.pd.pd.pa.pd.pa.pa.pa.pd.po) (r := [0, 1, 2]) T (by kernel_rfl) (by kernel_rfl) ?_
  refine Gz.row T K (by decide) hT1 [] [0] [1, 2] [21, 0, 2, 4] (g' := [(21, .pointer (some ⟨L.W, 0, none⟩)), (0, .pointer (some ⟨L.W, 0, none⟩)), (2, .int .u64 0), (4, .int .u32 0)]) (qs := []) (by kernel_rfl) (by kernel_rfl) (by simp) (fun a2 hT2 => ?_)
  refine Gz.conv (o := opq c13.pd.pa.pa.pa.pd.pd.pd.pa.pd.pa.pa.pa.pd 1) (d := 22) (src := 59) (dst := 64) (t := 51) (y := .tmp 21) T (by decide) hT2 (ad := ⟨L.W, 0, none⟩) (by kernel_rfl) (by kernel_rfl) (by decide) (by kernel_rfl) (by kernel_rfl) (by kernel_rfl) (by kernel_rfl) (by kernel_rfl) (by kernel_rfl) (fun w₁ h₁ => (hK.rely h₁).grpc.1) (fun a3 hT3 => ?_)
  have h5AWq1 := hb5.live [11] (g' := [(11, .slice oa i oc)]) (by kernel_rfl)
  have h13AWq1 := hT3.live [0, 2, 4, 22] (g' := [(0, .pointer (some ⟨L.W, 0, none⟩)), (2, .int .u64 0), (4, .int .u32 0), (22, .pointer (some ⟨L.W, 0, none⟩))]) (by kernel_rfl)
  exact Goes.stop fun w₁ h₁ => ⟨hK.rely h₁, _, _, hO.rely h₁, b5, a3, h5AWq1, h13AWq1, rfl⟩
theorem A_we2 (H : Hyp L D Shun w₀ e) (hK : KW L D w₀ true i w) (h : ∃ oa oc, OutAt L D 3 i oa oc w ∧ AWe2 L D e cs i oa oc g) :
    ∃ g', stepG Try.prog true g w = .go g' w #[mkE .enable] ∧ Goes Try.prog true (RX L true) (DX L Shun true .wq) (fun g w => KW L D w₀ true i w ∧ ∃ oa oc, OutAt L D 3 i oa oc w ∧ AWq2 L D e cs i oa oc g) 4000 g' w := by
  obtain ⟨oa, oc, hO, b5, b13, hb5, hb13, rfl⟩ := h
  obtain ⟨a1, hT1, hst⟩ := step_mark0 (P := Try.prog) (x := true) (ops := c13.pd.pa.pa.pa.pd.pd.pd.pd.pd.pa.pd.pd.pd.pd.pd.pa.pa.pa.po.toArray) (i := 0) (o := opq c13.pd.pa.pa.pa.pd.pd.pd.pd.pd.pa.pd.pd.pd.pd.pd.pa.pa.pa 0) (d := 78) (f := 23) (ags := #[]) (ats := #[]) (k := [.code c13.pd.pa.pa.pa.pd.pd.pd.pd.pd.pa.pd.pd.pd.pd.pd.pa.pa.pd, .code c13.pd.pa.pa.pa.pd.pd.pd.pd.pd.pa.pd.pd.pd.pd.pd.pd, .inBlock 1, .inLoop c13.pd.pa.pa, .inBlock 0]) (rest := []) (cs := (((base 6).at b5 [.inRegion c5.pd.pd.pd.pd.pd.pd.pd.pd.pa.po.toArray [0], .code c5.pd.pd.pd.pd.pd.pd.pd.pd.pd]) :: cs)) (b := (base 14)) .enable (fun _ h => by cases h) (by decide) hb13 (by kernel_rfl) (by kernel_rfl) (by decide) (by kernel_rfl) (by kernel_rfl) Try.func23 (by kernel_rfl) (by kernel_rfl) (by kernel_rfl) (by kernel_rfl)
  refine ⟨_, hst w, ?_⟩
  have TD : Tmd (RX L true) (DX L Shun true .wq) := tmd
  have T := TD.toTms
  have K : Ken Try.prog (RX L true) (DX L Shun true .wq) (Cw L D Shun w₀) w := ken H.good hK rfl
  have hK0 := hK
  refine Gz.rend T ?_
  refine Gz.regionE (id := 22) (l := c13.pd.pa.pa.pa.pd.pd.pd.pd.pd.pa.pd.pd.pd.pd.pd.pa.pa.pd.po) (r := [0, 1, 2]) T (by kernel_rfl) (by kernel_rfl) ?_
  refine Gz.row T K (by decide) hT1 [] [0] [1, 2] [79, 6] (g' := [(79, .pointer (some ⟨L.W, 0, none⟩)), (6, .bool false)]) (qs := []) (by kernel_rfl) (by kernel_rfl) (by simp) (fun a2 hT2 => ?_)
  refine Gz.conv (o := opq c13.pd.pa.pa.pa.pd.pd.pd.pd.pd.pa.pd.pd.pd.pd.pd.pa.pa.pd 1) (d := 80) (src := 59) (dst := 64) (t := 51) (y := .tmp 79) T (by decide) hT2 (ad := ⟨L.W, 0, none⟩) (by kernel_rfl) (by kernel_rfl) (by decide) (by kernel_rfl) (by kernel_rfl) (by kernel_rfl) (by kernel_rfl) (by kernel_rfl) (by kernel_rfl) (fun w₁ h₁ => (hK.rely h₁).grpc.1) (fun a3 hT3 => ?_)
  have h5AWq2 := hb5.live [11] (g' := [(11, .slice oa i oc)]) (by kernel_rfl)
  have h13AWq2 := hT3.live [6, 80] (g' := [(6, .bool false), (80, .pointer (some ⟨L.W, 0, none⟩))]) (by kernel_rfl)
  exact Goes.stop fun w₁ h₁ => ⟨hK.rely h₁, _, _, hO.rely h₁, b5, a3, h5AWq2, h13AWq2, rfl⟩
theorem A_wq1 (H : Hyp L D Shun w₀ e) (hK : KW L D w₀ true i w) (h : ∃ oa oc, OutAt L D 3 i oa oc w ∧ AWq1 L D e cs i oa oc g) :
    ∃ g', stepG Try.prog true g w = .go g' w #[mkE (.acquire L.grp)] ∧ Goes Try.prog true (RX L true) (DX L Shun true .out) (fun g w => KW L D w₀ true i w ∧ ∃ oa oc, OutAt L D 3 i oa oc w ∧ AOut L D e cs i oa oc g) 4000 g' w := by
  obtain ⟨oa, oc, hO, b5, b13, hb5, hb13, rfl⟩ := h
  obtain ⟨a1, hT1, hst⟩ := step_markAt (P := Try.prog) (x := true) (ops := c13.pd.pa.pa.pa.pd.pd.pd.pa.pd.pa.pa.pa.pd.po.toArray) (i := 2) (o := opq c13.pd.pa.pa.pa.pd.pd.pd.pa.pd.pa.pa.pa.pd 2) (d := 23) (f := 24) (ags := #[.tmp 22]) (ats := #[64]) (y := .tmp 22) (l := []) (k := [.code c13.pd.pa.pa.pa.pd.pd.pd.pa.pd.pa.pd, .code c13.pd.pa.pa.pa.pd.pd.pd.pd, .inBlock 1, .inLoop c13.pd.pa.pa, .inBlock 0]) (rest := []) (cs := (((base 6).at b5 [.inRegion c5.pd.pd.pd.pd.pd.pd.pd.pd.pa.po.toArray [0], .code c5.pd.pd.pd.pd.pd.pd.pd.pd.pd]) :: cs)) (b := (base 14)) .acquire (fun _ _ h => by cases h) (by decide) hb13 (by kernel_rfl) (by kernel_rfl) (by decide) (by kernel_rfl) (by kernel_rfl) Try.func24 (by kernel_rfl) (by kernel_rfl) (by kernel_rfl) (by kernel_rfl) rfl (by kernel_rfl)
  refine ⟨_, hst w, ?_⟩
  have TD : Tmd (RX L true) (DX L Shun true .out) := tmd
  have T := TD.toTms
  have K : Ken Try.prog (RX L true) (DX L Shun true .out) (fun _ _ => False) w := ken0
  refine Gz.rend T ?_
  refine Gz.seqE T (by kernel_rfl : c13.pd.pa.pa.pa.pd.pd.pd.pa.pd.pa.pd = .seq c13.pd.pa.pa.pa.pd.pd.pd.pa.pd.pa.pd.pa c13.pd.pa.pa.pa.pd.pd.pd.pa.pd.pa.pd.pd) ?_
  refine Gz.seqE T (by kernel_rfl : c13.pd.pa.pa.pa.pd.pd.pd.pa.pd.pa.pd.pa = .seq c13.pd.pa.pa.pa.pd.pd.pd.pa.pd.pa.pd.pa.pa c13.pd.pa.pa.pa.pd.pd.pd.pa.pd.pa.pd.pa.pd) ?_
  refine Gz.regionE (id := 7) (l := c13.pd.pa.pa.pa.pd.pd.pd.pa.pd.pa.pd.pa.pa.po) (r := [0, 1, 2, 3, 4, 5, 6, 7, 8, 9, 10]) T (by kernel_rfl) (by kernel_rfl) ?_
  refine Gz.row T K (by decide) hT1 [] [0, 1, 2, 3, 4, 5, 6, 7, 8, 9, 10] [] [34, 0, 2] (g' := [(34, .bool false), (0, .pointer (some ⟨L.W, 0, none⟩)), (2, .int .u64 0)]) (qs := []) (by kernel_rfl) (by kernel_rfl) (by simp) (fun a2 hT2 => ?_)
  refine Gz.rend T ?_
  refine Gz.condFE (q := .tmp 34) (y := c13.pd.pa.pa.pa.pd.pd.pd.pa.pd.pa.pd.pa.pd.pa) (z := c13.pd.pa.pa.pa.pd.pd.pd.pa.pd.pa.pd.pa.pd.pd) T (by kernel_rfl) hT2 (by kernel_rfl) ?_
  refine Gz.skipE T (by kernel_rfl) ?_
  refine Gz.retE T (by kernel_rfl) ?_
  refine Gz.back0 (d := 46) T hT2 hb5 rfl Try.func14 (by kernel_rfl) (by kernel_rfl) (by decide) (fun a3 hT3 => ?_)
  have h5AOut := hT3.live [11] (g' := [(11, .slice oa i oc)]) (by kernel_rfl)
  exact Goes.stop fun w₁ h₁ => ⟨hK.rely h₁, _, _, hO.rely h₁, a3, h5AOut, rfl⟩
theorem A_wq2 (H : Hyp L D Shun w₀ e) (hK : KW L D w₀ true i w) (h : ∃ oa oc, OutAt L D 3 i oa oc w ∧ AWq2 L D e cs i oa oc g) :
    ∃ g', stepG Try.prog true g w = .go g' w #[mkE (.acquire L.grp)] ∧ Goes Try.prog true (RX L true) (DX L Shun true .out) (fun g w => KW L D w₀ true i w ∧ ∃ oa oc, OutAt L D 3 i oa oc w ∧ AOut L D e cs i oa oc g) 4000 g' w := by
  obtain ⟨oa, oc, hO, b5, b13, hb5, hb13, rfl⟩ := h
  obtain ⟨a1, hT1, hst⟩ := step_markAt (P := Try.prog) (x := true) (ops := c13.pd.pa.pa.pa.pd.pd.pd.pd.pd.pa.pd.pd.pd.pd.pd.pa.pa.pd.po.toArray) (i := 2) (o := opq c13.pd.pa.pa.pa.pd.pd.pd.pd.pd.pa.pd.pd.pd.pd.pd.pa.pa.pd 2) (d := 81) (f := 24) (ags := #[.tmp 80]) (ats := #[64]) (y := .tmp 80) (l := []) (k := [.code c13.pd.pa.pa.pa.pd.pd.pd.pd.pd.pa.pd.pd.pd.pd.pd.pd, .inBlock 1, .inLoop c13.pd.pa.pa, .inBlock 0]) (rest := []) (cs := (((base 6).at b5 [.inRegion c5.pd.pd.pd.pd.pd.pd.pd.pd.pa.po.toArray [0], .code c5.pd.pd.pd.pd.pd.pd.pd.pd.pd]) :: cs)) (b := (base 14)) .acquire (fun _ _ h => by cases h) (by decide) hb13 (by kernel_rfl) (by kernel_rfl) (by decide) (by kernel_rfl) (by kernel_rfl) Try.func24 (by kernel_rfl) (by kernel_rfl) (by kernel_rfl) (by kernel_rfl) rfl (by kernel_rfl)
  refine ⟨_, hst w, ?_⟩
  have TD : Tmd (RX L true) (DX L Shun true .out) := tmd
  have T := TD.toTms
  have K : Ken Try.prog (RX L true) (DX L Shun true .out) (fun _ _ => False) w := ken0
  refine Gz.rend T ?_
  refine Gz.seqE T (by kernel_rfl : c13.pd.pa.pa.pa.pd.pd.pd.pd.pd.pa.pd.pd.pd.pd.pd.pd = .seq c13.pd.pa.pa.pa.pd.pd.pd.pd.pd.pa.pd.pd.pd.pd.pd.pd.pa c13.pd.pa.pa.pa.pd.pd.pd.pd.pd.pa.pd.pd.pd.pd.pd.pd.pd) ?_
  refine Gz.seqE T (by kernel_rfl : c13.pd.pa.pa.pa.pd.pd.pd.pd.pd.pa.pd.pd.pd.pd.pd.pd.pa = .seq c13.pd.pa.pa.pa.pd.pd.pd.pd.pd.pa.pd.pd.pd.pd.pd.pd.pa.pa c13.pd.pa.pa.pa.pd.pd.pd.pd.pd.pa.pd.pd.pd.pd.pd.pd.pa.pd) ?_
  refine Gz.regionE (id := 23) (l := c13.pd.pa.pa.pa.pd.pd.pd.pd.pd.pa.pd.pd.pd.pd.pd.pd.pa.pa.po) (r := [0]) T (by kernel_rfl) (by kernel_rfl) ?_
  refine Gz.row T K (by decide) hT1 [] [0] [] [82] (g' := [(82, .bool false)]) (qs := []) (by kernel_rfl) (by kernel_rfl) (by simp) (fun a2 hT2 => ?_)
  refine Gz.rend T ?_
  refine Gz.condFE (q := .tmp 82) (y := c13.pd.pa.pa.pa.pd.pd.pd.pd.pd.pa.pd.pd.pd.pd.pd.pd.pa.pd.pa) (z := c13.pd.pa.pa.pa.pd.pd.pd.pd.pd.pa.pd.pd.pd.pd.pd.pd.pa.pd.pd) T (by kernel_rfl) hT2 (by kernel_rfl) ?_
  refine Gz.skipE T (by kernel_rfl) ?_
  refine Gz.retE T (by kernel_rfl) ?_
  refine Gz.back0 (d := 46) T hT2 hb5 rfl Try.func14 (by kernel_rfl) (by kernel_rfl) (by decide) (fun a3 hT3 => ?_)
  have h5AOut := hT3.live [11] (g' := [(11, .slice oa i oc)]) (by kernel_rfl)
  exact Goes.stop fun w₁ h₁ => ⟨hK.rely h₁, _, _, hO.rely h₁, a3, h5AOut, rfl⟩

end
end Go.Proofs.Ytdmiilgdkmbmeaa.Rg
namespace Go.Proofs.Ytdmiilgdkmbmeaa.Rg
open Go Go.Conc
section
variable {L : Lay} {D : Dat} {Shun : Loc → Prop} {w₀ w : World} {e : Env} {cs : List Frame} {i : Nat} {g : Goroutine} {s : Sh}
theorem BLd_run (h : BLd L D e i g) : g.status = .running := by
  obtain ⟨_, _, _, _, _, _, _, _, _, _, _, _, _, rfl⟩ := h
  rfl
theorem BSl_run (h : BSl L D e i g) : g.status = .running := by
  obtain ⟨_, _, _, _, _, _, _, _, _, _, _, rfl⟩ := h
  rfl
theorem BSt_run (h : BSt L D e i g) : g.status = .running := by
  obtain ⟨_, _, _, _, _, _, _, _, rfl⟩ := h
  rfl
theorem BBl_run (h : BBl L D e i g) : g.status = .running := by
  obtain ⟨_, _, _, _, _, _, rfl⟩ := h
  rfl
theorem BRc_run (h : BRc L D e i g) : g.status = .running := by
  obtain ⟨_, _, _, _, rfl⟩ := h
  rfl
theorem BD0_run (h : BD0 L D e i g) : g.status = .running := by
  obtain ⟨_, _, _, _, _, _, _, _, rfl⟩ := h
  rfl
theorem BD1_run (h : BD1 L D e i g) : g.status = .running := by
  obtain ⟨_, _, _, _, _, _, _, _, rfl⟩ := h
  rfl
theorem BD2_run (h : BD2 L D e i g) : g.status = .running := by
  obtain ⟨_, _, _, _, _, _, _, _, _, _, rfl⟩ := h
  rfl
theorem BD3_run (h : BD3 L D e i g) : g.status = .running := by
  obtain ⟨_, _, _, _, _, _, _, _, _, _, rfl⟩ := h
  rfl
theorem BD4_run (h : BD4 L D e i g) : g.status = .running := by
  obtain ⟨_, _, _, _, _, _, _, _, _, _, rfl⟩ := h
  rfl
theorem BD5_run (h : BD5 L D e i g) : g.status = .running := by
  obtain ⟨_, _, _, _, _, _, _, _, rfl⟩ := h
  rfl
theorem ALd_run {oa : Option Addr} {oc : Nat} (h : ALd L D e cs i oa oc g) : g.status = .running := by
  obtain ⟨_, _, _, _, _, _, rfl⟩ := h
  rfl
theorem AW0_run {oa : Option Addr} {oc : Nat} (h : AW0 L D e cs i oa oc g) : g.status = .running := by
  obtain ⟨_, _, _, _, rfl⟩ := h
  rfl
theorem ASl_run {oa : Option Addr} {oc : Nat} (h : ASl L D e cs i oa oc g) : g.status = .running := by
  obtain ⟨_, _, _, _, _, _, _, _, _, rfl⟩ := h
  rfl
theorem ASt_run {oa : Option Addr} {oc : Nat} (h : ASt L D e cs i oa oc g) : g.status = .running := by
  obtain ⟨_, _, _, _, _, _, rfl⟩ := h
  rfl
theorem ABl_run {oa : Option Addr} {oc : Nat} (h : ABl L D e cs i oa oc g) : g.status = .running := by
  obtain ⟨_, _, _, _, rfl⟩ := h
  rfl
theorem ARc_run {oa : Option Addr} {oc : Nat} (h : ARc L D e cs i oa oc g) : g.status = .running := by
  obtain ⟨_, _, rfl⟩ := h
  rfl
theorem AW1_run {oa : Option Addr} {oc : Nat} (h : AW1 L D e cs i oa oc g) : g.status = .running := by
  obtain ⟨_, _, _, _, _, _, rfl⟩ := h
  rfl
theorem AW2_run {oa : Option Addr} {oc : Nat} (h : AW2 L D e cs i oa oc g) : g.status = .running := by
  obtain ⟨_, _, _, _, _, _, rfl⟩ := h
  rfl
theorem AW3_run {oa : Option Addr} {oc : Nat} (h : AW3 L D e cs i oa oc g) : g.status = .running := by
  obtain ⟨_, _, _, _, rfl⟩ := h
  rfl
theorem AW4_run {oa : Option Addr} {oc : Nat} (h : AW4 L D e cs i oa oc g) : g.status = .running := by
  obtain ⟨_, _, _, _, _, _, rfl⟩ := h
  rfl
theorem AWe1_run {oa : Option Addr} {oc : Nat} (h : AWe1 L D e cs i oa oc g) : g.status = .running := by
  obtain ⟨_, _, _, _, rfl⟩ := h
  rfl
theorem AWe2_run {oa : Option Addr} {oc : Nat} (h : AWe2 L D e cs i oa oc g) : g.status = .running := by
  obtain ⟨_, _, _, _, rfl⟩ := h
  rfl
theorem AWq1_run {oa : Option Addr} {oc : Nat} (h : AWq1 L D e cs i oa oc g) : g.status = .running := by
  obtain ⟨_, _, _, _, rfl⟩ := h
  rfl
theorem AWq2_run {oa : Option Addr} {oc : Nat} (h : AWq2 L D e cs i oa oc g) : g.status = .running := by
  obtain ⟨_, _, _, _, rfl⟩ := h
  rfl
theorem AOut_run {oa : Option Addr} {oc : Nat} (h : AOut L D e cs i oa oc g) : g.status = .running := by
  obtain ⟨_, _, rfl⟩ := h
  rfl
theorem B_wake (h : BD5 L D e i g) : mayWake Try.prog g = true := by
  obtain ⟨b15, b16, b17, b14, hb15, hb16, hb17, hb14, rfl⟩ := h
  exact may_wake (P := Try.prog) (ops := c14.pd.pd.pd.pd.pd.pd.pd.pd.pd.pd.pd.pd.pd.pd.pa.pa.pd.pa.pa.po.toArray) (i := 3) (o := opq c14.pd.pd.pd.pd.pd.pd.pd.pd.pd.pd.pd.pd.pd.pd.pa.pa.pd.pa.pa 3) (f := 40) (ags := #[.tmp 115, .const (.bool false), .const (.int .i64 0)]) (ats := #[68, 4, 3]) hb14 (by kernel_rfl) (by kernel_rfl) Try.func40 (by kernel_rfl)

end
end Go.Proofs.Ytdmiilgdkmbmeaa.Rg
namespace Go.Proofs.Ytdmiilgdkmbmeaa.Rg
open Go Go.Conc

def BAt (L : Lay) (D : Dat) (e : Env) (i : Nat) (g : Goroutine) : Pl → Prop
  | .ld => i < D.N ∧ BLd L D e i g
  | .sl => i < D.N ∧ BSl L D e i g
  | .st => i < D.N ∧ BSt L D e i g
  | .rc => i < D.N ∧ BRc L D e i g
  | .bl => ∃ k, i = k + 1 ∧ k < D.N ∧ BBl L D e k g
  | .d0 => BD0 L D e i g
  | .d1 => BD1 L D e i g
  | .d2 => BD2 L D e i g
  | .d3 => BD3 L D e i g
  | .d4 => BD4 L D e i g
  | .d5 => BD5 L D e i g
  | _ => False
def AAt (L : Lay) (D : Dat) (e : Env) (cs : List Frame) (i : Nat) (oa : Option Addr) (oc : Nat) (g : Goroutine) : Pl → Prop
  | .ld => i < D.N ∧ ALd L D e cs i oa oc g
  | .sl => i < D.N ∧ ASl L D e cs i oa oc g
  | .st => i < D.N ∧ ASt L D e cs i oa oc g
  | .rc => i < D.N ∧ ARc L D e cs i oa oc g
  | .bl => i ≤ D.N ∧ ABl L D e cs i oa oc g
  | .w0 => AW0 L D e cs i oa oc g
  | .w1 => AW1 L D e cs i oa oc g
  | .w2 => AW2 L D e cs i oa oc g
  | .w3 => AW3 L D e cs i oa oc g
  | .w4 => AW4 L D e cs i oa oc g
  | .we => AWe1 L D e cs i oa oc g ∨ AWe2 L D e cs i oa oc g
  | .wq => AWq1 L D e cs i oa oc g ∨ AWq2 L D e cs i oa oc g
  | .out => AOut L D e cs i oa oc g
  | _ => False
def At (L : Lay) (D : Dat) (w₀ : World) (e : Env) (cs : List Frame) (x : Bool) (p : Pl) (i : Nat) (g : Goroutine) (w : World) : Prop :=
  KW L D w₀ x i w ∧ if x then ∃ oa oc, OutAt L D 3 i oa oc w ∧ AAt L D e cs i oa oc g p else BAt L D e i g p

section
variable {L : Lay} {D : Dat} {Shun : Loc → Prop} {w₀ w w' : World} {e : Env} {cs : List Frame} {i : Nat} {g : Goroutine} {s : Sh} {p a b : Pl}
theorem b_run (h : BAt L D e i g p) : g.status = .running := by
  cases p <;> simp only [BAt] at h
  case ld => exact BLd_run h.2
  case sl => exact BSl_run h.2
  case st => exact BSt_run h.2
  case rc => exact BRc_run h.2
  case bl => obtain ⟨_, _, _, h⟩ := h; exact BBl_run h
  case d0 => exact BD0_run h
  case d1 => exact BD1_run h
  case d2 => exact BD2_run h
  case d3 => exact BD3_run h
  case d4 => exact BD4_run h
  case d5 => exact BD5_run h
theorem a_run {oa : Option Addr} {oc : Nat} (h : AAt L D e cs i oa oc g p) : g.status = .running := by
  cases p <;> simp only [AAt] at h
  case ld => exact ALd_run h.2
  case sl => exact ASl_run h.2
  case st => exact ASt_run h.2
  case rc => exact ARc_run h.2
  case bl => exact ABl_run h.2
  case w0 => exact AW0_run h
  case w1 => exact AW1_run h
  case w2 => exact AW2_run h
  case w3 => exact AW3_run h
  case w4 => exact AW4_run h
  case we => exact h.elim AWe1_run AWe2_run
  case wq => exact h.elim AWq1_run AWq2_run
  case out => exact AOut_run h
theorem at_run {x : Bool} (h : At L D w₀ e cs x p i g w) : g.status = .running := by
  obtain ⟨_, h⟩ := h
  cases x
  · exact b_run h
  · obtain ⟨_, _, _, h⟩ := h
    exact a_run h
theorem gm {P : Program} {x : Bool} {R : World → World → Prop} {DD : World → World → Array Event → Prop} {Stop Stop' : Goroutine → World → Prop} {m : Nat} (h : Goes P x R DD Stop m g w) (hs : ∀ g w, Stop g w → Stop' g w) : Goes P x R DD Stop' m g w := ConcN.goes_mono hs h

/-- What the child's own steps do. -/
theorem goB (H : Hyp L D Shun w₀ e) (h : At L D w₀ e cs false b s.j g w) (hgo : b.go = true) (hs : ShAt L D s w) (hJ : J L.n D.N s a b) :
    ∃ g' w', stepG Try.prog false g w = .go g' w' (nxE L false s b) ∧ ShAt L D (nxS false s b) w' ∧ Turn L w w' ∧
      ((nxP L.n false s b = .gone ∧ ∃ q, QuitsD Try.prog q 1 g') ∨ (nxP L.n false s b ≠ .gone ∧ ∃ m, Goes Try.prog false (RX L false) (DX L Shun false (nxP L.n false s b)) (At L D w₀ e cs false (nxP L.n false s b) ((nxS false s b).cnt false)) m g' w')) := by
  obtain ⟨hK, h⟩ := h
  have hL := H.good
  have hg := hJ.g
  cases b <;> simp only [Pl.go, Bool.false_eq_true] at hgo <;> simp only [BAt, Bool.false_eq_true, if_false] at h
  case ld =>
    obtain ⟨hi, h⟩ := h
    obtain ⟨g', hst, h1, h2⟩ := B_ld H hK hi h hs hJ.kj hJ.jn
    refine ⟨g', w, hst, hs, Turn.refl w, .inr ?_⟩
    by_cases hc : s.j < s.k + L.n
    · have e1 : nxP L.n false s .ld = .sl := by simp [nxP, Sh.can, hc]
      rw [e1]
      exact ⟨by simp, _, gm (h1 hc) fun g w h => ⟨h.1, hi, h.2⟩⟩
    · have e1 : nxP L.n false s .ld = .rc := by simp [nxP, Sh.can, hc]
      rw [e1]
      exact ⟨by simp, _, gm (h2 hc) fun g w h => ⟨h.1, hi, h.2⟩⟩
  case sl =>
    obtain ⟨hi, h⟩ := h
    obtain ⟨g', hst, h1⟩ := B_sl H hK hi h hs
    have hsh := hs.setSlot hL (hJ.b1 (.inl rfl))
    rw [H.val] at hsh
    have ht : Turn L w (w.setCell (L.slot (s.j % L.n)) (.int .i64 (e.z s.j))) := Turn.set w _ (.inr (.inl rfl))
    exact ⟨g', _, hst, hsh, ht, .inr ⟨by simp [nxP], _, gm (h1 (hK.turn hL ht hsh rfl)) fun g w h => ⟨h.1, hi, h.2⟩⟩⟩
  case st =>
    obtain ⟨hi, h⟩ := h
    obtain ⟨g', hst, h1⟩ := B_st H hK hi h hs
    have hsh := hs.setPut hL hL.n (hJ.wr.2 rfl)
    have ht : Turn L w (w.setCell (L.ctr false) (.int .i64 ((s.j + 1 : Nat) : Int))) := Turn.set w _ (.inl rfl)
    exact ⟨g', _, hst, hsh, ht, .inr ⟨by simp [nxP], _, gm (h1 (hK.turn hL ht hsh rfl)) fun g w h => ⟨h.1, _, rfl, hi, h.2⟩⟩⟩
  case d0 =>
    obtain ⟨g', hst, h1⟩ := B_d0 H hK h
    exact ⟨g', w, hst, hs, Turn.refl w, .inr ⟨by simp [nxP], _, h1⟩⟩
  case d1 =>
    obtain ⟨g', hst, h1⟩ := B_d1 H hK h
    exact ⟨g', w, hst, hs, Turn.refl w, .inr ⟨by simp [nxP], _, h1⟩⟩
  case d2 =>
    cases ew : s.wg <;> simp only [ew, wgOk, Pl.bp] at hg <;> first | omega | skip
    · obtain ⟨g', hst, h1⟩ := B_d2a H hK h hs ew
      have hsh := hs.setGrp hL 0 (.int .u64 0) .c (by rw [ew]; rfl)
      have ht : Turn L w (w.setCell ⟨L.W, 0, none⟩ (.int .u64 0)) := Turn.set w _ (.inr (.inr (.inr (.inr rfl))))
      refine ⟨g', _, by simp only [nxE]; exact hst, by simp only [nxS, ew]; exact hsh, ht, .inl ⟨by simp only [nxP, ew], _, h1⟩⟩
    · obtain ⟨g', hst, h1⟩ := B_d2b H hK h hs ew
      have hsh := hs.setGrp hL 0 (.int .u64 1) .d (by rw [ew]; rfl)
      have ht : Turn L w (w.setCell ⟨L.W, 0, none⟩ (.int .u64 1)) := Turn.set w _ (.inr (.inr (.inr (.inr rfl))))
      have e1 : nxP L.n false s .d2 = .d3 := by simp only [nxP, ew]
      have e2 : nxS false s .d2 = { s with wg := .d } := by simp only [nxS, ew]
      rw [e1, e2]
      exact ⟨g', _, by simp only [nxE]; exact hst, hsh, ht, .inr ⟨by simp, _, h1 (hK.turn hL ht hsh rfl)⟩⟩
  case d3 =>
    cases ew : s.wg <;> simp only [ew, wgOk, Pl.bp] at hg <;> first | omega | skip
    obtain ⟨g', hst, h1⟩ := B_d3 H hK h hs ew
    exact ⟨g', w, hst, hs, Turn.refl w, .inr ⟨by simp [nxP], _, h1⟩⟩
  case d4 =>
    cases ew : s.wg <;> simp only [ew, wgOk, Pl.bp] at hg <;> first | omega | skip
    obtain ⟨g', hst, h1⟩ := B_d4 H hK h hs ew
    have hsh := hs.setGrp hL 0 (.int .u64 0) .e (by rw [ew]; rfl)
    have ht : Turn L w (w.setCell ⟨L.W, 0, none⟩ (.int .u64 0)) := Turn.set w _ (.inr (.inr (.inr (.inr rfl))))
    exact ⟨g', _, hst, hsh, ht, .inr ⟨by simp [nxP], _, h1 (hK.turn hL ht hsh rfl)⟩⟩
  case d5 =>
    cases ew : s.wg <;> simp only [ew, wgOk, Pl.bp] at hg <;> first | omega | skip
    obtain ⟨g', hst, h1⟩ := B_d5 H hK h hs ew
    have hsh := hs.setGrp hL 1 (.int .u32 1) .f (by rw [ew]; rfl)
    have ht : Turn L w (w.setCell ⟨L.W, 1, none⟩ (.int .u32 1)) := Turn.set w _ (.inr (.inr (.inr (.inr rfl))))
    exact ⟨g', _, hst, hsh, ht, .inl ⟨rfl, _, h1⟩⟩

/-- What goroutine 0's own steps do. -/
theorem goA (H : Hyp L D Shun w₀ e) (h : At L D w₀ e cs true a s.k g w) (hgo : a.go = true) (hs : ShAt L D s w) (hJ : J L.n D.N s a b) (hf : a = .w3 → s.wg = .f) :
    ∃ g' w', stepG Try.prog true g w = .go g' w' (nxE L true s a) ∧ ShAt L D (nxS true s a) w' ∧ Turn L w w' ∧
      nxP L.n true s a ≠ .gone ∧ ∃ m, Goes Try.prog true (RX L true) (DX L Shun true (nxP L.n true s a)) (At L D w₀ e cs true (nxP L.n true s a) ((nxS true s a).cnt true)) m g' w' := by
  obtain ⟨hK, oa, oc, hO, h⟩ := h
  have hL := H.good
  have hg := hJ.g
  cases a <;> simp only [Pl.go, Bool.false_eq_true] at hgo <;> simp only [AAt] at h
  case ld =>
    obtain ⟨hi, h⟩ := h
    obtain ⟨g', hst, h1, h2⟩ := A_ld H hK hi ⟨_, _, hO, h⟩ hs hJ.kj
    refine ⟨g', w, hst, hs, Turn.refl w, ?_⟩
    by_cases hc : s.k < s.j
    · have e1 : nxP L.n true s .ld = .sl := by simp [nxP, Sh.can, hc]
      rw [e1]
      exact ⟨by simp, _, gm (h1 hc) fun g w ⟨h, oa, oc, h', h''⟩ => ⟨h, oa, oc, h', hi, h''⟩⟩
    · have e1 : nxP L.n true s .ld = .rc := by simp [nxP, Sh.can, hc]
      rw [e1]
      exact ⟨by simp, _, gm (h2 hc) fun g w ⟨h, oa, oc, h', h''⟩ => ⟨h, oa, oc, h', hi, h''⟩⟩
  case sl =>
    obtain ⟨hi, h⟩ := h
    obtain ⟨g', hst, h1⟩ := A_sl H hK hi ⟨_, _, hO, h⟩ hs (Nat.le_refl _) (hJ.a1 (.inl rfl))
    exact ⟨g', w, hst, hs, Turn.refl w, by simp [nxP], _, gm h1 fun g w ⟨h, oa, oc, h', h''⟩ => ⟨h, oa, oc, h', hi, h''⟩⟩
  case st =>
    obtain ⟨hi, h⟩ := h
    have hsh := hs.setTaken hL
    have ht : Turn L w (w.setCell (L.ctr true) (.int .i64 ((s.k + 1 : Nat) : Int))) := Turn.set w _ (.inl rfl)
    obtain ⟨g', hst, h1⟩ := A_st H hi ⟨_, _, hO, h⟩ hs (hK.turn hL ht hsh rfl)
    exact ⟨g', _, hst, hsh, ht, by simp [nxP], _, gm h1 fun g w ⟨h, oa, oc, h', h''⟩ => ⟨h, oa, oc, h', hi, h''⟩⟩
  case w0 =>
    obtain ⟨g', hst, h1⟩ := A_w0 H hK ⟨_, _, hO, h⟩
    exact ⟨g', w, hst, hs, Turn.refl w, by simp [nxP], _, h1⟩
  case w1 =>
    cases ew : s.wg <;> simp only [ew, wgOk, Pl.ap] at hg <;> first | omega | skip
    · obtain ⟨g', hst, h1⟩ := A_w1a H hK ⟨_, _, hO, h⟩ hs ew
      have e1 : nxP L.n true s .w1 = .w2 := by simp only [nxP, ew]
      rw [e1]
      exact ⟨g', w, hst, hs, Turn.refl w, by simp, _, h1⟩
    · obtain ⟨g', hst, h1⟩ := A_w1c H hK ⟨_, _, hO, h⟩ hs ew
      have e1 : nxP L.n true s .w1 = .we := by simp only [nxP, ew]
      rw [e1]
      exact ⟨g', w, hst, hs, Turn.refl w, by simp, _, gm h1 fun g w ⟨h, oa, oc, h', h''⟩ => ⟨h, oa, oc, h', .inl h''⟩⟩
  case w2 =>
    cases ew : s.wg <;> simp only [ew, wgOk, Pl.ap] at hg <;> first | omega | skip
    · have hsh := hs.setGrp hL 0 (.int .u64 4294967297) .b (by rw [ew]; rfl)
      have ht : Turn L w (w.setCell ⟨L.W, 0, none⟩ (.int .u64 4294967297)) := Turn.set w _ (.inr (.inr (.inr (.inr rfl))))
      obtain ⟨g', hst, h1⟩ := A_w2a H ⟨_, _, hO, h⟩ hs ew (hK.turn hL ht hsh rfl)
      have e1 : nxP L.n true s .w2 = .w3 := by simp only [nxP, ew]
      have e2 : nxS true s .w2 = { s with wg := .b } := by simp only [nxS, ew]
      rw [e1, e2]
      exact ⟨g', _, by simp only [nxE, ew]; exact hst, hsh, ht, by simp, _, h1⟩
    · obtain ⟨g', hst, h1⟩ := A_w2c H hK ⟨_, _, hO, h⟩ hs ew
      have e1 : nxP L.n true s .w2 = .w1 := by simp only [nxP, ew]
      have e2 : nxS true s .w2 = s := by simp only [nxS, ew]
      rw [e1, e2]
      exact ⟨g', w, by simp only [nxE, ew]; exact hst, hs, Turn.refl w, by simp, _, h1⟩
  case w3 =>
    have ew := hf rfl
    have hsh := hs.setGrp hL 1 (.int .u32 (1 - 1)) .c (by rw [ew]; rfl)
    have ht : Turn L w (w.setCell ⟨L.W, 1, none⟩ (.int .u32 (1 - 1))) := Turn.set w _ (.inr (.inr (.inr (.inr rfl))))
    obtain ⟨g', hst, h1⟩ := A_w3 H ⟨_, _, hO, h⟩ hs ew (hK.turn hL ht hsh rfl)
    exact ⟨g', _, hst, hsh, ht, by simp [nxP], _, h1⟩
  case w4 =>
    cases ew : s.wg <;> simp only [ew, wgOk, Pl.ap] at hg <;> first | omega | skip
    obtain ⟨g', hst, h1⟩ := A_w4 H hK ⟨_, _, hO, h⟩ hs ew
    exact ⟨g', w, hst, hs, Turn.refl w, by simp [nxP], _, gm h1 fun g w ⟨h, oa, oc, h', h''⟩ => ⟨h, oa, oc, h', .inr h''⟩⟩
  case we =>
    rcases h with h | h
    · obtain ⟨g', hst, h1⟩ := A_we1 H hK ⟨_, _, hO, h⟩
      exact ⟨g', w, hst, hs, Turn.refl w, by simp [nxP], _, gm h1 fun g w ⟨h, oa, oc, h', h''⟩ => ⟨h, oa, oc, h', .inl h''⟩⟩
    · obtain ⟨g', hst, h1⟩ := A_we2 H hK ⟨_, _, hO, h⟩
      exact ⟨g', w, hst, hs, Turn.refl w, by simp [nxP], _, gm h1 fun g w ⟨h, oa, oc, h', h''⟩ => ⟨h, oa, oc, h', .inr h''⟩⟩
  case wq =>
    rcases h with h | h
    · obtain ⟨g', hst, h1⟩ := A_wq1 H hK ⟨_, _, hO, h⟩
      exact ⟨g', w, hst, hs, Turn.refl w, by simp [nxP], _, h1⟩
    · obtain ⟨g', hst, h1⟩ := A_wq2 H hK ⟨_, _, hO, h⟩
      exact ⟨g', w, hst, hs, Turn.refl w, by simp [nxP], _, h1⟩
  all_goals exact h.elim

/-- ████ WHAT WAS ASKED OF THE TWO. ████ -/
theorem spec (H : Hyp L D Shun w₀ e) (cs : List Frame) : Spec Try.prog L D Shun (At L D w₀ e cs) where
  run := at_run
  go := by
    intro x p g w s a b h hgo hs hJ hx hf
    cases x
    · obtain rfl : b = p := hx
      obtain ⟨g', w', h1, h2, h3, h4⟩ := goB H h hgo hs hJ
      exact ⟨g', w', h1, h2, h3, h4.imp (fun ⟨h5, h6⟩ => ⟨rfl, h5, h6⟩) id⟩
    · obtain rfl : a = p := hx
      obtain ⟨g', w', h1, h2, h3, h4⟩ := goA H h hgo hs hJ hf
      exact ⟨g', w', h1, h2, h3, .inr h4⟩
  wait := by
    intro i g w h
    obtain ⟨_, oa, oc, _, h⟩ := h
    exact A_wait (e := e) (cs := cs) h
  wake := by
    intro i g w h
    exact B_wake (L := L) (D := D) (e := e) (i := i) h.2
  bl := by
    intro x i g w h
    rw [H.unit]
    cases x
    · obtain ⟨hK, k, rfl, hk, h⟩ := h
      by_cases hN : k + 1 = D.N
      · have e1 : aft D.N false (k + 1) = .d0 := by simp [aft, hN]
        rw [e1]
        refine ⟨(B_bl0_a H hK hN h).1, fun kk w' hkk ht hr hw => ?_⟩
        rcases hkk with rfl | rfl
        · exact ⟨_, (B_bl0_a H hK hN h).2 w' (hK.turn' ht hr hw)⟩
        · exact ⟨_, (B_bl0_b H hK hN h).2 w' (hK.turn' ht hr hw)⟩
      · have e1 : aft D.N false (k + 1) = .ld := by simp [aft, hN]
        have hlt : k + 1 < D.N := by omega
        rw [e1]
        refine ⟨(B_bl1_a H hK hlt h).1, fun kk w' hkk ht hr hw => ?_⟩
        rcases hkk with rfl | rfl
        · exact ⟨_, gm ((B_bl1_a H hK hlt h).2 w' (hK.turn' ht hr hw)) fun g w h => ⟨h.1, hlt, h.2⟩⟩
        · exact ⟨_, gm ((B_bl1_b H hK hlt h).2 w' (hK.turn' ht hr hw)) fun g w h => ⟨h.1, hlt, h.2⟩⟩
    · obtain ⟨hK, oa, oc, hO, hi, h⟩ := h
      have hO' : ∀ {w'}, Turn L w w' → ∀ oa oc, OutAt L D 3 i oa oc w → OutAt L D 3 i oa oc w' := fun ht _ _ h => h.turn H.good ht
      by_cases hN : i = D.N
      · have e1 : aft D.N true i = .w0 := by simp [aft, hN]
        rw [e1]
        refine ⟨(A_bl0_a H hK hN ⟨_, _, hO, h⟩).1, fun kk w' hkk ht hr hw => ?_⟩
        rcases hkk with rfl | rfl
        · exact ⟨_, (A_bl0_a H hK hN ⟨_, _, hO, h⟩).2 w' (hK.turn' ht hr hw) (hO' ht)⟩
        · exact ⟨_, (A_bl0_b H hK hN ⟨_, _, hO, h⟩).2 w' (hK.turn' ht hr hw) (hO' ht)⟩
      · have e1 : aft D.N true i = .ld := by simp [aft, hN]
        have hlt : i < D.N := by omega
        rw [e1]
        refine ⟨(A_bl1_a H hK hlt ⟨_, _, hO, h⟩).1, fun kk w' hkk ht hr hw => ?_⟩
        rcases hkk with rfl | rfl
        · exact ⟨_, gm ((A_bl1_a H hK hlt ⟨_, _, hO, h⟩).2 w' (hK.turn' ht hr hw) (hO' ht)) fun g w ⟨h, oa, oc, h', h''⟩ => ⟨h, oa, oc, h', hlt, h''⟩⟩
        · exact ⟨_, gm ((A_bl1_b H hK hlt ⟨_, _, hO, h⟩).2 w' (hK.turn' ht hr hw) (hO' ht)) fun g w ⟨h, oa, oc, h', h''⟩ => ⟨h, oa, oc, h', hlt, h''⟩⟩
  rc := by
    intro x i g w h
    rw [H.unit]
    cases x
    · obtain ⟨hK, hi, h⟩ := h
      exact ⟨(B_rc H hK hi h).1, fun w' ht hr hw => ⟨_, gm ((B_rc H hK hi h).2 w' (hK.turn' ht hr hw)) fun g w h => ⟨h.1, hi, h.2⟩⟩⟩
    · obtain ⟨hK, oa, oc, hO, hi, h⟩ := h
      exact ⟨(A_rc H hK hi ⟨_, _, hO, h⟩).1, fun w' ht hr hw => ⟨_, gm ((A_rc H hK hi ⟨_, _, hO, h⟩).2 w' (hK.turn' ht hr hw) fun _ _ h => h.turn H.good ht) fun g w ⟨h, oa, oc, h', h''⟩ => ⟨h, oa, oc, h', hi, h''⟩⟩⟩
#print axioms spec
end
end Go.Proofs.Ytdmiilgdkmbmeaa.Rg
namespace Go.Proofs.Ytdmiilgdkmbmeaa.Rg
open Go Go.Conc

/-! ### a region that asks the tape, by what holds between its operations -/
section
variable {P : Program} {x : Bool} {R : World → World → Prop} {D : World → World → Array Event → Prop} {Stop : Goroutine → World → Prop} {b : Frame} {k : List Item} {cs : List Frame} {l : List Oper} {m : Nat}
theorem Gz.anyI (T : Tms R D) (hk : b.kind ≠ .early) (I : Array Bool → Act → World → Prop) (hIR : ∀ ls a w w₁, I ls a w → R w w₁ → I ls a w₁) (hb : ∀ ls : Array Bool, ls.size = l.length → Region.ready .any l.toArray ls = [] → ∀ i, i < l.length → ls.getD i false = true) (hg : ∀ (i : Nat) (o : Oper), l[i]? = some o → o.guard = none)
    (hS : ∀ (ls : Array Bool) (a : Act) (w : World) (i : Nat) (o : Oper), ls.size = l.length → i ∈ Region.ready .any l.toArray ls → l[i]? = some o → I ls a w → ∃ v w', ((execOp a.eval o).run P w = .ok (.value v) w' ∨ ((execOp a.eval o).run P w = .ok .skip w' ∧ v = undef)) ∧ D w w' (Go.Conc.listed P b.fn a o w) ∧ I (ls.setIfInBounds i true) (a.put o.dst v) w')
    (hE : ∀ (ls : Array Bool) (a : Act) (w : World), (∀ i, i < l.length → ls.getD i false = true) → I ls a w → Goes P x R D Stop m (G (b.at a (.inRegion l.toArray [] :: k)) cs) w) :
    ∀ (fuel t : Nat) (ls : Array Bool) (a : Act) (w : World), ls.size = l.length → left (fun j => ls.getD j false) l.length ≤ fuel → I ls a w → Goes P x R D Stop (m + fuel) (G (b.at a (.inRegion l.toArray (Region.linearise.go .any l.toArray fuel t ls []) :: k)) cs) w := by
  intro fuel
  induction fuel with
  | zero =>
    intro t ls a w hsz hlf hI
    exact hE ls a w (left_zero (Nat.le_zero.1 hlf)) hI
  | succ fuel ih =>
    intro t ls a w hsz hlf hI
    rw [lin_cases]
    split
    · rename_i i hi
      have hr := List.mem_of_getElem? hi
      obtain ⟨h1, o, ho, _⟩ := mem_ready.1 hr
      have ho' : l[i]? = some o := by simpa using ho
      have hi' : i < l.length := (List.getElem?_eq_some_iff.1 ho').1
      have hlf' : left (fun j => (ls.setIfInBounds i true).getD j false) l.length ≤ fuel := by
        have hl0 : ls.getD i false = false := by
          rw [Array.getD_eq_getD_getElem?, Array.getElem?_eq_getElem (by omega)] at h1 ⊢
          exact h1
        have := left_set hl0 (by omega) hi'
        omega
      refine Goes.step rfl fun w₁ h₁ => ?_
      obtain ⟨v, w', hrun, hD, hI'⟩ := hS ls a w₁ i o hsz hr ho' (hIR _ _ _ _ hI h₁)
      have hw : Region.wanted o (yielded l.toArray a.tmps) = true := by simp [Region.wanted, hg i o ho']
      rcases hrun with hrun | ⟨hrun, rfl⟩
      · rw [stepG_value ho hw hk hrun]
        exact ⟨hD, ih _ _ _ _ (by simpa using hsz) hlf' hI'⟩
      · rw [stepG_none ho hw hk hrun]
        exact ⟨hD, ih _ _ _ _ (by simpa using hsz) hlf' hI'⟩
    · rename_i hi
      have hall := hb ls hsz (ready_empty hi)
      exact Goes.mono (hE ls a w hall hI) (by omega)
theorem Gz.drawI {n' : Nat} {a : Act} {w : World} {c : Code} {id : Nat} {bf : List (List Nat)} (m : Nat) (T : Tmd R D) (e : c = .region id l.toArray true) (hm : P.follows .mixedOrders = true) (hk : b.kind ≠ .early) (I : Array Bool → Act → World → Prop) (hIR : ∀ ls a w w₁, I ls a w → R w w₁ → I ls a w₁) (hb : befB l bf = true) (hg : ∀ (i : Nat) (o : Oper), l[i]? = some o → o.guard = none)
    (h0 : I (Array.replicate l.length false) a w) (hle : Nat.ble (m + l.length + 1) n' = true)
    (hS : ∀ (ls : Array Bool) (a : Act) (w : World) (i : Nat) (o : Oper), ls.size = l.length → i ∈ Region.ready .any l.toArray ls → l[i]? = some o → I ls a w → ∃ v w', ((execOp a.eval o).run P w = .ok (.value v) w' ∨ ((execOp a.eval o).run P w = .ok .skip w' ∧ v = undef)) ∧ D w w' (Go.Conc.listed P b.fn a o w) ∧ I (ls.setIfInBounds i true) (a.put o.dst v) w')
    (hE : ∀ (ls : Array Bool) (a : Act) (w : World), (∀ i, i < l.length → ls.getD i false = true) → I ls a w → Goes P x R D Stop m (G (b.at a (.inRegion l.toArray [] :: k)) cs) w) : Goes P x R D Stop n' (G (b.at a (.code c :: k)) cs) w := by
  subst e
  have hle' := Nat.le_of_ble_eq_true hle
  refine Goes.mono (n := m + l.length + 1) (Goes.step rfl fun w₁ h₁ => ?_) hle'
  rw [stepG_region_draw, hm]
  refine ⟨T.letd w₁, ?_⟩
  have es : Region.schedule true l.toArray (w₁.tape w₁.drawn (.order b.fn id)) = Region.linearise.go .any l.toArray l.length (w₁.tape w₁.drawn (.order b.fn id)) (Array.replicate l.length false) [] := by
    simp [Region.schedule, Region.linearise]
  rw [es]
  exact Gz.anyI T.toTms hk I hIR (fun ls hsz hr => all_listed hb hsz hr) hg hS hE l.length _ _ a _ (by simp) (by
    have := left_le (fun j => (Array.replicate l.length false).getD j false) l.length
    exact this) (hIR _ _ _ _ h0 (T.trans _ _ _ h₁ (T.draw w₁ _)))
end

theorem al_old (w : World) (o : Obj) {i : Nat} (h : i < w.heap.size) : (w.alloc o).heap[i]? = w.heap[i]? := by
  show (w.heap.push o)[i]? = _
  rw [Array.getElem?_push, if_neg (by omega)]
theorem al_new (w : World) (o : Obj) : (w.alloc o).heap[w.heap.size]? = some o := by
  show (w.heap.push o)[w.heap.size]? = _
  rw [Array.getElem?_push, if_pos rfl]
/-! ### what is made -/
structure Fk (w₀ : World) (n : Nat) (K : List (Nat × Obj)) (w : World) : Prop where
  size : w.heap.size = w₀.heap.size + n
  low : ∀ b, b < w₀.heap.size → w.heap[b]? = w₀.heap[b]?
  os : w.os = w₀.os
  output : w.output = w₀.output
  tape : w.tape = w₀.tape
  obj : ∀ p ∈ K, w.heap[w₀.heap.size + p.1]? = some p.2
section
variable {w₀ w w' : World} {n : Nat} {K : List (Nat × Obj)} {o : Obj}
theorem Fk.start (w : World) : Fk w 0 [] w := ⟨rfl, fun _ _ => rfl, rfl, rfl, rfl, fun p hp => by cases hp⟩
theorem Fk.at (h : Fk w₀ n K w) (hr : AtRel w w') : Fk w₀ n K w' := by
  obtain ⟨d, rfl⟩ := hr
  exact ⟨h.size, h.low, h.os, h.output, h.tape, h.obj⟩
theorem Fk.alloc (h : Fk w₀ n K w) (o : Obj) : Fk w₀ (n + 1) ((n, o) :: K) (w.alloc o) := by
  refine ⟨?_, fun b hb => ?_, h.os, h.output, h.tape, fun p hp => ?_⟩
  · show (w.heap.push o).size = _
    rw [Array.size_push, h.size]; rfl
  · rw [al_old w o (by rw [h.size]; omega)]
    exact h.low b hb
  · rcases List.mem_cons.1 hp with rfl | hp
    · show (w.alloc o).heap[w₀.heap.size + n]? = some o
      rw [← h.size]; exact al_new w o
    · have := h.obj p hp
      rw [al_old w o (Array.getElem?_eq_some_iff.1 this).1]
      exact this
theorem Fk.get (h : Fk w₀ n K w) {b : Nat} (hm : (b, o) ∈ K) : w.heap[w₀.heap.size + b]? = some o := h.obj (b, o) hm
theorem Fk.set (h : Fk w₀ n K w) {b : Nat} {arr : Array Value} {ty : TypeId} (hm : (b, Obj.cells arr ty) ∈ K) (off : Nat) (v : Value) : Fk w₀ n ((b, .cells (arr.setIfInBounds off v) ty) :: K.filter (fun p => p.1 != b)) (w.setCell ⟨w₀.heap.size + b, off, none⟩ v) := by
  refine ⟨by rw [set_size]; exact h.size, fun b' hb' => ?_, h.os, h.output, h.tape, fun p hp => ?_⟩
  · rw [set_ne _ _ _ (show b' ≠ w₀.heap.size + b by omega)]
    exact h.low b' hb'
  · rcases List.mem_cons.1 hp with rfl | hp
    · exact set_eq v (h.get hm)
    · obtain ⟨h1, h2⟩ := List.mem_filter.1 hp
      have h3 : p.1 ≠ b := by simpa using h2
      rw [set_ne _ _ _ (show w₀.heap.size + p.1 ≠ w₀.heap.size + b by omega)]
      exact h.obj p h1
end

section
variable {P : Program} {Shun : Loc → Prop} {B W : Nat} {Stop : Goroutine → World → Prop} {b : Frame} {a : Act} {k : List Item} {cs : List Frame} {w₀ w : World} {m n d N : Nat} {K : List (Nat × Obj)} {g : Gm} {ds : List Deferred} {ops : Array Oper} {i : Nat} {rest : List Nat} {o : Oper}
theorem evD_cell {ad : Addr} {wr sy : Bool} (hs : sy = false → ¬ Shun (.cell ad)) (hb : ad.block < B) : EvD Shun B W ⟨.cell ad, wr, sy⟩ ∧ (⟨.cell ad, wr, sy⟩ : Event).loc ≠ .mark .disable ∧ (⟨.cell ad, wr, sy⟩ : Event).loc ≠ .mark .enable := by
  refine ⟨⟨fun x hx hsx => ?_, by rw [ofEvent_cell]; exact hb, by simp⟩, by simp, by simp⟩
  rw [ofEvent_cell] at hx
  obtain rfl := Option.some.inj hx
  cases sy
  · exact absurd hsx (hs rfl)
  · simp
/-- Something is made. -/
theorem Gz.mk1 (hk : b.kind ≠ .early) (hT : Tm a n g ds) (hF : Fk w₀ N K w) (ho : ops[i]? = some o) (hd : o.dst = some d) (hlt : Nat.blt d n = true) (hg : o.guard = none) (v : Nat → Value) (ob : Obj)
    (hr : ∀ a', Tm a' n g ds → ∀ w, (execOp a'.eval o).run P w = .ok (.value (v w.heap.size)) (w.alloc ob) ∧ (execOp a'.eval o).events P w #[] = #[])
    (h : ∀ a' w', Tm a' n ((d, v (w₀.heap.size + N)) :: g) ds → Fk w₀ (N + 1) ((N, ob) :: K) w' → Goes P true AtRel (DL Shun B W) Stop m (G (b.at a' (.inRegion ops rest :: k)) cs) w') :
    Goes P true AtRel (DL Shun B W) Stop (m + 1) (G (b.at a (.inRegion ops (i :: rest) :: k)) cs) w := by
  refine Goes.step rfl fun w₁ h₁ => ?_
  have hF1 := hF.at h₁
  obtain ⟨h2, h3⟩ := hr a hT w₁
  have hl : Go.Conc.listed P b.fn a o w₁ = #[] := by unfold Go.Conc.listed; rw [h3]; exact seen_none P _
  rw [stepG_value ho (by simp [Region.wanted, hg]) hk h2, hl, hd, hF1.size]
  exact ⟨fun e he => by simp at he, h _ _ (hT.put d (by simpa [Nat.blt_eq] using hlt) _) (hF1.alloc ob)⟩
theorem op_box {T : TypeId} {y : Operand} {v : Value} (hop : o.op = .box T y) (hy : evv g y = some v) : ∀ a', Tm a' n g ds → ∀ w, (execOp a'.eval o).run P w = .ok (.value (.pointer (some ⟨w.heap.size, 0, none⟩))) (w.alloc (.cells v.cells T)) ∧ (execOp a'.eval o).events P w #[] = #[] := fun a' hT w => by
  have e := evv_ok hT hy
  exact ⟨by simp [execOp, hop, e, Instr.box, newVar, newRow], by simp [execOp, hop, e, Instr.box, newVar, newRow]⟩
theorem op_alloc {T : TypeId} {ti : TypeInfo} {z : Value} (hop : o.op = .alloc T) (hi : P.info? T = some ti) (hz : ti.zero = some z) : ∀ a', Tm a' n g ds → ∀ w, (execOp a'.eval o).run P w = .ok (.value (.pointer (some ⟨w.heap.size, 0, none⟩))) (w.alloc (.cells z.cells T)) ∧ (execOp a'.eval o).events P w #[] = #[] := fun a' hT w => by
  exact ⟨by simp [execOp, hop, Instr.alloc, run_zero hi hz, newVar, newRow], by simp [execOp, hop, Instr.alloc, run_zero hi hz, ev_zero hi hz, newVar, newRow]⟩
theorem run_chan {T E : TypeId} {cd : ChanDir} {ti : TypeInfo} (ρ : Operand → Value) (hop : o.op = .makeChan T (.const (.int .i64 1))) (hρ : ρ (.const (.int .i64 1)) = .int .i64 1) (hu : P.underlying T = some (.chan cd E)) (hi : P.info? E = some ti) (hb : ti.bytes = 0) (w : World) : (execOp ρ o).run P w = .ok (.value (.chan (some w.heap.size))) (w.alloc (.chan 1 #[] false 0 0 false)) ∧ (execOp ρ o).events P w #[] = #[] := by
  have h1 : ¬ ((1 : Int) < 0 ∨ (1 : Int) > IntKind.i64.max ∨ ((ti.bytes : Int) * 1 > 2 ^ 48 - 112)) := by rw [hb]; decide
  exact ⟨by simp [execOp, hop, hρ, Instr.makeChan, asInt, asIntOf, run_underlying hu, typeInfo, hi, hb, IntKind.max, IntKind.bits, IntKind.signed], by simp [execOp, hop, hρ, Instr.makeChan, asInt, asIntOf, run_underlying hu, typeInfo, hi, hb, IntKind.max, IntKind.bits, IntKind.signed]⟩
theorem op_slice {T E : TypeId} {ti : TypeInfo} {z : Value} {y : Operand} {c : Nat} (hop : o.op = .makeSlice T y y) (hu : P.underlying T = some (.slice E)) (hi : P.info? E = some ti) (hz : ti.zero = some z) (hs : ti.size = 1) (hb : ti.bytes = 8) (hc : c ≤ 65536) (hy : evv g y = some (.int .i64 c)) : ∀ a', Tm a' n g ds → ∀ w, (execOp a'.eval o).run P w = .ok (.value (.slice (some ⟨w.heap.size, 0, none⟩) c c)) (w.alloc (.cells (madeCells z.cells c) E)) ∧ (execOp a'.eval o).events P w #[] = #[] := fun a' hT w => by
  have e := evv_ok hT hy
  have h1 := run_make (P := P) (w := w) T E ti z hu hi hz .i64 .i64 c c (by omega) (Int.le_refl _) (by rw [hb]; omega) (by omega)
  have h2 := events_make (P := P) w T E ti z hu hi hz .i64 .i64 c c (by omega) (Int.le_refl _) (by rw [hb]; omega) (by omega) (by rw [hb]; simp; omega) #[]
  rw [hs, Nat.mul_one, Int.toNat_natCast] at h1
  exact ⟨by simp [execOp, hop, e, h1], by simp [execOp, hop, e, h1, h2]⟩
/-- A plain store into what was made. -/
theorem Gz.lput (hk : b.kind ≠ .early) (hT : Tm a n g ds) (hF : Fk w₀ N K w) {X : TypeId} {y z : Operand} {ti : TypeInfo} {off bb : Nat} {v : Value} {u : Value} (ho : ops[i]? = some o) (hd : o.dst = none) (hg : o.guard = none) (hop : o.op = .store X y z) (hpl : plainT P X = true) (hz1 : P.info? X = some ti) (hz2 : ti.size = 1)
    (hvc : v.cells = #[v]) (hv1 : v.oneCell' = true) (hy : evv g y = some (.pointer (some ⟨w₀.heap.size + bb, 0, none⟩))) (hz : evv g z = some v) (hm : (bb, Obj.cells #[u] X) ∈ K) (hsh : ¬ Shun (.cell ⟨w₀.heap.size + bb, 0, none⟩)) (hB : w₀.heap.size + bb < B)
    (h : ∀ w', Fk w₀ N ((bb, .cells #[v] X) :: K.filter (fun p => p.1 != bb)) w' → Goes P true AtRel (DL Shun B W) Stop m (G (b.at a (.inRegion ops rest :: k)) cs) w') :
    Goes P true AtRel (DL Shun B W) Stop (m + 1) (G (b.at a (.inRegion ops (i :: rest) :: k)) cs) w := by
  refine Goes.step rfl fun w₁ h₁ => ?_
  have hF1 := hF.at h₁
  have ey := evv_ok hT hy
  have ez := evv_ok hT hz
  have hc : w₁.cell? ⟨w₀.heap.size + bb, 0, none⟩ = some u := by simp [World.cell?, hF1.get hm]
  have hf : w₁.frozen? ⟨w₀.heap.size + bb, 0, none⟩ = false := by simp [World.frozen?, hF1.get hm]
  have hs1 : (storeVar X ⟨w₀.heap.size + bb, 0, none⟩ v).run P w₁ = .ok () (w₁.setCell ⟨w₀.heap.size + bb, 0, none⟩ v) := by
    unfold storeVar
    simp only [hvc]
    simp [run_size hz1, hz2, storeCells, go_sem, run_store P w₁ _ v .plain hv1, hc, hf]
  have hs2 : (storeVar X ⟨w₀.heap.size + bb, 0, none⟩ v).events P w₁ #[] = #[⟨.cell ⟨w₀.heap.size + bb, 0, none⟩, true, false⟩] := by
    unfold storeVar
    simp only [hvc]
    simp [run_size hz1, hz2, storeCells, go_sem, run_store P w₁ _ v .plain hv1, events_store P w₁ _ _ v .plain hv1, hc, hf]
  have hr : (execOp a.eval o).run P w₁ = .ok .skip (w₁.setCell ⟨w₀.heap.size + bb, 0, none⟩ v) := by simp [execOp, hop, ey, ez, Instr.storeAt, Instr.sureAddr, hs1]
  have he : (execOp a.eval o).events P w₁ #[] = #[⟨.cell ⟨w₀.heap.size + bb, 0, none⟩, true, false⟩] := by simp [execOp, hop, ey, ez, Instr.storeAt, Instr.sureAddr, hs1, hs2]
  rw [stepG_none ho (by simp [Region.wanted, hg]) hk hr, hd]
  refine ⟨fun e he' => ?_, h _ (hF1.set hm 0 v)⟩
  have hm' := mem_listed he'
  rw [he] at hm'
  rw [show e = _ from by simpa using hm']
  exact evD_cell (fun _ => hsh) hB
/-- A plain load of what was made. -/
theorem Gz.lget (hk : b.kind ≠ .early) (hT : Tm a n g ds) (hF : Fk w₀ N K w) {X : TypeId} {y : Operand} {bb : Nat} {v : Value} (ho : ops[i]? = some o) (hd : o.dst = some d) (hlt : Nat.blt d n = true) (hg : o.guard = none) (hop : o.op = .load X y) (hpl : plainT P X = true)
    (hy : evv g y = some (.pointer (some ⟨w₀.heap.size + bb, 0, none⟩))) (hm : (bb, Obj.cells #[v] X) ∈ K) (hsh : ¬ Shun (.cell ⟨w₀.heap.size + bb, 0, none⟩)) (hB : w₀.heap.size + bb < B)
    (h : ∀ a', Tm a' n ((d, v) :: g) ds → Goes P true AtRel (DL Shun B W) Stop m (G (b.at a' (.inRegion ops rest :: k)) cs) w) :
    Goes P true AtRel (DL Shun B W) Stop (m + 1) (G (b.at a (.inRegion ops (i :: rest) :: k)) cs) w := by
  refine Gz.val tmdL.toTms ho (by simp [Region.wanted, hg]) hk (v := v) (fun w₁ h₁ => ?_) (by rw [hd]; exact h _ (hT.put d (by simpa [Nat.blt_eq] using hlt) v))
  have hF1 := hF.at h₁
  have ey := evv_ok hT hy
  have hc : w₁.cell? ⟨w₀.heap.size + bb, 0, none⟩ = some v := by simp [World.cell?, hF1.get hm]
  refine ⟨by simp [execOp, hop, ey, Instr.loadAt, Instr.sureAddr, loadVar, run_plain hpl, Go.load, Sem.run, hc], fun e he => ?_⟩
  have hm' := mem_listed he
  simp [execOp, hop, ey, Instr.loadAt, Instr.sureAddr, loadVar, run_plain hpl, hc] at hm'
  rw [hm']
  exact evD_cell (fun _ => hsh) hB
end
end Go.Proofs.Ytdmiilgdkmbmeaa.Rg
namespace Go.Proofs.Ytdmiilgdkmbmeaa.Rg
open Go Go.Conc

def b01 (b : Bool) : Nat := if b then 1 else 0
def vv (i b : Nat) : Value := if i < 2 then .chan (some b) else .pointer (some ⟨b, 0, none⟩)
def oo (X : TypeId) (ls : Nat → Bool) (f : Nat → Nat) (i : Nat) : Obj := if i < 2 then .chan 1 #[] false 0 0 false else .cells #[if ls (i + 2) then .chan (some (f (i - 2))) else .chan none] X
structure CI (w₀ : World) (n : Nat) (g : Gm) (ds : List Deferred) (dd : Nat → Nat) (X : TypeId) (ls : Nat → Bool) (f : Nat → Nat) (a : Act) (w : World) : Prop where
  tsz : a.tmps.size = n
  dfr : a.defers = ds
  old : ∀ t v, lkv t g = some v → a.tmps.getD t undef = v
  low : ∀ b, b < w₀.heap.size → w.heap[b]? = w₀.heap[b]?
  os : w.os = w₀.os
  output : w.output = w₀.output
  tape : w.tape = w₀.tape
  size : w.heap.size = w₀.heap.size + (b01 (ls 0) + b01 (ls 1) + b01 (ls 2) + b01 (ls 3))
  rng : ∀ i, i < 4 → ls i = true → w₀.heap.size ≤ f i ∧ f i < w.heap.size
  inj : ∀ i j, i < 4 → j < 4 → ls i = true → ls j = true → f i = f j → i = j
  val : ∀ i, i < 4 → ls i = true → a.tmps.getD (dd i) undef = vv i (f i)
  obj : ∀ i, i < 4 → ls i = true → w.heap[f i]? = some (oo X ls f i)
  cl : (ls 4 = true → ls 0 = true ∧ ls 2 = true) ∧ (ls 5 = true → ls 1 = true ∧ ls 3 = true)
section
variable {w₀ w w' : World} {n : Nat} {g : Gm} {ds : List Deferred} {dd : Nat → Nat} {X : TypeId} {ls : Nat → Bool} {f : Nat → Nat} {a : Act} {i : Nat}
def ls1 (ls : Nat → Bool) (i : Nat) : Nat → Bool := fun j => if j = i then true else ls j
def f1 (f : Nat → Nat) (i b : Nat) : Nat → Nat := fun j => if j = i then b else f j
theorem getD_put {d : Nat} {v : Value} (hd : d < a.tmps.size) (t : Nat) : (a.put (some d) v).tmps.getD t undef = if t = d then v else a.tmps.getD t undef := by
  show (a.tmps.setIfInBounds d v).getD t undef = _
  rw [Array.getD_eq_getD_getElem?]
  by_cases e : t = d
  · subst e
    rw [if_pos rfl, Array.getElem?_setIfInBounds_self_of_lt hd]; rfl
  · rw [if_neg e, Array.getElem?_setIfInBounds_ne (Ne.symm e), ← Array.getD_eq_getD_getElem?]
/-- One more is made. -/
theorem CI.make (h : CI w₀ n g ds dd X ls f a w) (hi : i < 4) (hl : ls i = false) (hdn : ∀ i, i < 4 → dd i < n) (hinj : ∀ i j, i < 4 → j < 4 → dd i = dd j → i = j) (hg : ∀ i, i < 4 → ∀ v, lkv (dd i) g = some v → False) :
    CI w₀ n g ds dd X (ls1 ls i) (f1 f i w.heap.size) (a.put (some (dd i)) (vv i w.heap.size)) (w.alloc (if i < 2 then .chan 1 #[] false 0 0 false else .cells #[.chan none] X)) := by
  have hsz : (w.alloc (if i < 2 then Obj.chan 1 #[] false 0 0 false else .cells #[.chan none] X)).heap.size = w.heap.size + 1 := by show (w.heap.push _).size = _; rw [Array.size_push]
  have hd : dd i < a.tmps.size := by rw [h.tsz]; exact hdn i hi
  have e45 : (i = 0 ∨ i = 2 → ls 4 = false) ∧ (i = 1 ∨ i = 3 → ls 5 = false) := by
    refine ⟨fun e => ?_, fun e => ?_⟩
    · cases h4 : ls 4
      · rfl
      · obtain ⟨h5, h6⟩ := h.cl.1 h4
        rcases e with rfl | rfl
        · rw [hl] at h5; cases h5
        · rw [hl] at h6; cases h6
    · cases h4 : ls 5
      · rfl
      · obtain ⟨h5, h6⟩ := h.cl.2 h4
        rcases e with rfl | rfl
        · rw [hl] at h5; cases h5
        · rw [hl] at h6; cases h6
  refine { tsz := by show (a.tmps.setIfInBounds _ _).size = n; rw [Array.size_setIfInBounds, h.tsz], dfr := h.dfr, old := fun t v hv => ?_, low := fun b hb => ?_, os := h.os, output := h.output, tape := h.tape, size := ?_, rng := fun j hj hlj => ?_, inj := fun j j' hj hj' hlj hlj' e => ?_, val := fun j hj hlj => ?_, obj := fun j hj hlj => ?_, cl := ?_ }
  · rw [getD_put hd, if_neg (fun e => hg i hi v (by rw [← e]; exact hv))]
    exact h.old t v hv
  · rw [al_old w _ (by rw [h.size]; omega)]
    exact h.low b hb
  · rw [hsz, h.size]
    have : i = 0 ∨ i = 1 ∨ i = 2 ∨ i = 3 := by omega
    rcases this with rfl | rfl | rfl | rfl <;> simp [ls1, hl, b01] <;> omega
  · rw [hsz]
    by_cases e : j = i
    · subst e
      simp only [f1, if_pos]
      rw [h.size]; omega
    · simp only [ls1, if_neg e] at hlj
      simp only [f1, if_neg e]
      have := h.rng j hj hlj
      omega
  · by_cases e1 : j = i <;> by_cases e2 : j' = i
    · rw [e1, e2]
    · simp only [ls1, if_neg e2] at hlj'
      simp only [f1, if_pos e1, if_neg e2] at e
      have := h.rng j' hj' hlj'
      omega
    · simp only [ls1, if_neg e1] at hlj
      simp only [f1, if_neg e1, if_pos e2] at e
      have := h.rng j hj hlj
      omega
    · simp only [ls1, if_neg e1] at hlj
      simp only [ls1, if_neg e2] at hlj'
      simp only [f1, if_neg e1, if_neg e2] at e
      exact h.inj j j' hj hj' hlj hlj' e
  · rw [getD_put hd]
    by_cases e : j = i
    · subst e
      rw [if_pos rfl]; simp [f1]
    · simp only [ls1, if_neg e] at hlj
      rw [if_neg (fun e2 => e (hinj j i hj hi e2))]
      simp only [f1, if_neg e]
      exact h.val j hj hlj
  · by_cases e : j = i
    · subst e
      simp only [f1, if_pos]
      rw [al_new]
      have : j = 0 ∨ j = 1 ∨ j = 2 ∨ j = 3 := by omega
      rcases this with rfl | rfl | rfl | rfl
      · rfl
      · rfl
      · simp [oo, ls1, e45.1 (.inr rfl)]
      · simp [oo, ls1, e45.2 (.inr rfl)]
    · simp only [ls1, if_neg e] at hlj
      simp only [f1, if_neg e]
      have h1 := h.obj j hj hlj
      rw [al_old w _ (Array.getElem?_eq_some_iff.1 h1).1, h1]
      have hj' : j = 0 ∨ j = 1 ∨ j = 2 ∨ j = 3 := by omega
      have hi' : i = 0 ∨ i = 1 ∨ i = 2 ∨ i = 3 := by omega
      rcases hj' with rfl | rfl | rfl | rfl
      · rfl
      · rfl
      · rcases hi' with rfl | rfl | rfl | rfl
        · simp [oo, ls1, e45.1 (.inl rfl)]
        · simp [oo, ls1, f1]
        · exact absurd rfl e
        · simp [oo, ls1, f1]
      · rcases hi' with rfl | rfl | rfl | rfl
        · simp [oo, ls1, f1]
        · simp [oo, ls1, e45.2 (.inl rfl)]
        · simp [oo, ls1, f1]
        · exact absurd rfl e
  · have hi' : i = 0 ∨ i = 1 ∨ i = 2 ∨ i = 3 := by omega
    rcases hi' with rfl | rfl | rfl | rfl <;> simp only [ls1] <;> refine ⟨fun e => ?_, fun e => ?_⟩ <;> simp at e ⊢ <;> first | exact h.cl.1 e | exact h.cl.2 e | exact (h.cl.1 e).1 | exact (h.cl.1 e).2 | exact (h.cl.2 e).1 | exact (h.cl.2 e).2
/-- A bell is put into its variable. -/
theorem CI.put (h : CI w₀ n g ds dd X ls f a w) {r : Nat} (hr : r < 2) (hl0 : ls r = true) (hl2 : ls (r + 2) = true) (hl : ls (r + 4) = false) :
    CI w₀ n g ds dd X (ls1 ls (r + 4)) f a (w.setCell ⟨f (r + 2), 0, none⟩ (.chan (some (f r)))) := by
  have hob := h.obj (r + 2) (by omega) hl2
  have hw : oo X ls f (r + 2) = .cells #[.chan none] X := by simp [oo, hl]
  rw [hw] at hob
  have ne : ∀ j, j < 4 → j ≠ r + 2 → ls j = true → f j ≠ f (r + 2) := fun j hj hne hlj e => hne (h.inj j (r + 2) hj (by omega) hlj hl2 e)
  refine { tsz := h.tsz, dfr := h.dfr, old := h.old, low := fun b hb => ?_, os := h.os, output := h.output, tape := h.tape, size := ?_, rng := fun j hj hlj => ?_, inj := fun j j' hj hj' hlj hlj' e => ?_, val := fun j hj hlj => ?_, obj := fun j hj hlj => ?_, cl := ?_ }
  · have := (h.rng (r + 2) (by omega) hl2).1
    rw [set_ne _ _ _ (show b ≠ f (r + 2) by omega)]
    exact h.low b hb
  · rw [set_size, h.size]
    have e : ∀ j, j < 4 → ls1 ls (r + 4) j = ls j := fun j hj => by simp only [ls1]; rw [if_neg (by omega)]
    rw [e 0 (by omega), e 1 (by omega), e 2 (by omega), e 3 (by omega)]
  · simp only [ls1, show j ≠ r + 4 by omega, if_false] at hlj
    rw [set_size]
    exact h.rng j hj hlj
  · simp only [ls1, show j ≠ r + 4 by omega, if_false] at hlj
    simp only [ls1, show j' ≠ r + 4 by omega, if_false] at hlj'
    exact h.inj j j' hj hj' hlj hlj' e
  · simp only [ls1, show j ≠ r + 4 by omega, if_false] at hlj
    exact h.val j hj hlj
  · simp only [ls1, show j ≠ r + 4 by omega, if_false] at hlj
    by_cases e : j = r + 2
    · subst e
      rw [set_eq _ hob]
      simp [oo, ls1]
    · rw [set_ne _ _ _ (ne j hj e hlj), h.obj j hj hlj]
      have : j < 2 ∨ (¬ j < 2 ∧ j + 2 ≠ r + 4) := by omega
      rcases this with h2 | ⟨h2, h3⟩
      · simp [oo, h2]
      · simp [oo, h2, ls1, h3, show ¬ j = r + 2 by omega]
  · have hr' : r = 0 ∨ r = 1 := by omega
    rcases hr' with rfl | rfl
    · refine ⟨fun _ => ⟨by simp [ls1, hl0], by simp [ls1, hl2]⟩, fun e => ?_⟩
      simp [ls1] at e ⊢
      exact h.cl.2 e
    · refine ⟨fun e => ?_, fun _ => ⟨by simp [ls1, hl0], by simp [ls1, hl2]⟩⟩
      simp [ls1] at e ⊢
      exact h.cl.1 e
end

/-- The two bells stand. -/
structure ChF (w : World) (X : TypeId) (f : Nat → Nat) (w' : World) : Prop where
  size : w'.heap.size = w.heap.size + 4
  low : ∀ b, b < w.heap.size → w'.heap[b]? = w.heap[b]?
  os : w'.os = w.os
  output : w'.output = w.output
  tape : w'.tape = w.tape
  rng : ∀ i, i < 4 → w.heap.size ≤ f i ∧ f i < w.heap.size + 4
  inj : ∀ i j, i < 4 → j < 4 → f i = f j → i = j
  c0 : w'.heap[f 0]? = some (.chan 1 #[] false 0 0 false)
  c1 : w'.heap[f 1]? = some (.chan 1 #[] false 0 0 false)
  c2 : w'.heap[f 2]? = some (.cells #[.chan (some (f 0))] X)
  c3 : w'.heap[f 3]? = some (.cells #[.chan (some (f 1))] X)
structure ChOps (P : Program) (l : List Oper) (X E : TypeId) (cd : ChanDir) (d0 d1 d2 d3 : Nat) : Prop where
  len : l.length = 6
  p0 : (l.getD 0 default).op = .makeChan X (.const (.int .i64 1))
  p1 : (l.getD 1 default).op = .makeChan X (.const (.int .i64 1))
  p2 : (l.getD 2 default).op = .alloc X
  p3 : (l.getD 3 default).op = .alloc X
  p4 : (l.getD 4 default).op = .store X (.tmp d2) (.tmp d0)
  p5 : (l.getD 5 default).op = .store X (.tmp d3) (.tmp d1)
  t0 : (l.getD 0 default).dst = some d0
  t1 : (l.getD 1 default).dst = some d1
  t2 : (l.getD 2 default).dst = some d2
  t3 : (l.getD 3 default).dst = some d3
  t4 : (l.getD 4 default).dst = none
  t5 : (l.getD 5 default).dst = none
  g : l.all (fun o => o.guard.isNone) = true
  a40 : (l.getD 4 default).after.any (fun e => Region.binds .any e && e.on == 0) = true
  a42 : (l.getD 4 default).after.any (fun e => Region.binds .any e && e.on == 2) = true
  a51 : (l.getD 5 default).after.any (fun e => Region.binds .any e && e.on == 1) = true
  a53 : (l.getD 5 default).after.any (fun e => Region.binds .any e && e.on == 3) = true
  und : P.underlying X = some (.chan cd E)
section
variable {P : Program} {Shun : Loc → Prop} {B W : Nat} {Stop : Goroutine → World → Prop} {b : Frame} {a : Act} {k : List Item} {cs : List Frame} {w : World} {n : Nat} {g : Gm} {ds : List Deferred} {l : List Oper} {X E : TypeId} {cd : ChanDir} {d0 d1 d2 d3 : Nat}
def d4 (d0 d1 d2 d3 : Nat) : Nat → Nat := fun i => match i with | 0 => d0 | 1 => d1 | 2 => d2 | _ => d3
theorem ls_set {ls : Array Bool} {i : Nat} (hi : i < ls.size) : (fun j => (ls.setIfInBounds i true).getD j false) = ls1 (fun j => ls.getD j false) i := by
  funext j
  by_cases e : j = i
  · subst e
    simp only [ls1, if_pos]
    rw [Array.getD_eq_getD_getElem?, Array.getElem?_setIfInBounds_self_of_lt hi]; rfl
  · simp only [ls1, if_neg e]
    rw [getD_set_ne _ (Ne.symm e)]
theorem Gz.chans {c : Code} {id n' : Nat} (m : Nat) (hO : ChOps P l X E cd d0 d1 d2 d3) (e : c = .region id l.toArray true) (hm : P.follows .mixedOrders = true) (hk : b.kind ≠ .early) (hb : befB l (befs l) = true) (hT : Tm a n g ds)
    {tX tE : TypeInfo} (hi : P.info? X = some tX) (hz : tX.zero = some (.chan none)) (hs : tX.size = 1) (hiE : P.info? E = some tE) (hbE : tE.bytes = 0) (hdn : d0 < n ∧ d1 < n ∧ d2 < n ∧ d3 < n) (hdi : d0 ≠ d1 ∧ d0 ≠ d2 ∧ d0 ≠ d3 ∧ d1 ≠ d2 ∧ d1 ≠ d3 ∧ d2 ≠ d3) (hdg : ∀ d, (d = d0 ∨ d = d1 ∨ d = d2 ∨ d = d3) → ∀ v, lkv d g = some v → False)
    (hsh : ∀ ad : Addr, w.heap.size ≤ ad.block → ¬ Shun (.cell ad)) (hB : w.heap.size + 4 ≤ B) (hle : Nat.ble (m + l.length + 1) n' = true)
    (hE : ∀ a' w' f, Tm a' n ((d0, .chan (some (f 0))) :: (d1, .chan (some (f 1))) :: (d2, .pointer (some ⟨f 2, 0, none⟩)) :: (d3, .pointer (some ⟨f 3, 0, none⟩)) :: g) ds → ChF w X f w' → Goes P true AtRel (DL Shun B W) Stop m (G (b.at a' (.inRegion l.toArray [] :: k)) cs) w') :
    Goes P true AtRel (DL Shun B W) Stop n' (G (b.at a (.code c :: k)) cs) w := by
  have hpl : plainT P X = true := by unfold plainT; rw [hO.und]
  have get : ∀ i o, l[i]? = some o → l.getD i default = o := fun i o h => by rw [List.getD_eq_getElem?_getD, h]; rfl
  have ddn : ∀ i, i < 4 → d4 d0 d1 d2 d3 i < n := fun i hi => by
    have : i = 0 ∨ i = 1 ∨ i = 2 ∨ i = 3 := by omega
    rcases this with rfl | rfl | rfl | rfl
    · exact hdn.1
    · exact hdn.2.1
    · exact hdn.2.2.1
    · exact hdn.2.2.2
  have ddi : ∀ i j, i < 4 → j < 4 → d4 d0 d1 d2 d3 i = d4 d0 d1 d2 d3 j → i = j := fun i j hi hj e => by
    have h1 : i = 0 ∨ i = 1 ∨ i = 2 ∨ i = 3 := by omega
    have h2 : j = 0 ∨ j = 1 ∨ j = 2 ∨ j = 3 := by omega
    obtain ⟨e1, e2, e3, e4, e5, e6⟩ := hdi
    rcases h1 with rfl | rfl | rfl | rfl <;> rcases h2 with rfl | rfl | rfl | rfl <;> simp only [d4] at e <;> first | rfl | exact absurd e (by assumption) | exact absurd e.symm (by assumption)
  have ddg : ∀ i, i < 4 → ∀ v, lkv (d4 d0 d1 d2 d3 i) g = some v → False := fun i hi v hv => by
    have : i = 0 ∨ i = 1 ∨ i = 2 ∨ i = 3 := by omega
    rcases this with rfl | rfl | rfl | rfl
    · exact hdg d0 (.inl rfl) v hv
    · exact hdg d1 (.inr (.inl rfl)) v hv
    · exact hdg d2 (.inr (.inr (.inl rfl))) v hv
    · exact hdg d3 (.inr (.inr (.inr rfl))) v hv
  refine Gz.drawI m tmdL e hm hk (fun ls a' w' => ∃ f, CI w n g ds (d4 d0 d1 d2 d3) X (fun j => ls.getD j false) f a' w') (fun ls a' w1 w2 ⟨f, h⟩ hr => ?_) hb (fun i o ho => ?_) ?_ hle (fun ls a' w1 i o hsz hr ho ⟨f, h⟩ => ?_) (fun ls a' w1 hall ⟨f, h⟩ => ?_)
  · obtain ⟨d, rfl⟩ := hr
    exact ⟨f, h.tsz, h.dfr, h.old, h.low, h.os, h.output, h.tape, h.size, h.rng, h.inj, h.val, h.obj, h.cl⟩
  · have := hO.g
    rw [List.all_eq_true] at this
    have := this o (List.mem_of_getElem? ho)
    simpa using this
  · have hf : ∀ j, (Array.replicate l.length false).getD j false = false := repl_false _
    refine ⟨fun _ => 0, hT.size, hT.dfr, hT.val, fun _ _ => rfl, rfl, rfl, rfl, by simp only [hf, b01]; rfl, ?_, ?_, ?_, ?_, ?_⟩
    · intro i _ h; rw [hf] at h; cases h
    · intro i j _ _ h; rw [hf] at h; cases h
    · intro i _ h; rw [hf] at h; cases h
    · intro i _ h; rw [hf] at h; cases h
    · exact ⟨(fun h => by rw [hf] at h; cases h), (fun h => by rw [hf] at h; cases h)⟩
  · have hil : i < l.length := (List.getElem?_eq_some_iff.1 ho).1
    rw [hO.len] at hil
    have hisz : i < ls.size := by rw [hsz, hO.len]; exact hil
    obtain ⟨hl1, o', ho', hdep⟩ := mem_ready.1 hr
    have hoo : o' = o := by
      have : l[i]? = some o' := by simpa using ho'
      rw [ho] at this
      exact (Option.some.inj this).symm
    subst hoo
    have hl0 : ls.getD i false = false := by
      rw [Array.getD_eq_getD_getElem?, Array.getElem?_eq_getElem hisz] at hl1 ⊢
      exact hl1
    have dep : ∀ j, o'.after.any (fun e => Region.binds .any e && e.on == j) = true → ls.getD j false = true := fun j hj => by
      rw [Array.any_eq_true'] at hj
      obtain ⟨ed, he, h2⟩ := hj
      simp only [Bool.and_eq_true, beq_iff_eq] at h2
      have := hdep ed he h2.1
      rw [h2.2] at this
      exact this
    have hio := get i o' ho
    have mk : ∀ {q : Nat}, q < 4 → i = q → o'.dst = some (d4 d0 d1 d2 d3 q) → ((execOp a'.eval o').run P w1 = .ok (.value (vv q w1.heap.size)) (w1.alloc (if q < 2 then .chan 1 #[] false 0 0 false else .cells #[.chan none] X)) ∧ (execOp a'.eval o').events P w1 #[] = #[]) →
        ∃ v w', ((execOp a'.eval o').run P w1 = .ok (.value v) w' ∨ ((execOp a'.eval o').run P w1 = .ok .skip w' ∧ v = undef)) ∧ DL Shun B W w1 w' (Go.Conc.listed P b.fn a' o' w1) ∧ ∃ f, CI w n g ds (d4 d0 d1 d2 d3) X (fun j => (ls.setIfInBounds i true).getD j false) f (a'.put o'.dst v) w' := by
      intro q hq e1 hd ⟨hr1, hr2⟩
      subst e1
      refine ⟨_, _, .inl hr1, ?_, f1 f i w1.heap.size, ?_⟩
      · have hl : Go.Conc.listed P b.fn a' o' w1 = #[] := by unfold Go.Conc.listed; rw [hr2]; exact seen_none P _
        rw [hl]
        exact fun e he => by simp at he
      · rw [ls_set hisz, hd]
        exact h.make hq hl0 ddn ddi ddg
    have st : ∀ {r dp dv : Nat}, r < 2 → i = r + 4 → o'.dst = none → o'.op = .store X (.tmp dp) (.tmp dv) → dp = d4 d0 d1 d2 d3 (r + 2) → dv = d4 d0 d1 d2 d3 r → ls.getD r false = true → ls.getD (r + 2) false = true →
        ∃ v w', ((execOp a'.eval o').run P w1 = .ok (.value v) w' ∨ ((execOp a'.eval o').run P w1 = .ok .skip w' ∧ v = undef)) ∧ DL Shun B W w1 w' (Go.Conc.listed P b.fn a' o' w1) ∧ ∃ f, CI w n g ds (d4 d0 d1 d2 d3) X (fun j => (ls.setIfInBounds i true).getD j false) f (a'.put o'.dst v) w' := by
      intro r dp dv hr2 e1 hd hop e2 e3 hlr hlr2
      subst e1
      have hob := h.obj (r + 2) (by omega) hlr2
      have hoo : oo X (fun j => ls.getD j false) f (r + 2) = .cells #[.chan none] X := by simp [oo, hl0]
      rw [hoo] at hob
      have ey : a'.eval (.tmp dp) = .pointer (some ⟨f (r + 2), 0, none⟩) := by
        have := h.val (r + 2) (by omega) hlr2
        rw [← e2] at this
        rw [show a'.eval (.tmp dp) = a'.tmps.getD dp undef from rfl, this]
        simp [vv]
      have ez : a'.eval (.tmp dv) = .chan (some (f r)) := by
        have := h.val r (by omega) hlr
        rw [← e3] at this
        rw [show a'.eval (.tmp dv) = a'.tmps.getD dv undef from rfl, this]
        simp [vv, hr2]
      have hc : w1.cell? ⟨f (r + 2), 0, none⟩ = some (.chan none) := by simp [World.cell?, hob]
      have hf : w1.frozen? ⟨f (r + 2), 0, none⟩ = false := by simp [World.frozen?, hob]
      have hs1 : (execOp a'.eval o').run P w1 = .ok .skip (w1.setCell ⟨f (r + 2), 0, none⟩ (.chan (some (f r)))) := by
        unfold execOp
        simp only [hop, ey, ez]
        simp [Instr.storeAt, Instr.sureAddr, storeVar, run_size hi, hs, storeCells, go_sem, stored, hc, hf]
      have hs2 : (execOp a'.eval o').events P w1 #[] = #[⟨.cell ⟨f (r + 2), 0, none⟩, true, false⟩] := by
        unfold execOp
        simp only [hop, ey, ez]
        simp [Instr.storeAt, Instr.sureAddr, storeVar, run_size hi, hs, storeCells, go_sem, storedEv, hc, hf]
      refine ⟨undef, _, .inr ⟨hs1, rfl⟩, fun e he => ?_, f, ?_⟩
      · have hmm := mem_listed he
        rw [hs2] at hmm
        rw [show e = _ from by simpa using hmm]
        have hrg := h.rng (r + 2) (by omega) hlr2
        have hsz4 : w1.heap.size ≤ w.heap.size + 4 := by
          rw [h.size]
          have : ∀ x, b01 x ≤ 1 := fun x => by cases x <;> decide
          have h0 := this (ls.getD 0 false); have h1 := this (ls.getD 1 false); have h2 := this (ls.getD 2 false); have h3 := this (ls.getD 3 false)
          omega
        exact evD_cell (fun _ => hsh _ hrg.1) (by show f (r + 2) < B; omega)
      · rw [ls_set hisz, hd]
        exact h.put hr2 hlr hlr2 hl0
    have hcase : i = 0 ∨ i = 1 ∨ i = 2 ∨ i = 3 ∨ i = 4 ∨ i = 5 := by omega
    rcases hcase with rfl | rfl | rfl | rfl | rfl | rfl
    · exact mk (q := 0) (by omega) rfl (by rw [← hio]; exact hO.t0) (run_chan a'.eval (by rw [← hio]; exact hO.p0) rfl hO.und hiE hbE w1)
    · exact mk (q := 1) (by omega) rfl (by rw [← hio]; exact hO.t1) (run_chan a'.eval (by rw [← hio]; exact hO.p1) rfl hO.und hiE hbE w1)
    · exact mk (q := 2) (by omega) rfl (by rw [← hio]; exact hO.t2) (op_alloc (n := n) (g := []) (ds := a'.defers) (by rw [← hio]; exact hO.p2) hi hz a' ⟨h.tsz, (fun _ _ e => by cases e), rfl⟩ w1)
    · exact mk (q := 3) (by omega) rfl (by rw [← hio]; exact hO.t3) (op_alloc (n := n) (g := []) (ds := a'.defers) (by rw [← hio]; exact hO.p3) hi hz a' ⟨h.tsz, (fun _ _ e => by cases e), rfl⟩ w1)
    · exact st (r := 0) (by omega) rfl (by rw [← hio]; exact hO.t4) (by rw [← hio]; exact hO.p4) rfl rfl (dep 0 (by rw [← hio]; exact hO.a40)) (dep 2 (by rw [← hio]; exact hO.a42))
    · exact st (r := 1) (by omega) rfl (by rw [← hio]; exact hO.t5) (by rw [← hio]; exact hO.p5) rfl rfl (dep 1 (by rw [← hio]; exact hO.a51)) (dep 3 (by rw [← hio]; exact hO.a53))
  · have hl : ∀ i, i < 6 → ls.getD i false = true := fun i hi => hall i (by rw [hO.len]; exact hi)
    have hsz : w1.heap.size = w.heap.size + 4 := by
      rw [h.size]
      simp only [hl 0 (by omega), hl 1 (by omega), hl 2 (by omega), hl 3 (by omega), b01]
      rfl
    refine hE a' w1 f ⟨h.tsz, fun t v hv => ?_, h.dfr⟩ ⟨hsz, h.low, h.os, h.output, h.tape, fun i hi => by have := h.rng i hi (hl i (by omega)); omega, fun i j hi hj e => h.inj i j hi hj (hl i (by omega)) (hl j (by omega)) e, ?_, ?_, ?_, ?_⟩
    · simp only [lkv] at hv
      split at hv
      · rename_i c
        rw [Nat.eq_of_beq_eq_true c, ← Option.some.inj hv]
        exact h.val 0 (by omega) (hl 0 (by omega))
      split at hv
      · rename_i c
        rw [Nat.eq_of_beq_eq_true c, ← Option.some.inj hv]
        exact h.val 1 (by omega) (hl 1 (by omega))
      split at hv
      · rename_i c
        rw [Nat.eq_of_beq_eq_true c, ← Option.some.inj hv]
        exact h.val 2 (by omega) (hl 2 (by omega))
      split at hv
      · rename_i c
        rw [Nat.eq_of_beq_eq_true c, ← Option.some.inj hv]
        exact h.val 3 (by omega) (hl 3 (by omega))
      exact h.old t v hv
    · exact h.obj 0 (by omega) (hl 0 (by omega))
    · exact h.obj 1 (by omega) (hl 1 (by omega))
    · have := h.obj 2 (by omega) (hl 2 (by omega))
      simpa [oo, hl 4 (by omega)] using this
    · have := h.obj 3 (by omega) (hl 3 (by omega))
      simpa [oo, hl 5 (by omega)] using this
end
end Go.Proofs.Ytdmiilgdkmbmeaa.Rg
namespace Go.Proofs.Ytdmiilgdkmbmeaa.Rg
open Go Go.Conc

section
variable {P : Program} {n : Nat} {g : Gm} {ds : List Deferred} {o : Oper}
theorem ev_places (w : World) : ∀ (fs : List Field) (places : List (Nat × Nat)) (es : Array Event), fs.mapM (fun f => (P.info? f.type).map fun i => (f.offset, i.size)) = some places →
    (fs.mapM fun f => Prod.mk f.offset <$> sizeOf f.type).events P w es = es
  | [], places, es, h => by simp
  | f :: fs, places, es, h => by
    simp only [List.mapM_cons, Option.bind_eq_bind, Option.pure_def] at h
    cases hi : P.info? f.type with
    | none => simp [hi] at h
    | some i =>
      cases hr : fs.mapM (fun f => (P.info? f.type).map fun i => (f.offset, i.size)) with
      | none => simp [hi, hr] at h
      | some rest =>
        have hs : (sizeOf f.type).run P w = .ok i.size w := by simp [sizeOf, typeInfo, hi]
        have he : (sizeOf f.type).events P w es = es := by simp [sizeOf, typeInfo, hi]
        simp [List.mapM_cons, hs, he, run_places w fs rest hr, ev_places w fs rest es hr]
theorem op_struct {T : TypeId} {fs : Array Field} {places : List (Nat × Nat)} {ti : TypeInfo} {z : Value} {y : Operand} {v : Value} {cells : Array Value} (hop : o.op = .build T #[(0, y)]) (hu : P.underlying T = some (.struct fs)) (hi : P.info? T = some ti) (hz : ti.zero = some z) (hpl : fs.toList.mapM (fun f => (P.info? f.type).map fun i => (f.offset, i.size)) = some places) (hy : evv g y = some v)
    (hb : P.built T [(0, v)] = some cells) : ∀ a', Tm a' n g ds → ∀ w, (execOp a'.eval o).run P w = .ok (.value (.agg cells)) w ∧ (execOp a'.eval o).events P w #[] = #[] := fun a' hT w => by
  have e := evv_ok hT hy
  have h1 := run_build (P := P) w T #[(0, v)] cells hb
  refine ⟨by simp [execOp, hop, e, h1], ?_⟩
  have h2 : (Instr.build T #[(0, v)]).events P w #[] = #[] := by
    have h3 := run_places (P := P) w fs.toList places hpl
    have h4 := ev_places (P := P) w fs.toList places #[] hpl
    have h5 : Instr.fill (fun x => places[x]?) z.cells [(0, v)] = some cells := by
      unfold Program.built at hb
      simp only [hi, hu, hz, hpl] at hb
      simpa using hb
    simp [Instr.build, run_zero hi hz, ev_zero hi hz, run_underlying hu, Array.mapM_eq_mapM_toList, h3, h4, h5]
  simp [execOp, hop, e, h1, h2]
end
section
variable {w₀ w w' : World} {n : Nat} {K : List (Nat × Obj)}
theorem Fk.cell (h : Fk w₀ n K w) {b off : Nat} {arr : Array Value} {ty : TypeId} {v : Value} (hm : (b, Obj.cells arr ty) ∈ K) (hv : arr[off]? = some v) : w.cell? ⟨w₀.heap.size + b, off, none⟩ = some v ∧ w.frozen? ⟨w₀.heap.size + b, off, none⟩ = false := by
  simp [World.cell?, World.frozen?, h.get hm, hv]
theorem Fk.set' (h : Fk w₀ n K w) {b off : Nat} {arr arr' : Array Value} {ty : TypeId} {v : Value} {K' : List (Nat × Obj)} (hm : (b, Obj.cells arr ty) ∈ K) (ha : arr.setIfInBounds off v = arr') (hK : ∀ p ∈ K', p ∈ K ∧ p.1 ≠ b) : Fk w₀ n ((b, .cells arr' ty) :: K') (w.setCell ⟨w₀.heap.size + b, off, none⟩ v) := by
  subst ha
  refine ⟨by rw [set_size]; exact h.size, fun b' hb' => ?_, h.os, h.output, h.tape, fun p hp => ?_⟩
  · rw [set_ne _ _ _ (show b' ≠ w₀.heap.size + b by omega)]
    exact h.low b' hb'
  · rcases List.mem_cons.1 hp with rfl | hp
    · exact set_eq v (h.get hm)
    · obtain ⟨h1, h2⟩ := hK p hp
      rw [set_ne _ _ _ (show w₀.heap.size + p.1 ≠ w₀.heap.size + b by omega)]
      exact h.obj p h1
/-- The two bells' places, told from the phase's beginning on. -/
structure Kc (k : Nat → Nat) : Prop where
  rng : ∀ i, i < 4 → 4 ≤ k i ∧ k i < 8
  inj : ∀ i j, i < 4 → j < 4 → k i = k j → i = j
theorem ChF.fk {f : Nat → Nat} {X : TypeId} (h : ChF w X f w') (hF : Fk w₀ 4 K w) : ∃ k, Kc k ∧ (∀ i, i < 4 → f i = w₀.heap.size + k i) ∧ Fk w₀ 8 ((k 0, .chan 1 #[] false 0 0 false) :: (k 1, .chan 1 #[] false 0 0 false) :: (k 2, .cells #[.chan (some (w₀.heap.size + k 0))] X) :: (k 3, .cells #[.chan (some (w₀.heap.size + k 1))] X) :: K) w' := by
  have e : ∀ i, i < 4 → f i = w₀.heap.size + (f i - w₀.heap.size) := fun i hi => by have := (h.rng i hi).1; rw [hF.size] at this; omega
  refine ⟨fun i => f i - w₀.heap.size, ⟨fun i hi => ?_, fun i j hi hj he => ?_⟩, e, ⟨by rw [h.size, hF.size], fun b hb => ?_, h.os.trans hF.os, h.output.trans hF.output, h.tape.trans hF.tape, fun p hp => ?_⟩⟩
  · have := h.rng i hi
    rw [hF.size] at this
    omega
  · refine h.inj i j hi hj ?_
    rw [e i hi, e j hj, show f i - w₀.heap.size = f j - w₀.heap.size from he]
  · rw [h.low b (by rw [hF.size]; omega)]
    exact hF.low b hb
  · simp only [List.mem_cons] at hp
    rcases hp with rfl | rfl | rfl | rfl | hp
    · rw [← e 0 (by omega)]; exact h.c0
    · rw [← e 1 (by omega)]; exact h.c1
    · show w'.heap[w₀.heap.size + (f 2 - w₀.heap.size)]? = _
      rw [← e 2 (by omega), ← e 0 (by omega)]; exact h.c2
    · show w'.heap[w₀.heap.size + (f 3 - w₀.heap.size)]? = _
      rw [← e 3 (by omega), ← e 1 (by omega)]; exact h.c3
    · have := hF.obj p hp
      rw [h.low _ (Array.getElem?_eq_some_iff.1 this).1]
      exact this
end
section
variable {P : Program} {Shun : Loc → Prop} {B W : Nat} {Stop : Goroutine → World → Prop} {b : Frame} {a : Act} {k : List Item} {cs : List Frame} {w₀ w : World} {m n d N : Nat} {K : List (Nat × Obj)} {g : Gm} {ds : List Deferred} {ops : Array Oper} {i : Nat} {rest : List Nat} {o : Oper}
theorem evD_said {ad : Addr} (hb : ad.block < B) : ∀ e ∈ (#[mkE (.read ad)] : Array Event), EvD Shun B W e ∧ e.loc ≠ .mark .disable ∧ e.loc ≠ .mark .enable := by
  intro e he
  rw [show e = mkE (.read ad) from by simpa using he]
  refine ⟨⟨fun x hx hsx => ?_, hb, by simp [mkE]⟩, by simp [mkE], by simp [mkE]⟩
  simp only [mkE, MemAct.ofEvent, MemAct.touch?, Option.some.injEq] at hx
  subst hx
  simp
/-- The atomic add. -/
theorem Gz.ladd {f : FuncId} {fn : Func} {ats : Array TypeId} {y z : Operand} {v e u : Int} {bb off : Nat} {arr arr' : Array Value} {ty : TypeId} {K' : List (Nat × Obj)} (hk : b.kind ≠ .early) (hT : Tm a n g ds) (hF : Fk w₀ N K w) (ho : ops[i]? = some o) (hd : o.dst = some d) (hlt : Nat.blt d n = true) (hg : o.guard = none) (hop : o.op = .call { callee := .value (.func f), args := #[y, z], argTypes := ats })
    (hf : P.funcs[f]? = some fn) (hname : (fn.name == "runtime.NumGoroutine") = false) (hb : fn.body.isNone = true) (hx : Extern.findNext fn = none) (he : Extern.find fn = some (Extern.Atomic.update (Op.intArith .add) .u64 true)) (hy : evv g y = some (.pointer (some ⟨w₀.heap.size + bb, off, none⟩))) (hz : evv g z = some (.int .u64 e)) (hm : (bb, Obj.cells arr ty) ∈ K) (hv : arr[off]? = some (.int .u64 v)) (hu : IntKind.u64.wrap (v + e) = u)
    (ha : arr.setIfInBounds off (.int .u64 u) = arr') (hK : ∀ p ∈ K', p ∈ K ∧ p.1 ≠ bb) (hB : w₀.heap.size + bb < B) (h : ∀ a' w', Tm a' n ((d, .int .u64 u) :: g) ds → Fk w₀ N ((bb, .cells arr' ty) :: K') w' → Goes P true AtRel (DL Shun B W) Stop m (G (b.at a' (.inRegion ops rest :: k)) cs) w') :
    Goes P true AtRel (DL Shun B W) Stop (m + 1) (G (b.at a (.inRegion ops (i :: rest) :: k)) cs) w := by
  refine Goes.step rfl fun w₁ h₁ => ?_
  have hF1 := hF.at h₁
  obtain ⟨hc, hz2⟩ := hF1.cell hm hv
  obtain ⟨a', hT', hst⟩ := step_aadd (P := P) (x := true) (w := w₁) (b := b) (k := k) (rest := rest) (cs := cs) hk hT ho hd hlt hg hop hf hname hb hx he hy hz hc hz2 u hu
  rw [hst]
  refine ⟨fun e he => ?_, h a' _ hT' (hF1.set' hm ha hK)⟩
  have : e = ⟨.cell ⟨w₀.heap.size + bb, off, none⟩, false, true⟩ ∨ e = ⟨.cell ⟨w₀.heap.size + bb, off, none⟩, true, true⟩ := by simpa using he
  rcases this with rfl | rfl
  · exact evD_cell (fun e => by cases e) hB
  · exact evD_cell (fun e => by cases e) hB
/-- A frame on its way out says a word. -/
theorem step_unwind {f : FuncId} {fn : Func} {todo : List Item} {x : Bool} (mk : Mark) (hm : ∀ g, mk ≠ .extern g) (hT : Tm a n g (dcap f [] :: ds)) (hf : P.funcs[f]? = some fn) (hname : (fn.name == "runtime.NumGoroutine") = false) (hb : fn.body.isNone = true) (hx : Extern.findNext fn = none) (he : Extern.find fn = some (fun _ => do mark mk; pure Extern.Race.none_)) (w : World) :
    stepG P x (G { b.at a todo with mode := .returning } cs) w = .go (G { b.at ⟨a.tmps, ds⟩ todo with mode := .returning } cs) w #[⟨.mark mk, false, true⟩] :=
  stepG_unwind_entry (v := .tuple #[]) (f := f) (args := #[]) (show a.defers = dcall f #[] :: ds from hT.dfr) hf hname hb hx he (by simp [Extern.Race.none_]) (by simp) (by
    intro x hx'
    simp at hx'
    subst hx'
    exact ⟨rfl, fun g h => hm g (Loc.mark.inj h)⟩)
/-- The go statement of a function value without arguments. -/
theorem step_go {q : Operand} {f : FuncId} {cap : List Value} {x : Bool} (hk : b.kind ≠ .early) (hT : Tm a n g ds) (ho : ops[i]? = some o) (hd : o.dst = none) (hg : o.guard = none) (hop : o.op = .go { callee := .value q, args := #[], argTypes := #[] }) (hq : evv g q = some (.func (.func f) #[] cap.toArray)) (w : World) :
    stepG P x (G (b.at a (.inRegion ops (i :: rest) :: k)) cs) w = .spawn (G (b.at a (.inRegion ops rest :: k)) cs) (born P (dcap f cap)) w #[] := by
  have e := evv_ok hT hq
  have hr : (execOp a.eval o).run P w = .ok (.spawn (dcap f cap)) w := by simp [execOp, hop, resolve, Deferred.ofValue, e, dcap]
  have he : (execOp a.eval o).events P w #[] = #[] := by simp [execOp, hop, resolve, Deferred.ofValue, e]
  rw [stepG_spawn (f := .func f) (c := cap.toArray) ho (by simp [Region.wanted, hg]) hk hr rfl, hd]
  unfold Go.Conc.listed
  rw [he, seen_none]
  rfl
end
end Go.Proofs.Ytdmiilgdkmbmeaa.Rg
namespace Go.Proofs.Ytdmiilgdkmbmeaa.Rg
open Go Go.Conc
section
variable {w₀ w : World} {Shun : Loc → Prop} {B W : Nat} {cs : List Frame} {nn N cap : Nat} {la : Option Addr} {k : Nat → Nat} {g : Goroutine}
def LU1 (w₀ : World) (cs : List Frame) (nn N cap : Nat) (la : Option Addr) (k : Nat → Nat) (g : Goroutine) : Prop :=
  ∃ (b5 b8 b14 : Act), Tm b5 48 [(3, .pointer (some ⟨w₀.heap.size + 0, 0, none⟩)), (6, .pointer (some ⟨w₀.heap.size + 3, 0, none⟩)), (8, .pointer (some ⟨w₀.heap.size + k 2, 0, none⟩)), (9, .pointer (some ⟨w₀.heap.size + k 3, 0, none⟩)), (10, .pointer (some ⟨w₀.heap.size + 8, 0, none⟩))] [] ∧ Tm b8 7 [(2, .pointer (some ⟨w₀.heap.size + 9, 0, none⟩)), (3, .pointer (some ⟨w₀.heap.size + 10, 0, none⟩))] [] ∧ Tm b14 117 [(0, .pointer (some ⟨w₀.heap.size + 8, 0, none⟩)), (1, .int .i64 1)] [] ∧ g = G ((base 17).at b14 [.inRegion c14.pa.pa.pd.pa.po.toArray [0], .code c14.pa.pa.pd.pd, .code c14.pd]) (((base 11).at b8 [.inRegion c8.pd.pa.po.toArray [1], .code c8.pd.pd]) :: ((base 6).at b5 [.inRegion c5.pd.pd.pd.pd.pd.pa.po.toArray [1], .code c5.pd.pd.pd.pd.pd.pd]) :: cs)
def LU2 (w₀ : World) (cs : List Frame) (nn N cap : Nat) (la : Option Addr) (k : Nat → Nat) (g : Goroutine) : Prop :=
  ∃ (b5 b8 b14 : Act), Tm b5 48 [(3, .pointer (some ⟨w₀.heap.size + 0, 0, none⟩)), (6, .pointer (some ⟨w₀.heap.size + 3, 0, none⟩)), (8, .pointer (some ⟨w₀.heap.size + k 2, 0, none⟩)), (9, .pointer (some ⟨w₀.heap.size + k 3, 0, none⟩)), (10, .pointer (some ⟨w₀.heap.size + 8, 0, none⟩))] [] ∧ Tm b8 7 [(2, .pointer (some ⟨w₀.heap.size + 9, 0, none⟩)), (3, .pointer (some ⟨w₀.heap.size + 10, 0, none⟩))] [] ∧ Tm b14 117 [] [dcap 23 []] ∧ g = G { (base 17).at b14 [.code c14.pd.pd.pd.pd.pd.pd.pd.pd.pd.pd.pa.pd.pa, .code c14.pd.pd.pd.pd.pd.pd.pd.pd.pd.pd.pd] with mode := .returning } (((base 11).at b8 [.inRegion c8.pd.pa.po.toArray [1], .code c8.pd.pd]) :: ((base 6).at b5 [.inRegion c5.pd.pd.pd.pd.pd.pa.po.toArray [1], .code c5.pd.pd.pd.pd.pd.pd]) :: cs)
def LU3 (w₀ : World) (cs : List Frame) (nn N cap : Nat) (la : Option Addr) (k : Nat → Nat) (g : Goroutine) : Prop :=
  ∃ (b5 b8 : Act), Tm b5 48 [(3, .pointer (some ⟨w₀.heap.size + 0, 0, none⟩)), (6, .pointer (some ⟨w₀.heap.size + 3, 0, none⟩)), (8, .pointer (some ⟨w₀.heap.size + k 2, 0, none⟩)), (9, .pointer (some ⟨w₀.heap.size + k 3, 0, none⟩)), (10, .pointer (some ⟨w₀.heap.size + 8, 0, none⟩))] [] ∧ Tm b8 7 [(6, .func (.func 18) #[] #[.pointer (some ⟨w₀.heap.size + 9, 0, none⟩), .pointer (some ⟨w₀.heap.size + 10, 0, none⟩)])] [] ∧ g = G ((base 11).at b8 [.inRegion c8.pd.pd.po.toArray [1]]) (((base 6).at b5 [.inRegion c5.pd.pd.pd.pd.pd.pa.po.toArray [1], .code c5.pd.pd.pd.pd.pd.pd]) :: cs)
def KF (w₀ : World) (nn N cap : Nat) (la : Option Addr) (k : Nat → Nat) : List (Nat × Obj) := [(8, .cells #[.int .u64 4294967296, .int .u32 0] 51), (10, .cells #[.func (.func 12) #[] #[.pointer (some ⟨w₀.heap.size + 0, 0, none⟩), .pointer (some ⟨w₀.heap.size + 3, 0, none⟩), .pointer (some ⟨w₀.heap.size + k 2, 0, none⟩), .pointer (some ⟨w₀.heap.size + k 3, 0, none⟩)]] 1), (9, .cells #[.pointer (some ⟨w₀.heap.size + 8, 0, none⟩)] 59), (k 0, .chan 1 #[] false 0 0 false), (k 1, .chan 1 #[] false 0 0 false), (k 2, .cells #[.chan (some (w₀.heap.size + k 0))] 41), (k 3, .cells #[.chan (some (w₀.heap.size + k 1))] 41), (3, .cells #[.pointer (some ⟨w₀.heap.size + 2, 0, none⟩)] 33), (2, .cells #[.slice (some ⟨w₀.heap.size + 1, 0, none⟩) nn nn, .int .i64 0, .int .i64 0] 56), (1, .cells (madeCells #[.int .i64 0] nn) 3), (0, .cells #[.slice la N cap] 22)]
section
variable {w : World} {nn N cap : Nat} {la : Option Addr} {k : Nat → Nat}
theorem KF_8 : (8, Obj.cells #[.int .u64 4294967296, .int .u32 0] 51) ∈ KF w nn N cap la k := by simp [KF]
theorem KF_10 : (10, Obj.cells #[.func (.func 12) #[] #[.pointer (some ⟨w.heap.size + 0, 0, none⟩), .pointer (some ⟨w.heap.size + 3, 0, none⟩), .pointer (some ⟨w.heap.size + k 2, 0, none⟩), .pointer (some ⟨w.heap.size + k 3, 0, none⟩)]] 1) ∈ KF w nn N cap la k := by simp [KF]
theorem KF_9 : (9, Obj.cells #[.pointer (some ⟨w.heap.size + 8, 0, none⟩)] 59) ∈ KF w nn N cap la k := by simp [KF]
theorem KF_k0 : (k 0, Obj.chan 1 #[] false 0 0 false) ∈ KF w nn N cap la k := by simp [KF]
theorem KF_k1 : (k 1, Obj.chan 1 #[] false 0 0 false) ∈ KF w nn N cap la k := by simp [KF]
theorem KF_k2 : (k 2, Obj.cells #[.chan (some (w.heap.size + k 0))] 41) ∈ KF w nn N cap la k := by simp [KF]
theorem KF_k3 : (k 3, Obj.cells #[.chan (some (w.heap.size + k 1))] 41) ∈ KF w nn N cap la k := by simp [KF]
theorem KF_3 : (3, Obj.cells #[.pointer (some ⟨w.heap.size + 2, 0, none⟩)] 33) ∈ KF w nn N cap la k := by simp [KF]
theorem KF_2 : (2, Obj.cells #[.slice (some ⟨w.heap.size + 1, 0, none⟩) nn nn, .int .i64 0, .int .i64 0] 56) ∈ KF w nn N cap la k := by simp [KF]
theorem KF_1 : (1, Obj.cells (madeCells #[.int .i64 0] nn) 3) ∈ KF w nn N cap la k := by simp [KF]
theorem KF_0 : (0, Obj.cells #[.slice la N cap] 22) ∈ KF w nn N cap la k := by simp [KF]
end
def tRing : TypeId := 56
def tGroup : TypeId := 51

end
end Go.Proofs.Ytdmiilgdkmbmeaa.Rg
namespace Go.Proofs.Ytdmiilgdkmbmeaa.Rg
open Go Go.Conc
section
variable {w₀ w : World} {Shun : Loc → Prop} {B W : Nat} {cs : List Frame} {nn N cap : Nat} {la : Option Addr} {k : Nat → Nat} {g : Goroutine}
theorem L_new {b5 : Act} (hb5 : Tm b5 48 [(0, .int .i64 nn), (1, .slice la N cap)] []) (hsh : ∀ ad : Addr, w₀.heap.size ≤ ad.block → ¬ Shun (.cell ad)) (hB : w₀.heap.size + 11 ≤ B) (hn1 : 1 ≤ nn) (hn2 : nn ≤ 65536) (hF : Fk w₀ 0 [] w) :
    Goes Try.prog true AtRel (DL Shun B W) (fun g w => ∃ k, Kc k ∧ Fk w₀ 11 [(10, .cells #[.func (.func 12) #[] #[.pointer (some ⟨w₀.heap.size + 0, 0, none⟩), .pointer (some ⟨w₀.heap.size + 3, 0, none⟩), .pointer (some ⟨w₀.heap.size + k 2, 0, none⟩), .pointer (some ⟨w₀.heap.size + k 3, 0, none⟩)]] 1), (9, .cells #[.pointer (some ⟨w₀.heap.size + 8, 0, none⟩)] 59), (8, .cells #[.int .u64 0, .int .u32 0] 51), (k 0, .chan 1 #[] false 0 0 false), (k 1, .chan 1 #[] false 0 0 false), (k 2, .cells #[.chan (some (w₀.heap.size + k 0))] 41), (k 3, .cells #[.chan (some (w₀.heap.size + k 1))] 41), (3, .cells #[.pointer (some ⟨w₀.heap.size + 2, 0, none⟩)] 33), (2, .cells #[.slice (some ⟨w₀.heap.size + 1, 0, none⟩) nn nn, .int .i64 0, .int .i64 0] 56), (1, .cells (madeCells #[.int .i64 0] nn) 3), (0, .cells #[.slice la N cap] 22)] w ∧ LU1 w₀ cs nn N cap la k g) 4000 (G ((base 6).at b5 [.code c5]) (cs)) w := by
  have TD : Tmd AtRel (DL Shun B W) := tmdL
  have T := TD.toTms
  have K : ∀ w, Ken Try.prog AtRel (DL Shun B W) (fun _ _ => False) w := fun _ => ⟨fun _ _ hc => hc.elim⟩
  refine Gz.seqE T (by kernel_rfl : c5 = .seq c5.pa c5.pd) ?_
  refine Gz.regionE (id := 0) (l := c5.pa.po) (r := [0, 1, 2]) T (by kernel_rfl) (by kernel_rfl) ?_
  refine Gz.mk1 (w₀ := w₀) (N := 0) (o := opq c5.pa 0) (d := 3) (by decide) hb5 hF (by kernel_rfl) (by kernel_rfl) (by decide) (by kernel_rfl) (v := fun b => .pointer (some ⟨b, 0, none⟩)) (ob := .cells #[.slice la N cap] 22) (op_box (v := .slice la N cap) (y := .tmp 1) (T := 22) (by kernel_rfl) (by kernel_rfl)) (fun a1 w hT hF => ?_)
  have hT1 : Tm a1 48 ((3, .pointer (some ⟨w₀.heap.size + 0, 0, none⟩)) :: [(0, .int .i64 nn), (1, .slice la N cap)]) [] := hT
  clear hT
  refine Gz.row T (K _) (by decide) hT1 [] [1, 2] [] [3, 0] (g' := [(3, .pointer (some ⟨w₀.heap.size + 0, 0, none⟩)), (0, .int .i64 nn)]) (qs := []) (by kernel_rfl) (by kernel_rfl) (by simp) (fun a3 hT3 => ?_)
  refine Gz.rend T ?_
  refine Gz.seqE T (by kernel_rfl : c5.pd = .seq c5.pd.pa c5.pd.pd) ?_
  refine Gz.regionE (id := 1) (l := c5.pd.pa.po) (r := [0, 1, 2, 3, 4, 5, 6, 7]) T (by kernel_rfl) (by kernel_rfl) ?_
  refine Gz.row T (K _) (by decide) hT3 [] [0] [1, 2, 3, 4, 5, 6, 7] [15, 3] (g' := [(15, .int .i64 nn), (3, .pointer (some ⟨w₀.heap.size + 0, 0, none⟩))]) (qs := []) (by kernel_rfl) (by kernel_rfl) (by simp) (fun a4 hT4 => ?_)
  refine Mz.enter (o := opq c5.pd.pa 1) (q := .func 7) (f := 7) (cc := c7) (cap := []) (args := #[.tmp 15]) (ats := #[3]) (mvG T) hT4 [.int .i64 nn] 14 (by kernel_rfl) (by kernel_rfl) (by decide) (by kernel_rfl) (by kernel_rfl) Try.func7 (by kernel_rfl) (by kernel_rfl) (by kernel_rfl) (by kernel_rfl) (by kernel_rfl) (fun a5 hT5 => ?_)
  refine Gz.seqE T (by kernel_rfl : c7 = .seq c7.pa c7.pd) ?_
  refine Gz.regionE (id := 0) (l := c7.pa.po) (r := [0, 1]) T (by kernel_rfl) (by kernel_rfl) ?_
  refine Gz.row T (K _) (by decide) hT5 [] [0, 1] [] [0] (g' := [(0, .int .i64 nn)]) (qs := []) (by kernel_rfl) (by kernel_rfl) (by simp) (fun a6 hT6 => ?_)
  refine Gz.rend T ?_
  refine Gz.seqE T (by kernel_rfl : c7.pd = .seq c7.pd.pa c7.pd.pd) ?_
  refine Gz.seqE T (by kernel_rfl : c7.pd.pa = .seq c7.pd.pa.pa c7.pd.pa.pd) ?_
  refine Gz.regionE (id := 1) (l := c7.pd.pa.pa.po) (r := [0, 1, 2, 3, 4, 5]) T (by kernel_rfl) (by kernel_rfl) ?_
  refine Gz.row T (K _) (by decide) hT6 [] [0] [1, 2, 3, 4, 5] [4, 0] (g' := [(4, .int .i64 nn), (0, .int .i64 nn)]) (qs := []) (by kernel_rfl) (by kernel_rfl) (by simp) (fun a7 hT7 => ?_)
  refine Gz.hint (o := opq c7.pd.pa.pa 1) (d := 5) T (by decide) hT7 (v := .bool false) (by kernel_rfl) (by kernel_rfl) (by decide) (by kernel_rfl) (by kernel_rfl) (congrArg some (n_one (by omega))) (fun a8 hT8 => ?_)
  refine Gz.row T (K _) (by decide) hT8 [] [2, 3] [4, 5] [7, 6, 0] (g' := [(7, .int .i64 nn), (6, .bool false), (0, .int .i64 nn)]) (qs := []) (by kernel_rfl) (by kernel_rfl) (by simp) (fun a9 hT9 => ?_)
  refine Gz.hint (o := opq c7.pd.pa.pa 4) (d := 8) T (by decide) hT9 (v := .bool false) (by kernel_rfl) (by kernel_rfl) (by decide) (by kernel_rfl) (by kernel_rfl) (congrArg some (n_top (by omega))) (fun a10 hT10 => ?_)
  refine Gz.row T (K _) (by decide) hT10 [] [5] [] [9, 0] (g' := [(9, .bool false), (0, .int .i64 nn)]) (qs := []) (by kernel_rfl) (by kernel_rfl) (by simp) (fun a11 hT11 => ?_)
  refine Gz.rend T ?_
  refine Gz.condFE (q := .tmp 9) (y := c7.pd.pa.pd.pa) (z := c7.pd.pa.pd.pd) T (by kernel_rfl) hT11 (by kernel_rfl) ?_
  refine Gz.skipE T (by kernel_rfl) ?_
  refine Gz.seqE T (by kernel_rfl : c7.pd.pd = .seq c7.pd.pd.pa c7.pd.pd.pd) ?_
  refine Gz.regionE (id := 3) (l := c7.pd.pd.pa.po) (r := [0, 1, 2, 3, 4, 5]) T (by kernel_rfl) (by kernel_rfl) ?_
  refine Gz.row T (K _) (by decide) hT11 [] [0] [1, 2, 3, 4, 5] [10] (g' := [(10, .int .i64 nn)]) (qs := []) (by kernel_rfl) (by kernel_rfl) (by simp) (fun a12 hT12 => ?_)
  refine Gz.mk1 (w₀ := w₀) (N := 1) (o := opq c7.pd.pd.pa 1) (d := 11) (by decide) hT12 hF (by kernel_rfl) (by kernel_rfl) (by decide) (by kernel_rfl) (v := fun b => .slice (some ⟨b, 0, none⟩) nn nn) (ob := .cells (madeCells #[.int .i64 0] nn) 3) (op_slice (T := 22) (E := 3) (ti := (Try.prog.info? 3).getD default) (z := .int .i64 0) (y := .tmp 10) (c := nn) (by kernel_rfl) (by kernel_rfl) (by kernel_rfl) (by kernel_rfl) (by kernel_rfl) (by kernel_rfl) hn2 (by kernel_rfl)) (fun a13 w hT hF => ?_)
  have hT13 : Tm a13 14 ((11, .slice (some ⟨w₀.heap.size + 1, 0, none⟩) nn nn) :: [(10, .int .i64 nn)]) [] := hT
  clear hT
  refine Mz.opv (o := opq c7.pd.pd.pa 2) (d := 12) (mvG T) (by decide) hT13 (v := .agg #[.slice (some ⟨w₀.heap.size + 1, 0, none⟩) nn nn, .int .i64 0, .int .i64 0]) (by kernel_rfl) (by kernel_rfl) (by decide) (by kernel_rfl) (by kernel_rfl) (op_struct (T := 56) (fs := match Try.prog.underlying 56 with | some (.struct fs) => fs | _ => #[]) (places := [(0, 1), (1, 1), (2, 1)]) (ti := (Try.prog.info? 56).getD default) (z := .agg #[.slice none 0 0, .int .i64 0, .int .i64 0]) (y := .tmp 11) (v := .slice (some ⟨w₀.heap.size + 1, 0, none⟩) nn nn) (by kernel_rfl) (by kernel_rfl) (by kernel_rfl) (by kernel_rfl) (by kernel_rfl) (by kernel_rfl) (by kernel_rfl)) (fun a15 hT15 => ?_)
  refine Gz.mk1 (w₀ := w₀) (N := 2) (o := opq c7.pd.pd.pa 3) (d := 13) (by decide) hT15 hF (by kernel_rfl) (by kernel_rfl) (by decide) (by kernel_rfl) (v := fun b => .pointer (some ⟨b, 0, none⟩)) (ob := .cells #[.slice (some ⟨w₀.heap.size + 1, 0, none⟩) nn nn, .int .i64 0, .int .i64 0] 56) (op_box (v := .agg #[.slice (some ⟨w₀.heap.size + 1, 0, none⟩) nn nn, .int .i64 0, .int .i64 0]) (y := .tmp 12) (T := 56) (by kernel_rfl) (by kernel_rfl)) (fun a16 w hT hF => ?_)
  have hT16 : Tm a16 14 ((13, .pointer (some ⟨w₀.heap.size + 2, 0, none⟩)) :: [(12, .agg #[.slice (some ⟨w₀.heap.size + 1, 0, none⟩) nn nn, .int .i64 0, .int .i64 0]), (11, .slice (some ⟨w₀.heap.size + 1, 0, none⟩) nn nn), (10, .int .i64 nn)]) [] := hT
  clear hT
  refine Gz.row T (K _) (by decide) hT16 [] [4, 5] [] [3, 2] (g' := [(3, .int .i64 0), (2, .pointer (some ⟨w₀.heap.size + 2, 0, none⟩))]) (qs := []) (by kernel_rfl) (by kernel_rfl) (by simp) (fun a18 hT18 => ?_)
  refine Gz.rend T ?_
  refine Gz.retE T (by kernel_rfl) ?_
  refine Gz.back2 (t := 2) (t' := 3) (v := .pointer (some ⟨w₀.heap.size + 2, 0, none⟩)) (u := .int .i64 0) (d := 16) T hT18 hT4 rfl Try.func7 (by kernel_rfl) (by kernel_rfl) (by kernel_rfl) (by kernel_rfl) (by decide) (fun a19 hT19 => ?_)
  refine Gz.row T (K _) (by decide) hT19 [] [2, 3, 4] [5, 6, 7] [18, 17, 3] (g' := [(18, .int .i64 0), (17, .pointer (some ⟨w₀.heap.size + 2, 0, none⟩)), (3, .pointer (some ⟨w₀.heap.size + 0, 0, none⟩))]) (qs := []) (by kernel_rfl) (by kernel_rfl) (by simp) (fun a20 hT20 => ?_)
  refine Gz.mk1 (w₀ := w₀) (N := 3) (o := opq c5.pd.pa 5) (d := 6) (by decide) hT20 hF (by kernel_rfl) (by kernel_rfl) (by decide) (by kernel_rfl) (v := fun b => .pointer (some ⟨b, 0, none⟩)) (ob := .cells #[.pointer none] 33) (op_alloc (T := 33) (ti := (Try.prog.info? 33).getD default) (z := .pointer none) (by kernel_rfl) (by kernel_rfl) (by kernel_rfl)) (fun a21 w hT hF => ?_)
  have hT21 : Tm a21 48 ((6, .pointer (some ⟨w₀.heap.size + 3, 0, none⟩)) :: [(18, .int .i64 0), (17, .pointer (some ⟨w₀.heap.size + 2, 0, none⟩)), (3, .pointer (some ⟨w₀.heap.size + 0, 0, none⟩))]) [] := hT
  clear hT
  refine Gz.lput (w₀ := w₀) (N := 4) (K := [(3, .cells #[.pointer none] 33), (2, .cells #[.slice (some ⟨w₀.heap.size + 1, 0, none⟩) nn nn, .int .i64 0, .int .i64 0] 56), (1, .cells (madeCells #[.int .i64 0] nn) 3), (0, .cells #[.slice la N cap] 22)]) (o := opq c5.pd.pa 6) (by decide) hT21 hF (X := 33) (y := .tmp 6) (z := .tmp 17) (ti := (Try.prog.info? 33).getD default) (off := 0) (bb := 3) (v := .pointer (some ⟨w₀.heap.size + 2, 0, none⟩)) (u := .pointer none) (by kernel_rfl) (by kernel_rfl) (by kernel_rfl) (by kernel_rfl) (by kernel_rfl) (by kernel_rfl) (by kernel_rfl) (by kernel_rfl) (by kernel_rfl) (by kernel_rfl) (by kernel_rfl) (by simp) (hsh _ (by simp)) (by omega) (fun w hF => ?_)
  replace hF : Fk w₀ 4 [(3, .cells #[.pointer (some ⟨w₀.heap.size + 2, 0, none⟩)] 33), (2, .cells #[.slice (some ⟨w₀.heap.size + 1, 0, none⟩) nn nn, .int .i64 0, .int .i64 0] 56), (1, .cells (madeCells #[.int .i64 0] nn) 3), (0, .cells #[.slice la N cap] 22)] w := hF
  refine Gz.row T (K _) (by decide) hT21 [] [7] [] [7, 6, 3] (g' := [(7, .int .i64 0), (6, .pointer (some ⟨w₀.heap.size + 3, 0, none⟩)), (3, .pointer (some ⟨w₀.heap.size + 0, 0, none⟩))]) (qs := []) (by kernel_rfl) (by kernel_rfl) (by simp) (fun a23 hT23 => ?_)
  refine Gz.rend T ?_
  refine Gz.seqE T (by kernel_rfl : c5.pd.pd = .seq c5.pd.pd.pa c5.pd.pd.pd) ?_
  refine Gz.seqE T (by kernel_rfl : c5.pd.pd.pa = .seq c5.pd.pd.pa.pa c5.pd.pd.pa.pd) ?_
  refine Gz.regionE (id := 2) (l := c5.pd.pd.pa.pa.po) (r := [0, 1]) T (by kernel_rfl) (by kernel_rfl) ?_
  refine Gz.row T (K _) (by decide) hT23 [] [0, 1] [] [20, 7, 6, 3] (g' := [(20, .bool false), (7, .int .i64 0), (6, .pointer (some ⟨w₀.heap.size + 3, 0, none⟩)), (3, .pointer (some ⟨w₀.heap.size + 0, 0, none⟩))]) (qs := []) (by kernel_rfl) (by kernel_rfl) (by simp) (fun a24 hT24 => ?_)
  refine Gz.rend T ?_
  refine Gz.condFE (q := .tmp 20) (y := c5.pd.pd.pa.pd.pa) (z := c5.pd.pd.pa.pd.pd) T (by kernel_rfl) hT24 (by kernel_rfl) ?_
  refine Gz.skipE T (by kernel_rfl) ?_
  refine Gz.seqE T (by kernel_rfl : c5.pd.pd.pd = .seq c5.pd.pd.pd.pa c5.pd.pd.pd.pd) ?_
  have hT25 := hT24.live [6, 3] (g' := [(6, .pointer (some ⟨w₀.heap.size + 3, 0, none⟩)), (3, .pointer (some ⟨w₀.heap.size + 0, 0, none⟩))]) (by kernel_rfl)
  refine Gz.chans (l := c5.pd.pd.pd.pa.po) (id := 4) 3000 (X := 41) (E := 42) (cd := .both) (d0 := 22) (d1 := 23) (d2 := 8) (d3 := 9) ⟨by kernel_rfl, by kernel_rfl, by kernel_rfl, by kernel_rfl, by kernel_rfl, by kernel_rfl, by kernel_rfl, by kernel_rfl, by kernel_rfl, by kernel_rfl, by kernel_rfl, by kernel_rfl, by kernel_rfl, by kernel_rfl, by kernel_rfl, by kernel_rfl, by kernel_rfl, by kernel_rfl, by kernel_rfl⟩ (by kernel_rfl) mixed (by decide) (by kernel_rfl) hT25 (tX := (Try.prog.info? 41).getD default) (tE := (Try.prog.info? 42).getD default) (by kernel_rfl) (by kernel_rfl) (by kernel_rfl) (by kernel_rfl) (by kernel_rfl) (by decide) (by decide) (fun d hd v hv => by rcases hd with rfl | rfl | rfl | rfl <;> exact absurd (show none = some v from hv) (by simp)) (fun ad h => hsh ad (by have := hF.size; omega)) (by have := hF.size; omega) (by kernel_rfl) (fun a w f hT hC => ?_)
  obtain ⟨k, hk, he, hF⟩ := hC.fk hF
  rw [he 0 (by omega), he 1 (by omega), he 2 (by omega), he 3 (by omega)] at hT
  refine Gz.rend T ?_
  refine Gz.seqE T (by kernel_rfl : c5.pd.pd.pd.pd = .seq c5.pd.pd.pd.pd.pa c5.pd.pd.pd.pd.pd) ?_
  refine Gz.regionE (id := 5) (l := c5.pd.pd.pd.pd.pa.po) (r := [0]) T (by kernel_rfl) (by kernel_rfl) ?_
  refine Gz.mk1 (w₀ := w₀) (N := 8) (o := opq c5.pd.pd.pd.pd.pa 0) (d := 10) (by decide) hT hF (by kernel_rfl) (by kernel_rfl) (by decide) (by kernel_rfl) (v := fun b => .pointer (some ⟨b, 0, none⟩)) (ob := .cells #[.int .u64 0, .int .u32 0] 51) (op_alloc (T := 51) (ti := (Try.prog.info? 51).getD default) (z := .agg #[.int .u64 0, .int .u32 0]) (by kernel_rfl) (by kernel_rfl) (by kernel_rfl)) (fun a26 w hT hF => ?_)
  have hT26 : Tm a26 48 ((10, .pointer (some ⟨w₀.heap.size + 8, 0, none⟩)) :: [(22, .chan (some (w₀.heap.size + k 0))), (23, .chan (some (w₀.heap.size + k 1))), (8, .pointer (some ⟨w₀.heap.size + k 2, 0, none⟩)), (9, .pointer (some ⟨w₀.heap.size + k 3, 0, none⟩)), (6, .pointer (some ⟨w₀.heap.size + 3, 0, none⟩)), (3, .pointer (some ⟨w₀.heap.size + 0, 0, none⟩))]) [] := hT
  clear hT
  refine Gz.rend T ?_
  refine Gz.seqE T (by kernel_rfl : c5.pd.pd.pd.pd.pd = .seq c5.pd.pd.pd.pd.pd.pa c5.pd.pd.pd.pd.pd.pd) ?_
  refine Gz.regionE (id := 6) (l := c5.pd.pd.pd.pd.pd.pa.po) (r := [0, 1]) T (by kernel_rfl) (by kernel_rfl) ?_
  refine Mz.opv (o := opq c5.pd.pd.pd.pd.pd.pa 0) (d := 24) (mvG T) (by decide) hT26 (v := .func (.func 12) #[] #[.pointer (some ⟨w₀.heap.size + 0, 0, none⟩), .pointer (some ⟨w₀.heap.size + 3, 0, none⟩), .pointer (some ⟨w₀.heap.size + k 2, 0, none⟩), .pointer (some ⟨w₀.heap.size + k 3, 0, none⟩)]) (by kernel_rfl) (by kernel_rfl) (by decide) (by kernel_rfl) (by kernel_rfl) (op_func (fn := .func 12) (cap := #[.tmp 3, .tmp 6, .tmp 8, .tmp 9]) (vs := [.pointer (some ⟨w₀.heap.size + 0, 0, none⟩), .pointer (some ⟨w₀.heap.size + 3, 0, none⟩), .pointer (some ⟨w₀.heap.size + k 2, 0, none⟩), .pointer (some ⟨w₀.heap.size + k 3, 0, none⟩)]) (by kernel_rfl) (by kernel_rfl)) (fun a28 hT28 => ?_)
  refine Mz.enter (o := opq c5.pd.pd.pd.pd.pd.pa 1) (q := .func 11) (f := 11) (cc := c8) (cap := []) (args := #[.tmp 10, .tmp 24]) (ats := #[51, 1]) (mvG T) hT28 [.pointer (some ⟨w₀.heap.size + 8, 0, none⟩), .func (.func 12) #[] #[.pointer (some ⟨w₀.heap.size + 0, 0, none⟩), .pointer (some ⟨w₀.heap.size + 3, 0, none⟩), .pointer (some ⟨w₀.heap.size + k 2, 0, none⟩), .pointer (some ⟨w₀.heap.size + k 3, 0, none⟩)]] 7 (by kernel_rfl) (by kernel_rfl) (by decide) (by kernel_rfl) (by kernel_rfl) Try.func11 (by kernel_rfl) (by kernel_rfl) (by kernel_rfl) (by kernel_rfl) (by kernel_rfl) (fun a29 hT29 => ?_)
  refine Gz.seqE T (by kernel_rfl : c8 = .seq c8.pa c8.pd) ?_
  refine Gz.regionE (id := 0) (l := c8.pa.po) (r := [0, 1]) T (by kernel_rfl) (by kernel_rfl) ?_
  refine Gz.mk1 (w₀ := w₀) (N := 9) (o := opq c8.pa 0) (d := 2) (by decide) hT29 hF (by kernel_rfl) (by kernel_rfl) (by decide) (by kernel_rfl) (v := fun b => .pointer (some ⟨b, 0, none⟩)) (ob := .cells #[.pointer (some ⟨w₀.heap.size + 8, 0, none⟩)] 59) (op_box (v := .pointer (some ⟨w₀.heap.size + 8, 0, none⟩)) (y := .tmp 0) (T := 59) (by kernel_rfl) (by kernel_rfl)) (fun a30 w hT hF => ?_)
  have hT30 : Tm a30 7 ((2, .pointer (some ⟨w₀.heap.size + 9, 0, none⟩)) :: [(0, .pointer (some ⟨w₀.heap.size + 8, 0, none⟩)), (1, .func (.func 12) #[] #[.pointer (some ⟨w₀.heap.size + 0, 0, none⟩), .pointer (some ⟨w₀.heap.size + 3, 0, none⟩), .pointer (some ⟨w₀.heap.size + k 2, 0, none⟩), .pointer (some ⟨w₀.heap.size + k 3, 0, none⟩)])]) [] := hT
  clear hT
  refine Gz.mk1 (w₀ := w₀) (N := 10) (o := opq c8.pa 1) (d := 3) (by decide) hT30 hF (by kernel_rfl) (by kernel_rfl) (by decide) (by kernel_rfl) (v := fun b => .pointer (some ⟨b, 0, none⟩)) (ob := .cells #[.func (.func 12) #[] #[.pointer (some ⟨w₀.heap.size + 0, 0, none⟩), .pointer (some ⟨w₀.heap.size + 3, 0, none⟩), .pointer (some ⟨w₀.heap.size + k 2, 0, none⟩), .pointer (some ⟨w₀.heap.size + k 3, 0, none⟩)]] 1) (op_box (v := .func (.func 12) #[] #[.pointer (some ⟨w₀.heap.size + 0, 0, none⟩), .pointer (some ⟨w₀.heap.size + 3, 0, none⟩), .pointer (some ⟨w₀.heap.size + k 2, 0, none⟩), .pointer (some ⟨w₀.heap.size + k 3, 0, none⟩)]) (y := .tmp 1) (T := 1) (by kernel_rfl) (by kernel_rfl)) (fun a32 w hT hF => ?_)
  have hT32 : Tm a32 7 ((3, .pointer (some ⟨w₀.heap.size + 10, 0, none⟩)) :: [(2, .pointer (some ⟨w₀.heap.size + 9, 0, none⟩)), (0, .pointer (some ⟨w₀.heap.size + 8, 0, none⟩)), (1, .func (.func 12) #[] #[.pointer (some ⟨w₀.heap.size + 0, 0, none⟩), .pointer (some ⟨w₀.heap.size + 3, 0, none⟩), .pointer (some ⟨w₀.heap.size + k 2, 0, none⟩), .pointer (some ⟨w₀.heap.size + k 3, 0, none⟩)])]) [] := hT
  clear hT
  refine Gz.rend T ?_
  refine Gz.seqE T (by kernel_rfl : c8.pd = .seq c8.pd.pa c8.pd.pd) ?_
  refine Gz.regionE (id := 1) (l := c8.pd.pa.po) (r := [0, 1]) T (by kernel_rfl) (by kernel_rfl) ?_
  refine Gz.lget (w₀ := w₀) (N := 11) (K := [(10, .cells #[.func (.func 12) #[] #[.pointer (some ⟨w₀.heap.size + 0, 0, none⟩), .pointer (some ⟨w₀.heap.size + 3, 0, none⟩), .pointer (some ⟨w₀.heap.size + k 2, 0, none⟩), .pointer (some ⟨w₀.heap.size + k 3, 0, none⟩)]] 1), (9, .cells #[.pointer (some ⟨w₀.heap.size + 8, 0, none⟩)] 59), (8, .cells #[.int .u64 0, .int .u32 0] 51), (k 0, .chan 1 #[] false 0 0 false), (k 1, .chan 1 #[] false 0 0 false), (k 2, .cells #[.chan (some (w₀.heap.size + k 0))] 41), (k 3, .cells #[.chan (some (w₀.heap.size + k 1))] 41), (3, .cells #[.pointer (some ⟨w₀.heap.size + 2, 0, none⟩)] 33), (2, .cells #[.slice (some ⟨w₀.heap.size + 1, 0, none⟩) nn nn, .int .i64 0, .int .i64 0] 56), (1, .cells (madeCells #[.int .i64 0] nn) 3), (0, .cells #[.slice la N cap] 22)]) (o := opq c8.pd.pa 0) (d := 4) (by decide) hT32 hF (X := 59) (y := .tmp 2) (bb := 9) (v := .pointer (some ⟨w₀.heap.size + 8, 0, none⟩)) (by kernel_rfl) (by kernel_rfl) (by decide) (by kernel_rfl) (by kernel_rfl) (by kernel_rfl) (by kernel_rfl) (by simp) (hsh _ (by simp)) (by omega) (fun a34 hT34 => ?_)
  refine Mz.enter (o := opq c8.pd.pa 1) (q := .func 17) (f := 17) (cc := c14) (cap := []) (args := #[.tmp 4, .const (.int .i64 1)]) (ats := #[59, 3]) (mvG T) hT34 [.pointer (some ⟨w₀.heap.size + 8, 0, none⟩), .int .i64 1] 117 (by kernel_rfl) (by kernel_rfl) (by decide) (by kernel_rfl) (by kernel_rfl) Try.func17 (by kernel_rfl) (by kernel_rfl) (by kernel_rfl) (by kernel_rfl) (by kernel_rfl) (fun a35 hT35 => ?_)
  refine Gz.seqE T (by kernel_rfl : c14 = .seq c14.pa c14.pd) ?_
  refine Gz.condTE (q := .const (.bool true)) (y := c14.pa.pa) (z := c14.pa.pd) T (by kernel_rfl) hT35 (by kernel_rfl) ?_
  refine Gz.seqE T (by kernel_rfl : c14.pa.pa = .seq c14.pa.pa.pa c14.pa.pa.pd) ?_
  refine Gz.seqE T (by kernel_rfl : c14.pa.pa.pa = .seq c14.pa.pa.pa.pa c14.pa.pa.pa.pd) ?_
  refine Gz.regionE (id := 0) (l := c14.pa.pa.pa.pa.po) (r := [0, 1]) T (by kernel_rfl) (by kernel_rfl) ?_
  refine Gz.row T (K _) (by decide) hT35 [] [0, 1] [] [10, 0, 1] (g' := [(10, .bool false), (0, .pointer (some ⟨w₀.heap.size + 8, 0, none⟩)), (1, .int .i64 1)]) (qs := []) (by kernel_rfl) (by kernel_rfl) (by simp) (fun a36 hT36 => ?_)
  refine Gz.rend T ?_
  refine Gz.condFE (q := .tmp 10) (y := c14.pa.pa.pa.pd.pa) (z := c14.pa.pa.pa.pd.pd) T (by kernel_rfl) hT36 (by kernel_rfl) ?_
  refine Gz.skipE T (by kernel_rfl) ?_
  refine Gz.seqE T (by kernel_rfl : c14.pa.pa.pd = .seq c14.pa.pa.pd.pa c14.pa.pa.pd.pd) ?_
  refine Gz.regionE (id := 2) (l := c14.pa.pa.pd.pa.po) (r := [0]) T (by kernel_rfl) (by kernel_rfl) ?_
  have h5LU1 := hT28.live [3, 6, 8, 9, 10] (g' := [(3, .pointer (some ⟨w₀.heap.size + 0, 0, none⟩)), (6, .pointer (some ⟨w₀.heap.size + 3, 0, none⟩)), (8, .pointer (some ⟨w₀.heap.size + k 2, 0, none⟩)), (9, .pointer (some ⟨w₀.heap.size + k 3, 0, none⟩)), (10, .pointer (some ⟨w₀.heap.size + 8, 0, none⟩))]) (by kernel_rfl)
  have h8LU1 := hT34.live [2, 3] (g' := [(2, .pointer (some ⟨w₀.heap.size + 9, 0, none⟩)), (3, .pointer (some ⟨w₀.heap.size + 10, 0, none⟩))]) (by kernel_rfl)
  have h14LU1 := hT36.live [0, 1] (g' := [(0, .pointer (some ⟨w₀.heap.size + 8, 0, none⟩)), (1, .int .i64 1)]) (by kernel_rfl)
  exact Goes.stop fun w₁ h₁ => ⟨k, hk, hF.at h₁, a28, a34, a36, h5LU1, h8LU1, h14LU1, rfl⟩

end
end Go.Proofs.Ytdmiilgdkmbmeaa.Rg
