/-
  RingQueue (RqI): printed by pm/rq.py. | RingQueue (RqJ): printed by pm/rq.py. | RingQueue (RqK): printed by pm/rq.py. | RingQueue (RqL): printed by pm/rq.py. | RingQueue (RqM): printed by pm/rq.py. | RingQueue (N): the ring's loop and the law's, from their heads to their ends, beside goroutines that only leave. | RingQueue (O): the law, run: whatever the tape. | RingQueue (P): the closing lemmas of a row that bears a condition and whose call can start goroutines: turned from the worked proof LeaveToy. | What every law's row of this seat needs: the arguments read behind the call as before it, whatever their types, if the call has turned nothing that was there.
-/
import Derived.Test.YtdmiilgdkmbmeaaJRqQ4
import Derived.Test.YtdmiilgdkmbmeaaJRqQ3
import Derived.Test.YtdmiilgdkmbmeaaRows
import Derived.JoinedCond
import Derived.Conc.LeavingOf
import Derived.WalkKit
import Derived.ProofKit
import Derived.OpenShut
import Derived.Lib.SmallJoins
import Derived.Below
import Derived.ChangeSame
import Derived.SizedLaws
namespace Go.Proofs.Ytdmiilgdkmbmeaa.Rg
open Go Go.Conc
section
variable {w₀ w : World} {Shun : Loc → Prop} {B W : Nat} {lo bse N cap nn p k i len oc lb lz Rb Sb tb gb gc pc : Nat} {arr : Array Value} {oa la ga pa : Option Addr} {x y : Int} {ok : Bool} {xs : List Value} {K₀ : List (Nat × Obj)} {g : Goroutine}
theorem Q_none (h : QHead nn N cap la Rb oa oc i g) (hH : Hp w₀ lo bse (3 * i) ([(Rb, .cells #[.slice (some ⟨Sb, 0, none⟩) nn nn, .int .i64 p, .int .i64 k] 56), (Sb, .cells arr 3)]) 29 3 (.slice oa i oc) i xs w) (hs : ∀ ad : Addr, lo ≤ ad.block → ¬ Shun (.cell ad)) (hB : w₀.heap.size + (3 * N + 3) ≤ B) (hN : N ≤ 1048576) (hp : p ≤ i) (hk : k ≤ p) (hpn : p ≤ k + nn) (hn1 : 0 < nn) (hi : i < N) (hla : la = some ⟨lb, lz, none⟩) (hz : CL Shun B w ⟨lb, i + lz, none⟩ (.int .i64 x)) (hx : ¬ 0 ≤ x) (hf : p = k) :
    Goes Try.prog true AtRel (DL Shun B W) (fun g w => ∃ tb, bse ≤ tb ∧ Hp w₀ lo bse (3 * i + 1) ([(tb, .cells #[.int .i64 0, .bool false, .int .i64 0] 29), (Rb, .cells #[.slice (some ⟨Sb, 0, none⟩) nn nn, .int .i64 p, .int .i64 k] 56), (Sb, .cells arr 3)]) 29 3 (.slice oa i oc) i xs w ∧ QT nn N cap la Rb tb oa oc i g) 4000 g w := by
  obtain ⟨b203, b205, hb203, hb205, rfl⟩ := h
  subst hla
  have TD : Tmd AtRel (DL Shun B W) := tmdL
  have T := TD.toTms
  have K : Ken Try.prog AtRel (DL Shun B W) (CL Shun B w) w := kenL (atRel_refl w)
  refine Gz.seqE T (by kernel_rfl : c205.pd.pd.pd.pd.pa.pd.pa.pa = .seq c205.pd.pd.pd.pd.pa.pd.pa.pa.pa c205.pd.pd.pd.pd.pa.pd.pa.pa.pd) ?_
  refine Gz.regionE (id := 6) (l := c205.pd.pd.pd.pd.pa.pd.pa.pa.pa.po) (r := [0]) T (by kernel_rfl) (by kernel_rfl) ?_
  refine Gz.hint (o := opq c205.pd.pd.pd.pd.pa.pd.pa.pa.pa 0) (d := 23) T (by decide) hb205 (v := .bool true) (by kernel_rfl) (by kernel_rfl) (by decide) (by kernel_rfl) (by kernel_rfl) (congrArg some (n_lt hi)) (fun a1 hT1 => ?_)
  refine Gz.rend T ?_
  refine Gz.seqE T (by kernel_rfl : c205.pd.pd.pd.pd.pa.pd.pa.pa.pd = .seq c205.pd.pd.pd.pd.pa.pd.pa.pa.pd.pa c205.pd.pd.pd.pd.pa.pd.pa.pa.pd.pd) ?_
  refine Gz.condTE (q := .tmp 23) (y := c205.pd.pd.pd.pd.pa.pd.pa.pa.pd.pa.pa) (z := c205.pd.pd.pd.pd.pa.pd.pa.pa.pd.pa.pd) T (by kernel_rfl) hT1 (by kernel_rfl) ?_
  refine Gz.skipE T (by kernel_rfl) ?_
  refine Gz.seqE T (by kernel_rfl : c205.pd.pd.pd.pd.pa.pd.pa.pa.pd.pd = .seq c205.pd.pd.pd.pd.pa.pd.pa.pa.pd.pd.pa c205.pd.pd.pd.pd.pa.pd.pa.pa.pd.pd.pd) ?_
  refine Gz.blockE (id := 1) (y := c205.pd.pd.pd.pd.pa.pd.pa.pa.pd.pd.pa.pa) T (by kernel_rfl) ?_
  refine Gz.seqE T (by kernel_rfl : c205.pd.pd.pd.pd.pa.pd.pa.pa.pd.pd.pa.pa = .seq c205.pd.pd.pd.pd.pa.pd.pa.pa.pd.pd.pa.pa.pa c205.pd.pd.pd.pd.pa.pd.pa.pa.pd.pd.pa.pa.pd) ?_
  refine Gz.regionE (id := 7) (l := c205.pd.pd.pd.pd.pa.pd.pa.pa.pd.pd.pa.pa.pa.po) (r := [0, 1, 2]) T (by kernel_rfl) (by kernel_rfl) ?_
  refine Gz.hint (o := opq c205.pd.pd.pd.pd.pa.pd.pa.pa.pd.pd.pa.pa.pa 0) (d := 24) T (by decide) hT1 (v := .pointer (some ⟨lb, i + lz, none⟩)) (by kernel_rfl) (by kernel_rfl) (by decide) (by kernel_rfl) (by kernel_rfl) ((n_idx hi)) (fun a2 hT2 => ?_)
  refine Gz.load (o := opq c205.pd.pd.pd.pd.pa.pd.pa.pa.pd.pd.pa.pa.pa 1) (d := 25) (X := 3) (y := .tmp 24) (ad := ⟨lb, i + lz, none⟩) T K (by decide) hT2 (v := .int .i64 x) (by kernel_rfl) (by kernel_rfl) (by decide) (by kernel_rfl) (by kernel_rfl) (by kernel_rfl) (by kernel_rfl) (by kernel_rfl) hz (fun a3 hT3 => ?_)
  refine Gz.row T K (by decide) hT3 [] [2] [] [10, 6, 8, 20, 21, 22] (g' := [(10, .int .i64 x), (6, .pointer (some ⟨Rb, 0, none⟩)), (8, .slice oa i oc), (20, .slice (some ⟨lb, lz, none⟩) N cap), (21, .int .i64 N), (22, .int .i64 i)]) (qs := []) (by kernel_rfl) (by kernel_rfl) (by simp) (fun a4 hT4 => ?_)
  refine Gz.rend T ?_
  refine Gz.seqE T (by kernel_rfl : c205.pd.pd.pd.pd.pa.pd.pa.pa.pd.pd.pa.pa.pd = .seq c205.pd.pd.pd.pd.pa.pd.pa.pa.pd.pd.pa.pa.pd.pa c205.pd.pd.pd.pd.pa.pd.pa.pa.pd.pd.pa.pa.pd.pd) ?_
  refine Gz.regionE (id := 8) (l := c205.pd.pd.pd.pd.pa.pd.pa.pa.pd.pd.pa.pa.pd.pa.po) (r := [0]) T (by kernel_rfl) (by kernel_rfl) ?_
  refine Gz.hmk (o := opq c205.pd.pd.pd.pd.pa.pd.pa.pa.pd.pd.pa.pa.pd.pa 0) (d := 11) (by decide) hT4 hH (by kernel_rfl) (by kernel_rfl) (by decide) (by kernel_rfl) (fun b => .pointer (some ⟨b, 0, none⟩)) (.cells #[.int .i64 0, .bool false, .int .i64 0] 29) (op_alloc (T := 29) (ti := (Try.prog.info? 29).getD default) (z := .agg #[.int .i64 0, .bool false, .int .i64 0]) (by kernel_rfl) (by kernel_rfl) (by kernel_rfl)) (fun a5 w tb htb hT5 hH => ?_)
  replace hT5 : Tm a5 48 ((11, .pointer (some ⟨tb, 0, none⟩)) :: [(10, .int .i64 x), (6, .pointer (some ⟨Rb, 0, none⟩)), (8, .slice oa i oc), (20, .slice (some ⟨lb, lz, none⟩) N cap), (21, .int .i64 N), (22, .int .i64 i)]) [] := hT5
  have K : Ken Try.prog AtRel (DL Shun B W) (CL Shun B w) w := kenL (atRel_refl w)
  refine Gz.rend T ?_
  refine Gz.seqE T (by kernel_rfl : c205.pd.pd.pd.pd.pa.pd.pa.pa.pd.pd.pa.pa.pd.pd = .seq c205.pd.pd.pd.pd.pa.pd.pa.pa.pd.pd.pa.pa.pd.pd.pa c205.pd.pd.pd.pd.pa.pd.pa.pa.pd.pd.pa.pa.pd.pd.pd) ?_
  refine Gz.seqE T (by kernel_rfl : c205.pd.pd.pd.pd.pa.pd.pa.pa.pd.pd.pa.pa.pd.pd.pa = .seq c205.pd.pd.pd.pd.pa.pd.pa.pa.pd.pd.pa.pa.pd.pd.pa.pa c205.pd.pd.pd.pd.pa.pd.pa.pa.pd.pd.pa.pa.pd.pd.pa.pd) ?_
  refine Gz.regionE (id := 9) (l := c205.pd.pd.pd.pd.pa.pd.pa.pa.pd.pd.pa.pa.pd.pd.pa.pa.po) (r := [0, 1]) T (by kernel_rfl) (by kernel_rfl) ?_
  refine Gz.row T K (by decide) hT5 [] [0] [1] [26, 11, 10, 6, 8, 20, 21, 22] (g' := [(26, .int .i64 x), (11, .pointer (some ⟨tb, 0, none⟩)), (10, .int .i64 x), (6, .pointer (some ⟨Rb, 0, none⟩)), (8, .slice oa i oc), (20, .slice (some ⟨lb, lz, none⟩) N cap), (21, .int .i64 N), (22, .int .i64 i)]) (qs := []) (by kernel_rfl) (by kernel_rfl) (by simp) (fun a6 hT6 => ?_)
  refine Gz.hint (o := opq c205.pd.pd.pd.pd.pa.pd.pa.pa.pd.pd.pa.pa.pd.pd.pa.pa 1) (d := 27) T (by decide) hT6 (v := .bool false) (by kernel_rfl) (by kernel_rfl) (by decide) (by kernel_rfl) (by kernel_rfl) (congrArg some (n_ngeq hx)) (fun a7 hT7 => ?_)
  refine Gz.rend T ?_
  refine Gz.condFE (q := .tmp 27) (y := c205.pd.pd.pd.pd.pa.pd.pa.pa.pd.pd.pa.pa.pd.pd.pa.pd.pa) (z := c205.pd.pd.pd.pd.pa.pd.pa.pa.pd.pd.pa.pa.pd.pd.pa.pd.pd) T (by kernel_rfl) hT7 (by kernel_rfl) ?_
  refine Gz.regionE (id := 11) (l := c205.pd.pd.pd.pd.pa.pd.pa.pa.pd.pd.pa.pa.pd.pd.pa.pd.pd.po) (r := [0, 1, 2, 3, 4, 5, 6, 7, 8]) T (by kernel_rfl) (by kernel_rfl) ?_
  refine Gz.row T K (by decide) hT7 [] [0] [1, 2, 3, 4, 5, 6, 7, 8] [33, 11, 6, 8, 20, 21, 22] (g' := [(33, .pointer (some ⟨Rb, 0, none⟩)), (11, .pointer (some ⟨tb, 0, none⟩)), (6, .pointer (some ⟨Rb, 0, none⟩)), (8, .slice oa i oc), (20, .slice (some ⟨lb, lz, none⟩) N cap), (21, .int .i64 N), (22, .int .i64 i)]) (qs := []) (by kernel_rfl) (by kernel_rfl) (by simp) (fun a8 hT8 => ?_)
  refine Mz.enter (o := opq c205.pd.pd.pd.pd.pa.pd.pa.pa.pd.pd.pa.pa.pd.pd.pa.pd.pd 1) (q := .func 9) (f := 9) (cc := c12) (cap := []) (args := #[.tmp 33]) (ats := #[33]) (mvG T) hT8 [.pointer (some ⟨Rb, 0, none⟩)] 36 (by kernel_rfl) (by kernel_rfl) (by decide) (by kernel_rfl) (by kernel_rfl) Try.func9 (by kernel_rfl) (by kernel_rfl) (by kernel_rfl) (by kernel_rfl) (by kernel_rfl) (fun a9 hT9 => ?_)
  refine Gz.seqE T (by kernel_rfl : c12 = .seq c12.pa c12.pd) ?_
  refine Gz.regionE (id := 0) (l := c12.pa.po) (r := [0, 1]) T (by kernel_rfl) (by kernel_rfl) ?_
  refine Gz.row T K (by decide) hT9 [] [0, 1] [] [0] (g' := [(0, .pointer (some ⟨Rb, 0, none⟩))]) (qs := []) (by kernel_rfl) (by kernel_rfl) (by simp) (fun a10 hT10 => ?_)
  refine Gz.rend T ?_
  refine Gz.seqE T (by kernel_rfl : c12.pd = .seq c12.pd.pa c12.pd.pd) ?_
  refine Gz.regionE (id := 1) (l := c12.pd.pa.po) (r := [0, 1, 2, 3, 4]) T (by kernel_rfl) (by kernel_rfl) ?_
  refine Gz.row T K (by decide) hT10 [] [0, 1, 2] [3, 4] [8, 0] (g' := [(8, .pointer (some ⟨Rb, 2, none⟩)), (0, .pointer (some ⟨Rb, 0, none⟩))]) (qs := []) (by kernel_rfl) (by kernel_rfl) (by simp) (fun a11 hT11 => ?_)
  refine Mz.enter (o := opq c12.pd.pa 3) (q := .func 15) (f := 15) (cc := c18) (cap := []) (args := #[.tmp 8]) (ats := #[54]) (mvG T) hT11 [.pointer (some ⟨Rb, 2, none⟩)] 7 (by kernel_rfl) (by kernel_rfl) (by decide) (by kernel_rfl) (by kernel_rfl) Try.func15 (by kernel_rfl) (by kernel_rfl) (by kernel_rfl) (by kernel_rfl) (by kernel_rfl) (fun a12 hT12 => ?_)
  refine Gz.seqE T (by kernel_rfl : c18 = .seq c18.pa c18.pd) ?_
  refine Gz.regionE (id := 0) (l := c18.pa.po) (r := [0]) T (by kernel_rfl) (by kernel_rfl) ?_
  refine Gz.row T K (by decide) hT12 [] [0] [] [0] (g' := [(0, .pointer (some ⟨Rb, 2, none⟩))]) (qs := []) (by kernel_rfl) (by kernel_rfl) (by simp) (fun a13 hT13 => ?_)
  refine Gz.rend T ?_
  refine Gz.seqE T (by kernel_rfl : c18.pd = .seq c18.pd.pa c18.pd.pd) ?_
  refine Gz.regionE (id := 1) (l := c18.pd.pa.po) (r := [0, 1, 2, 3, 4]) T (by kernel_rfl) (by kernel_rfl) ?_
  refine Gz.row T K (by decide) hT13 [] [0, 1, 2] [3, 4] [5] (g' := [(5, .pointer (some ⟨Rb, 2, none⟩))]) (qs := []) (by kernel_rfl) (by kernel_rfl) (by simp) (fun a14 hT14 => ?_)
  refine Gz.aload (o := opq c18.pd.pa 3) (d := 6) (ats := #[72]) (y := .tmp 5) (f := 31) T (by decide) hT14 (by kernel_rfl) (by kernel_rfl) (by decide) (by kernel_rfl) (by kernel_rfl) Try.func31 (by kernel_rfl) (by kernel_rfl) (by kernel_rfl) (by kernel_rfl) (by kernel_rfl) (lookL (hH.cl hs (by omega) (j := 1) (off := 2) (arr := #[.slice (some ⟨Sb, 0, none⟩) nn nn, .int .i64 p, .int .i64 k]) (u := .int .i64 k) rfl rfl)) (fun a15 hT15 => ?_)
  refine Gz.row T K (by decide) hT15 [] [4] [] [2] (g' := [(2, .int .i64 k)]) (qs := []) (by kernel_rfl) (by kernel_rfl) (by simp) (fun a16 hT16 => ?_)
  refine Gz.rend T ?_
  refine Gz.retE T (by kernel_rfl) ?_
  refine Gz.back1 (t := 2) (v := .int .i64 k) (d := 9) T hT16 hT11 rfl Try.func15 (by kernel_rfl) (by kernel_rfl) (by kernel_rfl) (by decide) (fun a17 hT17 => ?_)
  refine Gz.row T K (by decide) hT17 [] [4] [] [4, 0] (g' := [(4, .int .i64 k), (0, .pointer (some ⟨Rb, 0, none⟩))]) (qs := []) (by kernel_rfl) (by kernel_rfl) (by simp) (fun a18 hT18 => ?_)
  refine Gz.rend T ?_
  refine Gz.seqE T (by kernel_rfl : c12.pd.pd = .seq c12.pd.pd.pa c12.pd.pd.pd) ?_
  refine Gz.seqE T (by kernel_rfl : c12.pd.pd.pa = .seq c12.pd.pd.pa.pa c12.pd.pd.pa.pd) ?_
  refine Gz.regionE (id := 2) (l := c12.pd.pd.pa.pa.po) (r := [0, 1, 2, 3, 4, 5]) T (by kernel_rfl) (by kernel_rfl) ?_
  refine Gz.row T K (by decide) hT18 [] [0, 1, 2, 3] [4, 5] [13, 10, 4, 0] (g' := [(13, .pointer (some ⟨Rb, 1, none⟩)), (10, .int .i64 k), (4, .int .i64 k), (0, .pointer (some ⟨Rb, 0, none⟩))]) (qs := []) (by kernel_rfl) (by kernel_rfl) (by simp) (fun a19 hT19 => ?_)
  refine Mz.enter (o := opq c12.pd.pd.pa.pa 4) (q := .func 15) (f := 15) (cc := c18) (cap := []) (args := #[.tmp 13]) (ats := #[54]) (mvG T) hT19 [.pointer (some ⟨Rb, 1, none⟩)] 7 (by kernel_rfl) (by kernel_rfl) (by decide) (by kernel_rfl) (by kernel_rfl) Try.func15 (by kernel_rfl) (by kernel_rfl) (by kernel_rfl) (by kernel_rfl) (by kernel_rfl) (fun a20 hT20 => ?_)
  refine Gz.seqE T (by kernel_rfl : c18 = .seq c18.pa c18.pd) ?_
  refine Gz.regionE (id := 0) (l := c18.pa.po) (r := [0]) T (by kernel_rfl) (by kernel_rfl) ?_
  refine Gz.row T K (by decide) hT20 [] [0] [] [0] (g' := [(0, .pointer (some ⟨Rb, 1, none⟩))]) (qs := []) (by kernel_rfl) (by kernel_rfl) (by simp) (fun a21 hT21 => ?_)
  refine Gz.rend T ?_
  refine Gz.seqE T (by kernel_rfl : c18.pd = .seq c18.pd.pa c18.pd.pd) ?_
  refine Gz.regionE (id := 1) (l := c18.pd.pa.po) (r := [0, 1, 2, 3, 4]) T (by kernel_rfl) (by kernel_rfl) ?_
  refine Gz.row T K (by decide) hT21 [] [0, 1, 2] [3, 4] [5] (g' := [(5, .pointer (some ⟨Rb, 1, none⟩))]) (qs := []) (by kernel_rfl) (by kernel_rfl) (by simp) (fun a22 hT22 => ?_)
  refine Gz.aload (o := opq c18.pd.pa 3) (d := 6) (ats := #[72]) (y := .tmp 5) (f := 31) T (by decide) hT22 (by kernel_rfl) (by kernel_rfl) (by decide) (by kernel_rfl) (by kernel_rfl) Try.func31 (by kernel_rfl) (by kernel_rfl) (by kernel_rfl) (by kernel_rfl) (by kernel_rfl) (lookL (hH.cl hs (by omega) (j := 1) (off := 1) (arr := #[.slice (some ⟨Sb, 0, none⟩) nn nn, .int .i64 p, .int .i64 k]) (u := .int .i64 p) rfl rfl)) (fun a23 hT23 => ?_)
  refine Gz.row T K (by decide) hT23 [] [4] [] [2] (g' := [(2, .int .i64 p)]) (qs := []) (by kernel_rfl) (by kernel_rfl) (by simp) (fun a24 hT24 => ?_)
  refine Gz.rend T ?_
  refine Gz.retE T (by kernel_rfl) ?_
  refine Gz.back1 (t := 2) (v := .int .i64 p) (d := 14) T hT24 hT19 rfl Try.func15 (by kernel_rfl) (by kernel_rfl) (by kernel_rfl) (by decide) (fun a25 hT25 => ?_)
  refine Gz.hint (o := opq c12.pd.pd.pa.pa 5) (d := 15) T (by decide) hT25 (v := .bool true) (by kernel_rfl) (by kernel_rfl) (by decide) (by kernel_rfl) (by kernel_rfl) (congrArg some (n_same hf.symm)) (fun a26 hT26 => ?_)
  refine Gz.rend T ?_
  refine Gz.condTE (q := .tmp 15) (y := c12.pd.pd.pa.pd.pa) (z := c12.pd.pd.pa.pd.pd) T (by kernel_rfl) hT26 (by kernel_rfl) ?_
  refine Gz.seqE T (by kernel_rfl : c12.pd.pd.pa.pd.pa = .seq c12.pd.pd.pa.pd.pa.pa c12.pd.pd.pa.pd.pa.pd) ?_
  refine Gz.regionE (id := 3) (l := c12.pd.pd.pa.pd.pa.pa.po) (r := [0, 1]) T (by kernel_rfl) (by kernel_rfl) ?_
  refine Gz.row T K (by decide) hT26 [] [0, 1] [] [3, 2] (g' := [(3, .bool false), (2, .int .i64 0)]) (qs := []) (by kernel_rfl) (by kernel_rfl) (by simp) (fun a27 hT27 => ?_)
  refine Gz.rend T ?_
  refine Gz.retE T (by kernel_rfl) ?_
  refine Gz.back2 (t := 2) (t' := 3) (v := .int .i64 0) (u := .bool false) (d := 34) T hT27 hT8 rfl Try.func9 (by kernel_rfl) (by kernel_rfl) (by kernel_rfl) (by kernel_rfl) (by decide) (fun a28 hT28 => ?_)
  refine Gz.row T K (by decide) hT28 [] [2, 3, 4, 5] [6, 7, 8] [37, 36, 35, 11, 6, 8, 20, 21, 22] (g' := [(37, .pointer (some ⟨tb, 0, none⟩)), (36, .bool false), (35, .int .i64 0), (11, .pointer (some ⟨tb, 0, none⟩)), (6, .pointer (some ⟨Rb, 0, none⟩)), (8, .slice oa i oc), (20, .slice (some ⟨lb, lz, none⟩) N cap), (21, .int .i64 N), (22, .int .i64 i)]) (qs := []) (by kernel_rfl) (by kernel_rfl) (by simp) (fun a29 hT29 => ?_)
  refine Gz.hput (K' := [(tb, .cells #[.int .i64 0, .bool false, .int .i64 0] 29), (Rb, .cells #[.slice (some ⟨Sb, 0, none⟩) nn nn, .int .i64 p, .int .i64 k] 56), (Sb, .cells arr 3)]) (o := opq c205.pd.pd.pd.pd.pa.pd.pa.pa.pd.pd.pa.pa.pd.pd.pa.pd.pd 6) (by decide) hT29 hH hs (by omega) (X := 3) (ty := 29) (y := .tmp 37) (z := .tmp 35) (ti := (Try.prog.info? 3).getD default) (j := 0) (bb := tb) (off := 0) (arr := #[.int .i64 0, .bool false, .int .i64 0]) (u := .int .i64 0) (u0 := .int .i64 0) (by kernel_rfl) (by kernel_rfl) (by kernel_rfl) (by kernel_rfl) (by kernel_rfl) (by kernel_rfl) rfl rfl (by kernel_rfl) (by kernel_rfl) rfl rfl rfl (fun w hH => ?_)
  have K : Ken Try.prog AtRel (DL Shun B W) (CL Shun B w) w := kenL (atRel_refl w)
  refine Gz.row T K (by decide) hT29 [] [7] [8] [38, 36, 11, 6, 8, 20, 21, 22] (g' := [(38, .pointer (some ⟨tb, 1, none⟩)), (36, .bool false), (11, .pointer (some ⟨tb, 0, none⟩)), (6, .pointer (some ⟨Rb, 0, none⟩)), (8, .slice oa i oc), (20, .slice (some ⟨lb, lz, none⟩) N cap), (21, .int .i64 N), (22, .int .i64 i)]) (qs := []) (by kernel_rfl) (by kernel_rfl) (by simp) (fun a30 hT30 => ?_)
  refine Gz.hput (K' := [(tb, .cells #[.int .i64 0, .bool false, .int .i64 0] 29), (Rb, .cells #[.slice (some ⟨Sb, 0, none⟩) nn nn, .int .i64 p, .int .i64 k] 56), (Sb, .cells arr 3)]) (o := opq c205.pd.pd.pd.pd.pa.pd.pa.pa.pd.pd.pa.pa.pd.pd.pa.pd.pd 8) (by decide) hT30 hH hs (by omega) (X := 4) (ty := 29) (y := .tmp 38) (z := .tmp 36) (ti := (Try.prog.info? 4).getD default) (j := 0) (bb := tb) (off := 1) (arr := #[.int .i64 0, .bool false, .int .i64 0]) (u := .bool false) (u0 := .bool false) (by kernel_rfl) (by kernel_rfl) (by kernel_rfl) (by kernel_rfl) (by kernel_rfl) (by kernel_rfl) rfl rfl (by kernel_rfl) (by kernel_rfl) rfl rfl rfl (fun w hH => ?_)
  have K : Ken Try.prog AtRel (DL Shun B W) (CL Shun B w) w := kenL (atRel_refl w)
  refine Gz.rend T ?_
  refine Gz.seqE T (by kernel_rfl : c205.pd.pd.pd.pd.pa.pd.pa.pa.pd.pd.pa.pa.pd.pd.pd = .seq c205.pd.pd.pd.pd.pa.pd.pa.pa.pd.pd.pa.pa.pd.pd.pd.pa c205.pd.pd.pd.pd.pa.pd.pa.pa.pd.pd.pa.pa.pd.pd.pd.pd) ?_
  refine Gz.regionE (id := 12) (l := c205.pd.pd.pd.pd.pa.pd.pa.pa.pd.pd.pa.pa.pd.pd.pd.pa.po) (r := [0, 1, 2, 3]) T (by kernel_rfl) (by kernel_rfl) ?_
  have h203QT := hb203.live [0, 1] (g' := [(0, .int .i64 nn), (1, .slice (some ⟨lb, lz, none⟩) N cap)]) (by kernel_rfl)
  have h205QT := hT30.live [6, 8, 11, 20, 21, 22] (g' := [(6, .pointer (some ⟨Rb, 0, none⟩)), (8, .slice oa i oc), (11, .pointer (some ⟨tb, 0, none⟩)), (20, .slice (some ⟨lb, lz, none⟩) N cap), (21, .int .i64 N), (22, .int .i64 i)]) (by kernel_rfl)
  exact Goes.stop fun w₁ h₁ => ⟨tb, htb, hH.at h₁, b203, a30, h203QT, h205QT, rfl⟩
theorem Q_get (h : QHead nn N cap la Rb oa oc i g) (hH : Hp w₀ lo bse (3 * i) ([(Rb, .cells #[.slice (some ⟨Sb, 0, none⟩) nn nn, .int .i64 p, .int .i64 k] 56), (Sb, .cells arr 3)]) 29 3 (.slice oa i oc) i xs w) (hs : ∀ ad : Addr, lo ≤ ad.block → ¬ Shun (.cell ad)) (hB : w₀.heap.size + (3 * N + 3) ≤ B) (hN : N ≤ 1048576) (hp : p ≤ i) (hk : k ≤ p) (hpn : p ≤ k + nn) (hn1 : 0 < nn) (hi : i < N) (hla : la = some ⟨lb, lz, none⟩) (hz : CL Shun B w ⟨lb, i + lz, none⟩ (.int .i64 x)) (hx : ¬ 0 ≤ x) (hf : k < p) (hy : arr[k % nn]? = some (.int .i64 y)) :
    Goes Try.prog true AtRel (DL Shun B W) (fun g w => ∃ tb, bse ≤ tb ∧ Hp w₀ lo bse (3 * i + 1) ([(tb, .cells #[.int .i64 y, .bool true, .int .i64 0] 29), (Rb, .cells #[.slice (some ⟨Sb, 0, none⟩) nn nn, .int .i64 p, .int .i64 (((k + 1 : Nat) : Int))] 56), (Sb, .cells arr 3)]) 29 3 (.slice oa i oc) i xs w ∧ QT nn N cap la Rb tb oa oc i g) 4000 g w := by
  obtain ⟨b203, b205, hb203, hb205, rfl⟩ := h
  subst hla
  have TD : Tmd AtRel (DL Shun B W) := tmdL
  have T := TD.toTms
  have K : Ken Try.prog AtRel (DL Shun B W) (CL Shun B w) w := kenL (atRel_refl w)
  refine Gz.seqE T (by kernel_rfl : c205.pd.pd.pd.pd.pa.pd.pa.pa = .seq c205.pd.pd.pd.pd.pa.pd.pa.pa.pa c205.pd.pd.pd.pd.pa.pd.pa.pa.pd) ?_
  refine Gz.regionE (id := 6) (l := c205.pd.pd.pd.pd.pa.pd.pa.pa.pa.po) (r := [0]) T (by kernel_rfl) (by kernel_rfl) ?_
  refine Gz.hint (o := opq c205.pd.pd.pd.pd.pa.pd.pa.pa.pa 0) (d := 23) T (by decide) hb205 (v := .bool true) (by kernel_rfl) (by kernel_rfl) (by decide) (by kernel_rfl) (by kernel_rfl) (congrArg some (n_lt hi)) (fun a1 hT1 => ?_)
  refine Gz.rend T ?_
  refine Gz.seqE T (by kernel_rfl : c205.pd.pd.pd.pd.pa.pd.pa.pa.pd = .seq c205.pd.pd.pd.pd.pa.pd.pa.pa.pd.pa c205.pd.pd.pd.pd.pa.pd.pa.pa.pd.pd) ?_
  refine Gz.condTE (q := .tmp 23) (y := c205.pd.pd.pd.pd.pa.pd.pa.pa.pd.pa.pa) (z := c205.pd.pd.pd.pd.pa.pd.pa.pa.pd.pa.pd) T (by kernel_rfl) hT1 (by kernel_rfl) ?_
  refine Gz.skipE T (by kernel_rfl) ?_
  refine Gz.seqE T (by kernel_rfl : c205.pd.pd.pd.pd.pa.pd.pa.pa.pd.pd = .seq c205.pd.pd.pd.pd.pa.pd.pa.pa.pd.pd.pa c205.pd.pd.pd.pd.pa.pd.pa.pa.pd.pd.pd) ?_
  refine Gz.blockE (id := 1) (y := c205.pd.pd.pd.pd.pa.pd.pa.pa.pd.pd.pa.pa) T (by kernel_rfl) ?_
  refine Gz.seqE T (by kernel_rfl : c205.pd.pd.pd.pd.pa.pd.pa.pa.pd.pd.pa.pa = .seq c205.pd.pd.pd.pd.pa.pd.pa.pa.pd.pd.pa.pa.pa c205.pd.pd.pd.pd.pa.pd.pa.pa.pd.pd.pa.pa.pd) ?_
  refine Gz.regionE (id := 7) (l := c205.pd.pd.pd.pd.pa.pd.pa.pa.pd.pd.pa.pa.pa.po) (r := [0, 1, 2]) T (by kernel_rfl) (by kernel_rfl) ?_
  refine Gz.hint (o := opq c205.pd.pd.pd.pd.pa.pd.pa.pa.pd.pd.pa.pa.pa 0) (d := 24) T (by decide) hT1 (v := .pointer (some ⟨lb, i + lz, none⟩)) (by kernel_rfl) (by kernel_rfl) (by decide) (by kernel_rfl) (by kernel_rfl) ((n_idx hi)) (fun a2 hT2 => ?_)
  refine Gz.load (o := opq c205.pd.pd.pd.pd.pa.pd.pa.pa.pd.pd.pa.pa.pa 1) (d := 25) (X := 3) (y := .tmp 24) (ad := ⟨lb, i + lz, none⟩) T K (by decide) hT2 (v := .int .i64 x) (by kernel_rfl) (by kernel_rfl) (by decide) (by kernel_rfl) (by kernel_rfl) (by kernel_rfl) (by kernel_rfl) (by kernel_rfl) hz (fun a3 hT3 => ?_)
  refine Gz.row T K (by decide) hT3 [] [2] [] [10, 6, 8, 20, 21, 22] (g' := [(10, .int .i64 x), (6, .pointer (some ⟨Rb, 0, none⟩)), (8, .slice oa i oc), (20, .slice (some ⟨lb, lz, none⟩) N cap), (21, .int .i64 N), (22, .int .i64 i)]) (qs := []) (by kernel_rfl) (by kernel_rfl) (by simp) (fun a4 hT4 => ?_)
  refine Gz.rend T ?_
  refine Gz.seqE T (by kernel_rfl : c205.pd.pd.pd.pd.pa.pd.pa.pa.pd.pd.pa.pa.pd = .seq c205.pd.pd.pd.pd.pa.pd.pa.pa.pd.pd.pa.pa.pd.pa c205.pd.pd.pd.pd.pa.pd.pa.pa.pd.pd.pa.pa.pd.pd) ?_
  refine Gz.regionE (id := 8) (l := c205.pd.pd.pd.pd.pa.pd.pa.pa.pd.pd.pa.pa.pd.pa.po) (r := [0]) T (by kernel_rfl) (by kernel_rfl) ?_
  refine Gz.hmk (o := opq c205.pd.pd.pd.pd.pa.pd.pa.pa.pd.pd.pa.pa.pd.pa 0) (d := 11) (by decide) hT4 hH (by kernel_rfl) (by kernel_rfl) (by decide) (by kernel_rfl) (fun b => .pointer (some ⟨b, 0, none⟩)) (.cells #[.int .i64 0, .bool false, .int .i64 0] 29) (op_alloc (T := 29) (ti := (Try.prog.info? 29).getD default) (z := .agg #[.int .i64 0, .bool false, .int .i64 0]) (by kernel_rfl) (by kernel_rfl) (by kernel_rfl)) (fun a5 w tb htb hT5 hH => ?_)
  replace hT5 : Tm a5 48 ((11, .pointer (some ⟨tb, 0, none⟩)) :: [(10, .int .i64 x), (6, .pointer (some ⟨Rb, 0, none⟩)), (8, .slice oa i oc), (20, .slice (some ⟨lb, lz, none⟩) N cap), (21, .int .i64 N), (22, .int .i64 i)]) [] := hT5
  have K : Ken Try.prog AtRel (DL Shun B W) (CL Shun B w) w := kenL (atRel_refl w)
  refine Gz.rend T ?_
  refine Gz.seqE T (by kernel_rfl : c205.pd.pd.pd.pd.pa.pd.pa.pa.pd.pd.pa.pa.pd.pd = .seq c205.pd.pd.pd.pd.pa.pd.pa.pa.pd.pd.pa.pa.pd.pd.pa c205.pd.pd.pd.pd.pa.pd.pa.pa.pd.pd.pa.pa.pd.pd.pd) ?_
  refine Gz.seqE T (by kernel_rfl : c205.pd.pd.pd.pd.pa.pd.pa.pa.pd.pd.pa.pa.pd.pd.pa = .seq c205.pd.pd.pd.pd.pa.pd.pa.pa.pd.pd.pa.pa.pd.pd.pa.pa c205.pd.pd.pd.pd.pa.pd.pa.pa.pd.pd.pa.pa.pd.pd.pa.pd) ?_
  refine Gz.regionE (id := 9) (l := c205.pd.pd.pd.pd.pa.pd.pa.pa.pd.pd.pa.pa.pd.pd.pa.pa.po) (r := [0, 1]) T (by kernel_rfl) (by kernel_rfl) ?_
  refine Gz.row T K (by decide) hT5 [] [0] [1] [26, 11, 10, 6, 8, 20, 21, 22] (g' := [(26, .int .i64 x), (11, .pointer (some ⟨tb, 0, none⟩)), (10, .int .i64 x), (6, .pointer (some ⟨Rb, 0, none⟩)), (8, .slice oa i oc), (20, .slice (some ⟨lb, lz, none⟩) N cap), (21, .int .i64 N), (22, .int .i64 i)]) (qs := []) (by kernel_rfl) (by kernel_rfl) (by simp) (fun a6 hT6 => ?_)
  refine Gz.hint (o := opq c205.pd.pd.pd.pd.pa.pd.pa.pa.pd.pd.pa.pa.pd.pd.pa.pa 1) (d := 27) T (by decide) hT6 (v := .bool false) (by kernel_rfl) (by kernel_rfl) (by decide) (by kernel_rfl) (by kernel_rfl) (congrArg some (n_ngeq hx)) (fun a7 hT7 => ?_)
  refine Gz.rend T ?_
  refine Gz.condFE (q := .tmp 27) (y := c205.pd.pd.pd.pd.pa.pd.pa.pa.pd.pd.pa.pa.pd.pd.pa.pd.pa) (z := c205.pd.pd.pd.pd.pa.pd.pa.pa.pd.pd.pa.pa.pd.pd.pa.pd.pd) T (by kernel_rfl) hT7 (by kernel_rfl) ?_
  refine Gz.regionE (id := 11) (l := c205.pd.pd.pd.pd.pa.pd.pa.pa.pd.pd.pa.pa.pd.pd.pa.pd.pd.po) (r := [0, 1, 2, 3, 4, 5, 6, 7, 8]) T (by kernel_rfl) (by kernel_rfl) ?_
  refine Gz.row T K (by decide) hT7 [] [0] [1, 2, 3, 4, 5, 6, 7, 8] [33, 11, 6, 8, 20, 21, 22] (g' := [(33, .pointer (some ⟨Rb, 0, none⟩)), (11, .pointer (some ⟨tb, 0, none⟩)), (6, .pointer (some ⟨Rb, 0, none⟩)), (8, .slice oa i oc), (20, .slice (some ⟨lb, lz, none⟩) N cap), (21, .int .i64 N), (22, .int .i64 i)]) (qs := []) (by kernel_rfl) (by kernel_rfl) (by simp) (fun a8 hT8 => ?_)
  refine Mz.enter (o := opq c205.pd.pd.pd.pd.pa.pd.pa.pa.pd.pd.pa.pa.pd.pd.pa.pd.pd 1) (q := .func 9) (f := 9) (cc := c12) (cap := []) (args := #[.tmp 33]) (ats := #[33]) (mvG T) hT8 [.pointer (some ⟨Rb, 0, none⟩)] 36 (by kernel_rfl) (by kernel_rfl) (by decide) (by kernel_rfl) (by kernel_rfl) Try.func9 (by kernel_rfl) (by kernel_rfl) (by kernel_rfl) (by kernel_rfl) (by kernel_rfl) (fun a9 hT9 => ?_)
  refine Gz.seqE T (by kernel_rfl : c12 = .seq c12.pa c12.pd) ?_
  refine Gz.regionE (id := 0) (l := c12.pa.po) (r := [0, 1]) T (by kernel_rfl) (by kernel_rfl) ?_
  refine Gz.row T K (by decide) hT9 [] [0, 1] [] [0] (g' := [(0, .pointer (some ⟨Rb, 0, none⟩))]) (qs := []) (by kernel_rfl) (by kernel_rfl) (by simp) (fun a10 hT10 => ?_)
  refine Gz.rend T ?_
  refine Gz.seqE T (by kernel_rfl : c12.pd = .seq c12.pd.pa c12.pd.pd) ?_
  refine Gz.regionE (id := 1) (l := c12.pd.pa.po) (r := [0, 1, 2, 3, 4]) T (by kernel_rfl) (by kernel_rfl) ?_
  refine Gz.row T K (by decide) hT10 [] [0, 1, 2] [3, 4] [8, 0] (g' := [(8, .pointer (some ⟨Rb, 2, none⟩)), (0, .pointer (some ⟨Rb, 0, none⟩))]) (qs := []) (by kernel_rfl) (by kernel_rfl) (by simp) (fun a11 hT11 => ?_)
  refine Mz.enter (o := opq c12.pd.pa 3) (q := .func 15) (f := 15) (cc := c18) (cap := []) (args := #[.tmp 8]) (ats := #[54]) (mvG T) hT11 [.pointer (some ⟨Rb, 2, none⟩)] 7 (by kernel_rfl) (by kernel_rfl) (by decide) (by kernel_rfl) (by kernel_rfl) Try.func15 (by kernel_rfl) (by kernel_rfl) (by kernel_rfl) (by kernel_rfl) (by kernel_rfl) (fun a12 hT12 => ?_)
  refine Gz.seqE T (by kernel_rfl : c18 = .seq c18.pa c18.pd) ?_
  refine Gz.regionE (id := 0) (l := c18.pa.po) (r := [0]) T (by kernel_rfl) (by kernel_rfl) ?_
  refine Gz.row T K (by decide) hT12 [] [0] [] [0] (g' := [(0, .pointer (some ⟨Rb, 2, none⟩))]) (qs := []) (by kernel_rfl) (by kernel_rfl) (by simp) (fun a13 hT13 => ?_)
  refine Gz.rend T ?_
  refine Gz.seqE T (by kernel_rfl : c18.pd = .seq c18.pd.pa c18.pd.pd) ?_
  refine Gz.regionE (id := 1) (l := c18.pd.pa.po) (r := [0, 1, 2, 3, 4]) T (by kernel_rfl) (by kernel_rfl) ?_
  refine Gz.row T K (by decide) hT13 [] [0, 1, 2] [3, 4] [5] (g' := [(5, .pointer (some ⟨Rb, 2, none⟩))]) (qs := []) (by kernel_rfl) (by kernel_rfl) (by simp) (fun a14 hT14 => ?_)
  refine Gz.aload (o := opq c18.pd.pa 3) (d := 6) (ats := #[72]) (y := .tmp 5) (f := 31) T (by decide) hT14 (by kernel_rfl) (by kernel_rfl) (by decide) (by kernel_rfl) (by kernel_rfl) Try.func31 (by kernel_rfl) (by kernel_rfl) (by kernel_rfl) (by kernel_rfl) (by kernel_rfl) (lookL (hH.cl hs (by omega) (j := 1) (off := 2) (arr := #[.slice (some ⟨Sb, 0, none⟩) nn nn, .int .i64 p, .int .i64 k]) (u := .int .i64 k) rfl rfl)) (fun a15 hT15 => ?_)
  refine Gz.row T K (by decide) hT15 [] [4] [] [2] (g' := [(2, .int .i64 k)]) (qs := []) (by kernel_rfl) (by kernel_rfl) (by simp) (fun a16 hT16 => ?_)
  refine Gz.rend T ?_
  refine Gz.retE T (by kernel_rfl) ?_
  refine Gz.back1 (t := 2) (v := .int .i64 k) (d := 9) T hT16 hT11 rfl Try.func15 (by kernel_rfl) (by kernel_rfl) (by kernel_rfl) (by decide) (fun a17 hT17 => ?_)
  refine Gz.row T K (by decide) hT17 [] [4] [] [4, 0] (g' := [(4, .int .i64 k), (0, .pointer (some ⟨Rb, 0, none⟩))]) (qs := []) (by kernel_rfl) (by kernel_rfl) (by simp) (fun a18 hT18 => ?_)
  refine Gz.rend T ?_
  refine Gz.seqE T (by kernel_rfl : c12.pd.pd = .seq c12.pd.pd.pa c12.pd.pd.pd) ?_
  refine Gz.seqE T (by kernel_rfl : c12.pd.pd.pa = .seq c12.pd.pd.pa.pa c12.pd.pd.pa.pd) ?_
  refine Gz.regionE (id := 2) (l := c12.pd.pd.pa.pa.po) (r := [0, 1, 2, 3, 4, 5]) T (by kernel_rfl) (by kernel_rfl) ?_
  refine Gz.row T K (by decide) hT18 [] [0, 1, 2, 3] [4, 5] [13, 10, 4, 0] (g' := [(13, .pointer (some ⟨Rb, 1, none⟩)), (10, .int .i64 k), (4, .int .i64 k), (0, .pointer (some ⟨Rb, 0, none⟩))]) (qs := []) (by kernel_rfl) (by kernel_rfl) (by simp) (fun a19 hT19 => ?_)
  refine Mz.enter (o := opq c12.pd.pd.pa.pa 4) (q := .func 15) (f := 15) (cc := c18) (cap := []) (args := #[.tmp 13]) (ats := #[54]) (mvG T) hT19 [.pointer (some ⟨Rb, 1, none⟩)] 7 (by kernel_rfl) (by kernel_rfl) (by decide) (by kernel_rfl) (by kernel_rfl) Try.func15 (by kernel_rfl) (by kernel_rfl) (by kernel_rfl) (by kernel_rfl) (by kernel_rfl) (fun a20 hT20 => ?_)
  refine Gz.seqE T (by kernel_rfl : c18 = .seq c18.pa c18.pd) ?_
  refine Gz.regionE (id := 0) (l := c18.pa.po) (r := [0]) T (by kernel_rfl) (by kernel_rfl) ?_
  refine Gz.row T K (by decide) hT20 [] [0] [] [0] (g' := [(0, .pointer (some ⟨Rb, 1, none⟩))]) (qs := []) (by kernel_rfl) (by kernel_rfl) (by simp) (fun a21 hT21 => ?_)
  refine Gz.rend T ?_
  refine Gz.seqE T (by kernel_rfl : c18.pd = .seq c18.pd.pa c18.pd.pd) ?_
  refine Gz.regionE (id := 1) (l := c18.pd.pa.po) (r := [0, 1, 2, 3, 4]) T (by kernel_rfl) (by kernel_rfl) ?_
  refine Gz.row T K (by decide) hT21 [] [0, 1, 2] [3, 4] [5] (g' := [(5, .pointer (some ⟨Rb, 1, none⟩))]) (qs := []) (by kernel_rfl) (by kernel_rfl) (by simp) (fun a22 hT22 => ?_)
  refine Gz.aload (o := opq c18.pd.pa 3) (d := 6) (ats := #[72]) (y := .tmp 5) (f := 31) T (by decide) hT22 (by kernel_rfl) (by kernel_rfl) (by decide) (by kernel_rfl) (by kernel_rfl) Try.func31 (by kernel_rfl) (by kernel_rfl) (by kernel_rfl) (by kernel_rfl) (by kernel_rfl) (lookL (hH.cl hs (by omega) (j := 1) (off := 1) (arr := #[.slice (some ⟨Sb, 0, none⟩) nn nn, .int .i64 p, .int .i64 k]) (u := .int .i64 p) rfl rfl)) (fun a23 hT23 => ?_)
  refine Gz.row T K (by decide) hT23 [] [4] [] [2] (g' := [(2, .int .i64 p)]) (qs := []) (by kernel_rfl) (by kernel_rfl) (by simp) (fun a24 hT24 => ?_)
  refine Gz.rend T ?_
  refine Gz.retE T (by kernel_rfl) ?_
  refine Gz.back1 (t := 2) (v := .int .i64 p) (d := 14) T hT24 hT19 rfl Try.func15 (by kernel_rfl) (by kernel_rfl) (by kernel_rfl) (by decide) (fun a25 hT25 => ?_)
  refine Gz.hint (o := opq c12.pd.pd.pa.pa 5) (d := 15) T (by decide) hT25 (v := .bool false) (by kernel_rfl) (by kernel_rfl) (by decide) (by kernel_rfl) (by kernel_rfl) (congrArg some (n_other (by omega))) (fun a26 hT26 => ?_)
  refine Gz.rend T ?_
  refine Gz.condFE (q := .tmp 15) (y := c12.pd.pd.pa.pd.pa) (z := c12.pd.pd.pa.pd.pd) T (by kernel_rfl) hT26 (by kernel_rfl) ?_
  refine Gz.skipE T (by kernel_rfl) ?_
  refine Gz.seqE T (by kernel_rfl : c12.pd.pd.pd = .seq c12.pd.pd.pd.pa c12.pd.pd.pd.pd) ?_
  have hT27 := hT26.live [4, 0] (g' := [(4, .int .i64 k), (0, .pointer (some ⟨Rb, 0, none⟩))]) (by kernel_rfl)
  refine Gz.drawnE (id := 4) 3700 (l := c12.pd.pd.pd.pa.po) (sp := []) (H := [(3, .ld ⟨Rb, 0, none⟩ (.slice (some ⟨Sb, 0, none⟩) nn nn)), (8, .ld ⟨Rb, 0, none⟩ (.slice (some ⟨Sb, 0, none⟩) nn nn)), (10, .val (.int .i64 (((k % nn : Nat) : Int)))), (11, .val (.pointer (some ⟨Sb, k % nn, none⟩))), (12, .ld ⟨Sb, k % nn, none⟩ (.int .i64 y))]) (vals := [.pointer (some ⟨Rb, 0, none⟩), .pointer (some ⟨Rb, 0, none⟩), .pointer (some ⟨Rb, 0, none⟩), .slice (some ⟨Sb, 0, none⟩) nn nn, .int .i64 k, .pointer (some ⟨Rb, 0, none⟩), .pointer (some ⟨Rb, 0, none⟩), .pointer (some ⟨Rb, 0, none⟩), .slice (some ⟨Sb, 0, none⟩) nn nn, .int .i64 nn, .int .i64 (((k % nn : Nat) : Int)), .pointer (some ⟨Sb, k % nn, none⟩), .int .i64 y, .int .i64 y]) (rds := [[0], [16], [17], [18], [4], [0], [21], [22], [23], [24], [20, 25], [19, 26], [27], [28]]) (bf := befs c12.pd.pd.pd.pa.po) (qs := [(some (.pointer (some ⟨Rb, 0, none⟩)) : Option Value) = some (.pointer (some ⟨Rb, 0, none⟩)), (CL Shun B w) ⟨Rb, 0, none⟩ (.slice (some ⟨Sb, 0, none⟩) nn nn), (some (.pointer (some ⟨Rb, 0, none⟩)) : Option Value) = some (.pointer (some ⟨Rb, 0, none⟩)), (CL Shun B w) ⟨Rb, 0, none⟩ (.slice (some ⟨Sb, 0, none⟩) nn nn), (if (nn : Int) = 0 then none else some (.int .i64 (Int.tmod (k) (nn))) : Option Value) = some (.int .i64 (((k % nn : Nat) : Int))), (if 0 ≤ (((k % nn : Nat) : Int) : Int) ∧ (((k % nn : Nat) : Int) : Int) < ((nn : Nat) : Int) then some (.pointer (some ⟨Sb, Int.toNat (((k % nn : Nat) : Int)) + 0, none⟩)) else none : Option Value) = some (.pointer (some ⟨Sb, k % nn, none⟩)), (some (.pointer (some ⟨Sb, k % nn, none⟩)) : Option Value) = some (.pointer (some ⟨Sb, k % nn, none⟩)), (CL Shun B w) ⟨Sb, k % nn, none⟩ (.int .i64 y)]) TD (by kernel_rfl) mixed K (by decide) hT27 (by kernel_rfl) (by kernel_rfl) (by kernel_rfl) (by kernel_rfl) (Rg.oc rfl (Rg.oc (hH.cl hs (by omega) (j := 1) (off := 0) (arr := #[.slice (some ⟨Sb, 0, none⟩) nn nn, .int .i64 p, .int .i64 k]) (u := .slice (some ⟨Sb, 0, none⟩) nn nn) rfl rfl) (Rg.oc rfl (Rg.oc (hH.cl hs (by omega) (j := 1) (off := 0) (arr := #[.slice (some ⟨Sb, 0, none⟩) nn nn, .int .i64 p, .int .i64 k]) (u := .slice (some ⟨Sb, 0, none⟩) nn nn) rfl rfl) (Rg.oc (n_rem hn1) (Rg.oc (n_idx (off := 0) (Nat.mod_lt _ hn1)) (Rg.oc rfl (Rg.oc (hH.cl hs (by omega) (j := 2) (off := k % nn) (arr := arr) (u := .int .i64 y) rfl hy) Rg.on)))))))) (by kernel_rfl) (by kernel_rfl) (fun j fuel t listed a28 hsp hlf hM hun => ?_) (fun listed a28 hall hJ hun => ?_)
  · simp at hsp
  have hT28 := hJ.finE hall [4, 0, 5] (g' := [(4, .int .i64 k), (0, .pointer (some ⟨Rb, 0, none⟩)), (5, .int .i64 y)]) (by kernel_rfl)
  refine Gz.rend T ?_
  refine Gz.seqE T (by kernel_rfl : c12.pd.pd.pd.pd = .seq c12.pd.pd.pd.pd.pa c12.pd.pd.pd.pd.pd) ?_
  refine Gz.regionE (id := 5) (l := c12.pd.pd.pd.pd.pa.po) (r := [0, 1, 2, 3, 4, 5]) T (by kernel_rfl) (by kernel_rfl) ?_
  refine Gz.row T K (by decide) hT28 [] [0, 1, 2, 3] [4, 5] [32, 31, 5] (g' := [(32, .int .i64 k), (31, .pointer (some ⟨Rb, 2, none⟩)), (5, .int .i64 y)]) (qs := []) (by kernel_rfl) (by kernel_rfl) (by simp) (fun a29 hT29 => ?_)
  refine Gz.hint (o := opq c12.pd.pd.pd.pd.pa 4) (d := 33) T (by decide) hT29 (v := .int .i64 (((k + 1 : Nat) : Int))) (by kernel_rfl) (by kernel_rfl) (by decide) (by kernel_rfl) (by kernel_rfl) (n_inc (by omega)) (fun a30 hT30 => ?_)
  refine Mz.enter (o := opq c12.pd.pd.pd.pd.pa 5) (q := .func 16) (f := 16) (cc := c19) (cap := []) (args := #[.tmp 31, .tmp 33]) (ats := #[54, 2]) (mvG T) hT30 [.pointer (some ⟨Rb, 2, none⟩), .int .i64 (((k + 1 : Nat) : Int))] 9 (by kernel_rfl) (by kernel_rfl) (by decide) (by kernel_rfl) (by kernel_rfl) Try.func16 (by kernel_rfl) (by kernel_rfl) (by kernel_rfl) (by kernel_rfl) (by kernel_rfl) (fun a31 hT31 => ?_)
  refine Gz.regionE (id := 0) (l := c19.po) (r := [0, 1, 2, 3, 4]) T (by kernel_rfl) (by kernel_rfl) ?_
  refine Gz.row T K (by decide) hT31 [] [0, 1, 2, 3] [4] [7, 6] (g' := [(7, .int .i64 (((k + 1 : Nat) : Int))), (6, .pointer (some ⟨Rb, 2, none⟩))]) (qs := []) (by kernel_rfl) (by kernel_rfl) (by simp) (fun a32 hT32 => ?_)
  refine Gz.hast (K' := [(tb, .cells #[.int .i64 0, .bool false, .int .i64 0] 29), (Rb, .cells #[.slice (some ⟨Sb, 0, none⟩) nn nn, .int .i64 p, .int .i64 (((k + 1 : Nat) : Int))] 56), (Sb, .cells arr 3)]) (o := opq c19 4) (d := 8) (by decide) hT32 hH hs (by omega) (f := 32) (y := .tmp 6) (z := .tmp 7) (ats := #[72, 2]) (kd := .i64) (u := ((k + 1 : Nat) : Int)) (ty := 56) (j := 1) (bb := Rb) (off := 2) (arr := #[.slice (some ⟨Sb, 0, none⟩) nn nn, .int .i64 p, .int .i64 k]) (u0 := .int .i64 k) (by kernel_rfl) (by kernel_rfl) (by decide) (by kernel_rfl) (by kernel_rfl) Try.func32 (by kernel_rfl) (by kernel_rfl) (by kernel_rfl) (by kernel_rfl) (by kernel_rfl) (by kernel_rfl) rfl rfl rfl (fun a33 w hT33 hH => ?_)
  have K : Ken Try.prog AtRel (DL Shun B W) (CL Shun B w) w := kenL (atRel_refl w)
  refine Gz.rend T ?_
  refine Gz.fin T ?_
  refine Gz.back0 (d := 34) T hT33 hT30 rfl Try.func16 (by kernel_rfl) (by kernel_rfl) (by decide) (fun a34 hT34 => ?_)
  refine Gz.rend T ?_
  refine Gz.seqE T (by kernel_rfl : c12.pd.pd.pd.pd.pd = .seq c12.pd.pd.pd.pd.pd.pa c12.pd.pd.pd.pd.pd.pd) ?_
  refine Gz.regionE (id := 6) (l := c12.pd.pd.pd.pd.pd.pa.po) (r := [0, 1, 2]) T (by kernel_rfl) (by kernel_rfl) ?_
  refine Gz.row T K (by decide) hT34 [] [0, 1, 2] [] [3, 2] (g' := [(3, .bool true), (2, .int .i64 y)]) (qs := []) (by kernel_rfl) (by kernel_rfl) (by simp) (fun a35 hT35 => ?_)
  refine Gz.rend T ?_
  refine Gz.retE T (by kernel_rfl) ?_
  refine Gz.back2 (t := 2) (t' := 3) (v := .int .i64 y) (u := .bool true) (d := 34) T hT35 hT8 rfl Try.func9 (by kernel_rfl) (by kernel_rfl) (by kernel_rfl) (by kernel_rfl) (by decide) (fun a36 hT36 => ?_)
  refine Gz.row T K (by decide) hT36 [] [2, 3, 4, 5] [6, 7, 8] [37, 36, 35, 11, 6, 8, 20, 21, 22] (g' := [(37, .pointer (some ⟨tb, 0, none⟩)), (36, .bool true), (35, .int .i64 y), (11, .pointer (some ⟨tb, 0, none⟩)), (6, .pointer (some ⟨Rb, 0, none⟩)), (8, .slice oa i oc), (20, .slice (some ⟨lb, lz, none⟩) N cap), (21, .int .i64 N), (22, .int .i64 i)]) (qs := []) (by kernel_rfl) (by kernel_rfl) (by simp) (fun a37 hT37 => ?_)
  refine Gz.hput (K' := [(tb, .cells #[.int .i64 y, .bool false, .int .i64 0] 29), (Rb, .cells #[.slice (some ⟨Sb, 0, none⟩) nn nn, .int .i64 p, .int .i64 (((k + 1 : Nat) : Int))] 56), (Sb, .cells arr 3)]) (o := opq c205.pd.pd.pd.pd.pa.pd.pa.pa.pd.pd.pa.pa.pd.pd.pa.pd.pd 6) (by decide) hT37 hH hs (by omega) (X := 3) (ty := 29) (y := .tmp 37) (z := .tmp 35) (ti := (Try.prog.info? 3).getD default) (j := 0) (bb := tb) (off := 0) (arr := #[.int .i64 0, .bool false, .int .i64 0]) (u := .int .i64 y) (u0 := .int .i64 0) (by kernel_rfl) (by kernel_rfl) (by kernel_rfl) (by kernel_rfl) (by kernel_rfl) (by kernel_rfl) rfl rfl (by kernel_rfl) (by kernel_rfl) rfl rfl rfl (fun w hH => ?_)
  have K : Ken Try.prog AtRel (DL Shun B W) (CL Shun B w) w := kenL (atRel_refl w)
  refine Gz.row T K (by decide) hT37 [] [7] [8] [38, 36, 11, 6, 8, 20, 21, 22] (g' := [(38, .pointer (some ⟨tb, 1, none⟩)), (36, .bool true), (11, .pointer (some ⟨tb, 0, none⟩)), (6, .pointer (some ⟨Rb, 0, none⟩)), (8, .slice oa i oc), (20, .slice (some ⟨lb, lz, none⟩) N cap), (21, .int .i64 N), (22, .int .i64 i)]) (qs := []) (by kernel_rfl) (by kernel_rfl) (by simp) (fun a38 hT38 => ?_)
  refine Gz.hput (K' := [(tb, .cells #[.int .i64 y, .bool true, .int .i64 0] 29), (Rb, .cells #[.slice (some ⟨Sb, 0, none⟩) nn nn, .int .i64 p, .int .i64 (((k + 1 : Nat) : Int))] 56), (Sb, .cells arr 3)]) (o := opq c205.pd.pd.pd.pd.pa.pd.pa.pa.pd.pd.pa.pa.pd.pd.pa.pd.pd 8) (by decide) hT38 hH hs (by omega) (X := 4) (ty := 29) (y := .tmp 38) (z := .tmp 36) (ti := (Try.prog.info? 4).getD default) (j := 0) (bb := tb) (off := 1) (arr := #[.int .i64 y, .bool false, .int .i64 0]) (u := .bool true) (u0 := .bool false) (by kernel_rfl) (by kernel_rfl) (by kernel_rfl) (by kernel_rfl) (by kernel_rfl) (by kernel_rfl) rfl rfl (by kernel_rfl) (by kernel_rfl) rfl rfl rfl (fun w hH => ?_)
  have K : Ken Try.prog AtRel (DL Shun B W) (CL Shun B w) w := kenL (atRel_refl w)
  refine Gz.rend T ?_
  refine Gz.seqE T (by kernel_rfl : c205.pd.pd.pd.pd.pa.pd.pa.pa.pd.pd.pa.pa.pd.pd.pd = .seq c205.pd.pd.pd.pd.pa.pd.pa.pa.pd.pd.pa.pa.pd.pd.pd.pa c205.pd.pd.pd.pd.pa.pd.pa.pa.pd.pd.pa.pa.pd.pd.pd.pd) ?_
  refine Gz.regionE (id := 12) (l := c205.pd.pd.pd.pd.pa.pd.pa.pa.pd.pd.pa.pa.pd.pd.pd.pa.po) (r := [0, 1, 2, 3]) T (by kernel_rfl) (by kernel_rfl) ?_
  have h203QT := hb203.live [0, 1] (g' := [(0, .int .i64 nn), (1, .slice (some ⟨lb, lz, none⟩) N cap)]) (by kernel_rfl)
  have h205QT := hT38.live [6, 8, 11, 20, 21, 22] (g' := [(6, .pointer (some ⟨Rb, 0, none⟩)), (8, .slice oa i oc), (11, .pointer (some ⟨tb, 0, none⟩)), (20, .slice (some ⟨lb, lz, none⟩) N cap), (21, .int .i64 N), (22, .int .i64 i)]) (by kernel_rfl)
  exact Goes.stop fun w₁ h₁ => ⟨tb, htb, hH.at h₁, b203, a38, h203QT, h205QT, rfl⟩

end
end Go.Proofs.Ytdmiilgdkmbmeaa.Rg
namespace Go.Proofs.Ytdmiilgdkmbmeaa.Rg
open Go Go.Conc
section
variable {w₀ w : World} {Shun : Loc → Prop} {B W : Nat} {lo bse N cap nn p k i len oc lb lz Rb Sb tb gb gc pc : Nat} {arr : Array Value} {oa la ga pa : Option Addr} {x y : Int} {ok : Bool} {xs : List Value} {K₀ : List (Nat × Obj)} {g : Goroutine}
theorem Q_len (h : QT nn N cap la Rb tb oa oc i g) (hH : Hp w₀ lo bse (3 * i + 1) ((tb, .cells #[.int .i64 y, .bool ok, .int .i64 0] 29) :: (Rb, .cells #[.slice (some ⟨Sb, 0, none⟩) nn nn, .int .i64 p, .int .i64 k] 56) :: K₀) 29 3 (.slice oa i oc) i xs w) (hs : ∀ ad : Addr, lo ≤ ad.block → ¬ Shun (.cell ad)) (hB : w₀.heap.size + (3 * N + 3) ≤ B) (hN : N ≤ 1048576) (hk : k ≤ p) (hp : p ≤ i + 1) (hi : i < N) :
    Goes Try.prog true AtRel (DL Shun B W) (fun g w₂ => AtRel w w₂ ∧ QL nn N cap la Rb tb oa oc i (p - k) g) 4000 g w := by
  obtain ⟨b203, b205, hb203, hb205, rfl⟩ := h
  have TD : Tmd AtRel (DL Shun B W) := tmdL
  have T := TD.toTms
  have K : Ken Try.prog AtRel (DL Shun B W) (CL Shun B w) w := kenL (atRel_refl w)
  refine Gz.row T K (by decide) hb205 [] [0] [1, 2, 3] [39, 6, 8, 11, 20, 21, 22] (g' := [(39, .pointer (some ⟨Rb, 0, none⟩)), (6, .pointer (some ⟨Rb, 0, none⟩)), (8, .slice oa i oc), (11, .pointer (some ⟨tb, 0, none⟩)), (20, .slice la N cap), (21, .int .i64 N), (22, .int .i64 i)]) (qs := []) (by kernel_rfl) (by kernel_rfl) (by simp) (fun a1 hT1 => ?_)
  refine Mz.enter (o := opq c205.pd.pd.pd.pd.pa.pd.pa.pa.pd.pd.pa.pa.pd.pd.pd.pa 1) (q := .func 10) (f := 10) (cc := c60) (cap := []) (args := #[.tmp 39]) (ats := #[33]) (mvG T) hT1 [.pointer (some ⟨Rb, 0, none⟩)] 12 (by kernel_rfl) (by kernel_rfl) (by decide) (by kernel_rfl) (by kernel_rfl) Try.func10 (by kernel_rfl) (by kernel_rfl) (by kernel_rfl) (by kernel_rfl) (by kernel_rfl) (fun a2 hT2 => ?_)
  refine Gz.seqE T (by kernel_rfl : c60 = .seq c60.pa c60.pd) ?_
  refine Gz.regionE (id := 0) (l := c60.pa.po) (r := [0]) T (by kernel_rfl) (by kernel_rfl) ?_
  refine Gz.row T K (by decide) hT2 [] [0] [] [0] (g' := [(0, .pointer (some ⟨Rb, 0, none⟩))]) (qs := []) (by kernel_rfl) (by kernel_rfl) (by simp) (fun a3 hT3 => ?_)
  refine Gz.rend T ?_
  refine Gz.seqE T (by kernel_rfl : c60.pd = .seq c60.pd.pa c60.pd.pd) ?_
  have hT4 := hT3.live [0] (g' := [(0, .pointer (some ⟨Rb, 0, none⟩))]) (by kernel_rfl)
  refine Gz.drawnE (id := 1) 3700 (l := c60.pd.pa.po) (sp := [3, 7, 8, 9]) (H := []) (vals := [.pointer (some ⟨Rb, 0, none⟩), .pointer (some ⟨Rb, 0, none⟩), .pointer (some ⟨Rb, 1, none⟩), undef, .pointer (some ⟨Rb, 0, none⟩), .pointer (some ⟨Rb, 0, none⟩), .pointer (some ⟨Rb, 2, none⟩), undef, undef, undef]) (rds := [[0], [3], [4], [5], [0], [7], [8], [9], [6, 10], [11]]) (bf := befs c60.pd.pa.po) (qs := []) TD (by kernel_rfl) mixed K (by decide) hT4 (by kernel_rfl) (by kernel_rfl) (by kernel_rfl) (by kernel_rfl) Rg.on (by kernel_rfl) (by kernel_rfl) (fun j fuel t listed a5 hsp hlf hM hun => ?_) (fun listed a5 hall hJ hun => ?_)
  rotate_left
  · have h0 := hun 3 (by kernel_rfl)
    rw [hall 3 (by decide)] at h0
    cases h0
  have hj : j = 3 ∨ j = 7 ∨ j = 8 ∨ j = 9 := by simpa using hsp
  rcases hj with rfl | rfl | rfl | rfl
  rotate_left 2
  · exact (hM.not hun (by kernel_rfl)).elim
  · exact (hM.not hun (by kernel_rfl)).elim
  · refine Goes.mono (n := 3700) ?_ (by omega)
    have hS5 := hM.sees (bf := befs c60.pd.pa.po) (by kernel_rfl) (o := opq c60.pd.pa 3) (by kernel_rfl) [5] (g' := [(5, .pointer (some ⟨Rb, 1, none⟩))]) (by kernel_rfl)
    refine Mz.enter (o := opq c60.pd.pa 3) (q := .func 15) (f := 15) (cc := c18) (cap := []) (args := #[.tmp 5]) (ats := #[54]) (mvG T) hS5 [.pointer (some ⟨Rb, 1, none⟩)] 7 (by kernel_rfl) (by kernel_rfl) (by decide) (by kernel_rfl) (by kernel_rfl) Try.func15 (by kernel_rfl) (by kernel_rfl) (by kernel_rfl) (by kernel_rfl) (by kernel_rfl) (fun a6 hT6 => ?_)
    refine Gz.seqE T (by kernel_rfl : c18 = .seq c18.pa c18.pd) ?_
    refine Gz.regionE (id := 0) (l := c18.pa.po) (r := [0]) T (by kernel_rfl) (by kernel_rfl) ?_
    refine Gz.row T K (by decide) hT6 [] [0] [] [0] (g' := [(0, .pointer (some ⟨Rb, 1, none⟩))]) (qs := []) (by kernel_rfl) (by kernel_rfl) (by simp) (fun a7 hT7 => ?_)
    refine Gz.rend T ?_
    refine Gz.seqE T (by kernel_rfl : c18.pd = .seq c18.pd.pa c18.pd.pd) ?_
    refine Gz.regionE (id := 1) (l := c18.pd.pa.po) (r := [0, 1, 2, 3, 4]) T (by kernel_rfl) (by kernel_rfl) ?_
    refine Gz.row T K (by decide) hT7 [] [0, 1, 2] [3, 4] [5] (g' := [(5, .pointer (some ⟨Rb, 1, none⟩))]) (qs := []) (by kernel_rfl) (by kernel_rfl) (by simp) (fun a8 hT8 => ?_)
    refine Gz.aload (o := opq c18.pd.pa 3) (d := 6) (ats := #[72]) (y := .tmp 5) (f := 31) T (by decide) hT8 (by kernel_rfl) (by kernel_rfl) (by decide) (by kernel_rfl) (by kernel_rfl) Try.func31 (by kernel_rfl) (by kernel_rfl) (by kernel_rfl) (by kernel_rfl) (by kernel_rfl) (lookL (hH.cl hs (by omega) (j := 1) (off := 1) (arr := #[.slice (some ⟨Sb, 0, none⟩) nn nn, .int .i64 p, .int .i64 k]) (u := .int .i64 p) rfl rfl)) (fun a9 hT9 => ?_)
    refine Gz.row T K (by decide) hT9 [] [4] [] [2] (g' := [(2, .int .i64 p)]) (qs := []) (by kernel_rfl) (by kernel_rfl) (by simp) (fun a10 hT10 => ?_)
    refine Gz.rend T ?_
    refine Gz.retE T (by kernel_rfl) ?_
    refine Gz.backM (t := 2) (v := .int .i64 p) (d := 6) T hT10 rfl Try.func15 (by kernel_rfl) (by kernel_rfl) (by kernel_rfl) ?_
    refine Gz.more2 (sp0 := [3, 7, 8, 9]) (sp1 := [7, 8, 9]) (dn := []) (i := 3) (l := c60.pd.pa.po) (n := 12) (g := [(0, .pointer (some ⟨Rb, 0, none⟩))]) (vals := [.pointer (some ⟨Rb, 0, none⟩), .pointer (some ⟨Rb, 0, none⟩), .pointer (some ⟨Rb, 1, none⟩), undef, .pointer (some ⟨Rb, 0, none⟩), .pointer (some ⟨Rb, 0, none⟩), .pointer (some ⟨Rb, 2, none⟩), undef, undef, undef]) (vals' := [.pointer (some ⟨Rb, 0, none⟩), .pointer (some ⟨Rb, 0, none⟩), .pointer (some ⟨Rb, 1, none⟩), .int .i64 p, .pointer (some ⟨Rb, 0, none⟩), .pointer (some ⟨Rb, 0, none⟩), .pointer (some ⟨Rb, 2, none⟩), undef, undef, undef]) (H := []) (bf := befs c60.pd.pa.po) (rds := [[0], [3], [4], [5], [0], [7], [8], [9], [6, 10], [11]]) (qs := []) (ds := []) (u := .int .i64 p) [(3, .int .i64 p)] 3400 TD K (by decide) (by kernel_rfl) (by kernel_rfl) (by kernel_rfl) (by kernel_rfl) Rg.on (by kernel_rfl) hM hun hlf (fun _ h => by cases h) (o := opq c60.pd.pa 3) (by kernel_rfl) (by rw [show (opq c60.pd.pa 3).dst = some 6 by kernel_rfl]) (fun _ _ => by kernel_rfl) (by kernel_rfl) (by kernel_rfl) (by kernel_rfl) (by kernel_rfl) (fun j fuel t listed a11 hsp hlf hM hun hdn => ?_) (fun listed a11 hall hJ hun => ?_)
    rotate_left
    · have h0 := hun 7 (by kernel_rfl)
      rw [hall 7 (by decide)] at h0
      cases h0
    have hj : j = 7 ∨ j = 8 ∨ j = 9 := by simpa using hsp
    rcases hj with rfl | rfl | rfl
    rotate_left
    · exact (hM.not hun (by kernel_rfl)).elim
    · exact (hM.not hun (by kernel_rfl)).elim
    refine Goes.mono (n := 3400) ?_ (by omega)
    have hS11 := hM.sees (bf := befs c60.pd.pa.po) (by kernel_rfl) (o := opq c60.pd.pa 7) (by kernel_rfl) [9] (g' := [(9, .pointer (some ⟨Rb, 2, none⟩))]) (by kernel_rfl)
    refine Mz.enter (o := opq c60.pd.pa 7) (q := .func 15) (f := 15) (cc := c18) (cap := []) (args := #[.tmp 9]) (ats := #[54]) (mvG T) hS11 [.pointer (some ⟨Rb, 2, none⟩)] 7 (by kernel_rfl) (by kernel_rfl) (by decide) (by kernel_rfl) (by kernel_rfl) Try.func15 (by kernel_rfl) (by kernel_rfl) (by kernel_rfl) (by kernel_rfl) (by kernel_rfl) (fun a12 hT12 => ?_)
    refine Gz.seqE T (by kernel_rfl : c18 = .seq c18.pa c18.pd) ?_
    refine Gz.regionE (id := 0) (l := c18.pa.po) (r := [0]) T (by kernel_rfl) (by kernel_rfl) ?_
    refine Gz.row T K (by decide) hT12 [] [0] [] [0] (g' := [(0, .pointer (some ⟨Rb, 2, none⟩))]) (qs := []) (by kernel_rfl) (by kernel_rfl) (by simp) (fun a13 hT13 => ?_)
    refine Gz.rend T ?_
    refine Gz.seqE T (by kernel_rfl : c18.pd = .seq c18.pd.pa c18.pd.pd) ?_
    refine Gz.regionE (id := 1) (l := c18.pd.pa.po) (r := [0, 1, 2, 3, 4]) T (by kernel_rfl) (by kernel_rfl) ?_
    refine Gz.row T K (by decide) hT13 [] [0, 1, 2] [3, 4] [5] (g' := [(5, .pointer (some ⟨Rb, 2, none⟩))]) (qs := []) (by kernel_rfl) (by kernel_rfl) (by simp) (fun a14 hT14 => ?_)
    refine Gz.aload (o := opq c18.pd.pa 3) (d := 6) (ats := #[72]) (y := .tmp 5) (f := 31) T (by decide) hT14 (by kernel_rfl) (by kernel_rfl) (by decide) (by kernel_rfl) (by kernel_rfl) Try.func31 (by kernel_rfl) (by kernel_rfl) (by kernel_rfl) (by kernel_rfl) (by kernel_rfl) (lookL (hH.cl hs (by omega) (j := 1) (off := 2) (arr := #[.slice (some ⟨Sb, 0, none⟩) nn nn, .int .i64 p, .int .i64 k]) (u := .int .i64 k) rfl rfl)) (fun a15 hT15 => ?_)
    refine Gz.row T K (by decide) hT15 [] [4] [] [2] (g' := [(2, .int .i64 k)]) (qs := []) (by kernel_rfl) (by kernel_rfl) (by simp) (fun a16 hT16 => ?_)
    refine Gz.rend T ?_
    refine Gz.retE T (by kernel_rfl) ?_
    refine Gz.backM (t := 2) (v := .int .i64 k) (d := 10) T hT16 rfl Try.func15 (by kernel_rfl) (by kernel_rfl) (by kernel_rfl) ?_
    refine Gz.more2 (sp0 := [7, 8, 9]) (sp1 := []) (dn := [3]) (i := 7) (l := c60.pd.pa.po) (n := 12) (g := [(0, .pointer (some ⟨Rb, 0, none⟩))]) (vals := [.pointer (some ⟨Rb, 0, none⟩), .pointer (some ⟨Rb, 0, none⟩), .pointer (some ⟨Rb, 1, none⟩), .int .i64 p, .pointer (some ⟨Rb, 0, none⟩), .pointer (some ⟨Rb, 0, none⟩), .pointer (some ⟨Rb, 2, none⟩), undef, undef, undef]) (vals' := [.pointer (some ⟨Rb, 0, none⟩), .pointer (some ⟨Rb, 0, none⟩), .pointer (some ⟨Rb, 1, none⟩), .int .i64 p, .pointer (some ⟨Rb, 0, none⟩), .pointer (some ⟨Rb, 0, none⟩), .pointer (some ⟨Rb, 2, none⟩), .int .i64 k, .int .i64 (((p - k : Nat) : Int)), .int .i64 (((p - k : Nat) : Int))]) (H := [(8, .val (.int .i64 (((p - k : Nat) : Int))))]) (bf := befs c60.pd.pa.po) (rds := [[0], [3], [4], [5], [0], [7], [8], [9], [6, 10], [11]]) (qs := [(some (.int .i64 (IntKind.i64.wrap (p - k))) : Option Value) = some (.int .i64 (((p - k : Nat) : Int)))]) (ds := []) (u := .int .i64 k) [(7, .int .i64 k), (8, .int .i64 (((p - k : Nat) : Int))), (9, .int .i64 (((p - k : Nat) : Int)))] 3100 TD K (by decide) (by kernel_rfl) (by kernel_rfl) (by kernel_rfl) (by kernel_rfl) (Rg.oc (n_subN hk (by omega)) Rg.on) (by kernel_rfl) hM hun hlf (fun q h => hdn q (by simpa using h)) (o := opq c60.pd.pa 7) (by kernel_rfl) (by rw [show (opq c60.pd.pa 7).dst = some 10 by kernel_rfl]) (fun _ _ => by kernel_rfl) (by kernel_rfl) (by kernel_rfl) (by kernel_rfl) (by kernel_rfl) (fun _ _ _ _ _ h => by cases h) (fun listed a17 hall hJ _ => ?_)
    have hT17 := hJ.finE hall [2] (g' := [(2, .int .i64 (((p - k : Nat) : Int)))]) (by kernel_rfl)
    refine Gz.rend T ?_
    have h203QL := hb203.live [0, 1] (g' := [(0, .int .i64 nn), (1, .slice la N cap)]) (by kernel_rfl)
    have h205QL := hT1.live [6, 8, 11, 20, 21, 22] (g' := [(6, .pointer (some ⟨Rb, 0, none⟩)), (8, .slice oa i oc), (11, .pointer (some ⟨tb, 0, none⟩)), (20, .slice la N cap), (21, .int .i64 N), (22, .int .i64 i)]) (by kernel_rfl)
    have h60QL := hT17.live [2] (g' := [(2, .int .i64 (((p - k : Nat) : Int)))]) (by kernel_rfl)
    exact Goes.stop fun w₁ h₁ => ⟨h₁, b203, a1, a17, h203QL, h205QL, h60QL, rfl⟩
  · refine Goes.mono (n := 3700) ?_ (by omega)
    have hS5 := hM.sees (bf := befs c60.pd.pa.po) (by kernel_rfl) (o := opq c60.pd.pa 7) (by kernel_rfl) [9] (g' := [(9, .pointer (some ⟨Rb, 2, none⟩))]) (by kernel_rfl)
    refine Mz.enter (o := opq c60.pd.pa 7) (q := .func 15) (f := 15) (cc := c18) (cap := []) (args := #[.tmp 9]) (ats := #[54]) (mvG T) hS5 [.pointer (some ⟨Rb, 2, none⟩)] 7 (by kernel_rfl) (by kernel_rfl) (by decide) (by kernel_rfl) (by kernel_rfl) Try.func15 (by kernel_rfl) (by kernel_rfl) (by kernel_rfl) (by kernel_rfl) (by kernel_rfl) (fun a6 hT6 => ?_)
    refine Gz.seqE T (by kernel_rfl : c18 = .seq c18.pa c18.pd) ?_
    refine Gz.regionE (id := 0) (l := c18.pa.po) (r := [0]) T (by kernel_rfl) (by kernel_rfl) ?_
    refine Gz.row T K (by decide) hT6 [] [0] [] [0] (g' := [(0, .pointer (some ⟨Rb, 2, none⟩))]) (qs := []) (by kernel_rfl) (by kernel_rfl) (by simp) (fun a7 hT7 => ?_)
    refine Gz.rend T ?_
    refine Gz.seqE T (by kernel_rfl : c18.pd = .seq c18.pd.pa c18.pd.pd) ?_
    refine Gz.regionE (id := 1) (l := c18.pd.pa.po) (r := [0, 1, 2, 3, 4]) T (by kernel_rfl) (by kernel_rfl) ?_
    refine Gz.row T K (by decide) hT7 [] [0, 1, 2] [3, 4] [5] (g' := [(5, .pointer (some ⟨Rb, 2, none⟩))]) (qs := []) (by kernel_rfl) (by kernel_rfl) (by simp) (fun a8 hT8 => ?_)
    refine Gz.aload (o := opq c18.pd.pa 3) (d := 6) (ats := #[72]) (y := .tmp 5) (f := 31) T (by decide) hT8 (by kernel_rfl) (by kernel_rfl) (by decide) (by kernel_rfl) (by kernel_rfl) Try.func31 (by kernel_rfl) (by kernel_rfl) (by kernel_rfl) (by kernel_rfl) (by kernel_rfl) (lookL (hH.cl hs (by omega) (j := 1) (off := 2) (arr := #[.slice (some ⟨Sb, 0, none⟩) nn nn, .int .i64 p, .int .i64 k]) (u := .int .i64 k) rfl rfl)) (fun a9 hT9 => ?_)
    refine Gz.row T K (by decide) hT9 [] [4] [] [2] (g' := [(2, .int .i64 k)]) (qs := []) (by kernel_rfl) (by kernel_rfl) (by simp) (fun a10 hT10 => ?_)
    refine Gz.rend T ?_
    refine Gz.retE T (by kernel_rfl) ?_
    refine Gz.backM (t := 2) (v := .int .i64 k) (d := 10) T hT10 rfl Try.func15 (by kernel_rfl) (by kernel_rfl) (by kernel_rfl) ?_
    refine Gz.more2 (sp0 := [3, 7, 8, 9]) (sp1 := [3, 8, 9]) (dn := []) (i := 7) (l := c60.pd.pa.po) (n := 12) (g := [(0, .pointer (some ⟨Rb, 0, none⟩))]) (vals := [.pointer (some ⟨Rb, 0, none⟩), .pointer (some ⟨Rb, 0, none⟩), .pointer (some ⟨Rb, 1, none⟩), undef, .pointer (some ⟨Rb, 0, none⟩), .pointer (some ⟨Rb, 0, none⟩), .pointer (some ⟨Rb, 2, none⟩), undef, undef, undef]) (vals' := [.pointer (some ⟨Rb, 0, none⟩), .pointer (some ⟨Rb, 0, none⟩), .pointer (some ⟨Rb, 1, none⟩), undef, .pointer (some ⟨Rb, 0, none⟩), .pointer (some ⟨Rb, 0, none⟩), .pointer (some ⟨Rb, 2, none⟩), .int .i64 k, undef, undef]) (H := []) (bf := befs c60.pd.pa.po) (rds := [[0], [3], [4], [5], [0], [7], [8], [9], [6, 10], [11]]) (qs := []) (ds := []) (u := .int .i64 k) [(7, .int .i64 k)] 3400 TD K (by decide) (by kernel_rfl) (by kernel_rfl) (by kernel_rfl) (by kernel_rfl) Rg.on (by kernel_rfl) hM hun hlf (fun _ h => by cases h) (o := opq c60.pd.pa 7) (by kernel_rfl) (by rw [show (opq c60.pd.pa 7).dst = some 10 by kernel_rfl]) (fun _ _ => by kernel_rfl) (by kernel_rfl) (by kernel_rfl) (by kernel_rfl) (by kernel_rfl) (fun j fuel t listed a11 hsp hlf hM hun hdn => ?_) (fun listed a11 hall hJ hun => ?_)
    rotate_left
    · have h0 := hun 3 (by kernel_rfl)
      rw [hall 3 (by decide)] at h0
      cases h0
    have hj : j = 3 ∨ j = 8 ∨ j = 9 := by simpa using hsp
    rcases hj with rfl | rfl | rfl
    rotate_left
    · exact (hM.not hun (by kernel_rfl)).elim
    · exact (hM.not hun (by kernel_rfl)).elim
    refine Goes.mono (n := 3400) ?_ (by omega)
    have hS11 := hM.sees (bf := befs c60.pd.pa.po) (by kernel_rfl) (o := opq c60.pd.pa 3) (by kernel_rfl) [5] (g' := [(5, .pointer (some ⟨Rb, 1, none⟩))]) (by kernel_rfl)
    refine Mz.enter (o := opq c60.pd.pa 3) (q := .func 15) (f := 15) (cc := c18) (cap := []) (args := #[.tmp 5]) (ats := #[54]) (mvG T) hS11 [.pointer (some ⟨Rb, 1, none⟩)] 7 (by kernel_rfl) (by kernel_rfl) (by decide) (by kernel_rfl) (by kernel_rfl) Try.func15 (by kernel_rfl) (by kernel_rfl) (by kernel_rfl) (by kernel_rfl) (by kernel_rfl) (fun a12 hT12 => ?_)
    refine Gz.seqE T (by kernel_rfl : c18 = .seq c18.pa c18.pd) ?_
    refine Gz.regionE (id := 0) (l := c18.pa.po) (r := [0]) T (by kernel_rfl) (by kernel_rfl) ?_
    refine Gz.row T K (by decide) hT12 [] [0] [] [0] (g' := [(0, .pointer (some ⟨Rb, 1, none⟩))]) (qs := []) (by kernel_rfl) (by kernel_rfl) (by simp) (fun a13 hT13 => ?_)
    refine Gz.rend T ?_
    refine Gz.seqE T (by kernel_rfl : c18.pd = .seq c18.pd.pa c18.pd.pd) ?_
    refine Gz.regionE (id := 1) (l := c18.pd.pa.po) (r := [0, 1, 2, 3, 4]) T (by kernel_rfl) (by kernel_rfl) ?_
    refine Gz.row T K (by decide) hT13 [] [0, 1, 2] [3, 4] [5] (g' := [(5, .pointer (some ⟨Rb, 1, none⟩))]) (qs := []) (by kernel_rfl) (by kernel_rfl) (by simp) (fun a14 hT14 => ?_)
    refine Gz.aload (o := opq c18.pd.pa 3) (d := 6) (ats := #[72]) (y := .tmp 5) (f := 31) T (by decide) hT14 (by kernel_rfl) (by kernel_rfl) (by decide) (by kernel_rfl) (by kernel_rfl) Try.func31 (by kernel_rfl) (by kernel_rfl) (by kernel_rfl) (by kernel_rfl) (by kernel_rfl) (lookL (hH.cl hs (by omega) (j := 1) (off := 1) (arr := #[.slice (some ⟨Sb, 0, none⟩) nn nn, .int .i64 p, .int .i64 k]) (u := .int .i64 p) rfl rfl)) (fun a15 hT15 => ?_)
    refine Gz.row T K (by decide) hT15 [] [4] [] [2] (g' := [(2, .int .i64 p)]) (qs := []) (by kernel_rfl) (by kernel_rfl) (by simp) (fun a16 hT16 => ?_)
    refine Gz.rend T ?_
    refine Gz.retE T (by kernel_rfl) ?_
    refine Gz.backM (t := 2) (v := .int .i64 p) (d := 6) T hT16 rfl Try.func15 (by kernel_rfl) (by kernel_rfl) (by kernel_rfl) ?_
    refine Gz.more2 (sp0 := [3, 8, 9]) (sp1 := []) (dn := [7]) (i := 3) (l := c60.pd.pa.po) (n := 12) (g := [(0, .pointer (some ⟨Rb, 0, none⟩))]) (vals := [.pointer (some ⟨Rb, 0, none⟩), .pointer (some ⟨Rb, 0, none⟩), .pointer (some ⟨Rb, 1, none⟩), undef, .pointer (some ⟨Rb, 0, none⟩), .pointer (some ⟨Rb, 0, none⟩), .pointer (some ⟨Rb, 2, none⟩), .int .i64 k, undef, undef]) (vals' := [.pointer (some ⟨Rb, 0, none⟩), .pointer (some ⟨Rb, 0, none⟩), .pointer (some ⟨Rb, 1, none⟩), .int .i64 p, .pointer (some ⟨Rb, 0, none⟩), .pointer (some ⟨Rb, 0, none⟩), .pointer (some ⟨Rb, 2, none⟩), .int .i64 k, .int .i64 (((p - k : Nat) : Int)), .int .i64 (((p - k : Nat) : Int))]) (H := [(8, .val (.int .i64 (((p - k : Nat) : Int))))]) (bf := befs c60.pd.pa.po) (rds := [[0], [3], [4], [5], [0], [7], [8], [9], [6, 10], [11]]) (qs := [(some (.int .i64 (IntKind.i64.wrap (p - k))) : Option Value) = some (.int .i64 (((p - k : Nat) : Int)))]) (ds := []) (u := .int .i64 p) [(3, .int .i64 p), (8, .int .i64 (((p - k : Nat) : Int))), (9, .int .i64 (((p - k : Nat) : Int)))] 3100 TD K (by decide) (by kernel_rfl) (by kernel_rfl) (by kernel_rfl) (by kernel_rfl) (Rg.oc (n_subN hk (by omega)) Rg.on) (by kernel_rfl) hM hun hlf (fun q h => hdn q (by simpa using h)) (o := opq c60.pd.pa 3) (by kernel_rfl) (by rw [show (opq c60.pd.pa 3).dst = some 6 by kernel_rfl]) (fun _ _ => by kernel_rfl) (by kernel_rfl) (by kernel_rfl) (by kernel_rfl) (by kernel_rfl) (fun _ _ _ _ _ h => by cases h) (fun listed a17 hall hJ _ => ?_)
    have hT17 := hJ.finE hall [2] (g' := [(2, .int .i64 (((p - k : Nat) : Int)))]) (by kernel_rfl)
    refine Gz.rend T ?_
    have h203QL := hb203.live [0, 1] (g' := [(0, .int .i64 nn), (1, .slice la N cap)]) (by kernel_rfl)
    have h205QL := hT1.live [6, 8, 11, 20, 21, 22] (g' := [(6, .pointer (some ⟨Rb, 0, none⟩)), (8, .slice oa i oc), (11, .pointer (some ⟨tb, 0, none⟩)), (20, .slice la N cap), (21, .int .i64 N), (22, .int .i64 i)]) (by kernel_rfl)
    have h60QL := hT17.live [2] (g' := [(2, .int .i64 (((p - k : Nat) : Int)))]) (by kernel_rfl)
    exact Goes.stop fun w₁ h₁ => ⟨h₁, b203, a1, a17, h203QL, h205QL, h60QL, rfl⟩

end
end Go.Proofs.Ytdmiilgdkmbmeaa.Rg
namespace Go.Proofs.Ytdmiilgdkmbmeaa.Rg
open Go Go.Conc
section
variable {w₀ w : World} {Shun : Loc → Prop} {B W : Nat} {lo bse N cap nn p k i len oc lb lz Rb Sb tb gb gc pc : Nat} {arr : Array Value} {oa la ga pa : Option Addr} {x y : Int} {ok : Bool} {xs : List Value} {K₀ : List (Nat × Obj)} {g : Goroutine}
theorem Q_app (h : QL nn N cap la Rb tb oa oc i len g) (htb : bse ≤ tb) (hH : Hp w₀ lo bse (3 * i + 1) ((tb, .cells #[.int .i64 y, .bool ok, .int .i64 0] 29) :: K₀) 29 3 (.slice oa i oc) i xs w) (hs : ∀ ad : Addr, lo ≤ ad.block → ¬ Shun (.cell ad)) (hB : w₀.heap.size + (3 * N + 3) ≤ B) (hN : N ≤ 1048576) (hi : i < N) :
    Goes Try.prog true AtRel (DL Shun B W) (fun g w => ∃ oa oc, Hp w₀ lo bse (3 * (i + 1)) (K₀) 29 3 (.slice oa (i + 1) oc) (i + 1) (xs ++ [.int .i64 y, .bool ok, .int .i64 len]) w ∧ QHead nn N cap la Rb oa oc (i + 1) g) 4000 g w := by
  obtain ⟨b203, b205, b60, hb203, hb205, hb60, rfl⟩ := h
  have TD : Tmd AtRel (DL Shun B W) := tmdL
  have T := TD.toTms
  have K : Ken Try.prog AtRel (DL Shun B W) (CL Shun B w) w := kenL (atRel_refl w)
  refine Gz.retE T (by kernel_rfl) ?_
  refine Gz.back1 (t := 2) (v := .int .i64 len) (d := 40) T hb60 hb205 rfl Try.func10 (by kernel_rfl) (by kernel_rfl) (by kernel_rfl) (by decide) (fun a1 hT1 => ?_)
  refine Gz.row T K (by decide) hT1 [] [2] [3] [41, 40, 6, 8, 11, 20, 21, 22] (g' := [(41, .pointer (some ⟨tb, 2, none⟩)), (40, .int .i64 len), (6, .pointer (some ⟨Rb, 0, none⟩)), (8, .slice oa i oc), (11, .pointer (some ⟨tb, 0, none⟩)), (20, .slice la N cap), (21, .int .i64 N), (22, .int .i64 i)]) (qs := []) (by kernel_rfl) (by kernel_rfl) (by simp) (fun a2 hT2 => ?_)
  refine Gz.hput (K' := (tb, .cells #[.int .i64 y, .bool (ok), .int .i64 len] 29) :: K₀) (o := opq c205.pd.pd.pd.pd.pa.pd.pa.pa.pd.pd.pa.pa.pd.pd.pd.pa 3) (by decide) hT2 hH hs (by omega) (X := 3) (ty := 29) (y := .tmp 41) (z := .tmp 40) (ti := (Try.prog.info? 3).getD default) (j := 0) (bb := tb) (off := 2) (arr := #[.int .i64 y, .bool (ok), .int .i64 0]) (u := .int .i64 len) (u0 := .int .i64 0) (by kernel_rfl) (by kernel_rfl) (by kernel_rfl) (by kernel_rfl) (by kernel_rfl) (by kernel_rfl) rfl rfl (by kernel_rfl) (by kernel_rfl) rfl rfl rfl (fun w hH => ?_)
  have K : Ken Try.prog AtRel (DL Shun B W) (CL Shun B w) w := kenL (atRel_refl w)
  refine Gz.rend T ?_
  refine Gz.regionE (id := 13) (l := c205.pd.pd.pd.pd.pa.pd.pa.pa.pd.pd.pa.pa.pd.pd.pd.pd.po) (r := [0, 1, 2, 3, 4]) T (by kernel_rfl) (by kernel_rfl) ?_
  refine Gz.row T K (by decide) hT2 [] [0] [1, 2, 3, 4] [42, 6, 11, 20, 21, 22] (g' := [(42, .slice oa i oc), (6, .pointer (some ⟨Rb, 0, none⟩)), (11, .pointer (some ⟨tb, 0, none⟩)), (20, .slice la N cap), (21, .int .i64 N), (22, .int .i64 i)]) (qs := []) (by kernel_rfl) (by kernel_rfl) (by simp) (fun a3 hT3 => ?_)
  refine Gz.load3 (o := opq c205.pd.pd.pd.pd.pa.pd.pa.pa.pd.pd.pa.pa.pd.pd.pd.pd 1) (d := 43) (by decide) hT3 (X := 29) (y := .tmp 11) (ti := (Try.prog.info? 29).getD default) (bb := tb) (off := 0) (u0 := .int .i64 y) (u1 := .bool (ok)) (u2 := .int .i64 len) (by kernel_rfl) (by kernel_rfl) (by decide) (by kernel_rfl) (by kernel_rfl) (agg_struct (fs := match Try.prog.underlying 29 with | some (.struct fs) => fs | _ => #[]) (by kernel_rfl)) (by kernel_rfl) (by kernel_rfl) (by kernel_rfl) (hH.cl hs (by omega) (j := 0) (off := 0) (arr := #[.int .i64 y, .bool (ok), .int .i64 len]) (u := .int .i64 y) rfl rfl) (hH.cl hs (by omega) (j := 0) (off := 1) (arr := #[.int .i64 y, .bool (ok), .int .i64 len]) (u := .bool (ok)) rfl rfl) (hH.cl hs (by omega) (j := 0) (off := 2) (arr := #[.int .i64 y, .bool (ok), .int .i64 len]) (u := .int .i64 len) rfl rfl) (fun a4 hT4 => ?_)
  refine Gz.hpush (b := (base 5)) (i1 := 2) (i2 := 3) (d1 := 44) (d2 := 45) (o1 := opq c205.pd.pd.pd.pd.pa.pd.pa.pa.pd.pd.pa.pa.pd.pd.pd.pd 2) (o2 := opq c205.pd.pd.pd.pd.pa.pd.pa.pa.pd.pd.pa.pa.pd.pd.pd.pd 3) (y := .tmp 43) (y1 := .tmp 42) (y2 := .tmp 44) (X := 24) (ti := ((Try.prog.info? 29).getD default)) (zv := .agg #[.int .i64 0, .bool false, .int .i64 0]) (u := .agg #[.int .i64 y, .bool (ok), .int .i64 len]) (vs := [.int .i64 y, .bool (ok), .int .i64 len]) (by decide) hT4 hH hs (by omega) (by kernel_rfl) (by kernel_rfl) (by kernel_rfl) (by kernel_rfl) rfl (by decide) (by decide) (by rw [show ((Try.prog.info? 29).getD default).bytes = 24 by kernel_rfl]; omega) (by simp only [maxLen]; omega) rfl (by simp [Value.oneCell']) (fill3 _ _ _ _ _ _) (by kernel_rfl) (by kernel_rfl) (by decide) (by kernel_rfl) (by kernel_rfl) (by kernel_rfl) (by kernel_rfl) (by kernel_rfl) (by decide) (by kernel_rfl) (by kernel_rfl) (by kernel_rfl) rfl (fun t e => by cases e; decide) (fun v e => by cases (show none = some v from e)) (fun a5 w oa oc hT5 hH => ?_)
  have K : Ken Try.prog AtRel (DL Shun B W) (CL Shun B w) w := kenL (atRel_refl w)
  refine Gz.row T K (by decide) hT5 [] [4] [] [8, 6, 20, 21, 22] (g' := [(8, .slice oa (i + 1 : Nat) oc), (6, .pointer (some ⟨Rb, 0, none⟩)), (20, .slice la N cap), (21, .int .i64 N), (22, .int .i64 i)]) (qs := []) (by kernel_rfl) (by kernel_rfl) (by simp) (fun a6 hT6 => ?_)
  refine Gz.rend T ?_
  refine Gz.out T ?_
  refine Gz.regionE (id := 14) (l := c205.pd.pd.pd.pd.pa.pd.pa.pa.pd.pd.pd.po) (r := [0, 1]) T (by kernel_rfl) (by kernel_rfl) ?_
  refine Gz.hint (o := opq c205.pd.pd.pd.pd.pa.pd.pa.pa.pd.pd.pd 0) (d := 46) T (by decide) hT6 (v := .int .i64 (((i + 1 : Nat) : Int))) (by kernel_rfl) (by kernel_rfl) (by decide) (by kernel_rfl) (by kernel_rfl) (n_inc (by omega)) (fun a7 hT7 => ?_)
  refine Gz.row T K (by decide) hT7 [] [1] [] [22, 8, 6, 20, 21] (g' := [(22, .int .i64 (((i + 1 : Nat) : Int))), (8, .slice oa (i + 1 : Nat) oc), (6, .pointer (some ⟨Rb, 0, none⟩)), (20, .slice la N cap), (21, .int .i64 N)]) (qs := []) (by kernel_rfl) (by kernel_rfl) (by simp) (fun a8 hT8 => ?_)
  refine Gz.rend T ?_
  refine Gz.again T ?_
  have h203QHead := hb203.live [0, 1] (g' := [(0, .int .i64 nn), (1, .slice la N cap)]) (by kernel_rfl)
  have h205QHead := hT8.live [6, 8, 20, 21, 22] (g' := [(6, .pointer (some ⟨Rb, 0, none⟩)), (8, .slice oa (i + 1 : Nat) oc), (20, .slice la N cap), (21, .int .i64 N), (22, .int .i64 (((i + 1 : Nat) : Int)))]) (by kernel_rfl)
  exact Goes.stop fun w₁ h₁ => ⟨oa, oc, ((hH.drop htb).more (by omega)).at h₁, b203, a8, h203QHead, h205QHead, rfl⟩
theorem L_enter (h : QHead nn N cap la Rb oa oc i g) (hi : i = N) :
    Goes Try.prog true AtRel (DL Shun B W) (fun g w₂ => AtRel w w₂ ∧ LHead nn N cap la oa oc none 0 0 0 0 g) 4000 g w := by
  obtain ⟨b203, b205, hb203, hb205, rfl⟩ := h
  have TD : Tmd AtRel (DL Shun B W) := tmdL
  have T := TD.toTms
  have K : Ken Try.prog AtRel (DL Shun B W) (CL Shun B w) w := kenL (atRel_refl w)
  subst hi
  refine Gz.seqE T (by kernel_rfl : c205.pd.pd.pd.pd.pa.pd.pa.pa = .seq c205.pd.pd.pd.pd.pa.pd.pa.pa.pa c205.pd.pd.pd.pd.pa.pd.pa.pa.pd) ?_
  refine Gz.regionE (id := 6) (l := c205.pd.pd.pd.pd.pa.pd.pa.pa.pa.po) (r := [0]) T (by kernel_rfl) (by kernel_rfl) ?_
  refine Gz.hint (o := opq c205.pd.pd.pd.pd.pa.pd.pa.pa.pa 0) (d := 23) T (by decide) hb205 (v := .bool false) (by kernel_rfl) (by kernel_rfl) (by decide) (by kernel_rfl) (by kernel_rfl) (congrArg some (n_nlt (by omega))) (fun a1 hT1 => ?_)
  refine Gz.rend T ?_
  refine Gz.seqE T (by kernel_rfl : c205.pd.pd.pd.pd.pa.pd.pa.pa.pd = .seq c205.pd.pd.pd.pd.pa.pd.pa.pa.pd.pa c205.pd.pd.pd.pd.pa.pd.pa.pa.pd.pd) ?_
  refine Gz.condFE (q := .tmp 23) (y := c205.pd.pd.pd.pd.pa.pd.pa.pa.pd.pa.pa) (z := c205.pd.pd.pd.pd.pa.pd.pa.pa.pd.pa.pd) T (by kernel_rfl) hT1 (by kernel_rfl) ?_
  refine Gz.exitE (id := 0) T (by kernel_rfl) rfl ?_
  refine Gz.seqE T (by kernel_rfl : c205.pd.pd.pd.pd.pd = .seq c205.pd.pd.pd.pd.pd.pa c205.pd.pd.pd.pd.pd.pd) ?_
  refine Gz.regionE (id := 15) (l := c205.pd.pd.pd.pd.pd.pa.po) (r := [0, 1, 2]) T (by kernel_rfl) (by kernel_rfl) ?_
  refine Gz.row T K (by decide) hT1 [] [0, 1, 2] [] [5, 4] (g' := [(5, .int .i64 0), (4, .slice oa i oc)]) (qs := []) (by kernel_rfl) (by kernel_rfl) (by simp) (fun a2 hT2 => ?_)
  refine Gz.rend T ?_
  refine Gz.retE T (by kernel_rfl) ?_
  refine Gz.back2 (t := 4) (t' := 5) (v := .slice oa i oc) (u := .int .i64 0) (d := 17) T hT2 hb203 rfl Try.func5 (by kernel_rfl) (by kernel_rfl) (by kernel_rfl) (by kernel_rfl) (by decide) (fun a3 hT3 => ?_)
  refine Gz.row T K (by decide) hT3 [] [3, 4, 5, 6, 7] [] [6, 5, 0, 1] (g' := [(6, .int .i64 0), (5, .slice oa i oc), (0, .int .i64 nn), (1, .slice la i cap)]) (qs := []) (by kernel_rfl) (by kernel_rfl) (by simp) (fun a4 hT4 => ?_)
  refine Gz.rend T ?_
  refine Gz.seqE T (by kernel_rfl : c203.pd.pd.pd = .seq c203.pd.pd.pd.pa c203.pd.pd.pd.pd) ?_
  refine Gz.seqE T (by kernel_rfl : c203.pd.pd.pd.pa = .seq c203.pd.pd.pd.pa.pa c203.pd.pd.pd.pa.pd) ?_
  refine Gz.regionE (id := 4) (l := c203.pd.pd.pd.pa.pa.po) (r := [0, 1]) T (by kernel_rfl) (by kernel_rfl) ?_
  refine Gz.row T K (by decide) hT4 [] [0, 1] [] [21, 5, 0, 1] (g' := [(21, .bool false), (5, .slice oa i oc), (0, .int .i64 nn), (1, .slice la i cap)]) (qs := []) (by kernel_rfl) (by kernel_rfl) (by simp) (fun a5 hT5 => ?_)
  refine Gz.rend T ?_
  refine Gz.condFE (q := .tmp 21) (y := c203.pd.pd.pd.pa.pd.pa) (z := c203.pd.pd.pd.pa.pd.pd) T (by kernel_rfl) hT5 (by kernel_rfl) ?_
  refine Gz.skipE T (by kernel_rfl) ?_
  refine Gz.seqE T (by kernel_rfl : c203.pd.pd.pd.pd = .seq c203.pd.pd.pd.pd.pa c203.pd.pd.pd.pd.pd) ?_
  refine Gz.seqE T (by kernel_rfl : c203.pd.pd.pd.pd.pa = .seq c203.pd.pd.pd.pd.pa.pa c203.pd.pd.pd.pd.pa.pd) ?_
  refine Gz.regionE (id := 6) (l := c203.pd.pd.pd.pd.pa.pa.po) (r := [0, 1, 2, 3, 4]) T (by kernel_rfl) (by kernel_rfl) ?_
  refine Gz.row T K (by decide) hT5 [] [0, 1, 2, 3] [4] [31, 29, 5, 0, 1] (g' := [(31, .int .i64 i), (29, .int .i64 i), (5, .slice oa i oc), (0, .int .i64 nn), (1, .slice la i cap)]) (qs := []) (by kernel_rfl) (by kernel_rfl) (by simp) (fun a6 hT6 => ?_)
  refine Gz.hint (o := opq c203.pd.pd.pd.pd.pa.pa 4) (d := 32) T (by decide) hT6 (v := .bool false) (by kernel_rfl) (by kernel_rfl) (by decide) (by kernel_rfl) (by kernel_rfl) (congrArg some (n_neq rfl)) (fun a7 hT7 => ?_)
  refine Gz.rend T ?_
  refine Gz.condFE (q := .tmp 32) (y := c203.pd.pd.pd.pd.pa.pd.pa) (z := c203.pd.pd.pd.pd.pa.pd.pd) T (by kernel_rfl) hT7 (by kernel_rfl) ?_
  refine Gz.skipE T (by kernel_rfl) ?_
  refine Gz.seqE T (by kernel_rfl : c203.pd.pd.pd.pd.pd = .seq c203.pd.pd.pd.pd.pd.pa c203.pd.pd.pd.pd.pd.pd) ?_
  refine Gz.regionE (id := 8) (l := c203.pd.pd.pd.pd.pd.pa.po) (r := [0]) T (by kernel_rfl) (by kernel_rfl) ?_
  refine Gz.row T K (by decide) hT7 [] [0] [] [7, 5, 0, 1] (g' := [(7, .slice none 0 0), (5, .slice oa i oc), (0, .int .i64 nn), (1, .slice la i cap)]) (qs := []) (by kernel_rfl) (by kernel_rfl) (by simp) (fun a8 hT8 => ?_)
  refine Gz.rend T ?_
  refine Gz.seqE T (by kernel_rfl : c203.pd.pd.pd.pd.pd.pd = .seq c203.pd.pd.pd.pd.pd.pd.pa c203.pd.pd.pd.pd.pd.pd.pd) ?_
  refine Gz.regionE (id := 9) (l := c203.pd.pd.pd.pd.pd.pd.pa.po) (r := [0]) T (by kernel_rfl) (by kernel_rfl) ?_
  refine Gz.row T K (by decide) hT8 [] [0] [] [8, 7, 5, 0, 1] (g' := [(8, .int .i64 0), (7, .slice none 0 0), (5, .slice oa i oc), (0, .int .i64 nn), (1, .slice la i cap)]) (qs := []) (by kernel_rfl) (by kernel_rfl) (by simp) (fun a9 hT9 => ?_)
  refine Gz.rend T ?_
  refine Gz.seqE T (by kernel_rfl : c203.pd.pd.pd.pd.pd.pd.pd = .seq c203.pd.pd.pd.pd.pd.pd.pd.pa c203.pd.pd.pd.pd.pd.pd.pd.pd) ?_
  refine Gz.seqE T (by kernel_rfl : c203.pd.pd.pd.pd.pd.pd.pd.pa = .seq c203.pd.pd.pd.pd.pd.pd.pd.pa.pa c203.pd.pd.pd.pd.pd.pd.pd.pa.pd) ?_
  refine Gz.regionE (id := 10) (l := c203.pd.pd.pd.pd.pd.pd.pd.pa.pa.po) (r := [0, 1, 2]) T (by kernel_rfl) (by kernel_rfl) ?_
  refine Gz.row T K (by decide) hT9 [] [0, 1, 2] [] [35, 34, 33, 8, 7, 5, 0] (g' := [(35, .int .i64 0), (34, .int .i64 i), (33, .slice la i cap), (8, .int .i64 0), (7, .slice none 0 0), (5, .slice oa i oc), (0, .int .i64 nn)]) (qs := []) (by kernel_rfl) (by kernel_rfl) (by simp) (fun a10 hT10 => ?_)
  refine Gz.rend T ?_
  refine Gz.blockE (id := 0) (y := c203.pd.pd.pd.pd.pd.pd.pd.pa.pd.pa) T (by kernel_rfl) ?_
  refine Gz.loopE (y := c203.pd.pd.pd.pd.pd.pd.pd.pa.pd.pa.pa) T (by kernel_rfl) ?_
  have h203LHead := hT10.live [0, 5, 7, 8, 33, 34, 35] (g' := [(0, .int .i64 nn), (5, .slice oa i oc), (7, .slice none 0 0), (8, .int .i64 0), (33, .slice la i cap), (34, .int .i64 i), (35, .int .i64 0)]) (by kernel_rfl)
  exact Goes.stop fun w₂ h₂ => ⟨h₂, a10, h203LHead, rfl⟩
theorem L_end (h : LHead nn N cap la ga gc pa pc p k i g) (hi : i = N) :
    Goes Try.prog true AtRel (DL Shun B W) (fun g w₂ => AtRel w w₂ ∧ EndL g) 4000 g w := by
  obtain ⟨b203, hb203, rfl⟩ := h
  have TD : Tmd AtRel (DL Shun B W) := tmdL
  have T := TD.toTms
  have K : Ken Try.prog AtRel (DL Shun B W) (CL Shun B w) w := kenL (atRel_refl w)
  refine Gz.seqE T (by kernel_rfl : c203.pd.pd.pd.pd.pd.pd.pd.pa.pd.pa.pa = .seq c203.pd.pd.pd.pd.pd.pd.pd.pa.pd.pa.pa.pa c203.pd.pd.pd.pd.pd.pd.pd.pa.pd.pa.pa.pd) ?_
  refine Gz.regionE (id := 11) (l := c203.pd.pd.pd.pd.pd.pd.pd.pa.pd.pa.pa.pa.po) (r := [0]) T (by kernel_rfl) (by kernel_rfl) ?_
  refine Gz.hint (o := opq c203.pd.pd.pd.pd.pd.pd.pd.pa.pd.pa.pa.pa 0) (d := 36) T (by decide) hb203 (v := .bool false) (by kernel_rfl) (by kernel_rfl) (by decide) (by kernel_rfl) (by kernel_rfl) (congrArg some (n_nlt (by omega))) (fun a1 hT1 => ?_)
  refine Gz.rend T ?_
  refine Gz.seqE T (by kernel_rfl : c203.pd.pd.pd.pd.pd.pd.pd.pa.pd.pa.pa.pd = .seq c203.pd.pd.pd.pd.pd.pd.pd.pa.pd.pa.pa.pd.pa c203.pd.pd.pd.pd.pd.pd.pd.pa.pd.pa.pa.pd.pd) ?_
  refine Gz.condFE (q := .tmp 36) (y := c203.pd.pd.pd.pd.pd.pd.pd.pa.pd.pa.pa.pd.pa.pa) (z := c203.pd.pd.pd.pd.pd.pd.pd.pa.pd.pa.pa.pd.pa.pd) T (by kernel_rfl) hT1 (by kernel_rfl) ?_
  refine Gz.exitE (id := 0) T (by kernel_rfl) rfl ?_
  refine Gz.seqE T (by kernel_rfl : c203.pd.pd.pd.pd.pd.pd.pd.pd = .seq c203.pd.pd.pd.pd.pd.pd.pd.pd.pa c203.pd.pd.pd.pd.pd.pd.pd.pd.pd) ?_
  refine Gz.regionE (id := 23) (l := c203.pd.pd.pd.pd.pd.pd.pd.pd.pa.po) (r := [0]) T (by kernel_rfl) (by kernel_rfl) ?_
  refine Gz.row T K (by decide) hT1 [] [0] [] [4] (g' := [(4, .bool true)]) (qs := []) (by kernel_rfl) (by kernel_rfl) (by simp) (fun a2 hT2 => ?_)
  refine Gz.rend T ?_
  refine Gz.retE T (by kernel_rfl) ?_
  exact Goes.stop fun w₂ h₂ => ⟨h₂, _, _, hT2.live [4] (g' := [(4, .bool true)]) (by kernel_rfl), rfl⟩

end
end Go.Proofs.Ytdmiilgdkmbmeaa.Rg
namespace Go.Proofs.Ytdmiilgdkmbmeaa.Rg
open Go Go.Conc
section
variable {w₀ w : World} {Shun : Loc → Prop} {B W : Nat} {lo bse N cap nn p k i len oc lb lz Rb Sb tb gb gc pc : Nat} {arr : Array Value} {oa la ga pa : Option Addr} {x y : Int} {ok : Bool} {xs : List Value} {K₀ : List (Nat × Obj)} {g : Goroutine}
theorem L_b1 {pb : Nat} (h : LHead nn N cap la ga gc pa pc p k i g) (hH : Hp w₀ lo bse (3 * i) ([]) 3 1 (.slice pa p pc) p xs w) (hs : ∀ ad : Addr, lo ≤ ad.block → ¬ Shun (.cell ad)) (hB : w₀.heap.size + (3 * N + 3) ≤ B) (hN : N ≤ 1048576) (hp : p ≤ i) (hk : k ≤ p) (hi : i < N) (hla : la = some ⟨lb, lz, none⟩) (hga : ga = some ⟨gb, 0, none⟩) (hz : CL Shun B w ⟨lb, i + lz, none⟩ (.int .i64 x)) (g0 : CL Shun B w ⟨gb, i * 3 + 0, none⟩ (.int .i64 y)) (g1 : CL Shun B w ⟨gb, i * 3 + 1, none⟩ (.bool true)) (g2 : CL Shun B w ⟨gb, i * 3 + 2, none⟩ (.int .i64 len)) (hx : 0 ≤ x) (hl : p + 1 = len + k) (hln : len ≤ nn) :
    Goes Try.prog true AtRel (DL Shun B W) (fun g w => ∃ pa pc, Hp w₀ lo bse (3 * (i + 1)) ([]) 3 1 (.slice pa (p + 1) pc) (p + 1) (xs ++ [.int .i64 x]) w ∧ LHead nn N cap la ga gc pa pc (p + 1) k (i + 1) g) 4000 g w := by
  obtain ⟨b203, hb203, rfl⟩ := h
  subst hla
  subst hga
  have TD : Tmd AtRel (DL Shun B W) := tmdL
  have T := TD.toTms
  have K : Ken Try.prog AtRel (DL Shun B W) (CL Shun B w) w := kenL (atRel_refl w)
  refine Gz.seqE T (by kernel_rfl : c203.pd.pd.pd.pd.pd.pd.pd.pa.pd.pa.pa = .seq c203.pd.pd.pd.pd.pd.pd.pd.pa.pd.pa.pa.pa c203.pd.pd.pd.pd.pd.pd.pd.pa.pd.pa.pa.pd) ?_
  refine Gz.regionE (id := 11) (l := c203.pd.pd.pd.pd.pd.pd.pd.pa.pd.pa.pa.pa.po) (r := [0]) T (by kernel_rfl) (by kernel_rfl) ?_
  refine Gz.hint (o := opq c203.pd.pd.pd.pd.pd.pd.pd.pa.pd.pa.pa.pa 0) (d := 36) T (by decide) hb203 (v := .bool true) (by kernel_rfl) (by kernel_rfl) (by decide) (by kernel_rfl) (by kernel_rfl) (congrArg some (n_lt hi)) (fun a1 hT1 => ?_)
  refine Gz.rend T ?_
  refine Gz.seqE T (by kernel_rfl : c203.pd.pd.pd.pd.pd.pd.pd.pa.pd.pa.pa.pd = .seq c203.pd.pd.pd.pd.pd.pd.pd.pa.pd.pa.pa.pd.pa c203.pd.pd.pd.pd.pd.pd.pd.pa.pd.pa.pa.pd.pd) ?_
  refine Gz.condTE (q := .tmp 36) (y := c203.pd.pd.pd.pd.pd.pd.pd.pa.pd.pa.pa.pd.pa.pa) (z := c203.pd.pd.pd.pd.pd.pd.pd.pa.pd.pa.pa.pd.pa.pd) T (by kernel_rfl) hT1 (by kernel_rfl) ?_
  refine Gz.skipE T (by kernel_rfl) ?_
  refine Gz.seqE T (by kernel_rfl : c203.pd.pd.pd.pd.pd.pd.pd.pa.pd.pa.pa.pd.pd = .seq c203.pd.pd.pd.pd.pd.pd.pd.pa.pd.pa.pa.pd.pd.pa c203.pd.pd.pd.pd.pd.pd.pd.pa.pd.pa.pa.pd.pd.pd) ?_
  refine Gz.blockE (id := 1) (y := c203.pd.pd.pd.pd.pd.pd.pd.pa.pd.pa.pa.pd.pd.pa.pa) T (by kernel_rfl) ?_
  refine Gz.seqE T (by kernel_rfl : c203.pd.pd.pd.pd.pd.pd.pd.pa.pd.pa.pa.pd.pd.pa.pa = .seq c203.pd.pd.pd.pd.pd.pd.pd.pa.pd.pa.pa.pd.pd.pa.pa.pa c203.pd.pd.pd.pd.pd.pd.pd.pa.pd.pa.pa.pd.pd.pa.pa.pd) ?_
  refine Gz.regionE (id := 12) (l := c203.pd.pd.pd.pd.pd.pd.pd.pa.pd.pa.pa.pd.pd.pa.pa.pa.po) (r := [0, 1, 2, 3, 4]) T (by kernel_rfl) (by kernel_rfl) ?_
  refine Gz.row T K (by decide) hT1 [] [0] [1, 2, 3, 4] [37, 0, 5, 7, 8, 33, 34, 35] (g' := [(37, .int .i64 i), (0, .int .i64 nn), (5, .slice (some ⟨gb, 0, none⟩) N gc), (7, .slice pa p pc), (8, .int .i64 k), (33, .slice (some ⟨lb, lz, none⟩) N cap), (34, .int .i64 N), (35, .int .i64 i)]) (qs := []) (by kernel_rfl) (by kernel_rfl) (by simp) (fun a2 hT2 => ?_)
  refine Gz.hint (o := opq c203.pd.pd.pd.pd.pd.pd.pd.pa.pd.pa.pa.pd.pd.pa.pa.pa 1) (d := 38) T (by decide) hT2 (v := .pointer (some ⟨lb, i + lz, none⟩)) (by kernel_rfl) (by kernel_rfl) (by decide) (by kernel_rfl) (by kernel_rfl) ((n_idx hi)) (fun a3 hT3 => ?_)
  refine Gz.load (o := opq c203.pd.pd.pd.pd.pd.pd.pd.pa.pd.pa.pa.pd.pd.pa.pa.pa 2) (d := 39) (X := 3) (y := .tmp 38) (ad := ⟨lb, i + lz, none⟩) T K (by decide) hT3 (v := .int .i64 x) (by kernel_rfl) (by kernel_rfl) (by decide) (by kernel_rfl) (by kernel_rfl) (by kernel_rfl) (by kernel_rfl) (by kernel_rfl) hz (fun a4 hT4 => ?_)
  refine Gz.row T K (by decide) hT4 [] [3, 4] [] [10, 9, 0, 5, 7, 8, 33, 34, 35] (g' := [(10, .int .i64 x), (9, .int .i64 i), (0, .int .i64 nn), (5, .slice (some ⟨gb, 0, none⟩) N gc), (7, .slice pa p pc), (8, .int .i64 k), (33, .slice (some ⟨lb, lz, none⟩) N cap), (34, .int .i64 N), (35, .int .i64 i)]) (qs := []) (by kernel_rfl) (by kernel_rfl) (by simp) (fun a5 hT5 => ?_)
  refine Gz.rend T ?_
  refine Gz.seqE T (by kernel_rfl : c203.pd.pd.pd.pd.pd.pd.pd.pa.pd.pa.pa.pd.pd.pa.pa.pd = .seq c203.pd.pd.pd.pd.pd.pd.pd.pa.pd.pa.pa.pd.pd.pa.pa.pd.pa c203.pd.pd.pd.pd.pd.pd.pd.pa.pd.pa.pa.pd.pd.pa.pa.pd.pd) ?_
  refine Gz.regionE (id := 13) (l := c203.pd.pd.pd.pd.pd.pd.pd.pa.pd.pa.pa.pd.pd.pa.pa.pd.pa.po) (r := [0, 1, 2, 3, 4, 5]) T (by kernel_rfl) (by kernel_rfl) ?_
  refine Gz.row T K (by decide) hT5 [] [0, 1] [2, 3, 4, 5] [41, 40, 10, 0, 5, 7, 8, 33, 34, 35] (g' := [(41, .int .i64 i), (40, .slice (some ⟨gb, 0, none⟩) N gc), (10, .int .i64 x), (0, .int .i64 nn), (5, .slice (some ⟨gb, 0, none⟩) N gc), (7, .slice pa p pc), (8, .int .i64 k), (33, .slice (some ⟨lb, lz, none⟩) N cap), (34, .int .i64 N), (35, .int .i64 i)]) (qs := []) (by kernel_rfl) (by kernel_rfl) (by simp) (fun a6 hT6 => ?_)
  refine Mz.opv (o := opq c203.pd.pd.pd.pd.pd.pd.pd.pa.pd.pa.pa.pd.pd.pa.pa.pd.pa 2) (d := 42) (mvG T) (by decide) hT6 (v := .pointer (some ⟨gb, i * 3, none⟩)) (by kernel_rfl) (by kernel_rfl) (by decide) (by kernel_rfl) (by kernel_rfl) (op_idx3 (X := 24) (E := 29) (ti := (Try.prog.info? 29).getD default) (y := .tmp 40) (z := .tmp 41) (b := gb) (len := N) (c := gc) (i := i) (by kernel_rfl) (by kernel_rfl) (by kernel_rfl) (by kernel_rfl) (by kernel_rfl) (by kernel_rfl) hi) (fun a7 hT7 => ?_)
  refine Gz.load3 (o := opq c203.pd.pd.pd.pd.pd.pd.pd.pa.pd.pa.pa.pd.pd.pa.pa.pd.pa 3) (d := 43) (by decide) hT7 (X := 29) (y := .tmp 42) (ti := (Try.prog.info? 29).getD default) (bb := gb) (off := i * 3) (u0 := .int .i64 y) (u1 := .bool true) (u2 := .int .i64 len) (by kernel_rfl) (by kernel_rfl) (by decide) (by kernel_rfl) (by kernel_rfl) (agg_struct (fs := match Try.prog.underlying 29 with | some (.struct fs) => fs | _ => #[]) (by kernel_rfl)) (by kernel_rfl) (by kernel_rfl) (by kernel_rfl) g0 g1 g2 (fun a8 hT8 => ?_)
  refine Gz.hmk (o := opq c203.pd.pd.pd.pd.pd.pd.pd.pa.pd.pa.pa.pd.pd.pa.pa.pd.pa 4) (d := 11) (by decide) hT8 hH (by kernel_rfl) (by kernel_rfl) (by decide) (by kernel_rfl) (fun b => .pointer (some ⟨b, 0, none⟩)) (.cells #[.int .i64 0, .bool false, .int .i64 0] 29) (op_alloc (T := 29) (ti := (Try.prog.info? 29).getD default) (z := .agg #[.int .i64 0, .bool false, .int .i64 0]) (by kernel_rfl) (by kernel_rfl) (by kernel_rfl)) (fun a9 w tb htb hT9 hH => ?_)
  replace hT9 : Tm a9 118 ((11, .pointer (some ⟨tb, 0, none⟩)) :: [(43, .agg #[.int .i64 y, .bool true, .int .i64 len]), (42, .pointer (some ⟨gb, i * 3, none⟩)), (41, .int .i64 i), (40, .slice (some ⟨gb, 0, none⟩) N gc), (10, .int .i64 x), (0, .int .i64 nn), (5, .slice (some ⟨gb, 0, none⟩) N gc), (7, .slice pa p pc), (8, .int .i64 k), (33, .slice (some ⟨lb, lz, none⟩) N cap), (34, .int .i64 N), (35, .int .i64 i)]) [] := hT9
  have K : Ken Try.prog AtRel (DL Shun B W) (CL Shun B w) w := kenL (atRel_refl w)
  refine Gz.hput3 (K' := [(tb, .cells #[.int .i64 y, .bool true, .int .i64 len] 29)]) (o := opq c203.pd.pd.pd.pd.pd.pd.pd.pa.pd.pa.pa.pd.pd.pa.pa.pd.pa 5) (by decide) hT9 hH hs (by omega) (X := 29) (ty := 29) (y := .tmp 11) (z := .tmp 43) (ti := (Try.prog.info? 29).getD default) (j := 0) (bb := tb) (u0 := .int .i64 y) (u1 := .bool true) (u2 := .int .i64 len) (z0 := .int .i64 0) (z1 := .bool false) (z2 := .int .i64 0) (by kernel_rfl) (by kernel_rfl) (by kernel_rfl) (by kernel_rfl) (by kernel_rfl) (by kernel_rfl) rfl rfl rfl (by kernel_rfl) (by kernel_rfl) rfl rfl (fun w hH => ?_)
  have K : Ken Try.prog AtRel (DL Shun B W) (CL Shun B w) w := kenL (atRel_refl w)
  refine Gz.rend T ?_
  refine Gz.seqE T (by kernel_rfl : c203.pd.pd.pd.pd.pd.pd.pd.pa.pd.pa.pa.pd.pd.pa.pa.pd.pd = .seq c203.pd.pd.pd.pd.pd.pd.pd.pa.pd.pa.pa.pd.pd.pa.pa.pd.pd.pa c203.pd.pd.pd.pd.pd.pd.pd.pa.pd.pa.pa.pd.pd.pa.pa.pd.pd.pd) ?_
  refine Gz.seqE T (by kernel_rfl : c203.pd.pd.pd.pd.pd.pd.pd.pa.pd.pa.pa.pd.pd.pa.pa.pd.pd.pa = .seq c203.pd.pd.pd.pd.pd.pd.pd.pa.pd.pa.pa.pd.pd.pa.pa.pd.pd.pa.pa c203.pd.pd.pd.pd.pd.pd.pd.pa.pd.pa.pa.pd.pd.pa.pa.pd.pd.pa.pd) ?_
  refine Gz.regionE (id := 14) (l := c203.pd.pd.pd.pd.pd.pd.pd.pa.pd.pa.pa.pd.pd.pa.pa.pd.pd.pa.pa.po) (r := [0, 1, 2, 3, 4, 5]) T (by kernel_rfl) (by kernel_rfl) ?_
  refine Gz.row T K (by decide) hT9 [] [0] [1, 2, 3, 4, 5] [44, 11, 10, 0, 5, 7, 8, 33, 34, 35] (g' := [(44, .int .i64 x), (11, .pointer (some ⟨tb, 0, none⟩)), (10, .int .i64 x), (0, .int .i64 nn), (5, .slice (some ⟨gb, 0, none⟩) N gc), (7, .slice pa p pc), (8, .int .i64 k), (33, .slice (some ⟨lb, lz, none⟩) N cap), (34, .int .i64 N), (35, .int .i64 i)]) (qs := []) (by kernel_rfl) (by kernel_rfl) (by simp) (fun a10 hT10 => ?_)
  refine Gz.hint (o := opq c203.pd.pd.pd.pd.pd.pd.pd.pa.pd.pa.pa.pd.pd.pa.pa.pd.pd.pa.pa 1) (d := 45) T (by decide) hT10 (v := .bool true) (by kernel_rfl) (by kernel_rfl) (by decide) (by kernel_rfl) (by kernel_rfl) (congrArg some (n_geq hx)) (fun a11 hT11 => ?_)
  refine Gz.row T K (by decide) hT11 [] [2, 3] [4, 5] [47, 46, 11, 10, 0, 5, 7, 8, 33, 34, 35] (g' := [(47, .pointer (some ⟨tb, 1, none⟩)), (46, .bool true), (11, .pointer (some ⟨tb, 0, none⟩)), (10, .int .i64 x), (0, .int .i64 nn), (5, .slice (some ⟨gb, 0, none⟩) N gc), (7, .slice pa p pc), (8, .int .i64 k), (33, .slice (some ⟨lb, lz, none⟩) N cap), (34, .int .i64 N), (35, .int .i64 i)]) (qs := []) (by kernel_rfl) (by kernel_rfl) (by simp) (fun a12 hT12 => ?_)
  refine Gz.load (o := opq c203.pd.pd.pd.pd.pd.pd.pd.pa.pd.pa.pa.pd.pd.pa.pa.pd.pd.pa.pa 4) (d := 48) (X := 4) (y := .tmp 47) (ad := ⟨tb, 1, none⟩) T K (by decide) hT12 (v := .bool true) (by kernel_rfl) (by kernel_rfl) (by decide) (by kernel_rfl) (by kernel_rfl) (by kernel_rfl) (by kernel_rfl) (by kernel_rfl) (hH.cl hs (by omega) (j := 0) (off := 1) (arr := #[.int .i64 y, .bool true, .int .i64 len]) (u := .bool true) rfl rfl) (fun a13 hT13 => ?_)
  refine Gz.row T K (by decide) hT13 [] [5] [] [49, 11, 10, 0, 5, 7, 8, 33, 34, 35] (g' := [(49, .bool true), (11, .pointer (some ⟨tb, 0, none⟩)), (10, .int .i64 x), (0, .int .i64 nn), (5, .slice (some ⟨gb, 0, none⟩) N gc), (7, .slice pa p pc), (8, .int .i64 k), (33, .slice (some ⟨lb, lz, none⟩) N cap), (34, .int .i64 N), (35, .int .i64 i)]) (qs := []) (by kernel_rfl) (by kernel_rfl) (by simp) (fun a14 hT14 => ?_)
  refine Gz.rend T ?_
  refine Gz.condTE (q := .tmp 49) (y := c203.pd.pd.pd.pd.pd.pd.pd.pa.pd.pa.pa.pd.pd.pa.pa.pd.pd.pa.pd.pa) (z := c203.pd.pd.pd.pd.pd.pd.pd.pa.pd.pa.pa.pd.pd.pa.pa.pd.pd.pa.pd.pd) T (by kernel_rfl) hT14 (by kernel_rfl) ?_
  refine Gz.regionE (id := 15) (l := c203.pd.pd.pd.pd.pd.pd.pd.pa.pd.pa.pa.pd.pd.pa.pa.pd.pd.pa.pd.pa.po) (r := [0, 1, 2, 3, 4]) T (by kernel_rfl) (by kernel_rfl) ?_
  refine Gz.row T K (by decide) hT14 [] [0, 1] [2, 3, 4] [51, 50, 11, 10, 0, 5, 8, 33, 34, 35] (g' := [(51, .int .i64 x), (50, .slice pa p pc), (11, .pointer (some ⟨tb, 0, none⟩)), (10, .int .i64 x), (0, .int .i64 nn), (5, .slice (some ⟨gb, 0, none⟩) N gc), (8, .int .i64 k), (33, .slice (some ⟨lb, lz, none⟩) N cap), (34, .int .i64 N), (35, .int .i64 i)]) (qs := []) (by kernel_rfl) (by kernel_rfl) (by simp) (fun a15 hT15 => ?_)
  refine Gz.hpush (b := (base 3)) (i1 := 2) (i2 := 3) (d1 := 52) (d2 := 53) (o1 := opq c203.pd.pd.pd.pd.pd.pd.pd.pa.pd.pa.pa.pd.pd.pa.pa.pd.pd.pa.pd.pa 2) (o2 := opq c203.pd.pd.pd.pd.pd.pd.pd.pa.pd.pa.pa.pd.pd.pa.pa.pd.pd.pa.pd.pa 3) (y := .tmp 51) (y1 := .tmp 50) (y2 := .tmp 52) (X := 22) (ti := ((Try.prog.info? 3).getD default)) (zv := .int .i64 0) (u := .int .i64 x) (vs := [.int .i64 x]) (by decide) hT15 hH hs (by omega) (by kernel_rfl) (by kernel_rfl) (by kernel_rfl) (by kernel_rfl) rfl (by decide) (by decide) (by rw [show ((Try.prog.info? 3).getD default).bytes = 8 by kernel_rfl]; omega) (by simp only [maxLen]; omega) rfl (by simp [Value.oneCell']) (fill1 _ _ rfl rfl) (by kernel_rfl) (by kernel_rfl) (by decide) (by kernel_rfl) (by kernel_rfl) (by kernel_rfl) (by kernel_rfl) (by kernel_rfl) (by decide) (by kernel_rfl) (by kernel_rfl) (by kernel_rfl) rfl (fun t e => by cases e; decide) (fun v e => by cases (show none = some v from e)) (fun a16 w pa pc hT16 hH => ?_)
  have K : Ken Try.prog AtRel (DL Shun B W) (CL Shun B w) w := kenL (atRel_refl w)
  refine Gz.row T K (by decide) hT16 [] [4] [] [7, 11, 10, 0, 5, 8, 33, 34, 35] (g' := [(7, .slice pa (p + 1 : Nat) pc), (11, .pointer (some ⟨tb, 0, none⟩)), (10, .int .i64 x), (0, .int .i64 nn), (5, .slice (some ⟨gb, 0, none⟩) N gc), (8, .int .i64 k), (33, .slice (some ⟨lb, lz, none⟩) N cap), (34, .int .i64 N), (35, .int .i64 i)]) (qs := []) (by kernel_rfl) (by kernel_rfl) (by simp) (fun a17 hT17 => ?_)
  refine Gz.rend T ?_
  refine Gz.seqE T (by kernel_rfl : c203.pd.pd.pd.pd.pd.pd.pd.pa.pd.pa.pa.pd.pd.pa.pa.pd.pd.pd = .seq c203.pd.pd.pd.pd.pd.pd.pd.pa.pd.pa.pa.pd.pd.pa.pa.pd.pd.pd.pa c203.pd.pd.pd.pd.pd.pd.pd.pa.pd.pa.pa.pd.pd.pa.pa.pd.pd.pd.pd) ?_
  refine Gz.seqE T (by kernel_rfl : c203.pd.pd.pd.pd.pd.pd.pd.pa.pd.pa.pa.pd.pd.pa.pa.pd.pd.pd.pa = .seq c203.pd.pd.pd.pd.pd.pd.pd.pa.pd.pa.pa.pd.pd.pa.pa.pd.pd.pd.pa.pa c203.pd.pd.pd.pd.pd.pd.pd.pa.pd.pa.pa.pd.pd.pa.pa.pd.pd.pd.pa.pd) ?_
  refine Gz.regionE (id := 16) (l := c203.pd.pd.pd.pd.pd.pd.pd.pa.pd.pa.pa.pd.pd.pa.pa.pd.pd.pd.pa.pa.po) (r := [0, 1, 2, 3, 4, 5]) T (by kernel_rfl) (by kernel_rfl) ?_
  refine Gz.row T K (by decide) hT17 [] [0] [1, 2, 3, 4, 5] [54, 7, 11, 10, 0, 5, 8, 33, 34, 35] (g' := [(54, .int .i64 x), (7, .slice pa (p + 1 : Nat) pc), (11, .pointer (some ⟨tb, 0, none⟩)), (10, .int .i64 x), (0, .int .i64 nn), (5, .slice (some ⟨gb, 0, none⟩) N gc), (8, .int .i64 k), (33, .slice (some ⟨lb, lz, none⟩) N cap), (34, .int .i64 N), (35, .int .i64 i)]) (qs := []) (by kernel_rfl) (by kernel_rfl) (by simp) (fun a18 hT18 => ?_)
  refine Gz.hint (o := opq c203.pd.pd.pd.pd.pd.pd.pd.pa.pd.pa.pa.pd.pd.pa.pa.pd.pd.pd.pa.pa 1) (d := 55) T (by decide) hT18 (v := .bool false) (by kernel_rfl) (by kernel_rfl) (by decide) (by kernel_rfl) (by kernel_rfl) (congrArg some (n_nneg hx)) (fun a19 hT19 => ?_)
  refine Gz.row T K (by decide) hT19 [] [2, 3, 4, 5] [] [59, 7, 11, 10, 0, 5, 8, 33, 34, 35] (g' := [(59, .bool false), (7, .slice pa (p + 1 : Nat) pc), (11, .pointer (some ⟨tb, 0, none⟩)), (10, .int .i64 x), (0, .int .i64 nn), (5, .slice (some ⟨gb, 0, none⟩) N gc), (8, .int .i64 k), (33, .slice (some ⟨lb, lz, none⟩) N cap), (34, .int .i64 N), (35, .int .i64 i)]) (qs := []) (by kernel_rfl) (by kernel_rfl) (by simp) (fun a20 hT20 => ?_)
  refine Gz.rend T ?_
  refine Gz.condFE (q := .tmp 59) (y := c203.pd.pd.pd.pd.pd.pd.pd.pa.pd.pa.pa.pd.pd.pa.pa.pd.pd.pd.pa.pd.pa) (z := c203.pd.pd.pd.pd.pd.pd.pd.pa.pd.pa.pa.pd.pd.pa.pa.pd.pd.pd.pa.pd.pd) T (by kernel_rfl) hT20 (by kernel_rfl) ?_
  refine Gz.skipE T (by kernel_rfl) ?_
  refine Gz.seqE T (by kernel_rfl : c203.pd.pd.pd.pd.pd.pd.pd.pa.pd.pa.pa.pd.pd.pa.pa.pd.pd.pd.pd = .seq c203.pd.pd.pd.pd.pd.pd.pd.pa.pd.pa.pa.pd.pd.pa.pa.pd.pd.pd.pd.pa c203.pd.pd.pd.pd.pd.pd.pd.pa.pd.pa.pa.pd.pd.pa.pa.pd.pd.pd.pd.pd) ?_
  refine Gz.regionE (id := 20) (l := c203.pd.pd.pd.pd.pd.pd.pd.pa.pd.pa.pa.pd.pd.pa.pa.pd.pd.pd.pd.pa.po) (r := [0, 1, 2, 3, 4, 5, 6, 7, 8, 9, 10, 11, 12, 13, 14, 15, 16, 17, 18, 19, 20, 21, 22, 23, 24, 25, 26, 27, 28, 29, 30, 31, 32, 33, 34, 35, 36, 37, 38, 39, 40, 41]) T (by kernel_rfl) (by kernel_rfl) ?_
  refine Gz.row T K (by decide) hT20 [] [0] [1, 2, 3, 4, 5, 6, 7, 8, 9, 10, 11, 12, 13, 14, 15, 16, 17, 18, 19, 20, 21, 22, 23, 24, 25, 26, 27, 28, 29, 30, 31, 32, 33, 34, 35, 36, 37, 38, 39, 40, 41] [75, 7, 11, 10, 0, 5, 8, 33, 34, 35] (g' := [(75, .pointer (some ⟨tb, 2, none⟩)), (7, .slice pa (p + 1 : Nat) pc), (11, .pointer (some ⟨tb, 0, none⟩)), (10, .int .i64 x), (0, .int .i64 nn), (5, .slice (some ⟨gb, 0, none⟩) N gc), (8, .int .i64 k), (33, .slice (some ⟨lb, lz, none⟩) N cap), (34, .int .i64 N), (35, .int .i64 i)]) (qs := []) (by kernel_rfl) (by kernel_rfl) (by simp) (fun a21 hT21 => ?_)
  refine Gz.load (o := opq c203.pd.pd.pd.pd.pd.pd.pd.pa.pd.pa.pa.pd.pd.pa.pa.pd.pd.pd.pd.pa 1) (d := 76) (X := 3) (y := .tmp 75) (ad := ⟨tb, 2, none⟩) T K (by decide) hT21 (v := .int .i64 len) (by kernel_rfl) (by kernel_rfl) (by decide) (by kernel_rfl) (by kernel_rfl) (by kernel_rfl) (by kernel_rfl) (by kernel_rfl) (hH.cl hs (by omega) (j := 0) (off := 2) (arr := #[.int .i64 y, .bool true, .int .i64 len]) (u := .int .i64 len) rfl rfl) (fun a22 hT22 => ?_)
  refine Gz.row T K (by decide) hT22 [] [2, 3, 4] [5, 6, 7, 8, 9, 10, 11, 12, 13, 14, 15, 16, 17, 18, 19, 20, 21, 22, 23, 24, 25, 26, 27, 28, 29, 30, 31, 32, 33, 34, 35, 36, 37, 38, 39, 40, 41] [79, 78, 76, 7, 11, 10, 0, 5, 8, 33, 34, 35] (g' := [(79, .int .i64 k), (78, .int .i64 ((p + 1 : Nat))), (76, .int .i64 len), (7, .slice pa (p + 1 : Nat) pc), (11, .pointer (some ⟨tb, 0, none⟩)), (10, .int .i64 x), (0, .int .i64 nn), (5, .slice (some ⟨gb, 0, none⟩) N gc), (8, .int .i64 k), (33, .slice (some ⟨lb, lz, none⟩) N cap), (34, .int .i64 N), (35, .int .i64 i)]) (qs := []) (by kernel_rfl) (by kernel_rfl) (by simp) (fun a23 hT23 => ?_)
  refine Gz.hint (o := opq c203.pd.pd.pd.pd.pd.pd.pd.pa.pd.pa.pa.pd.pd.pa.pa.pd.pd.pd.pd.pa 5) (d := 80) T (by decide) hT23 (v := .int .i64 len) (by kernel_rfl) (by kernel_rfl) (by decide) (by kernel_rfl) (by kernel_rfl) ((n_subE hl (by omega))) (fun a24 hT24 => ?_)
  refine Gz.hint (o := opq c203.pd.pd.pd.pd.pd.pd.pd.pa.pd.pa.pa.pd.pd.pa.pa.pd.pd.pd.pd.pa 6) (d := 81) T (by decide) hT24 (v := .bool false) (by kernel_rfl) (by kernel_rfl) (by decide) (by kernel_rfl) (by kernel_rfl) (congrArg some (n_neq rfl)) (fun a25 hT25 => ?_)
  refine Gz.row T K (by decide) hT25 [] [7, 8] [9, 10, 11, 12, 13, 14, 15, 16, 17, 18, 19, 20, 21, 22, 23, 24, 25, 26, 27, 28, 29, 30, 31, 32, 33, 34, 35, 36, 37, 38, 39, 40, 41] [83, 82, 7, 11, 10, 0, 5, 8, 33, 34, 35] (g' := [(83, .pointer (some ⟨tb, 2, none⟩)), (82, .bool false), (7, .slice pa (p + 1 : Nat) pc), (11, .pointer (some ⟨tb, 0, none⟩)), (10, .int .i64 x), (0, .int .i64 nn), (5, .slice (some ⟨gb, 0, none⟩) N gc), (8, .int .i64 k), (33, .slice (some ⟨lb, lz, none⟩) N cap), (34, .int .i64 N), (35, .int .i64 i)]) (qs := []) (by kernel_rfl) (by kernel_rfl) (by simp) (fun a26 hT26 => ?_)
  refine Gz.load (o := opq c203.pd.pd.pd.pd.pd.pd.pd.pa.pd.pa.pa.pd.pd.pa.pa.pd.pd.pd.pd.pa 9) (d := 84) (X := 3) (y := .tmp 83) (ad := ⟨tb, 2, none⟩) T K (by decide) hT26 (v := .int .i64 len) (by kernel_rfl) (by kernel_rfl) (by decide) (by kernel_rfl) (by kernel_rfl) (by kernel_rfl) (by kernel_rfl) (by kernel_rfl) (hH.cl hs (by omega) (j := 0) (off := 2) (arr := #[.int .i64 y, .bool true, .int .i64 len]) (u := .int .i64 len) rfl rfl) (fun a27 hT27 => ?_)
  refine Gz.row T K (by decide) hT27 [] [10] [11, 12, 13, 14, 15, 16, 17, 18, 19, 20, 21, 22, 23, 24, 25, 26, 27, 28, 29, 30, 31, 32, 33, 34, 35, 36, 37, 38, 39, 40, 41] [85, 84, 82, 7, 11, 10, 0, 5, 8, 33, 34, 35] (g' := [(85, .int .i64 nn), (84, .int .i64 len), (82, .bool false), (7, .slice pa (p + 1 : Nat) pc), (11, .pointer (some ⟨tb, 0, none⟩)), (10, .int .i64 x), (0, .int .i64 nn), (5, .slice (some ⟨gb, 0, none⟩) N gc), (8, .int .i64 k), (33, .slice (some ⟨lb, lz, none⟩) N cap), (34, .int .i64 N), (35, .int .i64 i)]) (qs := []) (by kernel_rfl) (by kernel_rfl) (by simp) (fun a28 hT28 => ?_)
  refine Gz.hint (o := opq c203.pd.pd.pd.pd.pd.pd.pd.pa.pd.pa.pa.pd.pd.pa.pa.pd.pd.pd.pd.pa 11) (d := 86) T (by decide) hT28 (v := .bool false) (by kernel_rfl) (by kernel_rfl) (by decide) (by kernel_rfl) (by kernel_rfl) (congrArg some (n_nlt (by omega))) (fun a29 hT29 => ?_)
  refine Gz.row T K (by decide) hT29 [] [12, 13, 14] [15, 16, 17, 18, 19, 20, 21, 22, 23, 24, 25, 26, 27, 28, 29, 30, 31, 32, 33, 34, 35, 36, 37, 38, 39, 40, 41] [89, 88, 7, 11, 10, 0, 5, 8, 33, 34, 35] (g' := [(89, .int .i64 x), (88, .bool false), (7, .slice pa (p + 1 : Nat) pc), (11, .pointer (some ⟨tb, 0, none⟩)), (10, .int .i64 x), (0, .int .i64 nn), (5, .slice (some ⟨gb, 0, none⟩) N gc), (8, .int .i64 k), (33, .slice (some ⟨lb, lz, none⟩) N cap), (34, .int .i64 N), (35, .int .i64 i)]) (qs := []) (by kernel_rfl) (by kernel_rfl) (by simp) (fun a30 hT30 => ?_)
  refine Gz.hint (o := opq c203.pd.pd.pd.pd.pd.pd.pd.pa.pd.pa.pa.pd.pd.pa.pa.pd.pd.pd.pd.pa 15) (d := 90) T (by decide) hT30 (v := .bool true) (by kernel_rfl) (by kernel_rfl) (by decide) (by kernel_rfl) (by kernel_rfl) (congrArg some (n_geq hx)) (fun a31 hT31 => ?_)
  refine Gz.row T K (by decide) hT31 [] [16, 17] [18, 19, 20, 21, 22, 23, 24, 25, 26, 27, 28, 29, 30, 31, 32, 33, 34, 35, 36, 37, 38, 39, 40, 41] [92, 91, 88, 7, 11, 10, 0, 5, 8, 33, 34, 35] (g' := [(92, .pointer (some ⟨tb, 1, none⟩)), (91, .bool true), (88, .bool false), (7, .slice pa (p + 1 : Nat) pc), (11, .pointer (some ⟨tb, 0, none⟩)), (10, .int .i64 x), (0, .int .i64 nn), (5, .slice (some ⟨gb, 0, none⟩) N gc), (8, .int .i64 k), (33, .slice (some ⟨lb, lz, none⟩) N cap), (34, .int .i64 N), (35, .int .i64 i)]) (qs := []) (by kernel_rfl) (by kernel_rfl) (by simp) (fun a32 hT32 => ?_)
  refine Gz.load (o := opq c203.pd.pd.pd.pd.pd.pd.pd.pa.pd.pa.pa.pd.pd.pa.pa.pd.pd.pd.pd.pa 18) (d := 93) (X := 4) (y := .tmp 92) (ad := ⟨tb, 1, none⟩) T K (by decide) hT32 (v := .bool true) (by kernel_rfl) (by kernel_rfl) (by decide) (by kernel_rfl) (by kernel_rfl) (by kernel_rfl) (by kernel_rfl) (by kernel_rfl) (hH.cl hs (by omega) (j := 0) (off := 1) (arr := #[.int .i64 y, .bool true, .int .i64 len]) (u := .bool true) rfl rfl) (fun a33 hT33 => ?_)
  refine Gz.row T K (by decide) hT33 [] [19, 20, 21, 22, 23, 24, 25, 26, 27, 28, 29] [30, 31, 32, 33, 34, 35, 36, 37, 38, 39, 40, 41] [104, 103, 7, 11, 0, 5, 8, 33, 34, 35] (g' := [(104, .int .i64 x), (103, .bool false), (7, .slice pa (p + 1 : Nat) pc), (11, .pointer (some ⟨tb, 0, none⟩)), (0, .int .i64 nn), (5, .slice (some ⟨gb, 0, none⟩) N gc), (8, .int .i64 k), (33, .slice (some ⟨lb, lz, none⟩) N cap), (34, .int .i64 N), (35, .int .i64 i)]) (qs := []) (by kernel_rfl) (by kernel_rfl) (by simp) (fun a34 hT34 => ?_)
  refine Gz.hint (o := opq c203.pd.pd.pd.pd.pd.pd.pd.pa.pd.pa.pa.pd.pd.pa.pa.pd.pd.pd.pd.pa 30) (d := 105) T (by decide) hT34 (v := .bool false) (by kernel_rfl) (by kernel_rfl) (by decide) (by kernel_rfl) (by kernel_rfl) (congrArg some (n_nneg hx)) (fun a35 hT35 => ?_)
  refine Gz.row T K (by decide) hT35 [] [31, 32, 33, 34, 35, 36, 37, 38, 39, 40, 41] [] [116, 7, 0, 5, 8, 33, 34, 35] (g' := [(116, .bool false), (7, .slice pa (p + 1 : Nat) pc), (0, .int .i64 nn), (5, .slice (some ⟨gb, 0, none⟩) N gc), (8, .int .i64 k), (33, .slice (some ⟨lb, lz, none⟩) N cap), (34, .int .i64 N), (35, .int .i64 i)]) (qs := []) (by kernel_rfl) (by kernel_rfl) (by simp) (fun a36 hT36 => ?_)
  refine Gz.rend T ?_
  refine Gz.condFE (q := .tmp 116) (y := c203.pd.pd.pd.pd.pd.pd.pd.pa.pd.pa.pa.pd.pd.pa.pa.pd.pd.pd.pd.pd.pa) (z := c203.pd.pd.pd.pd.pd.pd.pd.pa.pd.pa.pa.pd.pd.pa.pa.pd.pd.pd.pd.pd.pd) T (by kernel_rfl) hT36 (by kernel_rfl) ?_
  refine Gz.skipE T (by kernel_rfl) ?_
  refine Gz.out T ?_
  refine Gz.regionE (id := 22) (l := c203.pd.pd.pd.pd.pd.pd.pd.pa.pd.pa.pa.pd.pd.pd.po) (r := [0, 1]) T (by kernel_rfl) (by kernel_rfl) ?_
  refine Gz.hint (o := opq c203.pd.pd.pd.pd.pd.pd.pd.pa.pd.pa.pa.pd.pd.pd 0) (d := 117) T (by decide) hT36 (v := .int .i64 (((i + 1 : Nat) : Int))) (by kernel_rfl) (by kernel_rfl) (by decide) (by kernel_rfl) (by kernel_rfl) (n_inc (by omega)) (fun a37 hT37 => ?_)
  refine Gz.row T K (by decide) hT37 [] [1] [] [35, 7, 0, 5, 8, 33, 34] (g' := [(35, .int .i64 (((i + 1 : Nat) : Int))), (7, .slice pa (p + 1 : Nat) pc), (0, .int .i64 nn), (5, .slice (some ⟨gb, 0, none⟩) N gc), (8, .int .i64 k), (33, .slice (some ⟨lb, lz, none⟩) N cap), (34, .int .i64 N)]) (qs := []) (by kernel_rfl) (by kernel_rfl) (by simp) (fun a38 hT38 => ?_)
  refine Gz.rend T ?_
  refine Gz.again T ?_
  have h203LHead := hT38.live [0, 5, 7, 8, 33, 34, 35] (g' := [(0, .int .i64 nn), (5, .slice (some ⟨gb, 0, none⟩) N gc), (7, .slice pa (p + 1 : Nat) pc), (8, .int .i64 k), (33, .slice (some ⟨lb, lz, none⟩) N cap), (34, .int .i64 N), (35, .int .i64 (((i + 1 : Nat) : Int)))]) (by kernel_rfl)
  exact Goes.stop fun w₁ h₁ => ⟨_, _, ((hH.drop htb).more (by omega)).at h₁, a38, h203LHead, rfl⟩
theorem L_b2 {pb : Nat} (h : LHead nn N cap la ga gc pa pc p k i g) (hH : Hp w₀ lo bse (3 * i) ([]) 3 1 (.slice pa p pc) p xs w) (hs : ∀ ad : Addr, lo ≤ ad.block → ¬ Shun (.cell ad)) (hB : w₀.heap.size + (3 * N + 3) ≤ B) (hN : N ≤ 1048576) (hp : p ≤ i) (hk : k ≤ p) (hi : i < N) (hla : la = some ⟨lb, lz, none⟩) (hga : ga = some ⟨gb, 0, none⟩) (hz : CL Shun B w ⟨lb, i + lz, none⟩ (.int .i64 x)) (g0 : CL Shun B w ⟨gb, i * 3 + 0, none⟩ (.int .i64 y)) (g1 : CL Shun B w ⟨gb, i * 3 + 1, none⟩ (.bool false)) (g2 : CL Shun B w ⟨gb, i * 3 + 2, none⟩ (.int .i64 len)) (hx : 0 ≤ x) (hl : p = len + k) (hln : len ≤ nn) (hfl : nn ≤ len) :
    Goes Try.prog true AtRel (DL Shun B W) (fun g w => ∃ pa pc, Hp w₀ lo bse (3 * (i + 1)) ([]) 3 1 (.slice pa p pc) p xs w ∧ LHead nn N cap la ga gc pa pc p k (i + 1) g) 4000 g w := by
  obtain ⟨b203, hb203, rfl⟩ := h
  subst hla
  subst hga
  have TD : Tmd AtRel (DL Shun B W) := tmdL
  have T := TD.toTms
  have K : Ken Try.prog AtRel (DL Shun B W) (CL Shun B w) w := kenL (atRel_refl w)
  refine Gz.seqE T (by kernel_rfl : c203.pd.pd.pd.pd.pd.pd.pd.pa.pd.pa.pa = .seq c203.pd.pd.pd.pd.pd.pd.pd.pa.pd.pa.pa.pa c203.pd.pd.pd.pd.pd.pd.pd.pa.pd.pa.pa.pd) ?_
  refine Gz.regionE (id := 11) (l := c203.pd.pd.pd.pd.pd.pd.pd.pa.pd.pa.pa.pa.po) (r := [0]) T (by kernel_rfl) (by kernel_rfl) ?_
  refine Gz.hint (o := opq c203.pd.pd.pd.pd.pd.pd.pd.pa.pd.pa.pa.pa 0) (d := 36) T (by decide) hb203 (v := .bool true) (by kernel_rfl) (by kernel_rfl) (by decide) (by kernel_rfl) (by kernel_rfl) (congrArg some (n_lt hi)) (fun a1 hT1 => ?_)
  refine Gz.rend T ?_
  refine Gz.seqE T (by kernel_rfl : c203.pd.pd.pd.pd.pd.pd.pd.pa.pd.pa.pa.pd = .seq c203.pd.pd.pd.pd.pd.pd.pd.pa.pd.pa.pa.pd.pa c203.pd.pd.pd.pd.pd.pd.pd.pa.pd.pa.pa.pd.pd) ?_
  refine Gz.condTE (q := .tmp 36) (y := c203.pd.pd.pd.pd.pd.pd.pd.pa.pd.pa.pa.pd.pa.pa) (z := c203.pd.pd.pd.pd.pd.pd.pd.pa.pd.pa.pa.pd.pa.pd) T (by kernel_rfl) hT1 (by kernel_rfl) ?_
  refine Gz.skipE T (by kernel_rfl) ?_
  refine Gz.seqE T (by kernel_rfl : c203.pd.pd.pd.pd.pd.pd.pd.pa.pd.pa.pa.pd.pd = .seq c203.pd.pd.pd.pd.pd.pd.pd.pa.pd.pa.pa.pd.pd.pa c203.pd.pd.pd.pd.pd.pd.pd.pa.pd.pa.pa.pd.pd.pd) ?_
  refine Gz.blockE (id := 1) (y := c203.pd.pd.pd.pd.pd.pd.pd.pa.pd.pa.pa.pd.pd.pa.pa) T (by kernel_rfl) ?_
  refine Gz.seqE T (by kernel_rfl : c203.pd.pd.pd.pd.pd.pd.pd.pa.pd.pa.pa.pd.pd.pa.pa = .seq c203.pd.pd.pd.pd.pd.pd.pd.pa.pd.pa.pa.pd.pd.pa.pa.pa c203.pd.pd.pd.pd.pd.pd.pd.pa.pd.pa.pa.pd.pd.pa.pa.pd) ?_
  refine Gz.regionE (id := 12) (l := c203.pd.pd.pd.pd.pd.pd.pd.pa.pd.pa.pa.pd.pd.pa.pa.pa.po) (r := [0, 1, 2, 3, 4]) T (by kernel_rfl) (by kernel_rfl) ?_
  refine Gz.row T K (by decide) hT1 [] [0] [1, 2, 3, 4] [37, 0, 5, 7, 8, 33, 34, 35] (g' := [(37, .int .i64 i), (0, .int .i64 nn), (5, .slice (some ⟨gb, 0, none⟩) N gc), (7, .slice pa p pc), (8, .int .i64 k), (33, .slice (some ⟨lb, lz, none⟩) N cap), (34, .int .i64 N), (35, .int .i64 i)]) (qs := []) (by kernel_rfl) (by kernel_rfl) (by simp) (fun a2 hT2 => ?_)
  refine Gz.hint (o := opq c203.pd.pd.pd.pd.pd.pd.pd.pa.pd.pa.pa.pd.pd.pa.pa.pa 1) (d := 38) T (by decide) hT2 (v := .pointer (some ⟨lb, i + lz, none⟩)) (by kernel_rfl) (by kernel_rfl) (by decide) (by kernel_rfl) (by kernel_rfl) ((n_idx hi)) (fun a3 hT3 => ?_)
  refine Gz.load (o := opq c203.pd.pd.pd.pd.pd.pd.pd.pa.pd.pa.pa.pd.pd.pa.pa.pa 2) (d := 39) (X := 3) (y := .tmp 38) (ad := ⟨lb, i + lz, none⟩) T K (by decide) hT3 (v := .int .i64 x) (by kernel_rfl) (by kernel_rfl) (by decide) (by kernel_rfl) (by kernel_rfl) (by kernel_rfl) (by kernel_rfl) (by kernel_rfl) hz (fun a4 hT4 => ?_)
  refine Gz.row T K (by decide) hT4 [] [3, 4] [] [10, 9, 0, 5, 7, 8, 33, 34, 35] (g' := [(10, .int .i64 x), (9, .int .i64 i), (0, .int .i64 nn), (5, .slice (some ⟨gb, 0, none⟩) N gc), (7, .slice pa p pc), (8, .int .i64 k), (33, .slice (some ⟨lb, lz, none⟩) N cap), (34, .int .i64 N), (35, .int .i64 i)]) (qs := []) (by kernel_rfl) (by kernel_rfl) (by simp) (fun a5 hT5 => ?_)
  refine Gz.rend T ?_
  refine Gz.seqE T (by kernel_rfl : c203.pd.pd.pd.pd.pd.pd.pd.pa.pd.pa.pa.pd.pd.pa.pa.pd = .seq c203.pd.pd.pd.pd.pd.pd.pd.pa.pd.pa.pa.pd.pd.pa.pa.pd.pa c203.pd.pd.pd.pd.pd.pd.pd.pa.pd.pa.pa.pd.pd.pa.pa.pd.pd) ?_
  refine Gz.regionE (id := 13) (l := c203.pd.pd.pd.pd.pd.pd.pd.pa.pd.pa.pa.pd.pd.pa.pa.pd.pa.po) (r := [0, 1, 2, 3, 4, 5]) T (by kernel_rfl) (by kernel_rfl) ?_
  refine Gz.row T K (by decide) hT5 [] [0, 1] [2, 3, 4, 5] [41, 40, 10, 0, 5, 7, 8, 33, 34, 35] (g' := [(41, .int .i64 i), (40, .slice (some ⟨gb, 0, none⟩) N gc), (10, .int .i64 x), (0, .int .i64 nn), (5, .slice (some ⟨gb, 0, none⟩) N gc), (7, .slice pa p pc), (8, .int .i64 k), (33, .slice (some ⟨lb, lz, none⟩) N cap), (34, .int .i64 N), (35, .int .i64 i)]) (qs := []) (by kernel_rfl) (by kernel_rfl) (by simp) (fun a6 hT6 => ?_)
  refine Mz.opv (o := opq c203.pd.pd.pd.pd.pd.pd.pd.pa.pd.pa.pa.pd.pd.pa.pa.pd.pa 2) (d := 42) (mvG T) (by decide) hT6 (v := .pointer (some ⟨gb, i * 3, none⟩)) (by kernel_rfl) (by kernel_rfl) (by decide) (by kernel_rfl) (by kernel_rfl) (op_idx3 (X := 24) (E := 29) (ti := (Try.prog.info? 29).getD default) (y := .tmp 40) (z := .tmp 41) (b := gb) (len := N) (c := gc) (i := i) (by kernel_rfl) (by kernel_rfl) (by kernel_rfl) (by kernel_rfl) (by kernel_rfl) (by kernel_rfl) hi) (fun a7 hT7 => ?_)
  refine Gz.load3 (o := opq c203.pd.pd.pd.pd.pd.pd.pd.pa.pd.pa.pa.pd.pd.pa.pa.pd.pa 3) (d := 43) (by decide) hT7 (X := 29) (y := .tmp 42) (ti := (Try.prog.info? 29).getD default) (bb := gb) (off := i * 3) (u0 := .int .i64 y) (u1 := .bool false) (u2 := .int .i64 len) (by kernel_rfl) (by kernel_rfl) (by decide) (by kernel_rfl) (by kernel_rfl) (agg_struct (fs := match Try.prog.underlying 29 with | some (.struct fs) => fs | _ => #[]) (by kernel_rfl)) (by kernel_rfl) (by kernel_rfl) (by kernel_rfl) g0 g1 g2 (fun a8 hT8 => ?_)
  refine Gz.hmk (o := opq c203.pd.pd.pd.pd.pd.pd.pd.pa.pd.pa.pa.pd.pd.pa.pa.pd.pa 4) (d := 11) (by decide) hT8 hH (by kernel_rfl) (by kernel_rfl) (by decide) (by kernel_rfl) (fun b => .pointer (some ⟨b, 0, none⟩)) (.cells #[.int .i64 0, .bool false, .int .i64 0] 29) (op_alloc (T := 29) (ti := (Try.prog.info? 29).getD default) (z := .agg #[.int .i64 0, .bool false, .int .i64 0]) (by kernel_rfl) (by kernel_rfl) (by kernel_rfl)) (fun a9 w tb htb hT9 hH => ?_)
  replace hT9 : Tm a9 118 ((11, .pointer (some ⟨tb, 0, none⟩)) :: [(43, .agg #[.int .i64 y, .bool false, .int .i64 len]), (42, .pointer (some ⟨gb, i * 3, none⟩)), (41, .int .i64 i), (40, .slice (some ⟨gb, 0, none⟩) N gc), (10, .int .i64 x), (0, .int .i64 nn), (5, .slice (some ⟨gb, 0, none⟩) N gc), (7, .slice pa p pc), (8, .int .i64 k), (33, .slice (some ⟨lb, lz, none⟩) N cap), (34, .int .i64 N), (35, .int .i64 i)]) [] := hT9
  have K : Ken Try.prog AtRel (DL Shun B W) (CL Shun B w) w := kenL (atRel_refl w)
  refine Gz.hput3 (K' := [(tb, .cells #[.int .i64 y, .bool false, .int .i64 len] 29)]) (o := opq c203.pd.pd.pd.pd.pd.pd.pd.pa.pd.pa.pa.pd.pd.pa.pa.pd.pa 5) (by decide) hT9 hH hs (by omega) (X := 29) (ty := 29) (y := .tmp 11) (z := .tmp 43) (ti := (Try.prog.info? 29).getD default) (j := 0) (bb := tb) (u0 := .int .i64 y) (u1 := .bool false) (u2 := .int .i64 len) (z0 := .int .i64 0) (z1 := .bool false) (z2 := .int .i64 0) (by kernel_rfl) (by kernel_rfl) (by kernel_rfl) (by kernel_rfl) (by kernel_rfl) (by kernel_rfl) rfl rfl rfl (by kernel_rfl) (by kernel_rfl) rfl rfl (fun w hH => ?_)
  have K : Ken Try.prog AtRel (DL Shun B W) (CL Shun B w) w := kenL (atRel_refl w)
  refine Gz.rend T ?_
  refine Gz.seqE T (by kernel_rfl : c203.pd.pd.pd.pd.pd.pd.pd.pa.pd.pa.pa.pd.pd.pa.pa.pd.pd = .seq c203.pd.pd.pd.pd.pd.pd.pd.pa.pd.pa.pa.pd.pd.pa.pa.pd.pd.pa c203.pd.pd.pd.pd.pd.pd.pd.pa.pd.pa.pa.pd.pd.pa.pa.pd.pd.pd) ?_
  refine Gz.seqE T (by kernel_rfl : c203.pd.pd.pd.pd.pd.pd.pd.pa.pd.pa.pa.pd.pd.pa.pa.pd.pd.pa = .seq c203.pd.pd.pd.pd.pd.pd.pd.pa.pd.pa.pa.pd.pd.pa.pa.pd.pd.pa.pa c203.pd.pd.pd.pd.pd.pd.pd.pa.pd.pa.pa.pd.pd.pa.pa.pd.pd.pa.pd) ?_
  refine Gz.regionE (id := 14) (l := c203.pd.pd.pd.pd.pd.pd.pd.pa.pd.pa.pa.pd.pd.pa.pa.pd.pd.pa.pa.po) (r := [0, 1, 2, 3, 4, 5]) T (by kernel_rfl) (by kernel_rfl) ?_
  refine Gz.row T K (by decide) hT9 [] [0] [1, 2, 3, 4, 5] [44, 11, 10, 0, 5, 7, 8, 33, 34, 35] (g' := [(44, .int .i64 x), (11, .pointer (some ⟨tb, 0, none⟩)), (10, .int .i64 x), (0, .int .i64 nn), (5, .slice (some ⟨gb, 0, none⟩) N gc), (7, .slice pa p pc), (8, .int .i64 k), (33, .slice (some ⟨lb, lz, none⟩) N cap), (34, .int .i64 N), (35, .int .i64 i)]) (qs := []) (by kernel_rfl) (by kernel_rfl) (by simp) (fun a10 hT10 => ?_)
  refine Gz.hint (o := opq c203.pd.pd.pd.pd.pd.pd.pd.pa.pd.pa.pa.pd.pd.pa.pa.pd.pd.pa.pa 1) (d := 45) T (by decide) hT10 (v := .bool true) (by kernel_rfl) (by kernel_rfl) (by decide) (by kernel_rfl) (by kernel_rfl) (congrArg some (n_geq hx)) (fun a11 hT11 => ?_)
  refine Gz.row T K (by decide) hT11 [] [2, 3] [4, 5] [47, 46, 11, 10, 0, 5, 7, 8, 33, 34, 35] (g' := [(47, .pointer (some ⟨tb, 1, none⟩)), (46, .bool true), (11, .pointer (some ⟨tb, 0, none⟩)), (10, .int .i64 x), (0, .int .i64 nn), (5, .slice (some ⟨gb, 0, none⟩) N gc), (7, .slice pa p pc), (8, .int .i64 k), (33, .slice (some ⟨lb, lz, none⟩) N cap), (34, .int .i64 N), (35, .int .i64 i)]) (qs := []) (by kernel_rfl) (by kernel_rfl) (by simp) (fun a12 hT12 => ?_)
  refine Gz.load (o := opq c203.pd.pd.pd.pd.pd.pd.pd.pa.pd.pa.pa.pd.pd.pa.pa.pd.pd.pa.pa 4) (d := 48) (X := 4) (y := .tmp 47) (ad := ⟨tb, 1, none⟩) T K (by decide) hT12 (v := .bool false) (by kernel_rfl) (by kernel_rfl) (by decide) (by kernel_rfl) (by kernel_rfl) (by kernel_rfl) (by kernel_rfl) (by kernel_rfl) (hH.cl hs (by omega) (j := 0) (off := 1) (arr := #[.int .i64 y, .bool false, .int .i64 len]) (u := .bool false) rfl rfl) (fun a13 hT13 => ?_)
  refine Gz.row T K (by decide) hT13 [] [5] [] [49, 11, 10, 0, 5, 7, 8, 33, 34, 35] (g' := [(49, .bool false), (11, .pointer (some ⟨tb, 0, none⟩)), (10, .int .i64 x), (0, .int .i64 nn), (5, .slice (some ⟨gb, 0, none⟩) N gc), (7, .slice pa p pc), (8, .int .i64 k), (33, .slice (some ⟨lb, lz, none⟩) N cap), (34, .int .i64 N), (35, .int .i64 i)]) (qs := []) (by kernel_rfl) (by kernel_rfl) (by simp) (fun a14 hT14 => ?_)
  refine Gz.rend T ?_
  refine Gz.condFE (q := .tmp 49) (y := c203.pd.pd.pd.pd.pd.pd.pd.pa.pd.pa.pa.pd.pd.pa.pa.pd.pd.pa.pd.pa) (z := c203.pd.pd.pd.pd.pd.pd.pd.pa.pd.pa.pa.pd.pd.pa.pa.pd.pd.pa.pd.pd) T (by kernel_rfl) hT14 (by kernel_rfl) ?_
  refine Gz.skipE T (by kernel_rfl) ?_
  refine Gz.seqE T (by kernel_rfl : c203.pd.pd.pd.pd.pd.pd.pd.pa.pd.pa.pa.pd.pd.pa.pa.pd.pd.pd = .seq c203.pd.pd.pd.pd.pd.pd.pd.pa.pd.pa.pa.pd.pd.pa.pa.pd.pd.pd.pa c203.pd.pd.pd.pd.pd.pd.pd.pa.pd.pa.pa.pd.pd.pa.pa.pd.pd.pd.pd) ?_
  refine Gz.seqE T (by kernel_rfl : c203.pd.pd.pd.pd.pd.pd.pd.pa.pd.pa.pa.pd.pd.pa.pa.pd.pd.pd.pa = .seq c203.pd.pd.pd.pd.pd.pd.pd.pa.pd.pa.pa.pd.pd.pa.pa.pd.pd.pd.pa.pa c203.pd.pd.pd.pd.pd.pd.pd.pa.pd.pa.pa.pd.pd.pa.pa.pd.pd.pd.pa.pd) ?_
  refine Gz.regionE (id := 16) (l := c203.pd.pd.pd.pd.pd.pd.pd.pa.pd.pa.pa.pd.pd.pa.pa.pd.pd.pd.pa.pa.po) (r := [0, 1, 2, 3, 4, 5]) T (by kernel_rfl) (by kernel_rfl) ?_
  refine Gz.row T K (by decide) hT14 [] [0] [1, 2, 3, 4, 5] [54, 11, 10, 0, 5, 7, 8, 33, 34, 35] (g' := [(54, .int .i64 x), (11, .pointer (some ⟨tb, 0, none⟩)), (10, .int .i64 x), (0, .int .i64 nn), (5, .slice (some ⟨gb, 0, none⟩) N gc), (7, .slice pa p pc), (8, .int .i64 k), (33, .slice (some ⟨lb, lz, none⟩) N cap), (34, .int .i64 N), (35, .int .i64 i)]) (qs := []) (by kernel_rfl) (by kernel_rfl) (by simp) (fun a15 hT15 => ?_)
  refine Gz.hint (o := opq c203.pd.pd.pd.pd.pd.pd.pd.pa.pd.pa.pa.pd.pd.pa.pa.pd.pd.pd.pa.pa 1) (d := 55) T (by decide) hT15 (v := .bool false) (by kernel_rfl) (by kernel_rfl) (by decide) (by kernel_rfl) (by kernel_rfl) (congrArg some (n_nneg hx)) (fun a16 hT16 => ?_)
  refine Gz.row T K (by decide) hT16 [] [2, 3, 4, 5] [] [59, 11, 10, 0, 5, 7, 8, 33, 34, 35] (g' := [(59, .bool false), (11, .pointer (some ⟨tb, 0, none⟩)), (10, .int .i64 x), (0, .int .i64 nn), (5, .slice (some ⟨gb, 0, none⟩) N gc), (7, .slice pa p pc), (8, .int .i64 k), (33, .slice (some ⟨lb, lz, none⟩) N cap), (34, .int .i64 N), (35, .int .i64 i)]) (qs := []) (by kernel_rfl) (by kernel_rfl) (by simp) (fun a17 hT17 => ?_)
  refine Gz.rend T ?_
  refine Gz.condFE (q := .tmp 59) (y := c203.pd.pd.pd.pd.pd.pd.pd.pa.pd.pa.pa.pd.pd.pa.pa.pd.pd.pd.pa.pd.pa) (z := c203.pd.pd.pd.pd.pd.pd.pd.pa.pd.pa.pa.pd.pd.pa.pa.pd.pd.pd.pa.pd.pd) T (by kernel_rfl) hT17 (by kernel_rfl) ?_
  refine Gz.skipE T (by kernel_rfl) ?_
  refine Gz.seqE T (by kernel_rfl : c203.pd.pd.pd.pd.pd.pd.pd.pa.pd.pa.pa.pd.pd.pa.pa.pd.pd.pd.pd = .seq c203.pd.pd.pd.pd.pd.pd.pd.pa.pd.pa.pa.pd.pd.pa.pa.pd.pd.pd.pd.pa c203.pd.pd.pd.pd.pd.pd.pd.pa.pd.pa.pa.pd.pd.pa.pa.pd.pd.pd.pd.pd) ?_
  refine Gz.regionE (id := 20) (l := c203.pd.pd.pd.pd.pd.pd.pd.pa.pd.pa.pa.pd.pd.pa.pa.pd.pd.pd.pd.pa.po) (r := [0, 1, 2, 3, 4, 5, 6, 7, 8, 9, 10, 11, 12, 13, 14, 15, 16, 17, 18, 19, 20, 21, 22, 23, 24, 25, 26, 27, 28, 29, 30, 31, 32, 33, 34, 35, 36, 37, 38, 39, 40, 41]) T (by kernel_rfl) (by kernel_rfl) ?_
  refine Gz.row T K (by decide) hT17 [] [0] [1, 2, 3, 4, 5, 6, 7, 8, 9, 10, 11, 12, 13, 14, 15, 16, 17, 18, 19, 20, 21, 22, 23, 24, 25, 26, 27, 28, 29, 30, 31, 32, 33, 34, 35, 36, 37, 38, 39, 40, 41] [75, 11, 10, 0, 5, 7, 8, 33, 34, 35] (g' := [(75, .pointer (some ⟨tb, 2, none⟩)), (11, .pointer (some ⟨tb, 0, none⟩)), (10, .int .i64 x), (0, .int .i64 nn), (5, .slice (some ⟨gb, 0, none⟩) N gc), (7, .slice pa p pc), (8, .int .i64 k), (33, .slice (some ⟨lb, lz, none⟩) N cap), (34, .int .i64 N), (35, .int .i64 i)]) (qs := []) (by kernel_rfl) (by kernel_rfl) (by simp) (fun a18 hT18 => ?_)
  refine Gz.load (o := opq c203.pd.pd.pd.pd.pd.pd.pd.pa.pd.pa.pa.pd.pd.pa.pa.pd.pd.pd.pd.pa 1) (d := 76) (X := 3) (y := .tmp 75) (ad := ⟨tb, 2, none⟩) T K (by decide) hT18 (v := .int .i64 len) (by kernel_rfl) (by kernel_rfl) (by decide) (by kernel_rfl) (by kernel_rfl) (by kernel_rfl) (by kernel_rfl) (by kernel_rfl) (hH.cl hs (by omega) (j := 0) (off := 2) (arr := #[.int .i64 y, .bool false, .int .i64 len]) (u := .int .i64 len) rfl rfl) (fun a19 hT19 => ?_)
  refine Gz.row T K (by decide) hT19 [] [2, 3, 4] [5, 6, 7, 8, 9, 10, 11, 12, 13, 14, 15, 16, 17, 18, 19, 20, 21, 22, 23, 24, 25, 26, 27, 28, 29, 30, 31, 32, 33, 34, 35, 36, 37, 38, 39, 40, 41] [79, 78, 76, 11, 10, 0, 5, 7, 8, 33, 34, 35] (g' := [(79, .int .i64 k), (78, .int .i64 p), (76, .int .i64 len), (11, .pointer (some ⟨tb, 0, none⟩)), (10, .int .i64 x), (0, .int .i64 nn), (5, .slice (some ⟨gb, 0, none⟩) N gc), (7, .slice pa p pc), (8, .int .i64 k), (33, .slice (some ⟨lb, lz, none⟩) N cap), (34, .int .i64 N), (35, .int .i64 i)]) (qs := []) (by kernel_rfl) (by kernel_rfl) (by simp) (fun a20 hT20 => ?_)
  refine Gz.hint (o := opq c203.pd.pd.pd.pd.pd.pd.pd.pa.pd.pa.pa.pd.pd.pa.pa.pd.pd.pd.pd.pa 5) (d := 80) T (by decide) hT20 (v := .int .i64 len) (by kernel_rfl) (by kernel_rfl) (by decide) (by kernel_rfl) (by kernel_rfl) ((n_subE hl (by omega))) (fun a21 hT21 => ?_)
  refine Gz.hint (o := opq c203.pd.pd.pd.pd.pd.pd.pd.pa.pd.pa.pa.pd.pd.pa.pa.pd.pd.pd.pd.pa 6) (d := 81) T (by decide) hT21 (v := .bool false) (by kernel_rfl) (by kernel_rfl) (by decide) (by kernel_rfl) (by kernel_rfl) (congrArg some (n_neq rfl)) (fun a22 hT22 => ?_)
  refine Gz.row T K (by decide) hT22 [] [7, 8] [9, 10, 11, 12, 13, 14, 15, 16, 17, 18, 19, 20, 21, 22, 23, 24, 25, 26, 27, 28, 29, 30, 31, 32, 33, 34, 35, 36, 37, 38, 39, 40, 41] [83, 82, 11, 10, 0, 5, 7, 8, 33, 34, 35] (g' := [(83, .pointer (some ⟨tb, 2, none⟩)), (82, .bool false), (11, .pointer (some ⟨tb, 0, none⟩)), (10, .int .i64 x), (0, .int .i64 nn), (5, .slice (some ⟨gb, 0, none⟩) N gc), (7, .slice pa p pc), (8, .int .i64 k), (33, .slice (some ⟨lb, lz, none⟩) N cap), (34, .int .i64 N), (35, .int .i64 i)]) (qs := []) (by kernel_rfl) (by kernel_rfl) (by simp) (fun a23 hT23 => ?_)
  refine Gz.load (o := opq c203.pd.pd.pd.pd.pd.pd.pd.pa.pd.pa.pa.pd.pd.pa.pa.pd.pd.pd.pd.pa 9) (d := 84) (X := 3) (y := .tmp 83) (ad := ⟨tb, 2, none⟩) T K (by decide) hT23 (v := .int .i64 len) (by kernel_rfl) (by kernel_rfl) (by decide) (by kernel_rfl) (by kernel_rfl) (by kernel_rfl) (by kernel_rfl) (by kernel_rfl) (hH.cl hs (by omega) (j := 0) (off := 2) (arr := #[.int .i64 y, .bool false, .int .i64 len]) (u := .int .i64 len) rfl rfl) (fun a24 hT24 => ?_)
  refine Gz.row T K (by decide) hT24 [] [10] [11, 12, 13, 14, 15, 16, 17, 18, 19, 20, 21, 22, 23, 24, 25, 26, 27, 28, 29, 30, 31, 32, 33, 34, 35, 36, 37, 38, 39, 40, 41] [85, 84, 82, 11, 10, 0, 5, 7, 8, 33, 34, 35] (g' := [(85, .int .i64 nn), (84, .int .i64 len), (82, .bool false), (11, .pointer (some ⟨tb, 0, none⟩)), (10, .int .i64 x), (0, .int .i64 nn), (5, .slice (some ⟨gb, 0, none⟩) N gc), (7, .slice pa p pc), (8, .int .i64 k), (33, .slice (some ⟨lb, lz, none⟩) N cap), (34, .int .i64 N), (35, .int .i64 i)]) (qs := []) (by kernel_rfl) (by kernel_rfl) (by simp) (fun a25 hT25 => ?_)
  refine Gz.hint (o := opq c203.pd.pd.pd.pd.pd.pd.pd.pa.pd.pa.pa.pd.pd.pa.pa.pd.pd.pd.pd.pa 11) (d := 86) T (by decide) hT25 (v := .bool false) (by kernel_rfl) (by kernel_rfl) (by decide) (by kernel_rfl) (by kernel_rfl) (congrArg some (n_nlt (by omega))) (fun a26 hT26 => ?_)
  refine Gz.row T K (by decide) hT26 [] [12, 13, 14] [15, 16, 17, 18, 19, 20, 21, 22, 23, 24, 25, 26, 27, 28, 29, 30, 31, 32, 33, 34, 35, 36, 37, 38, 39, 40, 41] [89, 88, 11, 10, 0, 5, 7, 8, 33, 34, 35] (g' := [(89, .int .i64 x), (88, .bool false), (11, .pointer (some ⟨tb, 0, none⟩)), (10, .int .i64 x), (0, .int .i64 nn), (5, .slice (some ⟨gb, 0, none⟩) N gc), (7, .slice pa p pc), (8, .int .i64 k), (33, .slice (some ⟨lb, lz, none⟩) N cap), (34, .int .i64 N), (35, .int .i64 i)]) (qs := []) (by kernel_rfl) (by kernel_rfl) (by simp) (fun a27 hT27 => ?_)
  refine Gz.hint (o := opq c203.pd.pd.pd.pd.pd.pd.pd.pa.pd.pa.pa.pd.pd.pa.pa.pd.pd.pd.pd.pa 15) (d := 90) T (by decide) hT27 (v := .bool true) (by kernel_rfl) (by kernel_rfl) (by decide) (by kernel_rfl) (by kernel_rfl) (congrArg some (n_geq hx)) (fun a28 hT28 => ?_)
  refine Gz.row T K (by decide) hT28 [] [16, 17] [18, 19, 20, 21, 22, 23, 24, 25, 26, 27, 28, 29, 30, 31, 32, 33, 34, 35, 36, 37, 38, 39, 40, 41] [92, 91, 88, 11, 10, 0, 5, 7, 8, 33, 34, 35] (g' := [(92, .pointer (some ⟨tb, 1, none⟩)), (91, .bool true), (88, .bool false), (11, .pointer (some ⟨tb, 0, none⟩)), (10, .int .i64 x), (0, .int .i64 nn), (5, .slice (some ⟨gb, 0, none⟩) N gc), (7, .slice pa p pc), (8, .int .i64 k), (33, .slice (some ⟨lb, lz, none⟩) N cap), (34, .int .i64 N), (35, .int .i64 i)]) (qs := []) (by kernel_rfl) (by kernel_rfl) (by simp) (fun a29 hT29 => ?_)
  refine Gz.load (o := opq c203.pd.pd.pd.pd.pd.pd.pd.pa.pd.pa.pa.pd.pd.pa.pa.pd.pd.pd.pd.pa 18) (d := 93) (X := 4) (y := .tmp 92) (ad := ⟨tb, 1, none⟩) T K (by decide) hT29 (v := .bool false) (by kernel_rfl) (by kernel_rfl) (by decide) (by kernel_rfl) (by kernel_rfl) (by kernel_rfl) (by kernel_rfl) (by kernel_rfl) (hH.cl hs (by omega) (j := 0) (off := 1) (arr := #[.int .i64 y, .bool false, .int .i64 len]) (u := .bool false) rfl rfl) (fun a30 hT30 => ?_)
  refine Gz.row T K (by decide) hT30 [] [19, 20, 21, 22] [23, 24, 25, 26, 27, 28, 29, 30, 31, 32, 33, 34, 35, 36, 37, 38, 39, 40, 41] [97, 96, 88, 11, 10, 0, 5, 7, 8, 33, 34, 35] (g' := [(97, .pointer (some ⟨tb, 2, none⟩)), (96, .bool true), (88, .bool false), (11, .pointer (some ⟨tb, 0, none⟩)), (10, .int .i64 x), (0, .int .i64 nn), (5, .slice (some ⟨gb, 0, none⟩) N gc), (7, .slice pa p pc), (8, .int .i64 k), (33, .slice (some ⟨lb, lz, none⟩) N cap), (34, .int .i64 N), (35, .int .i64 i)]) (qs := []) (by kernel_rfl) (by kernel_rfl) (by simp) (fun a31 hT31 => ?_)
  refine Gz.load (o := opq c203.pd.pd.pd.pd.pd.pd.pd.pa.pd.pa.pa.pd.pd.pa.pa.pd.pd.pd.pd.pa 23) (d := 98) (X := 3) (y := .tmp 97) (ad := ⟨tb, 2, none⟩) T K (by decide) hT31 (v := .int .i64 len) (by kernel_rfl) (by kernel_rfl) (by decide) (by kernel_rfl) (by kernel_rfl) (by kernel_rfl) (by kernel_rfl) (by kernel_rfl) (hH.cl hs (by omega) (j := 0) (off := 2) (arr := #[.int .i64 y, .bool false, .int .i64 len]) (u := .int .i64 len) rfl rfl) (fun a32 hT32 => ?_)
  refine Gz.row T K (by decide) hT32 [] [24] [25, 26, 27, 28, 29, 30, 31, 32, 33, 34, 35, 36, 37, 38, 39, 40, 41] [99, 98, 96, 88, 11, 10, 0, 5, 7, 8, 33, 34, 35] (g' := [(99, .int .i64 nn), (98, .int .i64 len), (96, .bool true), (88, .bool false), (11, .pointer (some ⟨tb, 0, none⟩)), (10, .int .i64 x), (0, .int .i64 nn), (5, .slice (some ⟨gb, 0, none⟩) N gc), (7, .slice pa p pc), (8, .int .i64 k), (33, .slice (some ⟨lb, lz, none⟩) N cap), (34, .int .i64 N), (35, .int .i64 i)]) (qs := []) (by kernel_rfl) (by kernel_rfl) (by simp) (fun a33 hT33 => ?_)
  refine Gz.hint (o := opq c203.pd.pd.pd.pd.pd.pd.pd.pa.pd.pa.pa.pd.pd.pa.pa.pd.pd.pd.pd.pa 25) (d := 100) T (by decide) hT33 (v := .bool false) (by kernel_rfl) (by kernel_rfl) (by decide) (by kernel_rfl) (by kernel_rfl) (congrArg some (n_nlt (by omega))) (fun a34 hT34 => ?_)
  refine Gz.row T K (by decide) hT34 [] [26, 27, 28, 29] [30, 31, 32, 33, 34, 35, 36, 37, 38, 39, 40, 41] [104, 103, 11, 0, 5, 7, 8, 33, 34, 35] (g' := [(104, .int .i64 x), (103, .bool false), (11, .pointer (some ⟨tb, 0, none⟩)), (0, .int .i64 nn), (5, .slice (some ⟨gb, 0, none⟩) N gc), (7, .slice pa p pc), (8, .int .i64 k), (33, .slice (some ⟨lb, lz, none⟩) N cap), (34, .int .i64 N), (35, .int .i64 i)]) (qs := []) (by kernel_rfl) (by kernel_rfl) (by simp) (fun a35 hT35 => ?_)
  refine Gz.hint (o := opq c203.pd.pd.pd.pd.pd.pd.pd.pa.pd.pa.pa.pd.pd.pa.pa.pd.pd.pd.pd.pa 30) (d := 105) T (by decide) hT35 (v := .bool false) (by kernel_rfl) (by kernel_rfl) (by decide) (by kernel_rfl) (by kernel_rfl) (congrArg some (n_nneg hx)) (fun a36 hT36 => ?_)
  refine Gz.row T K (by decide) hT36 [] [31, 32, 33, 34, 35, 36, 37, 38, 39, 40, 41] [] [116, 0, 5, 7, 8, 33, 34, 35] (g' := [(116, .bool false), (0, .int .i64 nn), (5, .slice (some ⟨gb, 0, none⟩) N gc), (7, .slice pa p pc), (8, .int .i64 k), (33, .slice (some ⟨lb, lz, none⟩) N cap), (34, .int .i64 N), (35, .int .i64 i)]) (qs := []) (by kernel_rfl) (by kernel_rfl) (by simp) (fun a37 hT37 => ?_)
  refine Gz.rend T ?_
  refine Gz.condFE (q := .tmp 116) (y := c203.pd.pd.pd.pd.pd.pd.pd.pa.pd.pa.pa.pd.pd.pa.pa.pd.pd.pd.pd.pd.pa) (z := c203.pd.pd.pd.pd.pd.pd.pd.pa.pd.pa.pa.pd.pd.pa.pa.pd.pd.pd.pd.pd.pd) T (by kernel_rfl) hT37 (by kernel_rfl) ?_
  refine Gz.skipE T (by kernel_rfl) ?_
  refine Gz.out T ?_
  refine Gz.regionE (id := 22) (l := c203.pd.pd.pd.pd.pd.pd.pd.pa.pd.pa.pa.pd.pd.pd.po) (r := [0, 1]) T (by kernel_rfl) (by kernel_rfl) ?_
  refine Gz.hint (o := opq c203.pd.pd.pd.pd.pd.pd.pd.pa.pd.pa.pa.pd.pd.pd 0) (d := 117) T (by decide) hT37 (v := .int .i64 (((i + 1 : Nat) : Int))) (by kernel_rfl) (by kernel_rfl) (by decide) (by kernel_rfl) (by kernel_rfl) (n_inc (by omega)) (fun a38 hT38 => ?_)
  refine Gz.row T K (by decide) hT38 [] [1] [] [35, 0, 5, 7, 8, 33, 34] (g' := [(35, .int .i64 (((i + 1 : Nat) : Int))), (0, .int .i64 nn), (5, .slice (some ⟨gb, 0, none⟩) N gc), (7, .slice pa p pc), (8, .int .i64 k), (33, .slice (some ⟨lb, lz, none⟩) N cap), (34, .int .i64 N)]) (qs := []) (by kernel_rfl) (by kernel_rfl) (by simp) (fun a39 hT39 => ?_)
  refine Gz.rend T ?_
  refine Gz.again T ?_
  have h203LHead := hT39.live [0, 5, 7, 8, 33, 34, 35] (g' := [(0, .int .i64 nn), (5, .slice (some ⟨gb, 0, none⟩) N gc), (7, .slice pa p pc), (8, .int .i64 k), (33, .slice (some ⟨lb, lz, none⟩) N cap), (34, .int .i64 N), (35, .int .i64 (((i + 1 : Nat) : Int)))]) (by kernel_rfl)
  exact Goes.stop fun w₁ h₁ => ⟨_, _, ((hH.drop htb).more (by omega)).at h₁, a39, h203LHead, rfl⟩

end
end Go.Proofs.Ytdmiilgdkmbmeaa.Rg
namespace Go.Proofs.Ytdmiilgdkmbmeaa.Rg
open Go Go.Conc
section
variable {w₀ w : World} {Shun : Loc → Prop} {B W : Nat} {lo bse N cap nn p k i len oc lb lz Rb Sb tb gb gc pc : Nat} {arr : Array Value} {oa la ga pa : Option Addr} {x y : Int} {ok : Bool} {xs : List Value} {K₀ : List (Nat × Obj)} {g : Goroutine}
theorem L_b3 {pb : Nat} (h : LHead nn N cap la ga gc pa pc p k i g) (hH : Hp w₀ lo bse (3 * i) ([]) 3 1 (.slice pa p pc) p xs w) (hs : ∀ ad : Addr, lo ≤ ad.block → ¬ Shun (.cell ad)) (hB : w₀.heap.size + (3 * N + 3) ≤ B) (hN : N ≤ 1048576) (hp : p ≤ i) (hk : k ≤ p) (hi : i < N) (hla : la = some ⟨lb, lz, none⟩) (hga : ga = some ⟨gb, 0, none⟩) (hz : CL Shun B w ⟨lb, i + lz, none⟩ (.int .i64 x)) (g0 : CL Shun B w ⟨gb, i * 3 + 0, none⟩ (.int .i64 y)) (g1 : CL Shun B w ⟨gb, i * 3 + 1, none⟩ (.bool true)) (g2 : CL Shun B w ⟨gb, i * 3 + 2, none⟩ (.int .i64 len)) (hx : ¬ 0 ≤ x) (hl : p = len + (k + 1)) (hln : len ≤ nn) (hkp : k < p) (hy : xs[k]? = some (.int .i64 y)) (hpa : pa = some ⟨pb, 0, none⟩) :
    Goes Try.prog true AtRel (DL Shun B W) (fun g w => ∃ pa pc, Hp w₀ lo bse (3 * (i + 1)) ([]) 3 1 (.slice pa p pc) p xs w ∧ LHead nn N cap la ga gc pa pc p (k + 1) (i + 1) g) 4000 g w := by
  obtain ⟨b203, hb203, rfl⟩ := h
  subst hla
  subst hga
  subst hpa
  have TD : Tmd AtRel (DL Shun B W) := tmdL
  have T := TD.toTms
  have K : Ken Try.prog AtRel (DL Shun B W) (CL Shun B w) w := kenL (atRel_refl w)
  refine Gz.seqE T (by kernel_rfl : c203.pd.pd.pd.pd.pd.pd.pd.pa.pd.pa.pa = .seq c203.pd.pd.pd.pd.pd.pd.pd.pa.pd.pa.pa.pa c203.pd.pd.pd.pd.pd.pd.pd.pa.pd.pa.pa.pd) ?_
  refine Gz.regionE (id := 11) (l := c203.pd.pd.pd.pd.pd.pd.pd.pa.pd.pa.pa.pa.po) (r := [0]) T (by kernel_rfl) (by kernel_rfl) ?_
  refine Gz.hint (o := opq c203.pd.pd.pd.pd.pd.pd.pd.pa.pd.pa.pa.pa 0) (d := 36) T (by decide) hb203 (v := .bool true) (by kernel_rfl) (by kernel_rfl) (by decide) (by kernel_rfl) (by kernel_rfl) (congrArg some (n_lt hi)) (fun a1 hT1 => ?_)
  refine Gz.rend T ?_
  refine Gz.seqE T (by kernel_rfl : c203.pd.pd.pd.pd.pd.pd.pd.pa.pd.pa.pa.pd = .seq c203.pd.pd.pd.pd.pd.pd.pd.pa.pd.pa.pa.pd.pa c203.pd.pd.pd.pd.pd.pd.pd.pa.pd.pa.pa.pd.pd) ?_
  refine Gz.condTE (q := .tmp 36) (y := c203.pd.pd.pd.pd.pd.pd.pd.pa.pd.pa.pa.pd.pa.pa) (z := c203.pd.pd.pd.pd.pd.pd.pd.pa.pd.pa.pa.pd.pa.pd) T (by kernel_rfl) hT1 (by kernel_rfl) ?_
  refine Gz.skipE T (by kernel_rfl) ?_
  refine Gz.seqE T (by kernel_rfl : c203.pd.pd.pd.pd.pd.pd.pd.pa.pd.pa.pa.pd.pd = .seq c203.pd.pd.pd.pd.pd.pd.pd.pa.pd.pa.pa.pd.pd.pa c203.pd.pd.pd.pd.pd.pd.pd.pa.pd.pa.pa.pd.pd.pd) ?_
  refine Gz.blockE (id := 1) (y := c203.pd.pd.pd.pd.pd.pd.pd.pa.pd.pa.pa.pd.pd.pa.pa) T (by kernel_rfl) ?_
  refine Gz.seqE T (by kernel_rfl : c203.pd.pd.pd.pd.pd.pd.pd.pa.pd.pa.pa.pd.pd.pa.pa = .seq c203.pd.pd.pd.pd.pd.pd.pd.pa.pd.pa.pa.pd.pd.pa.pa.pa c203.pd.pd.pd.pd.pd.pd.pd.pa.pd.pa.pa.pd.pd.pa.pa.pd) ?_
  refine Gz.regionE (id := 12) (l := c203.pd.pd.pd.pd.pd.pd.pd.pa.pd.pa.pa.pd.pd.pa.pa.pa.po) (r := [0, 1, 2, 3, 4]) T (by kernel_rfl) (by kernel_rfl) ?_
  refine Gz.row T K (by decide) hT1 [] [0] [1, 2, 3, 4] [37, 0, 5, 7, 8, 33, 34, 35] (g' := [(37, .int .i64 i), (0, .int .i64 nn), (5, .slice (some ⟨gb, 0, none⟩) N gc), (7, .slice (some ⟨pb, 0, none⟩) p pc), (8, .int .i64 k), (33, .slice (some ⟨lb, lz, none⟩) N cap), (34, .int .i64 N), (35, .int .i64 i)]) (qs := []) (by kernel_rfl) (by kernel_rfl) (by simp) (fun a2 hT2 => ?_)
  refine Gz.hint (o := opq c203.pd.pd.pd.pd.pd.pd.pd.pa.pd.pa.pa.pd.pd.pa.pa.pa 1) (d := 38) T (by decide) hT2 (v := .pointer (some ⟨lb, i + lz, none⟩)) (by kernel_rfl) (by kernel_rfl) (by decide) (by kernel_rfl) (by kernel_rfl) ((n_idx hi)) (fun a3 hT3 => ?_)
  refine Gz.load (o := opq c203.pd.pd.pd.pd.pd.pd.pd.pa.pd.pa.pa.pd.pd.pa.pa.pa 2) (d := 39) (X := 3) (y := .tmp 38) (ad := ⟨lb, i + lz, none⟩) T K (by decide) hT3 (v := .int .i64 x) (by kernel_rfl) (by kernel_rfl) (by decide) (by kernel_rfl) (by kernel_rfl) (by kernel_rfl) (by kernel_rfl) (by kernel_rfl) hz (fun a4 hT4 => ?_)
  refine Gz.row T K (by decide) hT4 [] [3, 4] [] [10, 9, 0, 5, 7, 8, 33, 34, 35] (g' := [(10, .int .i64 x), (9, .int .i64 i), (0, .int .i64 nn), (5, .slice (some ⟨gb, 0, none⟩) N gc), (7, .slice (some ⟨pb, 0, none⟩) p pc), (8, .int .i64 k), (33, .slice (some ⟨lb, lz, none⟩) N cap), (34, .int .i64 N), (35, .int .i64 i)]) (qs := []) (by kernel_rfl) (by kernel_rfl) (by simp) (fun a5 hT5 => ?_)
  refine Gz.rend T ?_
  refine Gz.seqE T (by kernel_rfl : c203.pd.pd.pd.pd.pd.pd.pd.pa.pd.pa.pa.pd.pd.pa.pa.pd = .seq c203.pd.pd.pd.pd.pd.pd.pd.pa.pd.pa.pa.pd.pd.pa.pa.pd.pa c203.pd.pd.pd.pd.pd.pd.pd.pa.pd.pa.pa.pd.pd.pa.pa.pd.pd) ?_
  refine Gz.regionE (id := 13) (l := c203.pd.pd.pd.pd.pd.pd.pd.pa.pd.pa.pa.pd.pd.pa.pa.pd.pa.po) (r := [0, 1, 2, 3, 4, 5]) T (by kernel_rfl) (by kernel_rfl) ?_
  refine Gz.row T K (by decide) hT5 [] [0, 1] [2, 3, 4, 5] [41, 40, 10, 0, 5, 7, 8, 33, 34, 35] (g' := [(41, .int .i64 i), (40, .slice (some ⟨gb, 0, none⟩) N gc), (10, .int .i64 x), (0, .int .i64 nn), (5, .slice (some ⟨gb, 0, none⟩) N gc), (7, .slice (some ⟨pb, 0, none⟩) p pc), (8, .int .i64 k), (33, .slice (some ⟨lb, lz, none⟩) N cap), (34, .int .i64 N), (35, .int .i64 i)]) (qs := []) (by kernel_rfl) (by kernel_rfl) (by simp) (fun a6 hT6 => ?_)
  refine Mz.opv (o := opq c203.pd.pd.pd.pd.pd.pd.pd.pa.pd.pa.pa.pd.pd.pa.pa.pd.pa 2) (d := 42) (mvG T) (by decide) hT6 (v := .pointer (some ⟨gb, i * 3, none⟩)) (by kernel_rfl) (by kernel_rfl) (by decide) (by kernel_rfl) (by kernel_rfl) (op_idx3 (X := 24) (E := 29) (ti := (Try.prog.info? 29).getD default) (y := .tmp 40) (z := .tmp 41) (b := gb) (len := N) (c := gc) (i := i) (by kernel_rfl) (by kernel_rfl) (by kernel_rfl) (by kernel_rfl) (by kernel_rfl) (by kernel_rfl) hi) (fun a7 hT7 => ?_)
  refine Gz.load3 (o := opq c203.pd.pd.pd.pd.pd.pd.pd.pa.pd.pa.pa.pd.pd.pa.pa.pd.pa 3) (d := 43) (by decide) hT7 (X := 29) (y := .tmp 42) (ti := (Try.prog.info? 29).getD default) (bb := gb) (off := i * 3) (u0 := .int .i64 y) (u1 := .bool true) (u2 := .int .i64 len) (by kernel_rfl) (by kernel_rfl) (by decide) (by kernel_rfl) (by kernel_rfl) (agg_struct (fs := match Try.prog.underlying 29 with | some (.struct fs) => fs | _ => #[]) (by kernel_rfl)) (by kernel_rfl) (by kernel_rfl) (by kernel_rfl) g0 g1 g2 (fun a8 hT8 => ?_)
  refine Gz.hmk (o := opq c203.pd.pd.pd.pd.pd.pd.pd.pa.pd.pa.pa.pd.pd.pa.pa.pd.pa 4) (d := 11) (by decide) hT8 hH (by kernel_rfl) (by kernel_rfl) (by decide) (by kernel_rfl) (fun b => .pointer (some ⟨b, 0, none⟩)) (.cells #[.int .i64 0, .bool false, .int .i64 0] 29) (op_alloc (T := 29) (ti := (Try.prog.info? 29).getD default) (z := .agg #[.int .i64 0, .bool false, .int .i64 0]) (by kernel_rfl) (by kernel_rfl) (by kernel_rfl)) (fun a9 w tb htb hT9 hH => ?_)
  replace hT9 : Tm a9 118 ((11, .pointer (some ⟨tb, 0, none⟩)) :: [(43, .agg #[.int .i64 y, .bool true, .int .i64 len]), (42, .pointer (some ⟨gb, i * 3, none⟩)), (41, .int .i64 i), (40, .slice (some ⟨gb, 0, none⟩) N gc), (10, .int .i64 x), (0, .int .i64 nn), (5, .slice (some ⟨gb, 0, none⟩) N gc), (7, .slice (some ⟨pb, 0, none⟩) p pc), (8, .int .i64 k), (33, .slice (some ⟨lb, lz, none⟩) N cap), (34, .int .i64 N), (35, .int .i64 i)]) [] := hT9
  have K : Ken Try.prog AtRel (DL Shun B W) (CL Shun B w) w := kenL (atRel_refl w)
  refine Gz.hput3 (K' := [(tb, .cells #[.int .i64 y, .bool true, .int .i64 len] 29)]) (o := opq c203.pd.pd.pd.pd.pd.pd.pd.pa.pd.pa.pa.pd.pd.pa.pa.pd.pa 5) (by decide) hT9 hH hs (by omega) (X := 29) (ty := 29) (y := .tmp 11) (z := .tmp 43) (ti := (Try.prog.info? 29).getD default) (j := 0) (bb := tb) (u0 := .int .i64 y) (u1 := .bool true) (u2 := .int .i64 len) (z0 := .int .i64 0) (z1 := .bool false) (z2 := .int .i64 0) (by kernel_rfl) (by kernel_rfl) (by kernel_rfl) (by kernel_rfl) (by kernel_rfl) (by kernel_rfl) rfl rfl rfl (by kernel_rfl) (by kernel_rfl) rfl rfl (fun w hH => ?_)
  have K : Ken Try.prog AtRel (DL Shun B W) (CL Shun B w) w := kenL (atRel_refl w)
  refine Gz.rend T ?_
  refine Gz.seqE T (by kernel_rfl : c203.pd.pd.pd.pd.pd.pd.pd.pa.pd.pa.pa.pd.pd.pa.pa.pd.pd = .seq c203.pd.pd.pd.pd.pd.pd.pd.pa.pd.pa.pa.pd.pd.pa.pa.pd.pd.pa c203.pd.pd.pd.pd.pd.pd.pd.pa.pd.pa.pa.pd.pd.pa.pa.pd.pd.pd) ?_
  refine Gz.seqE T (by kernel_rfl : c203.pd.pd.pd.pd.pd.pd.pd.pa.pd.pa.pa.pd.pd.pa.pa.pd.pd.pa = .seq c203.pd.pd.pd.pd.pd.pd.pd.pa.pd.pa.pa.pd.pd.pa.pa.pd.pd.pa.pa c203.pd.pd.pd.pd.pd.pd.pd.pa.pd.pa.pa.pd.pd.pa.pa.pd.pd.pa.pd) ?_
  refine Gz.regionE (id := 14) (l := c203.pd.pd.pd.pd.pd.pd.pd.pa.pd.pa.pa.pd.pd.pa.pa.pd.pd.pa.pa.po) (r := [0, 1, 2, 3, 4, 5]) T (by kernel_rfl) (by kernel_rfl) ?_
  refine Gz.row T K (by decide) hT9 [] [0] [1, 2, 3, 4, 5] [44, 11, 10, 0, 5, 7, 8, 33, 34, 35] (g' := [(44, .int .i64 x), (11, .pointer (some ⟨tb, 0, none⟩)), (10, .int .i64 x), (0, .int .i64 nn), (5, .slice (some ⟨gb, 0, none⟩) N gc), (7, .slice (some ⟨pb, 0, none⟩) p pc), (8, .int .i64 k), (33, .slice (some ⟨lb, lz, none⟩) N cap), (34, .int .i64 N), (35, .int .i64 i)]) (qs := []) (by kernel_rfl) (by kernel_rfl) (by simp) (fun a10 hT10 => ?_)
  refine Gz.hint (o := opq c203.pd.pd.pd.pd.pd.pd.pd.pa.pd.pa.pa.pd.pd.pa.pa.pd.pd.pa.pa 1) (d := 45) T (by decide) hT10 (v := .bool false) (by kernel_rfl) (by kernel_rfl) (by decide) (by kernel_rfl) (by kernel_rfl) (congrArg some (n_ngeq hx)) (fun a11 hT11 => ?_)
  refine Gz.row T K (by decide) hT11 [] [2, 3, 4, 5] [] [49, 11, 10, 0, 5, 7, 8, 33, 34, 35] (g' := [(49, .bool false), (11, .pointer (some ⟨tb, 0, none⟩)), (10, .int .i64 x), (0, .int .i64 nn), (5, .slice (some ⟨gb, 0, none⟩) N gc), (7, .slice (some ⟨pb, 0, none⟩) p pc), (8, .int .i64 k), (33, .slice (some ⟨lb, lz, none⟩) N cap), (34, .int .i64 N), (35, .int .i64 i)]) (qs := []) (by kernel_rfl) (by kernel_rfl) (by simp) (fun a12 hT12 => ?_)
  refine Gz.rend T ?_
  refine Gz.condFE (q := .tmp 49) (y := c203.pd.pd.pd.pd.pd.pd.pd.pa.pd.pa.pa.pd.pd.pa.pa.pd.pd.pa.pd.pa) (z := c203.pd.pd.pd.pd.pd.pd.pd.pa.pd.pa.pa.pd.pd.pa.pa.pd.pd.pa.pd.pd) T (by kernel_rfl) hT12 (by kernel_rfl) ?_
  refine Gz.skipE T (by kernel_rfl) ?_
  refine Gz.seqE T (by kernel_rfl : c203.pd.pd.pd.pd.pd.pd.pd.pa.pd.pa.pa.pd.pd.pa.pa.pd.pd.pd = .seq c203.pd.pd.pd.pd.pd.pd.pd.pa.pd.pa.pa.pd.pd.pa.pa.pd.pd.pd.pa c203.pd.pd.pd.pd.pd.pd.pd.pa.pd.pa.pa.pd.pd.pa.pa.pd.pd.pd.pd) ?_
  refine Gz.seqE T (by kernel_rfl : c203.pd.pd.pd.pd.pd.pd.pd.pa.pd.pa.pa.pd.pd.pa.pa.pd.pd.pd.pa = .seq c203.pd.pd.pd.pd.pd.pd.pd.pa.pd.pa.pa.pd.pd.pa.pa.pd.pd.pd.pa.pa c203.pd.pd.pd.pd.pd.pd.pd.pa.pd.pa.pa.pd.pd.pa.pa.pd.pd.pd.pa.pd) ?_
  refine Gz.regionE (id := 16) (l := c203.pd.pd.pd.pd.pd.pd.pd.pa.pd.pa.pa.pd.pd.pa.pa.pd.pd.pd.pa.pa.po) (r := [0, 1, 2, 3, 4, 5]) T (by kernel_rfl) (by kernel_rfl) ?_
  refine Gz.row T K (by decide) hT12 [] [0] [1, 2, 3, 4, 5] [54, 11, 10, 0, 5, 7, 8, 33, 34, 35] (g' := [(54, .int .i64 x), (11, .pointer (some ⟨tb, 0, none⟩)), (10, .int .i64 x), (0, .int .i64 nn), (5, .slice (some ⟨gb, 0, none⟩) N gc), (7, .slice (some ⟨pb, 0, none⟩) p pc), (8, .int .i64 k), (33, .slice (some ⟨lb, lz, none⟩) N cap), (34, .int .i64 N), (35, .int .i64 i)]) (qs := []) (by kernel_rfl) (by kernel_rfl) (by simp) (fun a13 hT13 => ?_)
  refine Gz.hint (o := opq c203.pd.pd.pd.pd.pd.pd.pd.pa.pd.pa.pa.pd.pd.pa.pa.pd.pd.pd.pa.pa 1) (d := 55) T (by decide) hT13 (v := .bool true) (by kernel_rfl) (by kernel_rfl) (by decide) (by kernel_rfl) (by kernel_rfl) (congrArg some (n_neg hx)) (fun a14 hT14 => ?_)
  refine Gz.row T K (by decide) hT14 [] [2, 3] [4, 5] [57, 56, 11, 10, 0, 5, 7, 8, 33, 34, 35] (g' := [(57, .pointer (some ⟨tb, 1, none⟩)), (56, .bool true), (11, .pointer (some ⟨tb, 0, none⟩)), (10, .int .i64 x), (0, .int .i64 nn), (5, .slice (some ⟨gb, 0, none⟩) N gc), (7, .slice (some ⟨pb, 0, none⟩) p pc), (8, .int .i64 k), (33, .slice (some ⟨lb, lz, none⟩) N cap), (34, .int .i64 N), (35, .int .i64 i)]) (qs := []) (by kernel_rfl) (by kernel_rfl) (by simp) (fun a15 hT15 => ?_)
  refine Gz.load (o := opq c203.pd.pd.pd.pd.pd.pd.pd.pa.pd.pa.pa.pd.pd.pa.pa.pd.pd.pd.pa.pa 4) (d := 58) (X := 4) (y := .tmp 57) (ad := ⟨tb, 1, none⟩) T K (by decide) hT15 (v := .bool true) (by kernel_rfl) (by kernel_rfl) (by decide) (by kernel_rfl) (by kernel_rfl) (by kernel_rfl) (by kernel_rfl) (by kernel_rfl) (hH.cl hs (by omega) (j := 0) (off := 1) (arr := #[.int .i64 y, .bool true, .int .i64 len]) (u := .bool true) rfl rfl) (fun a16 hT16 => ?_)
  refine Gz.row T K (by decide) hT16 [] [5] [] [59, 11, 10, 0, 5, 7, 8, 33, 34, 35] (g' := [(59, .bool true), (11, .pointer (some ⟨tb, 0, none⟩)), (10, .int .i64 x), (0, .int .i64 nn), (5, .slice (some ⟨gb, 0, none⟩) N gc), (7, .slice (some ⟨pb, 0, none⟩) p pc), (8, .int .i64 k), (33, .slice (some ⟨lb, lz, none⟩) N cap), (34, .int .i64 N), (35, .int .i64 i)]) (qs := []) (by kernel_rfl) (by kernel_rfl) (by simp) (fun a17 hT17 => ?_)
  refine Gz.rend T ?_
  refine Gz.condTE (q := .tmp 59) (y := c203.pd.pd.pd.pd.pd.pd.pd.pa.pd.pa.pa.pd.pd.pa.pa.pd.pd.pd.pa.pd.pa) (z := c203.pd.pd.pd.pd.pd.pd.pd.pa.pd.pa.pa.pd.pd.pa.pa.pd.pd.pd.pa.pd.pd) T (by kernel_rfl) hT17 (by kernel_rfl) ?_
  refine Gz.seqE T (by kernel_rfl : c203.pd.pd.pd.pd.pd.pd.pd.pa.pd.pa.pa.pd.pd.pa.pa.pd.pd.pd.pa.pd.pa = .seq c203.pd.pd.pd.pd.pd.pd.pd.pa.pd.pa.pa.pd.pd.pa.pa.pd.pd.pd.pa.pd.pa.pa c203.pd.pd.pd.pd.pd.pd.pd.pa.pd.pa.pa.pd.pd.pa.pa.pd.pd.pd.pa.pd.pa.pd) ?_
  refine Gz.seqE T (by kernel_rfl : c203.pd.pd.pd.pd.pd.pd.pd.pa.pd.pa.pa.pd.pd.pa.pa.pd.pd.pd.pa.pd.pa.pa = .seq c203.pd.pd.pd.pd.pd.pd.pd.pa.pd.pa.pa.pd.pd.pa.pa.pd.pd.pd.pa.pd.pa.pa.pa c203.pd.pd.pd.pd.pd.pd.pd.pa.pd.pa.pa.pd.pd.pa.pa.pd.pd.pd.pa.pd.pa.pa.pd) ?_
  have hT18 := hT17.live [11, 10, 0, 5, 7, 8, 33, 34, 35] (g' := [(11, .pointer (some ⟨tb, 0, none⟩)), (10, .int .i64 x), (0, .int .i64 nn), (5, .slice (some ⟨gb, 0, none⟩) N gc), (7, .slice (some ⟨pb, 0, none⟩) p pc), (8, .int .i64 k), (33, .slice (some ⟨lb, lz, none⟩) N cap), (34, .int .i64 N), (35, .int .i64 i)]) (by kernel_rfl)
  refine Gz.drawnE (id := 17) 3700 (l := c203.pd.pd.pd.pd.pd.pd.pd.pa.pd.pa.pa.pd.pd.pa.pa.pd.pd.pd.pa.pd.pa.pa.pa.po) (sp := []) (H := [(3, .val (.bool false)), (7, .val (.pointer (some ⟨pb, k + 0, none⟩))), (8, .ld ⟨pb, k + 0, none⟩ (.int .i64 y)), (10, .ld ⟨tb, 0, none⟩ (.int .i64 y)), (11, .val (.bool false))]) (vals := [.int .i64 k, .slice (some ⟨pb, 0, none⟩) p pc, .int .i64 p, .bool false, .bool false, .slice (some ⟨pb, 0, none⟩) p pc, .int .i64 k, .pointer (some ⟨pb, k + 0, none⟩), .int .i64 y, .pointer (some ⟨tb, 0, none⟩), .int .i64 y, .bool false, .bool false]) (rds := [[8], [7], [61], [60, 62], [63], [7, 64], [8, 64], [65, 66, 64], [67, 64], [11, 64], [69, 64], [68, 70, 64], [64, 71]]) (bf := befs c203.pd.pd.pd.pd.pd.pd.pd.pa.pd.pa.pa.pd.pd.pa.pa.pd.pd.pd.pa.pd.pa.pa.pa.po) (qs := [(some (.bool (decide ((p : Int) ≤ k))) : Option Value) = some (.bool false), (if 0 ≤ (k : Int) ∧ (k : Int) < ((p : Nat) : Int) then some (.pointer (some ⟨pb, Int.toNat (k) + 0, none⟩)) else none : Option Value) = some (.pointer (some ⟨pb, k + 0, none⟩)), (some (.pointer (some ⟨pb, k + 0, none⟩)) : Option Value) = some (.pointer (some ⟨pb, k + 0, none⟩)), (CL Shun B w) ⟨pb, k + 0, none⟩ (.int .i64 y), (some (.pointer (some ⟨tb, 0, none⟩)) : Option Value) = some (.pointer (some ⟨tb, 0, none⟩)), (CL Shun B w) ⟨tb, 0, none⟩ (.int .i64 y), (some (.bool (!decide ((y : Int) = y))) : Option Value) = some (.bool false)]) TD (by kernel_rfl) mixed K (by decide) hT18 (by kernel_rfl) (by kernel_rfl) (by kernel_rfl) (by kernel_rfl) (Rg.oc (congrArg some (n_nle hkp)) (Rg.oc (n_idx hkp) (Rg.oc rfl (Rg.oc (CLk hH hs (by omega) hy) (Rg.oc rfl (Rg.oc (hH.cl hs (by omega) (j := 0) (off := 0) (arr := #[.int .i64 y, .bool true, .int .i64 len]) (u := .int .i64 y) rfl rfl) (Rg.oc (congrArg some (n_neq rfl)) Rg.on))))))) (by kernel_rfl) (by kernel_rfl) (fun j fuel t listed a19 hsp hlf hM hun => ?_) (fun listed a19 hall hJ hun => ?_)
  · simp at hsp
  have hT19 := hJ.finE hall [11, 10, 0, 5, 7, 8, 33, 34, 35, 72] (g' := [(11, .pointer (some ⟨tb, 0, none⟩)), (10, .int .i64 x), (0, .int .i64 nn), (5, .slice (some ⟨gb, 0, none⟩) N gc), (7, .slice (some ⟨pb, 0, none⟩) p pc), (8, .int .i64 k), (33, .slice (some ⟨lb, lz, none⟩) N cap), (34, .int .i64 N), (35, .int .i64 i), (72, .bool false)]) (by kernel_rfl)
  refine Gz.rend T ?_
  refine Gz.condFE (q := .tmp 72) (y := c203.pd.pd.pd.pd.pd.pd.pd.pa.pd.pa.pa.pd.pd.pa.pa.pd.pd.pd.pa.pd.pa.pa.pd.pa) (z := c203.pd.pd.pd.pd.pd.pd.pd.pa.pd.pa.pa.pd.pd.pa.pa.pd.pd.pd.pa.pd.pa.pa.pd.pd) T (by kernel_rfl) hT19 (by kernel_rfl) ?_
  refine Gz.skipE T (by kernel_rfl) ?_
  refine Gz.regionE (id := 19) (l := c203.pd.pd.pd.pd.pd.pd.pd.pa.pd.pa.pa.pd.pd.pa.pa.pd.pd.pd.pa.pd.pa.pd.po) (r := [0, 1, 2]) T (by kernel_rfl) (by kernel_rfl) ?_
  refine Gz.row T K (by decide) hT19 [] [0] [1, 2] [73, 11, 10, 0, 5, 7, 33, 34, 35] (g' := [(73, .int .i64 k), (11, .pointer (some ⟨tb, 0, none⟩)), (10, .int .i64 x), (0, .int .i64 nn), (5, .slice (some ⟨gb, 0, none⟩) N gc), (7, .slice (some ⟨pb, 0, none⟩) p pc), (33, .slice (some ⟨lb, lz, none⟩) N cap), (34, .int .i64 N), (35, .int .i64 i)]) (qs := []) (by kernel_rfl) (by kernel_rfl) (by simp) (fun a20 hT20 => ?_)
  refine Gz.hint (o := opq c203.pd.pd.pd.pd.pd.pd.pd.pa.pd.pa.pa.pd.pd.pa.pa.pd.pd.pd.pa.pd.pa.pd 1) (d := 74) T (by decide) hT20 (v := .int .i64 (((k + 1 : Nat) : Int))) (by kernel_rfl) (by kernel_rfl) (by decide) (by kernel_rfl) (by kernel_rfl) (n_inc (by omega)) (fun a21 hT21 => ?_)
  refine Gz.row T K (by decide) hT21 [] [2] [] [8, 11, 10, 0, 5, 7, 33, 34, 35] (g' := [(8, .int .i64 (((k + 1 : Nat) : Int))), (11, .pointer (some ⟨tb, 0, none⟩)), (10, .int .i64 x), (0, .int .i64 nn), (5, .slice (some ⟨gb, 0, none⟩) N gc), (7, .slice (some ⟨pb, 0, none⟩) p pc), (33, .slice (some ⟨lb, lz, none⟩) N cap), (34, .int .i64 N), (35, .int .i64 i)]) (qs := []) (by kernel_rfl) (by kernel_rfl) (by simp) (fun a22 hT22 => ?_)
  refine Gz.rend T ?_
  refine Gz.seqE T (by kernel_rfl : c203.pd.pd.pd.pd.pd.pd.pd.pa.pd.pa.pa.pd.pd.pa.pa.pd.pd.pd.pd = .seq c203.pd.pd.pd.pd.pd.pd.pd.pa.pd.pa.pa.pd.pd.pa.pa.pd.pd.pd.pd.pa c203.pd.pd.pd.pd.pd.pd.pd.pa.pd.pa.pa.pd.pd.pa.pa.pd.pd.pd.pd.pd) ?_
  refine Gz.regionE (id := 20) (l := c203.pd.pd.pd.pd.pd.pd.pd.pa.pd.pa.pa.pd.pd.pa.pa.pd.pd.pd.pd.pa.po) (r := [0, 1, 2, 3, 4, 5, 6, 7, 8, 9, 10, 11, 12, 13, 14, 15, 16, 17, 18, 19, 20, 21, 22, 23, 24, 25, 26, 27, 28, 29, 30, 31, 32, 33, 34, 35, 36, 37, 38, 39, 40, 41]) T (by kernel_rfl) (by kernel_rfl) ?_
  refine Gz.row T K (by decide) hT22 [] [0] [1, 2, 3, 4, 5, 6, 7, 8, 9, 10, 11, 12, 13, 14, 15, 16, 17, 18, 19, 20, 21, 22, 23, 24, 25, 26, 27, 28, 29, 30, 31, 32, 33, 34, 35, 36, 37, 38, 39, 40, 41] [75, 8, 11, 10, 0, 5, 7, 33, 34, 35] (g' := [(75, .pointer (some ⟨tb, 2, none⟩)), (8, .int .i64 (((k + 1 : Nat) : Int))), (11, .pointer (some ⟨tb, 0, none⟩)), (10, .int .i64 x), (0, .int .i64 nn), (5, .slice (some ⟨gb, 0, none⟩) N gc), (7, .slice (some ⟨pb, 0, none⟩) p pc), (33, .slice (some ⟨lb, lz, none⟩) N cap), (34, .int .i64 N), (35, .int .i64 i)]) (qs := []) (by kernel_rfl) (by kernel_rfl) (by simp) (fun a23 hT23 => ?_)
  refine Gz.load (o := opq c203.pd.pd.pd.pd.pd.pd.pd.pa.pd.pa.pa.pd.pd.pa.pa.pd.pd.pd.pd.pa 1) (d := 76) (X := 3) (y := .tmp 75) (ad := ⟨tb, 2, none⟩) T K (by decide) hT23 (v := .int .i64 len) (by kernel_rfl) (by kernel_rfl) (by decide) (by kernel_rfl) (by kernel_rfl) (by kernel_rfl) (by kernel_rfl) (by kernel_rfl) (hH.cl hs (by omega) (j := 0) (off := 2) (arr := #[.int .i64 y, .bool true, .int .i64 len]) (u := .int .i64 len) rfl rfl) (fun a24 hT24 => ?_)
  refine Gz.row T K (by decide) hT24 [] [2, 3, 4] [5, 6, 7, 8, 9, 10, 11, 12, 13, 14, 15, 16, 17, 18, 19, 20, 21, 22, 23, 24, 25, 26, 27, 28, 29, 30, 31, 32, 33, 34, 35, 36, 37, 38, 39, 40, 41] [79, 78, 76, 8, 11, 10, 0, 5, 7, 33, 34, 35] (g' := [(79, .int .i64 (((k + 1 : Nat) : Int))), (78, .int .i64 p), (76, .int .i64 len), (8, .int .i64 (((k + 1 : Nat) : Int))), (11, .pointer (some ⟨tb, 0, none⟩)), (10, .int .i64 x), (0, .int .i64 nn), (5, .slice (some ⟨gb, 0, none⟩) N gc), (7, .slice (some ⟨pb, 0, none⟩) p pc), (33, .slice (some ⟨lb, lz, none⟩) N cap), (34, .int .i64 N), (35, .int .i64 i)]) (qs := []) (by kernel_rfl) (by kernel_rfl) (by simp) (fun a25 hT25 => ?_)
  refine Gz.hint (o := opq c203.pd.pd.pd.pd.pd.pd.pd.pa.pd.pa.pa.pd.pd.pa.pa.pd.pd.pd.pd.pa 5) (d := 80) T (by decide) hT25 (v := .int .i64 len) (by kernel_rfl) (by kernel_rfl) (by decide) (by kernel_rfl) (by kernel_rfl) ((n_subE hl (by omega))) (fun a26 hT26 => ?_)
  refine Gz.hint (o := opq c203.pd.pd.pd.pd.pd.pd.pd.pa.pd.pa.pa.pd.pd.pa.pa.pd.pd.pd.pd.pa 6) (d := 81) T (by decide) hT26 (v := .bool false) (by kernel_rfl) (by kernel_rfl) (by decide) (by kernel_rfl) (by kernel_rfl) (congrArg some (n_neq rfl)) (fun a27 hT27 => ?_)
  refine Gz.row T K (by decide) hT27 [] [7, 8] [9, 10, 11, 12, 13, 14, 15, 16, 17, 18, 19, 20, 21, 22, 23, 24, 25, 26, 27, 28, 29, 30, 31, 32, 33, 34, 35, 36, 37, 38, 39, 40, 41] [83, 82, 8, 11, 10, 0, 5, 7, 33, 34, 35] (g' := [(83, .pointer (some ⟨tb, 2, none⟩)), (82, .bool false), (8, .int .i64 (((k + 1 : Nat) : Int))), (11, .pointer (some ⟨tb, 0, none⟩)), (10, .int .i64 x), (0, .int .i64 nn), (5, .slice (some ⟨gb, 0, none⟩) N gc), (7, .slice (some ⟨pb, 0, none⟩) p pc), (33, .slice (some ⟨lb, lz, none⟩) N cap), (34, .int .i64 N), (35, .int .i64 i)]) (qs := []) (by kernel_rfl) (by kernel_rfl) (by simp) (fun a28 hT28 => ?_)
  refine Gz.load (o := opq c203.pd.pd.pd.pd.pd.pd.pd.pa.pd.pa.pa.pd.pd.pa.pa.pd.pd.pd.pd.pa 9) (d := 84) (X := 3) (y := .tmp 83) (ad := ⟨tb, 2, none⟩) T K (by decide) hT28 (v := .int .i64 len) (by kernel_rfl) (by kernel_rfl) (by decide) (by kernel_rfl) (by kernel_rfl) (by kernel_rfl) (by kernel_rfl) (by kernel_rfl) (hH.cl hs (by omega) (j := 0) (off := 2) (arr := #[.int .i64 y, .bool true, .int .i64 len]) (u := .int .i64 len) rfl rfl) (fun a29 hT29 => ?_)
  refine Gz.row T K (by decide) hT29 [] [10] [11, 12, 13, 14, 15, 16, 17, 18, 19, 20, 21, 22, 23, 24, 25, 26, 27, 28, 29, 30, 31, 32, 33, 34, 35, 36, 37, 38, 39, 40, 41] [85, 84, 82, 8, 11, 10, 0, 5, 7, 33, 34, 35] (g' := [(85, .int .i64 nn), (84, .int .i64 len), (82, .bool false), (8, .int .i64 (((k + 1 : Nat) : Int))), (11, .pointer (some ⟨tb, 0, none⟩)), (10, .int .i64 x), (0, .int .i64 nn), (5, .slice (some ⟨gb, 0, none⟩) N gc), (7, .slice (some ⟨pb, 0, none⟩) p pc), (33, .slice (some ⟨lb, lz, none⟩) N cap), (34, .int .i64 N), (35, .int .i64 i)]) (qs := []) (by kernel_rfl) (by kernel_rfl) (by simp) (fun a30 hT30 => ?_)
  refine Gz.hint (o := opq c203.pd.pd.pd.pd.pd.pd.pd.pa.pd.pa.pa.pd.pd.pa.pa.pd.pd.pd.pd.pa 11) (d := 86) T (by decide) hT30 (v := .bool false) (by kernel_rfl) (by kernel_rfl) (by decide) (by kernel_rfl) (by kernel_rfl) (congrArg some (n_nlt (by omega))) (fun a31 hT31 => ?_)
  refine Gz.row T K (by decide) hT31 [] [12, 13, 14] [15, 16, 17, 18, 19, 20, 21, 22, 23, 24, 25, 26, 27, 28, 29, 30, 31, 32, 33, 34, 35, 36, 37, 38, 39, 40, 41] [89, 88, 8, 11, 10, 0, 5, 7, 33, 34, 35] (g' := [(89, .int .i64 x), (88, .bool false), (8, .int .i64 (((k + 1 : Nat) : Int))), (11, .pointer (some ⟨tb, 0, none⟩)), (10, .int .i64 x), (0, .int .i64 nn), (5, .slice (some ⟨gb, 0, none⟩) N gc), (7, .slice (some ⟨pb, 0, none⟩) p pc), (33, .slice (some ⟨lb, lz, none⟩) N cap), (34, .int .i64 N), (35, .int .i64 i)]) (qs := []) (by kernel_rfl) (by kernel_rfl) (by simp) (fun a32 hT32 => ?_)
  refine Gz.hint (o := opq c203.pd.pd.pd.pd.pd.pd.pd.pa.pd.pa.pa.pd.pd.pa.pa.pd.pd.pd.pd.pa 15) (d := 90) T (by decide) hT32 (v := .bool false) (by kernel_rfl) (by kernel_rfl) (by decide) (by kernel_rfl) (by kernel_rfl) (congrArg some (n_ngeq hx)) (fun a33 hT33 => ?_)
  refine Gz.row T K (by decide) hT33 [] [16, 17, 18, 19, 20, 21, 22, 23, 24, 25, 26, 27, 28, 29] [30, 31, 32, 33, 34, 35, 36, 37, 38, 39, 40, 41] [104, 103, 8, 11, 0, 5, 7, 33, 34, 35] (g' := [(104, .int .i64 x), (103, .bool false), (8, .int .i64 (((k + 1 : Nat) : Int))), (11, .pointer (some ⟨tb, 0, none⟩)), (0, .int .i64 nn), (5, .slice (some ⟨gb, 0, none⟩) N gc), (7, .slice (some ⟨pb, 0, none⟩) p pc), (33, .slice (some ⟨lb, lz, none⟩) N cap), (34, .int .i64 N), (35, .int .i64 i)]) (qs := []) (by kernel_rfl) (by kernel_rfl) (by simp) (fun a34 hT34 => ?_)
  refine Gz.hint (o := opq c203.pd.pd.pd.pd.pd.pd.pd.pa.pd.pa.pa.pd.pd.pa.pa.pd.pd.pd.pd.pa 30) (d := 105) T (by decide) hT34 (v := .bool true) (by kernel_rfl) (by kernel_rfl) (by decide) (by kernel_rfl) (by kernel_rfl) (congrArg some (n_neg hx)) (fun a35 hT35 => ?_)
  refine Gz.row T K (by decide) hT35 [] [31, 32] [33, 34, 35, 36, 37, 38, 39, 40, 41] [107, 106, 103, 8, 11, 0, 5, 7, 33, 34, 35] (g' := [(107, .pointer (some ⟨tb, 1, none⟩)), (106, .bool true), (103, .bool false), (8, .int .i64 (((k + 1 : Nat) : Int))), (11, .pointer (some ⟨tb, 0, none⟩)), (0, .int .i64 nn), (5, .slice (some ⟨gb, 0, none⟩) N gc), (7, .slice (some ⟨pb, 0, none⟩) p pc), (33, .slice (some ⟨lb, lz, none⟩) N cap), (34, .int .i64 N), (35, .int .i64 i)]) (qs := []) (by kernel_rfl) (by kernel_rfl) (by simp) (fun a36 hT36 => ?_)
  refine Gz.load (o := opq c203.pd.pd.pd.pd.pd.pd.pd.pa.pd.pa.pa.pd.pd.pa.pa.pd.pd.pd.pd.pa 33) (d := 108) (X := 4) (y := .tmp 107) (ad := ⟨tb, 1, none⟩) T K (by decide) hT36 (v := .bool true) (by kernel_rfl) (by kernel_rfl) (by decide) (by kernel_rfl) (by kernel_rfl) (by kernel_rfl) (by kernel_rfl) (by kernel_rfl) (hH.cl hs (by omega) (j := 0) (off := 1) (arr := #[.int .i64 y, .bool true, .int .i64 len]) (u := .bool true) rfl rfl) (fun a37 hT37 => ?_)
  refine Gz.row T K (by decide) hT37 [] [34, 35, 36, 37, 38, 39, 40, 41] [] [116, 8, 0, 5, 7, 33, 34, 35] (g' := [(116, .bool false), (8, .int .i64 (((k + 1 : Nat) : Int))), (0, .int .i64 nn), (5, .slice (some ⟨gb, 0, none⟩) N gc), (7, .slice (some ⟨pb, 0, none⟩) p pc), (33, .slice (some ⟨lb, lz, none⟩) N cap), (34, .int .i64 N), (35, .int .i64 i)]) (qs := []) (by kernel_rfl) (by kernel_rfl) (by simp) (fun a38 hT38 => ?_)
  refine Gz.rend T ?_
  refine Gz.condFE (q := .tmp 116) (y := c203.pd.pd.pd.pd.pd.pd.pd.pa.pd.pa.pa.pd.pd.pa.pa.pd.pd.pd.pd.pd.pa) (z := c203.pd.pd.pd.pd.pd.pd.pd.pa.pd.pa.pa.pd.pd.pa.pa.pd.pd.pd.pd.pd.pd) T (by kernel_rfl) hT38 (by kernel_rfl) ?_
  refine Gz.skipE T (by kernel_rfl) ?_
  refine Gz.out T ?_
  refine Gz.regionE (id := 22) (l := c203.pd.pd.pd.pd.pd.pd.pd.pa.pd.pa.pa.pd.pd.pd.po) (r := [0, 1]) T (by kernel_rfl) (by kernel_rfl) ?_
  refine Gz.hint (o := opq c203.pd.pd.pd.pd.pd.pd.pd.pa.pd.pa.pa.pd.pd.pd 0) (d := 117) T (by decide) hT38 (v := .int .i64 (((i + 1 : Nat) : Int))) (by kernel_rfl) (by kernel_rfl) (by decide) (by kernel_rfl) (by kernel_rfl) (n_inc (by omega)) (fun a39 hT39 => ?_)
  refine Gz.row T K (by decide) hT39 [] [1] [] [35, 8, 0, 5, 7, 33, 34] (g' := [(35, .int .i64 (((i + 1 : Nat) : Int))), (8, .int .i64 (((k + 1 : Nat) : Int))), (0, .int .i64 nn), (5, .slice (some ⟨gb, 0, none⟩) N gc), (7, .slice (some ⟨pb, 0, none⟩) p pc), (33, .slice (some ⟨lb, lz, none⟩) N cap), (34, .int .i64 N)]) (qs := []) (by kernel_rfl) (by kernel_rfl) (by simp) (fun a40 hT40 => ?_)
  refine Gz.rend T ?_
  refine Gz.again T ?_
  have h203LHead := hT40.live [0, 5, 7, 8, 33, 34, 35] (g' := [(0, .int .i64 nn), (5, .slice (some ⟨gb, 0, none⟩) N gc), (7, .slice (some ⟨pb, 0, none⟩) p pc), (8, .int .i64 (((k + 1 : Nat) : Int))), (33, .slice (some ⟨lb, lz, none⟩) N cap), (34, .int .i64 N), (35, .int .i64 (((i + 1 : Nat) : Int)))]) (by kernel_rfl)
  exact Goes.stop fun w₁ h₁ => ⟨_, _, ((hH.drop htb).more (by omega)).at h₁, a40, h203LHead, rfl⟩
theorem L_b4 {pb : Nat} (h : LHead nn N cap la ga gc pa pc p k i g) (hH : Hp w₀ lo bse (3 * i) ([]) 3 1 (.slice pa p pc) p xs w) (hs : ∀ ad : Addr, lo ≤ ad.block → ¬ Shun (.cell ad)) (hB : w₀.heap.size + (3 * N + 3) ≤ B) (hN : N ≤ 1048576) (hp : p ≤ i) (hk : k ≤ p) (hi : i < N) (hla : la = some ⟨lb, lz, none⟩) (hga : ga = some ⟨gb, 0, none⟩) (hz : CL Shun B w ⟨lb, i + lz, none⟩ (.int .i64 x)) (g0 : CL Shun B w ⟨gb, i * 3 + 0, none⟩ (.int .i64 y)) (g1 : CL Shun B w ⟨gb, i * 3 + 1, none⟩ (.bool false)) (g2 : CL Shun B w ⟨gb, i * 3 + 2, none⟩ (.int .i64 len)) (hx : ¬ 0 ≤ x) (hl : p = len + k) (h0 : len = 0) :
    Goes Try.prog true AtRel (DL Shun B W) (fun g w => ∃ pa pc, Hp w₀ lo bse (3 * (i + 1)) ([]) 3 1 (.slice pa p pc) p xs w ∧ LHead nn N cap la ga gc pa pc p k (i + 1) g) 4000 g w := by
  obtain ⟨b203, hb203, rfl⟩ := h
  subst hla
  subst hga
  have TD : Tmd AtRel (DL Shun B W) := tmdL
  have T := TD.toTms
  have K : Ken Try.prog AtRel (DL Shun B W) (CL Shun B w) w := kenL (atRel_refl w)
  refine Gz.seqE T (by kernel_rfl : c203.pd.pd.pd.pd.pd.pd.pd.pa.pd.pa.pa = .seq c203.pd.pd.pd.pd.pd.pd.pd.pa.pd.pa.pa.pa c203.pd.pd.pd.pd.pd.pd.pd.pa.pd.pa.pa.pd) ?_
  refine Gz.regionE (id := 11) (l := c203.pd.pd.pd.pd.pd.pd.pd.pa.pd.pa.pa.pa.po) (r := [0]) T (by kernel_rfl) (by kernel_rfl) ?_
  refine Gz.hint (o := opq c203.pd.pd.pd.pd.pd.pd.pd.pa.pd.pa.pa.pa 0) (d := 36) T (by decide) hb203 (v := .bool true) (by kernel_rfl) (by kernel_rfl) (by decide) (by kernel_rfl) (by kernel_rfl) (congrArg some (n_lt hi)) (fun a1 hT1 => ?_)
  refine Gz.rend T ?_
  refine Gz.seqE T (by kernel_rfl : c203.pd.pd.pd.pd.pd.pd.pd.pa.pd.pa.pa.pd = .seq c203.pd.pd.pd.pd.pd.pd.pd.pa.pd.pa.pa.pd.pa c203.pd.pd.pd.pd.pd.pd.pd.pa.pd.pa.pa.pd.pd) ?_
  refine Gz.condTE (q := .tmp 36) (y := c203.pd.pd.pd.pd.pd.pd.pd.pa.pd.pa.pa.pd.pa.pa) (z := c203.pd.pd.pd.pd.pd.pd.pd.pa.pd.pa.pa.pd.pa.pd) T (by kernel_rfl) hT1 (by kernel_rfl) ?_
  refine Gz.skipE T (by kernel_rfl) ?_
  refine Gz.seqE T (by kernel_rfl : c203.pd.pd.pd.pd.pd.pd.pd.pa.pd.pa.pa.pd.pd = .seq c203.pd.pd.pd.pd.pd.pd.pd.pa.pd.pa.pa.pd.pd.pa c203.pd.pd.pd.pd.pd.pd.pd.pa.pd.pa.pa.pd.pd.pd) ?_
  refine Gz.blockE (id := 1) (y := c203.pd.pd.pd.pd.pd.pd.pd.pa.pd.pa.pa.pd.pd.pa.pa) T (by kernel_rfl) ?_
  refine Gz.seqE T (by kernel_rfl : c203.pd.pd.pd.pd.pd.pd.pd.pa.pd.pa.pa.pd.pd.pa.pa = .seq c203.pd.pd.pd.pd.pd.pd.pd.pa.pd.pa.pa.pd.pd.pa.pa.pa c203.pd.pd.pd.pd.pd.pd.pd.pa.pd.pa.pa.pd.pd.pa.pa.pd) ?_
  refine Gz.regionE (id := 12) (l := c203.pd.pd.pd.pd.pd.pd.pd.pa.pd.pa.pa.pd.pd.pa.pa.pa.po) (r := [0, 1, 2, 3, 4]) T (by kernel_rfl) (by kernel_rfl) ?_
  refine Gz.row T K (by decide) hT1 [] [0] [1, 2, 3, 4] [37, 0, 5, 7, 8, 33, 34, 35] (g' := [(37, .int .i64 i), (0, .int .i64 nn), (5, .slice (some ⟨gb, 0, none⟩) N gc), (7, .slice pa p pc), (8, .int .i64 k), (33, .slice (some ⟨lb, lz, none⟩) N cap), (34, .int .i64 N), (35, .int .i64 i)]) (qs := []) (by kernel_rfl) (by kernel_rfl) (by simp) (fun a2 hT2 => ?_)
  refine Gz.hint (o := opq c203.pd.pd.pd.pd.pd.pd.pd.pa.pd.pa.pa.pd.pd.pa.pa.pa 1) (d := 38) T (by decide) hT2 (v := .pointer (some ⟨lb, i + lz, none⟩)) (by kernel_rfl) (by kernel_rfl) (by decide) (by kernel_rfl) (by kernel_rfl) ((n_idx hi)) (fun a3 hT3 => ?_)
  refine Gz.load (o := opq c203.pd.pd.pd.pd.pd.pd.pd.pa.pd.pa.pa.pd.pd.pa.pa.pa 2) (d := 39) (X := 3) (y := .tmp 38) (ad := ⟨lb, i + lz, none⟩) T K (by decide) hT3 (v := .int .i64 x) (by kernel_rfl) (by kernel_rfl) (by decide) (by kernel_rfl) (by kernel_rfl) (by kernel_rfl) (by kernel_rfl) (by kernel_rfl) hz (fun a4 hT4 => ?_)
  refine Gz.row T K (by decide) hT4 [] [3, 4] [] [10, 9, 0, 5, 7, 8, 33, 34, 35] (g' := [(10, .int .i64 x), (9, .int .i64 i), (0, .int .i64 nn), (5, .slice (some ⟨gb, 0, none⟩) N gc), (7, .slice pa p pc), (8, .int .i64 k), (33, .slice (some ⟨lb, lz, none⟩) N cap), (34, .int .i64 N), (35, .int .i64 i)]) (qs := []) (by kernel_rfl) (by kernel_rfl) (by simp) (fun a5 hT5 => ?_)
  refine Gz.rend T ?_
  refine Gz.seqE T (by kernel_rfl : c203.pd.pd.pd.pd.pd.pd.pd.pa.pd.pa.pa.pd.pd.pa.pa.pd = .seq c203.pd.pd.pd.pd.pd.pd.pd.pa.pd.pa.pa.pd.pd.pa.pa.pd.pa c203.pd.pd.pd.pd.pd.pd.pd.pa.pd.pa.pa.pd.pd.pa.pa.pd.pd) ?_
  refine Gz.regionE (id := 13) (l := c203.pd.pd.pd.pd.pd.pd.pd.pa.pd.pa.pa.pd.pd.pa.pa.pd.pa.po) (r := [0, 1, 2, 3, 4, 5]) T (by kernel_rfl) (by kernel_rfl) ?_
  refine Gz.row T K (by decide) hT5 [] [0, 1] [2, 3, 4, 5] [41, 40, 10, 0, 5, 7, 8, 33, 34, 35] (g' := [(41, .int .i64 i), (40, .slice (some ⟨gb, 0, none⟩) N gc), (10, .int .i64 x), (0, .int .i64 nn), (5, .slice (some ⟨gb, 0, none⟩) N gc), (7, .slice pa p pc), (8, .int .i64 k), (33, .slice (some ⟨lb, lz, none⟩) N cap), (34, .int .i64 N), (35, .int .i64 i)]) (qs := []) (by kernel_rfl) (by kernel_rfl) (by simp) (fun a6 hT6 => ?_)
  refine Mz.opv (o := opq c203.pd.pd.pd.pd.pd.pd.pd.pa.pd.pa.pa.pd.pd.pa.pa.pd.pa 2) (d := 42) (mvG T) (by decide) hT6 (v := .pointer (some ⟨gb, i * 3, none⟩)) (by kernel_rfl) (by kernel_rfl) (by decide) (by kernel_rfl) (by kernel_rfl) (op_idx3 (X := 24) (E := 29) (ti := (Try.prog.info? 29).getD default) (y := .tmp 40) (z := .tmp 41) (b := gb) (len := N) (c := gc) (i := i) (by kernel_rfl) (by kernel_rfl) (by kernel_rfl) (by kernel_rfl) (by kernel_rfl) (by kernel_rfl) hi) (fun a7 hT7 => ?_)
  refine Gz.load3 (o := opq c203.pd.pd.pd.pd.pd.pd.pd.pa.pd.pa.pa.pd.pd.pa.pa.pd.pa 3) (d := 43) (by decide) hT7 (X := 29) (y := .tmp 42) (ti := (Try.prog.info? 29).getD default) (bb := gb) (off := i * 3) (u0 := .int .i64 y) (u1 := .bool false) (u2 := .int .i64 len) (by kernel_rfl) (by kernel_rfl) (by decide) (by kernel_rfl) (by kernel_rfl) (agg_struct (fs := match Try.prog.underlying 29 with | some (.struct fs) => fs | _ => #[]) (by kernel_rfl)) (by kernel_rfl) (by kernel_rfl) (by kernel_rfl) g0 g1 g2 (fun a8 hT8 => ?_)
  refine Gz.hmk (o := opq c203.pd.pd.pd.pd.pd.pd.pd.pa.pd.pa.pa.pd.pd.pa.pa.pd.pa 4) (d := 11) (by decide) hT8 hH (by kernel_rfl) (by kernel_rfl) (by decide) (by kernel_rfl) (fun b => .pointer (some ⟨b, 0, none⟩)) (.cells #[.int .i64 0, .bool false, .int .i64 0] 29) (op_alloc (T := 29) (ti := (Try.prog.info? 29).getD default) (z := .agg #[.int .i64 0, .bool false, .int .i64 0]) (by kernel_rfl) (by kernel_rfl) (by kernel_rfl)) (fun a9 w tb htb hT9 hH => ?_)
  replace hT9 : Tm a9 118 ((11, .pointer (some ⟨tb, 0, none⟩)) :: [(43, .agg #[.int .i64 y, .bool false, .int .i64 len]), (42, .pointer (some ⟨gb, i * 3, none⟩)), (41, .int .i64 i), (40, .slice (some ⟨gb, 0, none⟩) N gc), (10, .int .i64 x), (0, .int .i64 nn), (5, .slice (some ⟨gb, 0, none⟩) N gc), (7, .slice pa p pc), (8, .int .i64 k), (33, .slice (some ⟨lb, lz, none⟩) N cap), (34, .int .i64 N), (35, .int .i64 i)]) [] := hT9
  have K : Ken Try.prog AtRel (DL Shun B W) (CL Shun B w) w := kenL (atRel_refl w)
  refine Gz.hput3 (K' := [(tb, .cells #[.int .i64 y, .bool false, .int .i64 len] 29)]) (o := opq c203.pd.pd.pd.pd.pd.pd.pd.pa.pd.pa.pa.pd.pd.pa.pa.pd.pa 5) (by decide) hT9 hH hs (by omega) (X := 29) (ty := 29) (y := .tmp 11) (z := .tmp 43) (ti := (Try.prog.info? 29).getD default) (j := 0) (bb := tb) (u0 := .int .i64 y) (u1 := .bool false) (u2 := .int .i64 len) (z0 := .int .i64 0) (z1 := .bool false) (z2 := .int .i64 0) (by kernel_rfl) (by kernel_rfl) (by kernel_rfl) (by kernel_rfl) (by kernel_rfl) (by kernel_rfl) rfl rfl rfl (by kernel_rfl) (by kernel_rfl) rfl rfl (fun w hH => ?_)
  have K : Ken Try.prog AtRel (DL Shun B W) (CL Shun B w) w := kenL (atRel_refl w)
  refine Gz.rend T ?_
  refine Gz.seqE T (by kernel_rfl : c203.pd.pd.pd.pd.pd.pd.pd.pa.pd.pa.pa.pd.pd.pa.pa.pd.pd = .seq c203.pd.pd.pd.pd.pd.pd.pd.pa.pd.pa.pa.pd.pd.pa.pa.pd.pd.pa c203.pd.pd.pd.pd.pd.pd.pd.pa.pd.pa.pa.pd.pd.pa.pa.pd.pd.pd) ?_
  refine Gz.seqE T (by kernel_rfl : c203.pd.pd.pd.pd.pd.pd.pd.pa.pd.pa.pa.pd.pd.pa.pa.pd.pd.pa = .seq c203.pd.pd.pd.pd.pd.pd.pd.pa.pd.pa.pa.pd.pd.pa.pa.pd.pd.pa.pa c203.pd.pd.pd.pd.pd.pd.pd.pa.pd.pa.pa.pd.pd.pa.pa.pd.pd.pa.pd) ?_
  refine Gz.regionE (id := 14) (l := c203.pd.pd.pd.pd.pd.pd.pd.pa.pd.pa.pa.pd.pd.pa.pa.pd.pd.pa.pa.po) (r := [0, 1, 2, 3, 4, 5]) T (by kernel_rfl) (by kernel_rfl) ?_
  refine Gz.row T K (by decide) hT9 [] [0] [1, 2, 3, 4, 5] [44, 11, 10, 0, 5, 7, 8, 33, 34, 35] (g' := [(44, .int .i64 x), (11, .pointer (some ⟨tb, 0, none⟩)), (10, .int .i64 x), (0, .int .i64 nn), (5, .slice (some ⟨gb, 0, none⟩) N gc), (7, .slice pa p pc), (8, .int .i64 k), (33, .slice (some ⟨lb, lz, none⟩) N cap), (34, .int .i64 N), (35, .int .i64 i)]) (qs := []) (by kernel_rfl) (by kernel_rfl) (by simp) (fun a10 hT10 => ?_)
  refine Gz.hint (o := opq c203.pd.pd.pd.pd.pd.pd.pd.pa.pd.pa.pa.pd.pd.pa.pa.pd.pd.pa.pa 1) (d := 45) T (by decide) hT10 (v := .bool false) (by kernel_rfl) (by kernel_rfl) (by decide) (by kernel_rfl) (by kernel_rfl) (congrArg some (n_ngeq hx)) (fun a11 hT11 => ?_)
  refine Gz.row T K (by decide) hT11 [] [2, 3, 4, 5] [] [49, 11, 10, 0, 5, 7, 8, 33, 34, 35] (g' := [(49, .bool false), (11, .pointer (some ⟨tb, 0, none⟩)), (10, .int .i64 x), (0, .int .i64 nn), (5, .slice (some ⟨gb, 0, none⟩) N gc), (7, .slice pa p pc), (8, .int .i64 k), (33, .slice (some ⟨lb, lz, none⟩) N cap), (34, .int .i64 N), (35, .int .i64 i)]) (qs := []) (by kernel_rfl) (by kernel_rfl) (by simp) (fun a12 hT12 => ?_)
  refine Gz.rend T ?_
  refine Gz.condFE (q := .tmp 49) (y := c203.pd.pd.pd.pd.pd.pd.pd.pa.pd.pa.pa.pd.pd.pa.pa.pd.pd.pa.pd.pa) (z := c203.pd.pd.pd.pd.pd.pd.pd.pa.pd.pa.pa.pd.pd.pa.pa.pd.pd.pa.pd.pd) T (by kernel_rfl) hT12 (by kernel_rfl) ?_
  refine Gz.skipE T (by kernel_rfl) ?_
  refine Gz.seqE T (by kernel_rfl : c203.pd.pd.pd.pd.pd.pd.pd.pa.pd.pa.pa.pd.pd.pa.pa.pd.pd.pd = .seq c203.pd.pd.pd.pd.pd.pd.pd.pa.pd.pa.pa.pd.pd.pa.pa.pd.pd.pd.pa c203.pd.pd.pd.pd.pd.pd.pd.pa.pd.pa.pa.pd.pd.pa.pa.pd.pd.pd.pd) ?_
  refine Gz.seqE T (by kernel_rfl : c203.pd.pd.pd.pd.pd.pd.pd.pa.pd.pa.pa.pd.pd.pa.pa.pd.pd.pd.pa = .seq c203.pd.pd.pd.pd.pd.pd.pd.pa.pd.pa.pa.pd.pd.pa.pa.pd.pd.pd.pa.pa c203.pd.pd.pd.pd.pd.pd.pd.pa.pd.pa.pa.pd.pd.pa.pa.pd.pd.pd.pa.pd) ?_
  refine Gz.regionE (id := 16) (l := c203.pd.pd.pd.pd.pd.pd.pd.pa.pd.pa.pa.pd.pd.pa.pa.pd.pd.pd.pa.pa.po) (r := [0, 1, 2, 3, 4, 5]) T (by kernel_rfl) (by kernel_rfl) ?_
  refine Gz.row T K (by decide) hT12 [] [0] [1, 2, 3, 4, 5] [54, 11, 10, 0, 5, 7, 8, 33, 34, 35] (g' := [(54, .int .i64 x), (11, .pointer (some ⟨tb, 0, none⟩)), (10, .int .i64 x), (0, .int .i64 nn), (5, .slice (some ⟨gb, 0, none⟩) N gc), (7, .slice pa p pc), (8, .int .i64 k), (33, .slice (some ⟨lb, lz, none⟩) N cap), (34, .int .i64 N), (35, .int .i64 i)]) (qs := []) (by kernel_rfl) (by kernel_rfl) (by simp) (fun a13 hT13 => ?_)
  refine Gz.hint (o := opq c203.pd.pd.pd.pd.pd.pd.pd.pa.pd.pa.pa.pd.pd.pa.pa.pd.pd.pd.pa.pa 1) (d := 55) T (by decide) hT13 (v := .bool true) (by kernel_rfl) (by kernel_rfl) (by decide) (by kernel_rfl) (by kernel_rfl) (congrArg some (n_neg hx)) (fun a14 hT14 => ?_)
  refine Gz.row T K (by decide) hT14 [] [2, 3] [4, 5] [57, 56, 11, 10, 0, 5, 7, 8, 33, 34, 35] (g' := [(57, .pointer (some ⟨tb, 1, none⟩)), (56, .bool true), (11, .pointer (some ⟨tb, 0, none⟩)), (10, .int .i64 x), (0, .int .i64 nn), (5, .slice (some ⟨gb, 0, none⟩) N gc), (7, .slice pa p pc), (8, .int .i64 k), (33, .slice (some ⟨lb, lz, none⟩) N cap), (34, .int .i64 N), (35, .int .i64 i)]) (qs := []) (by kernel_rfl) (by kernel_rfl) (by simp) (fun a15 hT15 => ?_)
  refine Gz.load (o := opq c203.pd.pd.pd.pd.pd.pd.pd.pa.pd.pa.pa.pd.pd.pa.pa.pd.pd.pd.pa.pa 4) (d := 58) (X := 4) (y := .tmp 57) (ad := ⟨tb, 1, none⟩) T K (by decide) hT15 (v := .bool false) (by kernel_rfl) (by kernel_rfl) (by decide) (by kernel_rfl) (by kernel_rfl) (by kernel_rfl) (by kernel_rfl) (by kernel_rfl) (hH.cl hs (by omega) (j := 0) (off := 1) (arr := #[.int .i64 y, .bool false, .int .i64 len]) (u := .bool false) rfl rfl) (fun a16 hT16 => ?_)
  refine Gz.row T K (by decide) hT16 [] [5] [] [59, 11, 10, 0, 5, 7, 8, 33, 34, 35] (g' := [(59, .bool false), (11, .pointer (some ⟨tb, 0, none⟩)), (10, .int .i64 x), (0, .int .i64 nn), (5, .slice (some ⟨gb, 0, none⟩) N gc), (7, .slice pa p pc), (8, .int .i64 k), (33, .slice (some ⟨lb, lz, none⟩) N cap), (34, .int .i64 N), (35, .int .i64 i)]) (qs := []) (by kernel_rfl) (by kernel_rfl) (by simp) (fun a17 hT17 => ?_)
  refine Gz.rend T ?_
  refine Gz.condFE (q := .tmp 59) (y := c203.pd.pd.pd.pd.pd.pd.pd.pa.pd.pa.pa.pd.pd.pa.pa.pd.pd.pd.pa.pd.pa) (z := c203.pd.pd.pd.pd.pd.pd.pd.pa.pd.pa.pa.pd.pd.pa.pa.pd.pd.pd.pa.pd.pd) T (by kernel_rfl) hT17 (by kernel_rfl) ?_
  refine Gz.skipE T (by kernel_rfl) ?_
  refine Gz.seqE T (by kernel_rfl : c203.pd.pd.pd.pd.pd.pd.pd.pa.pd.pa.pa.pd.pd.pa.pa.pd.pd.pd.pd = .seq c203.pd.pd.pd.pd.pd.pd.pd.pa.pd.pa.pa.pd.pd.pa.pa.pd.pd.pd.pd.pa c203.pd.pd.pd.pd.pd.pd.pd.pa.pd.pa.pa.pd.pd.pa.pa.pd.pd.pd.pd.pd) ?_
  refine Gz.regionE (id := 20) (l := c203.pd.pd.pd.pd.pd.pd.pd.pa.pd.pa.pa.pd.pd.pa.pa.pd.pd.pd.pd.pa.po) (r := [0, 1, 2, 3, 4, 5, 6, 7, 8, 9, 10, 11, 12, 13, 14, 15, 16, 17, 18, 19, 20, 21, 22, 23, 24, 25, 26, 27, 28, 29, 30, 31, 32, 33, 34, 35, 36, 37, 38, 39, 40, 41]) T (by kernel_rfl) (by kernel_rfl) ?_
  refine Gz.row T K (by decide) hT17 [] [0] [1, 2, 3, 4, 5, 6, 7, 8, 9, 10, 11, 12, 13, 14, 15, 16, 17, 18, 19, 20, 21, 22, 23, 24, 25, 26, 27, 28, 29, 30, 31, 32, 33, 34, 35, 36, 37, 38, 39, 40, 41] [75, 11, 10, 0, 5, 7, 8, 33, 34, 35] (g' := [(75, .pointer (some ⟨tb, 2, none⟩)), (11, .pointer (some ⟨tb, 0, none⟩)), (10, .int .i64 x), (0, .int .i64 nn), (5, .slice (some ⟨gb, 0, none⟩) N gc), (7, .slice pa p pc), (8, .int .i64 k), (33, .slice (some ⟨lb, lz, none⟩) N cap), (34, .int .i64 N), (35, .int .i64 i)]) (qs := []) (by kernel_rfl) (by kernel_rfl) (by simp) (fun a18 hT18 => ?_)
  refine Gz.load (o := opq c203.pd.pd.pd.pd.pd.pd.pd.pa.pd.pa.pa.pd.pd.pa.pa.pd.pd.pd.pd.pa 1) (d := 76) (X := 3) (y := .tmp 75) (ad := ⟨tb, 2, none⟩) T K (by decide) hT18 (v := .int .i64 len) (by kernel_rfl) (by kernel_rfl) (by decide) (by kernel_rfl) (by kernel_rfl) (by kernel_rfl) (by kernel_rfl) (by kernel_rfl) (hH.cl hs (by omega) (j := 0) (off := 2) (arr := #[.int .i64 y, .bool false, .int .i64 len]) (u := .int .i64 len) rfl rfl) (fun a19 hT19 => ?_)
  refine Gz.row T K (by decide) hT19 [] [2, 3, 4] [5, 6, 7, 8, 9, 10, 11, 12, 13, 14, 15, 16, 17, 18, 19, 20, 21, 22, 23, 24, 25, 26, 27, 28, 29, 30, 31, 32, 33, 34, 35, 36, 37, 38, 39, 40, 41] [79, 78, 76, 11, 10, 0, 5, 7, 8, 33, 34, 35] (g' := [(79, .int .i64 k), (78, .int .i64 p), (76, .int .i64 len), (11, .pointer (some ⟨tb, 0, none⟩)), (10, .int .i64 x), (0, .int .i64 nn), (5, .slice (some ⟨gb, 0, none⟩) N gc), (7, .slice pa p pc), (8, .int .i64 k), (33, .slice (some ⟨lb, lz, none⟩) N cap), (34, .int .i64 N), (35, .int .i64 i)]) (qs := []) (by kernel_rfl) (by kernel_rfl) (by simp) (fun a20 hT20 => ?_)
  refine Gz.hint (o := opq c203.pd.pd.pd.pd.pd.pd.pd.pa.pd.pa.pa.pd.pd.pa.pa.pd.pd.pd.pd.pa 5) (d := 80) T (by decide) hT20 (v := .int .i64 len) (by kernel_rfl) (by kernel_rfl) (by decide) (by kernel_rfl) (by kernel_rfl) ((n_subE hl (by omega))) (fun a21 hT21 => ?_)
  refine Gz.hint (o := opq c203.pd.pd.pd.pd.pd.pd.pd.pa.pd.pa.pa.pd.pd.pa.pa.pd.pd.pd.pd.pa 6) (d := 81) T (by decide) hT21 (v := .bool false) (by kernel_rfl) (by kernel_rfl) (by decide) (by kernel_rfl) (by kernel_rfl) (congrArg some (n_neq rfl)) (fun a22 hT22 => ?_)
  refine Gz.row T K (by decide) hT22 [] [7, 8] [9, 10, 11, 12, 13, 14, 15, 16, 17, 18, 19, 20, 21, 22, 23, 24, 25, 26, 27, 28, 29, 30, 31, 32, 33, 34, 35, 36, 37, 38, 39, 40, 41] [83, 82, 11, 10, 0, 5, 7, 8, 33, 34, 35] (g' := [(83, .pointer (some ⟨tb, 2, none⟩)), (82, .bool false), (11, .pointer (some ⟨tb, 0, none⟩)), (10, .int .i64 x), (0, .int .i64 nn), (5, .slice (some ⟨gb, 0, none⟩) N gc), (7, .slice pa p pc), (8, .int .i64 k), (33, .slice (some ⟨lb, lz, none⟩) N cap), (34, .int .i64 N), (35, .int .i64 i)]) (qs := []) (by kernel_rfl) (by kernel_rfl) (by simp) (fun a23 hT23 => ?_)
  refine Gz.load (o := opq c203.pd.pd.pd.pd.pd.pd.pd.pa.pd.pa.pa.pd.pd.pa.pa.pd.pd.pd.pd.pa 9) (d := 84) (X := 3) (y := .tmp 83) (ad := ⟨tb, 2, none⟩) T K (by decide) hT23 (v := .int .i64 len) (by kernel_rfl) (by kernel_rfl) (by decide) (by kernel_rfl) (by kernel_rfl) (by kernel_rfl) (by kernel_rfl) (by kernel_rfl) (hH.cl hs (by omega) (j := 0) (off := 2) (arr := #[.int .i64 y, .bool false, .int .i64 len]) (u := .int .i64 len) rfl rfl) (fun a24 hT24 => ?_)
  refine Gz.row T K (by decide) hT24 [] [10] [11, 12, 13, 14, 15, 16, 17, 18, 19, 20, 21, 22, 23, 24, 25, 26, 27, 28, 29, 30, 31, 32, 33, 34, 35, 36, 37, 38, 39, 40, 41] [85, 84, 82, 11, 10, 0, 5, 7, 8, 33, 34, 35] (g' := [(85, .int .i64 nn), (84, .int .i64 len), (82, .bool false), (11, .pointer (some ⟨tb, 0, none⟩)), (10, .int .i64 x), (0, .int .i64 nn), (5, .slice (some ⟨gb, 0, none⟩) N gc), (7, .slice pa p pc), (8, .int .i64 k), (33, .slice (some ⟨lb, lz, none⟩) N cap), (34, .int .i64 N), (35, .int .i64 i)]) (qs := []) (by kernel_rfl) (by kernel_rfl) (by simp) (fun a25 hT25 => ?_)
  refine Gz.hint (o := opq c203.pd.pd.pd.pd.pd.pd.pd.pa.pd.pa.pa.pd.pd.pa.pa.pd.pd.pd.pd.pa 11) (d := 86) T (by decide) hT25 (v := .bool false) (by kernel_rfl) (by kernel_rfl) (by decide) (by kernel_rfl) (by kernel_rfl) (congrArg some (n_nlt (by omega))) (fun a26 hT26 => ?_)
  refine Gz.row T K (by decide) hT26 [] [12, 13, 14] [15, 16, 17, 18, 19, 20, 21, 22, 23, 24, 25, 26, 27, 28, 29, 30, 31, 32, 33, 34, 35, 36, 37, 38, 39, 40, 41] [89, 88, 11, 10, 0, 5, 7, 8, 33, 34, 35] (g' := [(89, .int .i64 x), (88, .bool false), (11, .pointer (some ⟨tb, 0, none⟩)), (10, .int .i64 x), (0, .int .i64 nn), (5, .slice (some ⟨gb, 0, none⟩) N gc), (7, .slice pa p pc), (8, .int .i64 k), (33, .slice (some ⟨lb, lz, none⟩) N cap), (34, .int .i64 N), (35, .int .i64 i)]) (qs := []) (by kernel_rfl) (by kernel_rfl) (by simp) (fun a27 hT27 => ?_)
  refine Gz.hint (o := opq c203.pd.pd.pd.pd.pd.pd.pd.pa.pd.pa.pa.pd.pd.pa.pa.pd.pd.pd.pd.pa 15) (d := 90) T (by decide) hT27 (v := .bool false) (by kernel_rfl) (by kernel_rfl) (by decide) (by kernel_rfl) (by kernel_rfl) (congrArg some (n_ngeq hx)) (fun a28 hT28 => ?_)
  refine Gz.row T K (by decide) hT28 [] [16, 17, 18, 19, 20, 21, 22, 23, 24, 25, 26, 27, 28, 29] [30, 31, 32, 33, 34, 35, 36, 37, 38, 39, 40, 41] [104, 103, 11, 0, 5, 7, 8, 33, 34, 35] (g' := [(104, .int .i64 x), (103, .bool false), (11, .pointer (some ⟨tb, 0, none⟩)), (0, .int .i64 nn), (5, .slice (some ⟨gb, 0, none⟩) N gc), (7, .slice pa p pc), (8, .int .i64 k), (33, .slice (some ⟨lb, lz, none⟩) N cap), (34, .int .i64 N), (35, .int .i64 i)]) (qs := []) (by kernel_rfl) (by kernel_rfl) (by simp) (fun a29 hT29 => ?_)
  refine Gz.hint (o := opq c203.pd.pd.pd.pd.pd.pd.pd.pa.pd.pa.pa.pd.pd.pa.pa.pd.pd.pd.pd.pa 30) (d := 105) T (by decide) hT29 (v := .bool true) (by kernel_rfl) (by kernel_rfl) (by decide) (by kernel_rfl) (by kernel_rfl) (congrArg some (n_neg hx)) (fun a30 hT30 => ?_)
  refine Gz.row T K (by decide) hT30 [] [31, 32] [33, 34, 35, 36, 37, 38, 39, 40, 41] [107, 106, 103, 11, 0, 5, 7, 8, 33, 34, 35] (g' := [(107, .pointer (some ⟨tb, 1, none⟩)), (106, .bool true), (103, .bool false), (11, .pointer (some ⟨tb, 0, none⟩)), (0, .int .i64 nn), (5, .slice (some ⟨gb, 0, none⟩) N gc), (7, .slice pa p pc), (8, .int .i64 k), (33, .slice (some ⟨lb, lz, none⟩) N cap), (34, .int .i64 N), (35, .int .i64 i)]) (qs := []) (by kernel_rfl) (by kernel_rfl) (by simp) (fun a31 hT31 => ?_)
  refine Gz.load (o := opq c203.pd.pd.pd.pd.pd.pd.pd.pa.pd.pa.pa.pd.pd.pa.pa.pd.pd.pd.pd.pa 33) (d := 108) (X := 4) (y := .tmp 107) (ad := ⟨tb, 1, none⟩) T K (by decide) hT31 (v := .bool false) (by kernel_rfl) (by kernel_rfl) (by decide) (by kernel_rfl) (by kernel_rfl) (by kernel_rfl) (by kernel_rfl) (by kernel_rfl) (hH.cl hs (by omega) (j := 0) (off := 1) (arr := #[.int .i64 y, .bool false, .int .i64 len]) (u := .bool false) rfl rfl) (fun a32 hT32 => ?_)
  refine Gz.row T K (by decide) hT32 [] [34, 35, 36, 37] [38, 39, 40, 41] [112, 111, 103, 0, 5, 7, 8, 33, 34, 35] (g' := [(112, .pointer (some ⟨tb, 2, none⟩)), (111, .bool true), (103, .bool false), (0, .int .i64 nn), (5, .slice (some ⟨gb, 0, none⟩) N gc), (7, .slice pa p pc), (8, .int .i64 k), (33, .slice (some ⟨lb, lz, none⟩) N cap), (34, .int .i64 N), (35, .int .i64 i)]) (qs := []) (by kernel_rfl) (by kernel_rfl) (by simp) (fun a33 hT33 => ?_)
  refine Gz.load (o := opq c203.pd.pd.pd.pd.pd.pd.pd.pa.pd.pa.pa.pd.pd.pa.pa.pd.pd.pd.pd.pa 38) (d := 113) (X := 3) (y := .tmp 112) (ad := ⟨tb, 2, none⟩) T K (by decide) hT33 (v := .int .i64 len) (by kernel_rfl) (by kernel_rfl) (by decide) (by kernel_rfl) (by kernel_rfl) (by kernel_rfl) (by kernel_rfl) (by kernel_rfl) (hH.cl hs (by omega) (j := 0) (off := 2) (arr := #[.int .i64 y, .bool false, .int .i64 len]) (u := .int .i64 len) rfl rfl) (fun a34 hT34 => ?_)
  refine Gz.hint (o := opq c203.pd.pd.pd.pd.pd.pd.pd.pa.pd.pa.pa.pd.pd.pa.pa.pd.pd.pd.pd.pa 39) (d := 114) T (by decide) hT34 (v := .bool false) (by kernel_rfl) (by kernel_rfl) (by decide) (by kernel_rfl) (by kernel_rfl) (congrArg some (n_zero h0)) (fun a35 hT35 => ?_)
  refine Gz.row T K (by decide) hT35 [] [40, 41] [] [116, 0, 5, 7, 8, 33, 34, 35] (g' := [(116, .bool false), (0, .int .i64 nn), (5, .slice (some ⟨gb, 0, none⟩) N gc), (7, .slice pa p pc), (8, .int .i64 k), (33, .slice (some ⟨lb, lz, none⟩) N cap), (34, .int .i64 N), (35, .int .i64 i)]) (qs := []) (by kernel_rfl) (by kernel_rfl) (by simp) (fun a36 hT36 => ?_)
  refine Gz.rend T ?_
  refine Gz.condFE (q := .tmp 116) (y := c203.pd.pd.pd.pd.pd.pd.pd.pa.pd.pa.pa.pd.pd.pa.pa.pd.pd.pd.pd.pd.pa) (z := c203.pd.pd.pd.pd.pd.pd.pd.pa.pd.pa.pa.pd.pd.pa.pa.pd.pd.pd.pd.pd.pd) T (by kernel_rfl) hT36 (by kernel_rfl) ?_
  refine Gz.skipE T (by kernel_rfl) ?_
  refine Gz.out T ?_
  refine Gz.regionE (id := 22) (l := c203.pd.pd.pd.pd.pd.pd.pd.pa.pd.pa.pa.pd.pd.pd.po) (r := [0, 1]) T (by kernel_rfl) (by kernel_rfl) ?_
  refine Gz.hint (o := opq c203.pd.pd.pd.pd.pd.pd.pd.pa.pd.pa.pa.pd.pd.pd 0) (d := 117) T (by decide) hT36 (v := .int .i64 (((i + 1 : Nat) : Int))) (by kernel_rfl) (by kernel_rfl) (by decide) (by kernel_rfl) (by kernel_rfl) (n_inc (by omega)) (fun a37 hT37 => ?_)
  refine Gz.row T K (by decide) hT37 [] [1] [] [35, 0, 5, 7, 8, 33, 34] (g' := [(35, .int .i64 (((i + 1 : Nat) : Int))), (0, .int .i64 nn), (5, .slice (some ⟨gb, 0, none⟩) N gc), (7, .slice pa p pc), (8, .int .i64 k), (33, .slice (some ⟨lb, lz, none⟩) N cap), (34, .int .i64 N)]) (qs := []) (by kernel_rfl) (by kernel_rfl) (by simp) (fun a38 hT38 => ?_)
  refine Gz.rend T ?_
  refine Gz.again T ?_
  have h203LHead := hT38.live [0, 5, 7, 8, 33, 34, 35] (g' := [(0, .int .i64 nn), (5, .slice (some ⟨gb, 0, none⟩) N gc), (7, .slice pa p pc), (8, .int .i64 k), (33, .slice (some ⟨lb, lz, none⟩) N cap), (34, .int .i64 N), (35, .int .i64 (((i + 1 : Nat) : Int)))]) (by kernel_rfl)
  exact Goes.stop fun w₁ h₁ => ⟨_, _, ((hH.drop htb).more (by omega)).at h₁, a38, h203LHead, rfl⟩

end
end Go.Proofs.Ytdmiilgdkmbmeaa.Rg
namespace Go.Proofs.Ytdmiilgdkmbmeaa.Rg
open Go Go.Conc

theorem goes_then {P : Program} {x : Bool} {R : World → World → Prop} {D : World → World → Array Event → Prop} {Stop Stop' : Goroutine → World → Prop} {m : Nat} (hr : ∀ w, R w w) : ∀ {n : Nat} {g : Goroutine} {w : World}, Goes P x R D Stop n g w → (∀ g w, Stop g w → Goes P x R D Stop' m g w) → Goes P x R D Stop' (n + m) g w
  | 0, g, w, h, hs => Goes.mono (hs g w (h w (hr w))) (by omega)
  | n + 1, g, w, h, hs => by
    rcases h with h | ⟨hrun, hst⟩
    · exact Goes.mono (hs g w (h w (hr w))) (by omega)
    · rw [show n + 1 + m = (n + m) + 1 by omega]
      refine .inr ⟨hrun, fun w₁ r => ?_⟩
      obtain ⟨g', w', es, e, hd, hn⟩ := goes_elim (hst w₁ r)
      rw [e]
      exact ⟨hd, goes_then hr hn hs⟩
theorem at_refl (w : World) : AtRel w w := atRel_refl w
/-- The ring's own blocks, as they are where so much has been put in and taken out. -/
abbrev RK (Rb Sb nn p k : Nat) (arr : Array Value) : List (Nat × Obj) := [(Rb, .cells #[.slice (some ⟨Sb, 0, none⟩) nn nn, .int .i64 p, .int .i64 k] 56), (Sb, .cells arr 3)]
section
variable {w₀ w : World} {Shun : Loc → Prop} {B W : Nat} {lo bse N cap nn p k i len oc lb lz Rb Sb tb gb gc pc : Nat} {arr : Array Value} {oa la ga pa : Option Addr} {x y : Int} {ok : Bool} {xs : List Value} {g : Goroutine} {z : Nat → Int}
abbrev GW (B W : Nat) (Shun : Loc → Prop) (S : Goroutine → World → Prop) (n : Nat) (g : Goroutine) (w : World) : Prop := Goes Try.prog true AtRel (DL Shun B W) S n g w
/-- The end of a turn. -/
theorem q_mid (h : QT nn N cap la Rb tb oa oc i g) (htb : bse ≤ tb) (hH : Hp w₀ lo bse (3 * i + 1) ((tb, .cells #[.int .i64 y, .bool ok, .int .i64 0] 29) :: RK Rb Sb nn p k arr) 29 3 (.slice oa i oc) i xs w) (hs : ∀ ad : Addr, lo ≤ ad.block → ¬ Shun (.cell ad)) (hB : w₀.heap.size + (3 * N + 3) ≤ B) (hN : N ≤ 1048576) (hk : k ≤ p) (hp : p ≤ i + 1) (hi : i < N) :
    GW B W Shun (fun g w => ∃ oa oc, Hp w₀ lo bse (3 * (i + 1)) (RK Rb Sb nn p k arr) 29 3 (.slice oa (i + 1) oc) (i + 1) (xs ++ [.int .i64 y, .bool ok, .int .i64 ((p - k : Nat) : Int)]) w ∧ QHead nn N cap la Rb oa oc (i + 1) g) 8000 g w :=
  goes_then (n := 4000) (m := 4000) at_refl (Q_len h hH hs hB hN hk hp hi) fun _ _ ⟨hat, h'⟩ => Q_app h' htb (hH.at hat) hs hB hN hi
/-- Where the ring's loop stands. -/
def QI (w₀ : World) (lo bse nn N cap : Nat) (la : Option Addr) (Rb Sb : Nat) (z : Nat → Int) (i : Nat) (g : Goroutine) (w : World) : Prop :=
  ∃ oa oc arr, Hp w₀ lo bse (3 * i) (RK Rb Sb nn (qat nn z i).v.length (qat nn z i).k arr) 29 3 (.slice oa i oc) i (recs nn z i) w ∧ arr.size = nn ∧ Held nn arr (qat nn z i) ∧ QHead nn N cap la Rb oa oc i g
theorem q_step (h : QI w₀ lo bse nn N cap la Rb Sb z i g w) (hs : ∀ ad : Addr, lo ≤ ad.block → ¬ Shun (.cell ad)) (hB : w₀.heap.size + (3 * N + 3) ≤ B) (hN : N ≤ 1048576) (hn1 : 0 < nn) (hi : i < N) (hla : la = some ⟨lb, lz, none⟩) (hz : CL Shun B w₀ ⟨lb, i + lz, none⟩ (.int .i64 (z i))) (hlb : lb < lo) :
    GW B W Shun (QI w₀ lo bse nn N cap la Rb Sb z (i + 1)) 12000 g w := by
  obtain ⟨oa, oc, arr, hH, harr, hh, hq⟩ := h
  obtain ⟨h1, h2, h3⟩ := qat_ok nn z i
  have hbs := hH.lb
  have hz' : CL Shun B w ⟨lb, i + lz, none⟩ (.int .i64 (z i)) := hH.old hz (by show lb < bse; omega) fun p hp => by
    have := hH.los p hp
    show p.1 ≠ lb
    omega
  have hgo : qat nn z (i + 1) = qgo nn (qat nn z i) (z i) := rfl
  have hrec : recs nn z (i + 1) = recs nn z i ++ cellsOf (qtell nn (qat nn z i) (z i)) := rfl
  unfold QI
  rw [hgo, hrec]
  generalize qat nn z i = s at *
  unfold qgo qtell
  by_cases hx : 0 ≤ z i
  · rw [if_pos hx, if_pos hx]
    by_cases hf : s.v.length = s.k + nn
    · rw [if_pos hf, if_pos hf]
      refine goes_then (n := 4000) (m := 8000) at_refl (Q_full hq hH hs hB hN h3 h1 h2 hn1 hi hla hz' hx hf) fun g w ⟨tb, htb, hH, h'⟩ => gm (q_mid h' htb hH hs hB hN h1 (by omega) hi) fun g w ⟨oa, oc, hH, h'⟩ => ⟨oa, oc, arr, hH, harr, hh, h'⟩
    · rw [if_neg hf, if_neg hf]
      have hlt : s.v.length < s.k + nn := by omega
      refine goes_then (n := 4000) (m := 8000) at_refl (Q_put hq hH hs hB hN h3 h1 h2 hn1 hi hla hz' hx hlt harr) fun g w ⟨tb, htb, hH, h'⟩ => gm (q_mid (p := s.v.length + 1) h' htb hH hs hB hN (by omega) (by omega) hi) fun g w ⟨oa, oc, hH, h'⟩ => ⟨oa, oc, arr.setIfInBounds (s.v.length % nn) (.int .i64 (z i)), ?_, by rw [Array.size_setIfInBounds]; exact harr, held_put hh harr hn1 hlt _, h'⟩
      rw [List.length_append, List.length_singleton]
      exact hH
  · rw [if_neg hx, if_neg hx]
    by_cases hf : s.k = s.v.length
    · rw [if_pos hf, if_pos hf]
      refine goes_then (n := 4000) (m := 8000) at_refl (Q_none hq hH hs hB hN h3 h1 h2 hn1 hi hla hz' hx hf.symm) fun g w ⟨tb, htb, hH, h'⟩ => gm (q_mid h' htb hH hs hB hN h1 (by omega) hi) fun g w ⟨oa, oc, hH, h'⟩ => ⟨oa, oc, arr, ?_, harr, hh, h'⟩
      rw [show s.v.length - s.k = 0 by omega] at hH
      exact hH
    · rw [if_neg hf, if_neg hf]
      have hlt : s.k < s.v.length := by omega
      exact goes_then (n := 4000) (m := 8000) at_refl (Q_get hq hH hs hB hN h3 h1 h2 hn1 hi hla hz' hx hlt (hh _ (Nat.le_refl _) hlt)) fun g w ⟨tb, htb, hH, h'⟩ => gm (q_mid (k := s.k + 1) h' htb hH hs hB hN (by omega) (by omega) hi) fun g w ⟨oa, oc, hH, h'⟩ => ⟨oa, oc, arr, hH, harr, held_get hh, h'⟩
theorem q_loop (hs : ∀ ad : Addr, lo ≤ ad.block → ¬ Shun (.cell ad)) (hB : w₀.heap.size + (3 * N + 3) ≤ B) (hN : N ≤ 1048576) (hn1 : 0 < nn) (hla : 0 < N → la = some ⟨lb, lz, none⟩) (hz : ∀ i, i < N → CL Shun B w₀ ⟨lb, i + lz, none⟩ (.int .i64 (z i)) ∧ lb < lo) :
    ∀ (d i : Nat) (g : Goroutine) (w : World), i + d = N → QI w₀ lo bse nn N cap la Rb Sb z i g w → GW B W Shun (QI w₀ lo bse nn N cap la Rb Sb z N) (12000 * d) g w
  | 0, i, g, w, hi, h => by
    obtain rfl : i = N := by omega
    exact Goes.stop fun w₁ h₁ => by
      obtain ⟨oa, oc, arr, hH, h'⟩ := h
      exact ⟨oa, oc, arr, hH.at h₁, h'⟩
  | d + 1, i, g, w, hi, h => by
    rw [show 12000 * (d + 1) = 12000 + 12000 * d by omega]
    exact goes_then at_refl (q_step h hs hB hN hn1 (by omega) (hla (by omega)) (hz i (by omega)).1 (hz i (by omega)).2) fun g' w' h' => q_loop hs hB hN hn1 hla hz d (i + 1) g' w' (by omega) h'
/-- Where the law's loop stands. -/
def LI (w₀ : World) (lo bse nn N cap : Nat) (la ga : Option Addr) (gc : Nat) (z : Nat → Int) (i : Nat) (g : Goroutine) (w : World) : Prop :=
  ∃ pa pc, Hp w₀ lo bse (3 * i) [] 3 1 (.slice pa (qat nn z i).v.length pc) (qat nn z i).v.length (ints (qat nn z i).v) w ∧ LHead nn N cap la ga gc pa pc (qat nn z i).v.length (qat nn z i).k i g
theorem l_step (h : LI w₀ lo bse nn N cap la ga gc z i g w) (hs : ∀ ad : Addr, lo ≤ ad.block → ¬ Shun (.cell ad)) (hB : w₀.heap.size + (3 * N + 3) ≤ B) (hN : N ≤ 1048576) (hn1 : 0 < nn) (hi : i < N) (hla : la = some ⟨lb, lz, none⟩) (hga : ga = some ⟨gb, 0, none⟩) (hz : CL Shun B w₀ ⟨lb, i + lz, none⟩ (.int .i64 (z i))) (hlb : lb < bse) (hgb : gb < bse)
    (hg : ∀ t u, t < 3 → (cellsOf (qrec nn z i))[t]? = some u → CL Shun B w₀ ⟨gb, i * 3 + t, none⟩ u) : GW B W Shun (LI w₀ lo bse nn N cap la ga gc z (i + 1)) 4000 g w := by
  obtain ⟨pa, pc, hH, hq⟩ := h
  obtain ⟨h1, h2, h3⟩ := qat_ok nn z i
  have old : ∀ {ad : Addr} {u : Value}, CL Shun B w₀ ad u → ad.block < bse → CL Shun B w ad u := fun hc hb => hH.old hc hb fun p hp => by cases hp
  have hz' := old hz hlb
  have g0 := old (hg 0 _ (by omega) rfl) hgb
  have g1 := old (hg 1 _ (by omega) rfl) hgb
  have g2 := old (hg 2 _ (by omega) rfl) hgb
  have hgo : qat nn z (i + 1) = qgo nn (qat nn z i) (z i) := rfl
  unfold qrec at g0 g1 g2
  unfold LI
  rw [hgo]
  generalize qat nn z i = s at *
  unfold qgo
  unfold qtell at g0 g1 g2
  by_cases hx : 0 ≤ z i
  · rw [if_pos hx] at g0 g1 g2 ⊢
    by_cases hf : s.v.length = s.k + nn
    · rw [if_pos hf] at g0 g1 g2 ⊢
      exact L_b2 (pb := 0) (len := s.v.length - s.k) hq hH hs hB hN h3 h1 hi hla hga hz' g0 g1 g2 hx (by omega) (by omega) (by omega)
    · rw [if_neg hf] at g0 g1 g2 ⊢
      refine gm (L_b1 (pb := 0) (len := s.v.length + 1 - s.k) hq hH hs hB hN h3 h1 hi hla hga hz' g0 g1 g2 hx (by omega) (by omega)) fun g w ⟨pa, pc, hH, h'⟩ => ⟨pa, pc, ?_, ?_⟩
      · rw [List.length_append, List.length_singleton, ints_put]; exact hH
      · rw [List.length_append, List.length_singleton]; exact h'
  · rw [if_neg hx] at g0 g1 g2 ⊢
    by_cases hf : s.k = s.v.length
    · rw [if_pos hf] at g0 g1 g2 ⊢
      exact L_b4 (pb := 0) (len := 0) hq hH hs hB hN h3 h1 hi hla hga hz' g0 g1 g2 hx (by omega) rfl
    · rw [if_neg hf] at g0 g1 g2 ⊢
      have hlt : s.k < s.v.length := by omega
      obtain ⟨pb, hpa, _⟩ := hH.rowhead (by omega)
      exact L_b3 (p := s.v.length) (k := s.k) (len := s.v.length - (s.k + 1)) hq hH hs hB hN h3 h1 hi hla hga hz' g0 g1 g2 hx (by omega) (by omega) hlt (ints_get hlt) hpa
theorem l_loop (hs : ∀ ad : Addr, lo ≤ ad.block → ¬ Shun (.cell ad)) (hB : w₀.heap.size + (3 * N + 3) ≤ B) (hN : N ≤ 1048576) (hn1 : 0 < nn) (hla : 0 < N → la = some ⟨lb, lz, none⟩) (hga : 0 < N → ga = some ⟨gb, 0, none⟩) (hz : ∀ i, i < N → CL Shun B w₀ ⟨lb, i + lz, none⟩ (.int .i64 (z i)) ∧ lb < bse) (hg : ∀ i, i < N → gb < bse ∧ ∀ t u, t < 3 → (cellsOf (qrec nn z i))[t]? = some u → CL Shun B w₀ ⟨gb, i * 3 + t, none⟩ u) :
    ∀ (d i : Nat) (g : Goroutine) (w : World), i + d = N → LI w₀ lo bse nn N cap la ga gc z i g w → GW B W Shun (LI w₀ lo bse nn N cap la ga gc z N) (4000 * d) g w
  | 0, i, g, w, hi, h => by
    obtain rfl : i = N := by omega
    exact Goes.stop fun w₁ h₁ => by
      obtain ⟨pa, pc, hH, h'⟩ := h
      exact ⟨pa, pc, hH.at h₁, h'⟩
  | d + 1, i, g, w, hi, h => by
    rw [show 4000 * (d + 1) = 4000 + 4000 * d by omega]
    exact goes_then at_refl (l_step h hs hB hN hn1 (by omega) (hla (by omega)) (hga (by omega)) (hz i (by omega)).1 (hz i (by omega)).2 (hg i (by omega)).1 (hg i (by omega)).2) fun g' w' h' => l_loop hs hB hN hn1 hla hga hz hg d (i + 1) g' w' (by omega) h'
end
end Go.Proofs.Ytdmiilgdkmbmeaa.Rg
namespace Go.Proofs.Ytdmiilgdkmbmeaa.Rg
open Go Go.Conc
open Go.ConcN (sumTo)
open Go.RowKit (Below)

section
variable {Shun : Loc → Prop} {w : World} {B W N cap nn lb lz : Nat} {la : Option Addr} {z : Nat → Int} {n : Int}
theorem Hp.below {w₀ w : World} {lo base n : Nat} {K : List (Nat × Obj)} {E : TypeId} {sz : Nat} {v : Value} {k : Nat} {xs : List Value} (h : Hp w₀ lo base n K E sz v k xs w) : Below lo w₀ w :=
  ⟨h.os, h.tape, h.output, h.ge, fun b hb => h.rest b (by have := h.lb; omega) fun p hp => by have := h.los p hp; omega⟩
theorem Fk.below {w₀ w : World} {n : Nat} {K : List (Nat × Obj)} (h : Fk w₀ n K w) : Below w₀.heap.size w₀ w := ⟨h.os, h.tape, h.output, by rw [h.size]; omega, h.low⟩
theorem at_below {w w' : World} (h : AtRel w w') (b : Nat) : Below b w w' := by
  obtain ⟨d, rfl⟩ := h
  exact ⟨rfl, rfl, rfl, Nat.le_refl _, fun _ _ => rfl⟩
/-- plain.Ring and what the law asks of it. -/
theorem ring_all {b203 : Act} (hb203 : Tm b203 118 [(0, .int .i64 nn), (1, .slice la N cap)] []) {b205 : Act} (hb205 : Tm b205 48 [(0, .int .i64 nn), (1, .slice la N cap)] []) (hn1 : 1 ≤ nn) (hn2 : nn ≤ 65536) (hs : ∀ ad : Addr, w.heap.size ≤ ad.block → ¬ Shun (.cell ad)) (hB : w.heap.size + 6 * N + 8 ≤ B) (hN : N ≤ 1048576)
    (hl : Lin Shun w la N lb lz z) :
    GW B W Shun (fun g w₂ => Below w.heap.size w w₂ ∧ EndL g) (4000 + (12000 * N + (4000 + (4000 * N + 4000)))) (G ((base 5).at b205 [.code c205]) (((base 3).at b203 [.inRegion c203.pd.pd.pa.po.toArray [2, 3, 4, 5, 6, 7], .code c203.pd.pd.pd]) :: [])) w := by
  refine goes_then (n := 4000) at_refl (Q_new hb203 hb205 hn1 hn2 (Fk.start w)) fun g1 w1 ⟨hF, hq⟩ => ?_
  have hz1 : w1.heap.size = w.heap.size + 2 := hF.size
  have hb1 := hF.below
  have hH : Hp w1 w.heap.size w1.heap.size (3 * 0) (RK (w.heap.size + 1) (w.heap.size + 0) nn 0 0 (madeCells #[.int .i64 0] nn)) 29 3 (.slice none 0 0) 0 [] w1 := by
    refine ⟨by omega, Nat.le_refl _, Nat.le_refl _, by omega, fun _ _ _ => rfl, rfl, rfl, rfl, fun p hp => ?_, fun p hp => ?_, ?_, World.ownsRow_nil _ _ _ _, fun p hp => by simp [Value.ownBlock]⟩
    · simp only [RK, List.mem_cons, List.not_mem_nil, or_false] at hp
      rcases hp with rfl | rfl
      · exact hF.get (b := 1) (by simp)
      · exact hF.get (b := 0) (by simp)
    · simp only [RK, List.mem_cons, List.not_mem_nil, or_false] at hp
      rcases hp with rfl | rfl
      · show w.heap.size ≤ w.heap.size + 1; omega
      · show w.heap.size ≤ w.heap.size + 0; omega
    · simp
  have hQ : QI w1 w.heap.size w1.heap.size nn N cap la (w.heap.size + 1) (w.heap.size + 0) z 0 g1 w1 := ⟨none, 0, _, hH, size_madeCells _ _, held_nil _ _, hq⟩
  have hc1 : ∀ i, i < N → CL Shun B w1 ⟨lb, i + lz, none⟩ (.int .i64 (z i)) ∧ lb < w.heap.size := fun i hi => by
    obtain ⟨h1, h2, h3⟩ := hl.el i hi
    exact ⟨⟨by rw [cell_of_heap (hF.low lb h2)]; exact h1, by show lb < B; omega, h3⟩, h2⟩
  refine goes_then (n := 12000 * N) at_refl (q_loop (lb := lb) (lz := lz) hs (by omega) hN (by omega) hl.la hc1 N 0 g1 w1 (by omega) hQ) fun g2 w2 ⟨oa, oc, arr, hH2, harr, hh, hq2⟩ => ?_
  refine goes_then (n := 4000) at_refl (L_enter hq2 rfl) fun g3 w3 ⟨hat, hl3⟩ => ?_
  have hH3 := hH2.at hat
  have hz3 := hH3.size
  have hge3 := hH3.ge
  have hP : Hp w3 w.heap.size w3.heap.size (3 * 0) [] 3 1 (.slice none 0 0) 0 [] w3 :=
    ⟨by omega, Nat.le_refl _, Nat.le_refl _, by omega, fun _ _ _ => rfl, rfl, rfl, rfl, (fun p hp => by cases hp), (fun p hp => by cases hp), (by simp), World.ownsRow_nil _ _ _ _, (fun p hp => by cases hp)⟩
  have hL : LI w3 w.heap.size w3.heap.size nn N cap la oa oc z 0 g3 w3 := ⟨none, 0, hP, hl3⟩
  have hc3 : ∀ i, i < N → CL Shun B w3 ⟨lb, i + lz, none⟩ (.int .i64 (z i)) ∧ lb < w3.heap.size := fun i hi => by
    obtain ⟨h1, h2⟩ := hc1 i hi
    exact ⟨hH3.old h1 (by show lb < w1.heap.size; omega) fun p hp => by
      have := hH3.los p hp
      show p.1 ≠ lb
      omega, by omega⟩
  obtain ⟨gb, hga, hgb⟩ : ∃ gb, (0 < N → oa = some ⟨gb, 0, none⟩) ∧ ∀ i, i < N → gb < w3.heap.size ∧ ∀ t u, t < 3 → (cellsOf (qrec nn z i))[t]? = some u → CL Shun B w3 ⟨gb, i * 3 + t, none⟩ u := by
    by_cases h0 : 0 < N
    · obtain ⟨gb, rfl, h1, h2⟩ := hH3.rowhead h0
      exact ⟨gb, fun _ => rfl, fun i hi => ⟨h2, fun t u ht hu => hH3.rowcl hs (by omega) (by rw [recs_get nn z ht hi]; exact hu)⟩⟩
    · exact ⟨0, fun h => absurd h h0, fun i hi => by omega⟩
  refine goes_then (n := 4000 * N) at_refl (l_loop (lb := lb) (lz := lz) (gb := gb) hs (by omega) hN (by omega) hl.la hga hc3 hgb N 0 g3 w3 (by omega) hL) fun g4 w4 ⟨pa, pc, hH4, hl4⟩ => ?_
  exact gm (L_end hl4 rfl) fun g5 w5 ⟨hat5, he⟩ => ⟨((hb1.trans hH3.below).trans hH4.below).trans (at_below hat5 _), he⟩
theorem at_end {b203 : Act} {todo : List Item} (hT : Tm b203 118 [(4, .bool true)] []) (w : World) : stepG Try.prog true (G { (base 3).at b203 todo with mode := .returning } []) w = .ended (.done (.bool true)) w #[] := by
  have hr : Try.f3.results = #[.tmp 4] := by kernel_rfl
  have h4 : b203.tmps.getD 4 undef = .bool true := hT.val 4 _ rfl
  have h1 := results_tmp hr b203.tmps Try.prog w
  have h2 := events_results_tmp (P := Try.prog) (w := w) hr b203.tmps
  rw [h4] at h1
  have hi : Try.prog.inits.idxOf? 3 = none := by kernel_rfl
  simp [G, stepG, unwind, doReturn, Frame.at, base, hT.dfr, Try.func3, h1, h2, hi, seen_none, GStep.after]
theorem evL_of_dl : ∀ w w' es, DL Shun B W w w' es → ∀ e ∈ es, EvL Shun B e := fun _ _ es h e he => ⟨(h e he).1.1, (h e he).2.1, (h e he).2.2, (h e he).1.2.1⟩
/-- The last walk. -/
theorem last_walk {gs : Array Goroutine} {t : Trace} {q : Nat → Nat} {W₀ : World} {m : Nat} {a : Goroutine} (h0 : gs[0]? = some a) (hL : Leavers Try.prog t gs q) (hP : Past Shun B t) (hG : Goes Try.prog true AtRel (DL Shun B W) (fun g w₂ => Below W₀.heap.size W₀ w₂ ∧ EndL g) m a w) (sl : Option (Nat × Nat)) :
    ∃ N last o w' t', runNT Try.prog (N + 1) (crowd gs w sl) t = (.ended o w', t') ∧ runN Try.prog N (crowd gs w sl) = .next last ∧ step Try.prog last = .ended o w' ∧ Conc.Good Try.prog (fun v w' => v = .bool true ∧ Below W₀.heap.size W₀ w') last o w' t' := by
  refine beside_ends (sl := sl) evL_of_dl h0 hL hP (gm hG fun g w₂ ⟨hb, b3, todo, hT, e⟩ => ?_)
  subst e
  exact ⟨rfl, _, #[], at_end hT _, fun e he => by simp at he, rfl, hb⟩
theorem Thr.below {w w' : World} {cs : List Frame} {a : Goroutine} (h : Thr w N z cs a w') : Below w.heap.size w w' := ⟨h.os, h.tape, h.output, by have := h.size; omega, h.low⟩
theorem row_head {w : World} {base oc N : Nat} {oa : Option Addr} {xs : List Value} (h : w.ownsRow base 3 1 (.slice oa N oc) N xs) (hN : 0 < N) : ∃ ob, oa = some ⟨ob, 0, none⟩ ∧ base ≤ ob ∧ ob < w.heap.size ∧ ∀ i, i < N → w.cell? ⟨ob, i + 0, none⟩ = xs[i]? := by
  rcases h.2 with ⟨_, rfl⟩ | ⟨g, c, cur, h1, h2, h3, h4, h5, h6, h7⟩
  · omega
  · have e : oa = some ⟨g, 0, none⟩ := by simp only [Value.slice.injEq] at h1; exact h1.1
    refine ⟨g, e, h2, (Array.getElem?_eq_some_iff.1 h3).1, fun i hi => ?_⟩
    rw [← h7, List.getElem?_take_of_lt (by omega)]
    simp [World.cell?, h3]
theorem run_fin {P : Program} {Post : Value → World → Prop} {m M : Nat} {m₀ mm : Machine} {t : Trace} (h1 : runNT P m m₀ #[] = (.next mm, t)) (h : ∃ last o w' t', runNT P (M + 1) mm t = (Stepped.ended o w', t') ∧ runN P M mm = .next last ∧ step P last = .ended o w' ∧ Conc.Good P Post last o w' t') :
    ∃ M last o w' t', runNT P (M + 1) m₀ #[] = (Stepped.ended o w', t') ∧ runN P M m₀ = .next last ∧ step P last = .ended o w' ∧ Conc.Good P Post last o w' t' := by
  obtain ⟨last, o, w', t', h2, h3, h4, h5⟩ := h
  refine ⟨m + M, last, o, w', t', ?_, ?_, h4, h5⟩
  · rw [Nat.add_assoc, runNT_add, h1]; exact h2
  · rw [runN_add, ← runNT_fst P _ _ #[], h1]; exact h3
theorem law_enter (n : Int) (la : Option Addr) (N cap : Nat) : Frame.enter Try.prog 3 #[.int .i64 n, .slice la N cap] .normal = (base 3).at ⟨[Value.int .i64 n, .slice la N cap].toArray ++ Array.replicate 116 undef, []⟩ [.code c203] := by
  have hb : Try.f3.body = some c203 := by kernel_rfl
  have hn : Try.f3.ntmps = 118 := by kernel_rfl
  have h := enter_at (P := Try.prog) (c := c203) #[.int .i64 n, .slice la N cap] Try.func3 hb
  rw [hn] at h
  exact h
/-- ████ THE RUN. ████ -/
theorem law_run {W₀ : World} (hla : 0 < N → la = some ⟨lb, lz, none⟩) (hel : ∀ i, i < N → W₀.cell? ⟨lb, i + lz, none⟩ = some (.int .i64 (z i)) ∧ lb < W₀.heap.size) (hN : N ≤ 1048576) :
    ∃ M last o w' t', runNT Try.prog (M + 1) (solo (G (Frame.enter Try.prog 3 #[.int .i64 n, .slice la N cap] .normal) []) W₀) #[] = (.ended o w', t') ∧ runN Try.prog M (solo (G (Frame.enter Try.prog 3 #[.int .i64 n, .slice la N cap] .normal) []) W₀) = .next last ∧
      step Try.prog last = .ended o w' ∧ Conc.Good Try.prog (fun v w' => v = .bool true ∧ Below W₀.heap.size W₀ w') last o w' t' := by
  have hent := law_enter n la N cap
  have hT3 : Tm ⟨[Value.int .i64 n, .slice la N cap].toArray ++ Array.replicate 116 undef, []⟩ 118 [(0, .int .i64 n), (1, .slice la N cap)] [] := Tm.enter _ 116
  rw [hent, solo_eq_crowd]
  have hP0 : Past (fun _ => False) W₀.heap.size #[] := past_nil.mono (Nat.zero_le _)
  obtain ⟨n1, gs1, g1, w1, sl1, t1, q1, r1, z1, i1, s1, l1, p1⟩ := lone_walk (W := W₀.heap.size + 1) _ _ _ _ W₀ none _ _ (Nat.le_refl _) rfl (leavers_one Try.prog _) (Pd.of_past hP0 (by omega) (Nat.le_succ _)) (M_one (B := W₀.heap.size + 1) (W := W₀.heap.size + 1) (w₀ := W₀) hT3 (Fk.start W₀)) (fun g w ⟨_, h⟩ => by obtain ⟨_, _, _, _, _, _, e⟩ := h; rw [e]; rfl)
  obtain ⟨hF1, b3, b4, b5, hb3, hb4, hb5, e1⟩ := s1 w1 (atRel_refl w1)
  subst e1
  have hsz1 : w1.heap.size = W₀.heap.size + 1 := hF1.size
  have P1 : Past (fun _ => False) w1.heap.size t1 := by rw [hsz1]; exact p1.past
  obtain ⟨n2, gs2, a2, w2, sl2, t2, q2, r2, i2, l2, P2, hT2⟩ := through (nn := 1) (N := 1) (cap := 1) (lb := W₀.heap.size + 0) (lo := 0) (z := fun _ => 7) hb5 (Nat.le_refl _) (by omega) (by omega) i1 l1 P1 (fun _ _ h => h) ⟨fun _ => rfl, fun i hi => by
    obtain rfl : i = 0 := by omega
    exact ⟨(hF1.cell (b := 0) (off := 0) (arr := #[.int .i64 7]) (ty := 3) (by simp) rfl).1, by omega, fun h => h⟩⟩ sl1
  obtain ⟨oa, oc, b5', td, hown, hb5', ea⟩ := hT2.ret
  subst ea
  obtain ⟨ob, rfl, hob1, hob2, hcell⟩ := row_head hown (by omega)
  have hsz2 := hT2.size
  have hc2 : CL (fun l => False ∨ ∃ b, l = .cell b ∧ b.block = w1.heap.size + 8) w2.heap.size w2 ⟨ob, 0, none⟩ (.int .i64 7) := by
    refine ⟨?_, hob2, ?_⟩
    · have := hcell 0 (by omega)
      simpa using this
    · rintro (h | ⟨b, h, h'⟩)
      · exact h
      · cases h
        simp only at h'
        omega
  obtain ⟨n3, gs3, g3, w3, sl3, t3, q3, r3, z3, i3, s3, l3, p3⟩ := lone_walk (W := w2.heap.size) _ _ _ _ w2 sl2 t2 q2 (Nat.le_refl _) i2 l2 (Pd.of_past P2 (Nat.le_refl _) (Nat.le_refl _)) (M_two (W := w2.heap.size) (n := n) hb3 hb4 hb5' hc2) (fun g w ⟨_, h⟩ => by obtain ⟨_, _, _, _, e⟩ := h; rw [e]; rfl)
  obtain ⟨⟨d3, e3⟩, b3', b5'', hb3', hb5'', e3'⟩ := s3 w3 (atRel_refl w3)
  subst e3'
  have hsz3 : w3.heap.size = w2.heap.size := by rw [e3]; rfl
  have P3 : Past (fun l => False ∨ ∃ b, l = .cell b ∧ b.block = w1.heap.size + 8) w3.heap.size t3 := by rw [hsz3]; exact p3.past
  have hsh3 : ∀ ad : Addr, w3.heap.size ≤ ad.block → ¬ (False ∨ ∃ b, Loc.cell ad = .cell b ∧ b.block = w1.heap.size + 8) := fun ad had => by
    rintro (h | ⟨b, h, h'⟩)
    · exact h
    · cases h
      omega
  have hlow3 : ∀ b, b < W₀.heap.size → w3.heap[b]? = W₀.heap[b]? := fun b hb => by
    rw [e3]
    show w2.heap[b]? = _
    rw [hT2.low b (by omega)]
    exact hF1.low b hb
  have hB3 : Below W₀.heap.size W₀ w3 := by
    refine ⟨?_, ?_, ?_, by omega, hlow3⟩
    · rw [e3]; exact hT2.os.trans hF1.os
    · rw [e3]; exact hT2.tape.trans hF1.tape
    · rw [e3]; exact hT2.output.trans hF1.output
  have r123 := runs_then (runs_then r1 r2) r3
  have hbel : ∀ {w₂ : World}, Below w3.heap.size w3 w₂ → Below W₀.heap.size W₀ w₂ := fun h => hB3.trans ⟨h.os, h.tape, h.output, h.size, fun b hb => h.block b (by omega)⟩
  by_cases hok : 1 ≤ n ∧ n ≤ 65536
  · obtain ⟨nn, rfl⟩ : ∃ nn : Nat, n = (nn : Int) := ⟨n.toNat, by omega⟩
    have hl3 : Lin (fun l => False ∨ ∃ b, l = .cell b ∧ b.block = w1.heap.size + 8) w3 la N lb lz z := ⟨hla, fun i hi => by
      obtain ⟨h1, h2⟩ := hel i hi
      refine ⟨by rw [cell_of_heap (hlow3 lb h2)]; exact h1, by omega, ?_⟩
      rintro (h | ⟨b, h, h'⟩)
      · exact h
      · cases h
        simp only at h'
        omega⟩
    have hG := ring_all (B := w3.heap.size + 6 * N + 8) (W := 0) hb3' hb5'' (by omega) (by omega) hsh3 (Nat.le_refl _) hN hl3
    obtain ⟨M, hM⟩ := last_walk (W₀ := W₀) i3 l3 (P3.mono (by omega)) (gm hG fun g w₂ ⟨h, he⟩ => ⟨hbel h, he⟩) sl3
    exact run_fin r123 hM
  · by_cases hlo : n < 1
    · obtain ⟨M, hM⟩ := last_walk (W₀ := W₀) i3 l3 P3 (gm (Q_low (W := 0) (B := w3.heap.size) hb3' hb5'' hlo) fun g w₂ ⟨h, he⟩ => ⟨hbel (at_below h _), he⟩) sl3
      exact run_fin r123 hM
    · obtain ⟨M, hM⟩ := last_walk (W₀ := W₀) i3 l3 P3 (gm (Q_high (W := 0) (B := w3.heap.size) hb3' hb5'' (by omega)) fun g w₂ ⟨h, he⟩ => ⟨hbel (at_below h _), he⟩) sl3
      exact run_fin r123 hM
end
end Go.Proofs.Ytdmiilgdkmbmeaa.Rg
namespace Go.Proofs.Ytdmiilgdkmbmeaa.Rg
open Go Go.Conc Go.ChangeShapes

section
variable {H : Type} {enc : TypeId × Value → H}

theorem returnsInLeavingWide_of_cond_sized {a : Assume} {C : Checked} {os : Os} {f : FuncId} {fn : Func} {s : OpenSpec} {k : (H : Type) → List (DataW H) → Bool} (hk : s.cond = some k) {F : Stop.Interp} {conds : List PathCond} {apart fresh handsOn again : Bool}
    (own : ownKnob C.prog.godebug = none) (started : os.Started) (hfn : C.prog.funcs[f]? = some fn)
    (witness : ∃ (w : World) (tape : Tape) (i : Input), w.os = os ∧ (w.forCall tape i).Shaped C.prog ∧ i.vars = [] ∧ Input.okWide C.prog (w.forCall tape i) .any w.heap.size f i ∧
      s.pre6 enc C.prog fn conds apart (w.forCall tape i).memory i.args ∧ a.holds C.prog (lone (Frame.enter C.prog f i.args .normal) [] (w.forCall tape i)))
    (runs : ∀ (W : World) (base : Nat) (args : Array Value) (ds gs : List (DataW H)) (before : List MemPlace),
      (∀ (j : Nat) t v, fn.params[j]? = some t → args[j]? = some v → Value.okWide C.prog W .any base t v) →
      DataW.Whole enc C.prog fn.params.toList s.vars apart W args.toList ds gs before →
      conds.all (PathCond.test C.prog ⟨fn.params.toList, ds, s.bare.plain.varTypes C.prog, gs⟩) = true → k H (ds ++ gs) = true →
      (DataW.weightsEach C.prog (fn.params.toList ++ s.bare.plain.varTypes C.prog) (ds ++ gs)).all (· ≤ reachBytes) = true →
      a.holds C.prog (lone (Frame.enter C.prog f args .normal) [] W) →
      ∃ M last o w' t', runNT C.prog (M + 1) (solo (G (Frame.enter C.prog f args .normal) []) W) #[] = (.ended o w', t') ∧ runN C.prog M (solo (G (Frame.enter C.prog f args .normal) []) W) = .next last ∧
        step C.prog last = .ended o w' ∧ Conc.Good C.prog (fun v W' => (s.at F).post enc C.prog fn apart fresh handsOn again W args v W') last o w' t') :
    ReturnsInLeavingWide a C os f .any (s.pre6 enc C.prog fn conds apart) ((s.at F).post enc C.prog fn apart fresh handsOn again) := by
  refine returnsInLeavingWide_of_good own started witness ?_
  intro w tape i _ _ _ hok hpre hholds
  obtain ⟨_, _, _, fn', hfn', _, _, _, _, hval⟩ := hok
  have e : fn' = fn := Option.some.inj (hfn'.symm.trans hfn)
  subst e
  obtain ⟨ds, gs, before, hw, hc, hkk⟩ := (OpenSpec.pre_some hk conds apart _ _).1 hpre.1
  have hw' := DataW.Whole.of_heap (w' := w.forCall tape i) (by rfl) hw
  obtain ⟨M, last, o, w', t', h1, h2, h3, h4⟩ := runs (w.forCall tape i) w.heap.size i.args ds gs before hval hw' hc hkk (hpre.2.weights hw) hholds
  exact ⟨M, last, o, w', t', h1, h2, h3, h4.mono fun v hp => ChangeSpec.post_blind hp⟩

end

theorem holds_of_cond_leaving {p : Pinned} {s : OpenSpec} {c : OpenClaim} (f : FuncId) (fn : Func)
    (hn : c.program = p.name) (hs : c.sum = p.sum) (hsp : c.spec = s.name)
    (hstart : c.start = .entering) (hout : c.outside = []) (hin : c.inits = []) (hun : c.under = none) (hi4 : c.initsInPlace = [] ∧ c.initsUnfollowed = false ∧ c.initsRecurse = false ∧ c.initsNamed = [] ∧ c.initsPassed = []) (hnb : c.noBlocks = false) (hlv : c.leaving = true) (hfo : c.followed = none) (hnar : c.narrowed = s.cond.isSome) (hstill : c.still = false)
    (hfn : p.checked.prog.funcNamed c.func = some f) (hf : p.checked.prog.funcs[f]? = some fn)
    (closed : joinedFacts p.checked.prog f fn s.bare c = true)
    (hinst : fn.isInstance p.checked.prog c.origin c.targs) (hwrap : fn.isWrapper p.checked.prog c.wrapper c.mainSum)
    (h : ∀ os : Os, os.Started → ∀ (H : Type) (enc : TypeId × Value → H), (∀ a b, enc a = enc b → a = b) → ∀ F : Stop.Interp,
      ReturnsInLeavingWide c.assume p.checked os f .any (c.pre enc p.checked.prog fn s) ((s.at F).post enc p.checked.prog fn c.apart c.fresh c.handsOn c.again)) : c.holds p s := by
  simp only [joinedFacts, Bool.and_eq_true, beq_iff_eq, Array.all_eq_true_iff_forall_mem, List.all_eq_true, decide_eq_true_eq] at closed
  obtain ⟨⟨⟨⟨⟨⟨⟨⟨⟨⟨⟨⟨⟨⟨⟨⟨⟨⟨⟨⟨⟨⟨⟨⟨⟨⟨⟨⟨⟨⟨⟨k1, k2⟩, k3⟩, k4⟩, k5⟩, k6⟩, k7⟩, k8⟩, k9⟩, k10⟩, k11⟩, k12⟩, k13⟩, k14⟩, k15⟩, k16⟩, k17⟩, k17b⟩, k18⟩, k19⟩, k20⟩, k21⟩, k22⟩, k23⟩, k23b⟩, k24⟩, k24b⟩, k24c⟩, k25⟩, k26⟩, k27⟩, k28⟩ := closed
  have hq : ∀ os : Os, Stop.quiet p.checked.prog os := fun os k hk => by rw [k9] at hk; cases hk
  refine ⟨k1, hn, hs, hsp, k2, k3, by unfold OpenClaim.startFits; rw [hstart]; exact k24, by unfold OpenClaim.startTold; rw [hstart]; exact ⟨hin, hun, hi4⟩, f, fn, hfn, hf, ⟨k4, k19⟩, (fun hb => by rw [hnb] at hb; cases hb), by unfold OpenClaim.namedList; rw [hfo]; exact k5, hinst, hwrap,
    k6.trans k7.symm, ⟨k8.trans k9.symm, by unfold Program.envWorded; rw [k9]; rfl, k23b⟩, k10, k11, k12, k13, k14, ⟨k15, k27, k28⟩, ⟨k16, k20⟩, ⟨k17, k21, k25, k26⟩, ⟨k22, k24b, k24c, k17b⟩, (by rw [hout, hnar]; cases hsh : c.shortTexts with | none => simp | some _ => rw [hsh] at k23; cases k23), fun n hn' => varReadable_some (k18 n hn'),
    ⟨_, by unfold OpenClaim.world; rw [hout, hstart]; exact WideRow.started_initial, hq _⟩, [], by unfold OpenClaim.lists; rw [hfo], fun os st _ H enc inj => ?_⟩
  have st' : os.Started := by unfold OpenClaim.world at st; rw [hout, hstart] at st; exact st
  rw [OpenClaim.post_not_still hstill]
  unfold OpenClaim.form
  rw [hstart, k6]
  intro F
  have e1 : c.okInput = Input.okWide := by unfold OpenClaim.okInput; rw [hnb]
  have e2 : c.atReturn p.checked.prog = leavingAtReturn p.checked.prog := by unfold OpenClaim.atReturn; rw [hlv]
  have e3 : c.always p.checked.prog [] = nothingAlways := by unfold OpenClaim.always; rw [hfo]
  have e4 : s.post enc p.checked.prog fn F c.outside c.apart c.fresh c.handsOn c.again = (s.at F).post enc p.checked.prog fn c.apart c.fresh c.handsOn c.again := by rw [hout]; rfl
  rw [e1, e2, e3]
  show ReturnsInOpen _ _ _ _ _ _ _ _ (s.post enc p.checked.prog fn F c.outside c.apart c.fresh c.handsOn c.again) _ _
  rw [e4]
  exact h os st' H enc inj F k24

end Go.Proofs.Ytdmiilgdkmbmeaa.Rg
namespace Go.Proofs.Ytdmiilgdkmbmeaa
open Go.ChangeShapes Go.WideShapes Go.ChangeAt Go.RowKit

theorem Try.own : ownKnob Try.prog.godebug = none := by kernel_rfl
theorem Try.laidOut : laidOutB Try.prog = true := by kernel_rfl

section
variable {H : Type} {enc : TypeId × Value → H} {P : Program}
/-- All arguments at once. -/
theorem trodAll_stays (hl : laidOutB P = true) {W W' : World} {sp : Nat → Bool} (hb : Below W.heap.size W W') :
    ∀ {ts : List TypeId} {vs : List Value} {ds : List (DataW H)} {ps : List MemPlace}, (ts.all fun t => P.readableRec t && decide (t < P.types.size)) = true →
      DataW.TrodAll enc P W 0 (fun _ => true) true ts vs ds ps → (∀ x ∈ ps, x.block < W.heap.size) → (∀ x ∈ ps, sp x.block = true) → DataW.TrodAll enc P W' 0 sp true ts vs ds ps
  | [], _, _, _, _, h, _, _ => by obtain ⟨rfl, rfl, rfl⟩ := trodAll_nil h; exact trodAll_mk0
  | t :: ts, _, _, _, hr, h, hlt, hsp => by
    obtain ⟨v, vs, d, ds, p, q, rfl, rfl, rfl, h0, h1⟩ := trodAll_cons h
    simp only [List.all_cons, Bool.and_eq_true, decide_eq_true_eq] at hr
    exact trodAll_cons_mk (WideElems.Trod_stays hl hr.1.1 hr.1.2 h0 (fun x hx => hb.same (hlt x (by simp [hx]))) (fun x hx => hsp x (by simp [hx])))
      (trodAll_stays hl hb hr.2 h1 (fun x hx => hlt x (by simp [hx])) (fun x hx => hsp x (by simp [hx])))

/-- A law's post: true, and each argument reads as it did. -/
theorem law_post {f : Func} {s : ChangeSpec} {apart fresh handsOn again : Bool} {W W' : World} {args : Array Value} {ds : List (DataW H)} {before : List MemPlace} {tb : TypeId}
    (hW : DataW.Whole enc P f.params.toList s.vars apart W args.toList ds [] before) (hl : laidOutB P = true)
    (hv : s.vars = []) (hr : (f.params.toList.all fun t => P.readableRec t && decide (t < P.types.size)) = true) (hrt : f.resultTypes = #[tb]) (htb : P.underlying tb = some .bool)
    (hs : s.fn H (ds ++ []) = { results := [.lit (.bool true)], args := ds }) (hb : Below W.heap.size W W') :
    s.post enc P f apart fresh handsOn again W args (.bool true) W' := by
  have hlt : ∀ p ∈ before, p.block < W.heap.size := fun p hp => hW.lt p hp
  have hold : ∀ p ∈ before, (fun b => decide (b < W.heap.size)) p.block = true := fun p hp => by simpa using hlt p hp
  have hW0 := hW
  obtain ⟨p, q, hA, hV, hpq, hz, hn⟩ := hW
  have hq : q = [] := by rw [hv] at hV; exact (trodVars_none hV).2
  have hpq' : before = p := by rw [hpq, hq, List.append_nil]
  subst hpq'
  have hargs : ∀ sp : Nat → Bool, (∀ x ∈ before, sp x.block = true) → DataW.TrodAll enc P W' 0 sp true f.params.toList args.toList (s.fn H (ds ++ [])).args before := fun sp hsp => by
    rw [hs]; exact trodAll_stays hl hb hr hA hlt hsp
  have hvars : ∀ sp : Nat → Bool, DataW.TrodVars enc P W' sp s.vars (s.fn H (ds ++ [])).vars [] := fun sp => by rw [hs, hv]; rfl
  have hres : ∀ (b : Nat) (sp : Nat → Bool) (hd : Bool), DataW.TrodAll enc P W' b sp hd f.resultTypes.toList (Value.resultList f.resultTypes.size (.bool true)) (s.fn H (ds ++ [])).results [] := fun b sp hd => by
    rw [hrt, hs]; exact trodAll_mk1 (shut_bool htb true)
  have hok : ∀ (j : Nat) (t : TypeId) (r : Value), f.resultTypes[j]? = some t → (Value.resultList f.resultTypes.size (.bool true))[j]? = some r → Value.okWide P W' .any 0 t r := by
    exact ok_one (t := tb) hrt rfl (okWide_bool_mk htb true)
  refine ⟨ds, [], before, [], before, [], hW0, hres _ _ _, hargs _ hold, hvars _, World.keptBut_mono (fun p hp => ⟨hp, ?_⟩) (hb.frame (· ∈ before)), fun _ => ?_⟩
  · exact Or.inr (Or.inl hp)
  · refine ⟨hok, _, _, ([] ++ before) ++ [], ⟨[] ++ before, [], trodAll_append (hargs _ (fun _ _ => rfl)) (hres _ _ _), hvars _, rfl, ?_, ?_⟩, ?_⟩
    · intro b off hp
      have hin : MemPlace.cell b off ∈ before := by simpa using hp
      rw [hb.frozen (hlt _ hin)]
      exact hz b off hin
    · intro ha
      have := hn ha
      simpa using this
    · intro p hp _
      simpa using hp
end
end Go.Proofs.Ytdmiilgdkmbmeaa
