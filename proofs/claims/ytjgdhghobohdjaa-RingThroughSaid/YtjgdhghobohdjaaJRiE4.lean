/-
  RingThrough (RhU): printed by pm/rl.py. | RingThrough (RhW): printed by pm/rl.py. | RingThrough (HX): THROUGH, beside goroutines that only leave: from its entry to its return. | RingThrough (HY): THROUGH, beside goroutines that only leave: the phase. | RingThrough (HZ): the law's own way: printed by pm/rm.py, but for the rules ahead. | RingThrough (RiA): printed by pm/rm.py. | RingThrough (RiB): printed by pm/rm.py. | RingThrough (IC): the law, from its entry to its return, on whatever tape. | RingThrough (ID): the law, run: whatever the tape. | What every law's row of this seat needs: the arguments read behind the call as before it, whatever their types, if the call has turned nothing that was there.
-/
import Derived.Test.YtjgdhghobohdjaaJRiE3
import Derived.Test.YtjgdhghobohdjaaJRiE2
import Derived.Test.YtjgdhghobohdjaaRows
import Derived.WalkKit
import Derived.ProofKit
import Derived.OpenShut
import Derived.Lib.SmallJoins
import Derived.Below
import Derived.ChangeSame
import Derived.SizedLaws
namespace Go.Proofs.Ytjgdhghobohdjaa.Rg
open Go Go.Conc
section
variable {w₀ w : World} {Shun : Loc → Prop} {B W : Nat} {cs : List Frame} {nn N cap : Nat} {la : Option Addr} {k : Nat → Nat} {g : Goroutine}
theorem L_dis (h : LU1 w₀ cs nn N cap la k g) (hsh : ∀ ad : Addr, w₀.heap.size ≤ ad.block → ¬ Shun (.cell ad)) (hB : w₀.heap.size + 11 ≤ B) (hk : Kc k) :
    g.status = .running ∧ ∃ g', (∀ w, stepG Try.prog true g w = .go g' w #[mkE .disable]) ∧ ∀ w, Fk w₀ 11 [(10, .cells #[.func (.func 9) #[] #[.pointer (some ⟨w₀.heap.size + 0, 0, none⟩), .pointer (some ⟨w₀.heap.size + 3, 0, none⟩), .pointer (some ⟨w₀.heap.size + k 2, 0, none⟩), .pointer (some ⟨w₀.heap.size + k 3, 0, none⟩)]] 1), (9, .cells #[.pointer (some ⟨w₀.heap.size + 8, 0, none⟩)] 52), (8, .cells #[.int .u64 0, .int .u32 0] 43), (k 0, .chan 1 #[] false 0 0 false), (k 1, .chan 1 #[] false 0 0 false), (k 2, .cells #[.chan (some (w₀.heap.size + k 0))] 33), (k 3, .cells #[.chan (some (w₀.heap.size + k 1))] 33), (3, .cells #[.pointer (some ⟨w₀.heap.size + 2, 0, none⟩)] 29), (2, .cells #[.slice (some ⟨w₀.heap.size + 1, 0, none⟩) nn nn, .int .i64 0, .int .i64 0] 51), (1, .cells (madeCells #[.int .i64 0] nn) 3), (0, .cells #[.slice la N cap] 22)] w → Goes Try.prog true AtRel (DL Shun B W) (fun g w => Fk w₀ 11 [(8, .cells #[.int .u64 4294967296, .int .u32 0] 43), (10, .cells #[.func (.func 9) #[] #[.pointer (some ⟨w₀.heap.size + 0, 0, none⟩), .pointer (some ⟨w₀.heap.size + 3, 0, none⟩), .pointer (some ⟨w₀.heap.size + k 2, 0, none⟩), .pointer (some ⟨w₀.heap.size + k 3, 0, none⟩)]] 1), (9, .cells #[.pointer (some ⟨w₀.heap.size + 8, 0, none⟩)] 52), (k 0, .chan 1 #[] false 0 0 false), (k 1, .chan 1 #[] false 0 0 false), (k 2, .cells #[.chan (some (w₀.heap.size + k 0))] 33), (k 3, .cells #[.chan (some (w₀.heap.size + k 1))] 33), (3, .cells #[.pointer (some ⟨w₀.heap.size + 2, 0, none⟩)] 29), (2, .cells #[.slice (some ⟨w₀.heap.size + 1, 0, none⟩) nn nn, .int .i64 0, .int .i64 0] 51), (1, .cells (madeCells #[.int .i64 0] nn) 3), (0, .cells #[.slice la N cap] 22)] w ∧ LU2 w₀ cs nn N cap la k g) 4000 g' w := by
  obtain ⟨b5, b8, b14, hb5, hb8, hb14, rfl⟩ := h
  obtain ⟨a1, hT1, hst⟩ := step_mark0 (P := Try.prog) (x := true) (ops := c14.pa.pa.pd.pa.po.toArray) (i := 0) (o := opq c14.pa.pa.pd.pa 0) (d := 14) (f := 20) (ags := #[]) (ats := #[]) (k := [.code c14.pa.pa.pd.pd, .code c14.pd]) (rest := []) (cs := (((base 8).at b8 [.inRegion c8.pd.pa.po.toArray [1], .code c8.pd.pd]) :: ((base 5).at b5 [.inRegion c5.pd.pd.pd.pd.pd.pa.po.toArray [1], .code c5.pd.pd.pd.pd.pd.pd]) :: cs)) (b := (base 14)) .disable (fun _ h => by cases h) (by decide) hb14 (by kernel_rfl) (by kernel_rfl) (by decide) (by kernel_rfl) (by kernel_rfl) Try.func20 (by kernel_rfl) (by kernel_rfl) (by kernel_rfl) (by kernel_rfl)
  refine ⟨rfl, _, hst, fun w hF => ?_⟩
  have TD : Tmd AtRel (DL Shun B W) := tmdL
  have T := TD.toTms
  have K : ∀ w, Ken Try.prog AtRel (DL Shun B W) (fun _ _ => False) w := fun _ => ⟨fun _ _ hc => hc.elim⟩
  refine Gz.rend T ?_
  refine Gz.regionE (id := 3) (l := c14.pa.pa.pd.pd.po) (r := [0]) T (by kernel_rfl) (by kernel_rfl) ?_
  refine Mz.defer (o := opq c14.pa.pa.pd.pd 0) (q := .func 22) (f := 22) (cap := []) (ats := #[]) (mvG T) hT1 (by kernel_rfl) (by kernel_rfl) (by kernel_rfl) (by decide) rfl (by kernel_rfl) (by kernel_rfl) (fun a2 hT2 => ?_)
  refine Gz.rend T ?_
  refine Gz.seqE T (by kernel_rfl : c14.pd = .seq c14.pd.pa c14.pd.pd) ?_
  refine Gz.regionE (id := 4) (l := c14.pd.pa.po) (r := [0]) T (by kernel_rfl) (by kernel_rfl) ?_
  refine Gz.row T (K _) (by decide) hT2 [] [0] [] [4, 0, 1] (g' := [(4, .bool false), (0, .pointer (some ⟨w₀.heap.size + 8, 0, none⟩)), (1, .int .i64 1)]) (qs := []) (by kernel_rfl) (by kernel_rfl) (by simp) (fun a3 hT3 => ?_)
  refine Gz.rend T ?_
  refine Gz.seqE T (by kernel_rfl : c14.pd.pd = .seq c14.pd.pd.pa c14.pd.pd.pd) ?_
  refine Gz.seqE T (by kernel_rfl : c14.pd.pd.pa = .seq c14.pd.pd.pa.pa c14.pd.pd.pa.pd) ?_
  refine Gz.regionE (id := 5) (l := c14.pd.pd.pa.pa.po) (r := [0]) T (by kernel_rfl) (by kernel_rfl) ?_
  refine Mz.entry (o := opq c14.pd.pd.pa.pa 0) (d := 15) (f := 28) (ags := #[]) (ats := #[]) (mvG T) (by decide) hT3 (v := .bool false) (by kernel_rfl) (by kernel_rfl) (by decide) (by kernel_rfl) (by kernel_rfl) Try.func28 (by kernel_rfl) (by kernel_rfl) (by kernel_rfl) (by kernel_rfl) (fun a4 hT4 => ?_)
  refine Gz.rend T ?_
  refine Gz.condFE (q := .tmp 15) (y := c14.pd.pd.pa.pd.pa) (z := c14.pd.pd.pa.pd.pd) T (by kernel_rfl) hT4 (by kernel_rfl) ?_
  refine Gz.skipE T (by kernel_rfl) ?_
  refine Gz.seqE T (by kernel_rfl : c14.pd.pd.pd = .seq c14.pd.pd.pd.pa c14.pd.pd.pd.pd) ?_
  refine Gz.regionE (id := 15) (l := c14.pd.pd.pd.pa.po) (r := [0, 1, 2, 3, 4, 5, 6, 7]) T (by kernel_rfl) (by kernel_rfl) ?_
  refine Gz.row T (K _) (by decide) hT4 [] [0, 1, 2, 3, 4, 5] [6, 7] [42, 39, 4, 0, 1] (g' := [(42, .int .u64 4294967296), (39, .pointer (some ⟨w₀.heap.size + 8, 0, none⟩)), (4, .bool false), (0, .pointer (some ⟨w₀.heap.size + 8, 0, none⟩)), (1, .int .i64 1)]) (qs := []) (by kernel_rfl) (by kernel_rfl) (by simp) (fun a5 hT5 => ?_)
  refine Mz.enter (o := opq c14.pd.pd.pd.pa 6) (q := .func 34) (f := 34) (cc := c34) (cap := []) (args := #[.tmp 39, .tmp 42]) (ats := #[40, 38]) (mvG T) hT5 [.pointer (some ⟨w₀.heap.size + 8, 0, none⟩), .int .u64 4294967296] 10 (by kernel_rfl) (by kernel_rfl) (by decide) (by kernel_rfl) (by kernel_rfl) Try.func34 (by kernel_rfl) (by kernel_rfl) (by kernel_rfl) (by kernel_rfl) (by kernel_rfl) (fun a6 hT6 => ?_)
  refine Gz.seqE T (by kernel_rfl : c34 = .seq c34.pa c34.pd) ?_
  refine Gz.regionE (id := 0) (l := c34.pa.po) (r := [0]) T (by kernel_rfl) (by kernel_rfl) ?_
  refine Gz.row T (K _) (by decide) hT6 [] [0] [] [0, 1] (g' := [(0, .pointer (some ⟨w₀.heap.size + 8, 0, none⟩)), (1, .int .u64 4294967296)]) (qs := []) (by kernel_rfl) (by kernel_rfl) (by simp) (fun a7 hT7 => ?_)
  refine Gz.rend T ?_
  refine Gz.seqE T (by kernel_rfl : c34.pd = .seq c34.pd.pa c34.pd.pd) ?_
  refine Gz.regionE (id := 1) (l := c34.pd.pa.po) (r := [0, 1, 2, 3, 4, 5]) T (by kernel_rfl) (by kernel_rfl) ?_
  refine Gz.row T (K _) (by decide) hT7 [] [0, 1, 2, 3] [4, 5] [8, 7] (g' := [(8, .int .u64 4294967296), (7, .pointer (some ⟨w₀.heap.size + 8, 0, none⟩))]) (qs := []) (by kernel_rfl) (by kernel_rfl) (by simp) (fun a8 hT8 => ?_)
  refine Gz.ladd (w₀ := w₀) (N := 11) (K := [(10, .cells #[.func (.func 9) #[] #[.pointer (some ⟨w₀.heap.size + 0, 0, none⟩), .pointer (some ⟨w₀.heap.size + 3, 0, none⟩), .pointer (some ⟨w₀.heap.size + k 2, 0, none⟩), .pointer (some ⟨w₀.heap.size + k 3, 0, none⟩)]] 1), (9, .cells #[.pointer (some ⟨w₀.heap.size + 8, 0, none⟩)] 52), (8, .cells #[.int .u64 0, .int .u32 0] 43), (k 0, .chan 1 #[] false 0 0 false), (k 1, .chan 1 #[] false 0 0 false), (k 2, .cells #[.chan (some (w₀.heap.size + k 0))] 33), (k 3, .cells #[.chan (some (w₀.heap.size + k 1))] 33), (3, .cells #[.pointer (some ⟨w₀.heap.size + 2, 0, none⟩)] 29), (2, .cells #[.slice (some ⟨w₀.heap.size + 1, 0, none⟩) nn nn, .int .i64 0, .int .i64 0] 51), (1, .cells (madeCells #[.int .i64 0] nn) 3), (0, .cells #[.slice la N cap] 22)]) (K' := [(10, .cells #[.func (.func 9) #[] #[.pointer (some ⟨w₀.heap.size + 0, 0, none⟩), .pointer (some ⟨w₀.heap.size + 3, 0, none⟩), .pointer (some ⟨w₀.heap.size + k 2, 0, none⟩), .pointer (some ⟨w₀.heap.size + k 3, 0, none⟩)]] 1), (9, .cells #[.pointer (some ⟨w₀.heap.size + 8, 0, none⟩)] 52), (k 0, .chan 1 #[] false 0 0 false), (k 1, .chan 1 #[] false 0 0 false), (k 2, .cells #[.chan (some (w₀.heap.size + k 0))] 33), (k 3, .cells #[.chan (some (w₀.heap.size + k 1))] 33), (3, .cells #[.pointer (some ⟨w₀.heap.size + 2, 0, none⟩)] 29), (2, .cells #[.slice (some ⟨w₀.heap.size + 1, 0, none⟩) nn nn, .int .i64 0, .int .i64 0] 51), (1, .cells (madeCells #[.int .i64 0] nn) 3), (0, .cells #[.slice la N cap] 22)]) (o := opq c34.pd.pa 4) (d := 9) (f := 43) (ats := #[77, 38]) (y := .tmp 7) (z := .tmp 8) (v := 0) (e := 4294967296) (u := 4294967296) (bb := 8) (off := 0) (arr := #[.int .u64 0, .int .u32 0]) (arr' := #[.int .u64 4294967296, .int .u32 0]) (ty := 43) (by decide) hT8 hF (by kernel_rfl) (by kernel_rfl) (by decide) (by kernel_rfl) (by kernel_rfl) Try.func43 (by kernel_rfl) (by kernel_rfl) (by kernel_rfl) (by kernel_rfl) (by kernel_rfl) (by kernel_rfl) (by simp) rfl (by kernel_rfl) rfl (fun p hp => ?_) (by omega) (fun a9 w hT9 hF => ?_)
  · have r0 := hk.rng 0 (by omega)
    have r1 := hk.rng 1 (by omega)
    have r2 := hk.rng 2 (by omega)
    have r3 := hk.rng 3 (by omega)
    simp only [List.mem_cons, List.not_mem_nil, or_false] at hp
    rcases hp with rfl | rfl | rfl | rfl | rfl | rfl | rfl | rfl | rfl | rfl <;> exact ⟨by simp, by show _ ≠ 8; omega⟩
  refine Gz.row T (K _) (by decide) hT9 [] [5] [] [4] (g' := [(4, .int .u64 4294967296)]) (qs := []) (by kernel_rfl) (by kernel_rfl) (by simp) (fun a10 hT10 => ?_)
  refine Gz.rend T ?_
  refine Gz.retE T (by kernel_rfl) ?_
  refine Gz.back1 (t := 4) (v := .int .u64 4294967296) (d := 43) T hT10 hT5 rfl Try.func34 (by kernel_rfl) (by kernel_rfl) (by kernel_rfl) (by decide) (fun a11 hT11 => ?_)
  refine Gz.row T (K _) (by decide) hT11 [] [7] [] [6, 4, 0, 1] (g' := [(6, .int .u64 4294967296), (4, .bool false), (0, .pointer (some ⟨w₀.heap.size + 8, 0, none⟩)), (1, .int .i64 1)]) (qs := []) (by kernel_rfl) (by kernel_rfl) (by simp) (fun a12 hT12 => ?_)
  refine Gz.rend T ?_
  refine Gz.seqE T (by kernel_rfl : c14.pd.pd.pd.pd = .seq c14.pd.pd.pd.pd.pa c14.pd.pd.pd.pd.pd) ?_
  refine Gz.seqE T (by kernel_rfl : c14.pd.pd.pd.pd.pa = .seq c14.pd.pd.pd.pd.pa.pa c14.pd.pd.pd.pd.pa.pd) ?_
  refine Gz.regionE (id := 16) (l := c14.pd.pd.pd.pd.pa.pa.po) (r := [0, 1, 2, 3, 4, 5, 6]) T (by kernel_rfl) (by kernel_rfl) ?_
  refine Gz.row T (K _) (by decide) hT12 [] [0, 1, 2, 3, 4, 5, 6] [] [50, 6, 4, 0, 1] (g' := [(50, .bool false), (6, .int .u64 4294967296), (4, .bool false), (0, .pointer (some ⟨w₀.heap.size + 8, 0, none⟩)), (1, .int .i64 1)]) (qs := []) (by kernel_rfl) (by kernel_rfl) (by simp) (fun a13 hT13 => ?_)
  refine Gz.rend T ?_
  refine Gz.condFE (q := .tmp 50) (y := c14.pd.pd.pd.pd.pa.pd.pa) (z := c14.pd.pd.pd.pd.pa.pd.pd) T (by kernel_rfl) hT13 (by kernel_rfl) ?_
  refine Gz.skipE T (by kernel_rfl) ?_
  refine Gz.seqE T (by kernel_rfl : c14.pd.pd.pd.pd.pd = .seq c14.pd.pd.pd.pd.pd.pa c14.pd.pd.pd.pd.pd.pd) ?_
  refine Gz.regionE (id := 18) (l := c14.pd.pd.pd.pd.pd.pa.po) (r := [0, 1, 2, 3]) T (by kernel_rfl) (by kernel_rfl) ?_
  refine Gz.row T (K _) (by decide) hT13 [] [0, 1, 2, 3] [] [7, 6, 4, 0, 1] (g' := [(7, .int .i32 1), (6, .int .u64 4294967296), (4, .bool false), (0, .pointer (some ⟨w₀.heap.size + 8, 0, none⟩)), (1, .int .i64 1)]) (qs := []) (by kernel_rfl) (by kernel_rfl) (by simp) (fun a14 hT14 => ?_)
  refine Gz.rend T ?_
  refine Gz.seqE T (by kernel_rfl : c14.pd.pd.pd.pd.pd.pd = .seq c14.pd.pd.pd.pd.pd.pd.pa c14.pd.pd.pd.pd.pd.pd.pd) ?_
  refine Gz.regionE (id := 19) (l := c14.pd.pd.pd.pd.pd.pd.pa.po) (r := [0, 1, 2, 3]) T (by kernel_rfl) (by kernel_rfl) ?_
  refine Gz.row T (K _) (by decide) hT14 [] [0, 1, 2, 3] [] [8, 7, 6, 4, 0, 1] (g' := [(8, .int .u32 0), (7, .int .i32 1), (6, .int .u64 4294967296), (4, .bool false), (0, .pointer (some ⟨w₀.heap.size + 8, 0, none⟩)), (1, .int .i64 1)]) (qs := []) (by kernel_rfl) (by kernel_rfl) (by simp) (fun a15 hT15 => ?_)
  refine Gz.rend T ?_
  refine Gz.seqE T (by kernel_rfl : c14.pd.pd.pd.pd.pd.pd.pd = .seq c14.pd.pd.pd.pd.pd.pd.pd.pa c14.pd.pd.pd.pd.pd.pd.pd.pd) ?_
  refine Gz.seqE T (by kernel_rfl : c14.pd.pd.pd.pd.pd.pd.pd.pa = .seq c14.pd.pd.pd.pd.pd.pd.pd.pa.pa c14.pd.pd.pd.pd.pd.pd.pd.pa.pd) ?_
  refine Gz.regionE (id := 20) (l := c14.pd.pd.pd.pd.pd.pd.pd.pa.pa.po) (r := [0, 1, 2, 3, 4, 5, 6, 7, 8, 9]) T (by kernel_rfl) (by kernel_rfl) ?_
  refine Gz.row T (K _) (by decide) hT15 [] [0, 1, 2, 3, 4, 5, 6, 7, 8, 9] [] [67, 8, 7, 6, 4, 0, 1] (g' := [(67, .bool true), (8, .int .u32 0), (7, .int .i32 1), (6, .int .u64 4294967296), (4, .bool false), (0, .pointer (some ⟨w₀.heap.size + 8, 0, none⟩)), (1, .int .i64 1)]) (qs := []) (by kernel_rfl) (by kernel_rfl) (by simp) (fun a16 hT16 => ?_)
  refine Gz.rend T ?_
  refine Gz.condTE (q := .tmp 67) (y := c14.pd.pd.pd.pd.pd.pd.pd.pa.pd.pa) (z := c14.pd.pd.pd.pd.pd.pd.pd.pa.pd.pd) T (by kernel_rfl) hT16 (by kernel_rfl) ?_
  refine Gz.regionE (id := 21) (l := c14.pd.pd.pd.pd.pd.pd.pd.pa.pd.pa.po) (r := [0, 1, 2, 3, 4]) T (by kernel_rfl) (by kernel_rfl) ?_
  refine Gz.row T (K _) (by decide) hT16 [] [0, 1, 2] [3, 4] [70, 8, 7, 6, 4, 0, 1] (g' := [(70, .pointer (some ⟨w₀.heap.size + 8, 1, none⟩)), (8, .int .u32 0), (7, .int .i32 1), (6, .int .u64 4294967296), (4, .bool false), (0, .pointer (some ⟨w₀.heap.size + 8, 0, none⟩)), (1, .int .i64 1)]) (qs := []) (by kernel_rfl) (by kernel_rfl) (by simp) (fun a17 hT17 => ?_)
  refine Gz.conv (o := opq c14.pd.pd.pd.pd.pd.pd.pd.pa.pd.pa 3) (d := 71) (src := 63) (dst := 59) (t := 41) (y := .tmp 70) T (by decide) hT17 (ad := ⟨w₀.heap.size + 8, 1, none⟩) (by kernel_rfl) (by kernel_rfl) (by decide) (by kernel_rfl) (by kernel_rfl) (by kernel_rfl) (by kernel_rfl) (by kernel_rfl) (by kernel_rfl) (fun w₁ h₁ => ⟨_, ((hF.at h₁).cell (b := 8) (off := 1) (arr := #[.int .u64 4294967296, .int .u32 0]) (ty := 43) (v := .int .u32 0) (by simp) rfl).1⟩) (fun a18 hT18 => ?_)
  obtain ⟨a19, hT19, hst2⟩ := step_markAt (P := Try.prog) (x := true) (ops := c14.pd.pd.pd.pd.pd.pd.pd.pa.pd.pa.po.toArray) (i := 4) (o := opq c14.pd.pd.pd.pd.pd.pd.pd.pa.pd.pa 4) (d := 72) (f := 35) (ags := #[.tmp 71]) (ats := #[59]) (y := .tmp 71) (l := []) (k := [.code c14.pd.pd.pd.pd.pd.pd.pd.pd]) (rest := []) (cs := (((base 8).at b8 [.inRegion c8.pd.pa.po.toArray [1], .code c8.pd.pd]) :: ((base 5).at b5 [.inRegion c5.pd.pd.pd.pd.pd.pa.po.toArray [1], .code c5.pd.pd.pd.pd.pd.pd]) :: cs)) (b := (base 14)) .read (fun _ _ h => by cases h) (by decide) hT18 (by kernel_rfl) (by kernel_rfl) (by decide) (by kernel_rfl) (by kernel_rfl) Try.func35 (by kernel_rfl) (by kernel_rfl) (by kernel_rfl) (by kernel_rfl) rfl (by kernel_rfl)
  refine Gz.st T rfl (fun w₁ h₁ => ⟨_, hst2 w₁, evD_said (ad := ⟨w₀.heap.size + 8, 1, none⟩) (by show w₀.heap.size + 8 < B; omega)⟩) ?_
  refine Gz.rend T ?_
  refine Gz.seqE T (by kernel_rfl : c14.pd.pd.pd.pd.pd.pd.pd.pd = .seq c14.pd.pd.pd.pd.pd.pd.pd.pd.pa c14.pd.pd.pd.pd.pd.pd.pd.pd.pd) ?_
  refine Gz.seqE T (by kernel_rfl : c14.pd.pd.pd.pd.pd.pd.pd.pd.pa = .seq c14.pd.pd.pd.pd.pd.pd.pd.pd.pa.pa c14.pd.pd.pd.pd.pd.pd.pd.pd.pa.pd) ?_
  refine Gz.regionE (id := 22) (l := c14.pd.pd.pd.pd.pd.pd.pd.pd.pa.pa.po) (r := [0, 1]) T (by kernel_rfl) (by kernel_rfl) ?_
  refine Gz.row T (K _) (by decide) hT19 [] [0, 1] [] [74, 8, 7, 6, 4, 0, 1] (g' := [(74, .bool false), (8, .int .u32 0), (7, .int .i32 1), (6, .int .u64 4294967296), (4, .bool false), (0, .pointer (some ⟨w₀.heap.size + 8, 0, none⟩)), (1, .int .i64 1)]) (qs := []) (by kernel_rfl) (by kernel_rfl) (by simp) (fun a20 hT20 => ?_)
  refine Gz.rend T ?_
  refine Gz.condFE (q := .tmp 74) (y := c14.pd.pd.pd.pd.pd.pd.pd.pd.pa.pd.pa) (z := c14.pd.pd.pd.pd.pd.pd.pd.pd.pa.pd.pd) T (by kernel_rfl) hT20 (by kernel_rfl) ?_
  refine Gz.skipE T (by kernel_rfl) ?_
  refine Gz.seqE T (by kernel_rfl : c14.pd.pd.pd.pd.pd.pd.pd.pd.pd = .seq c14.pd.pd.pd.pd.pd.pd.pd.pd.pd.pa c14.pd.pd.pd.pd.pd.pd.pd.pd.pd.pd) ?_
  refine Gz.seqE T (by kernel_rfl : c14.pd.pd.pd.pd.pd.pd.pd.pd.pd.pa = .seq c14.pd.pd.pd.pd.pd.pd.pd.pd.pd.pa.pa c14.pd.pd.pd.pd.pd.pd.pd.pd.pd.pa.pd) ?_
  refine Gz.regionE (id := 24) (l := c14.pd.pd.pd.pd.pd.pd.pd.pd.pd.pa.pa.po) (r := [0, 1, 2, 3, 4, 5, 6, 7, 8, 9, 10, 11]) T (by kernel_rfl) (by kernel_rfl) ?_
  refine Gz.row T (K _) (by decide) hT20 [] [0, 1, 2, 3, 4, 5, 6, 7, 8, 9, 10, 11] [] [87, 8, 7, 6, 4, 0] (g' := [(87, .bool false), (8, .int .u32 0), (7, .int .i32 1), (6, .int .u64 4294967296), (4, .bool false), (0, .pointer (some ⟨w₀.heap.size + 8, 0, none⟩))]) (qs := []) (by kernel_rfl) (by kernel_rfl) (by simp) (fun a21 hT21 => ?_)
  refine Gz.rend T ?_
  refine Gz.condFE (q := .tmp 87) (y := c14.pd.pd.pd.pd.pd.pd.pd.pd.pd.pa.pd.pa) (z := c14.pd.pd.pd.pd.pd.pd.pd.pd.pd.pa.pd.pd) T (by kernel_rfl) hT21 (by kernel_rfl) ?_
  refine Gz.skipE T (by kernel_rfl) ?_
  refine Gz.seqE T (by kernel_rfl : c14.pd.pd.pd.pd.pd.pd.pd.pd.pd.pd = .seq c14.pd.pd.pd.pd.pd.pd.pd.pd.pd.pd.pa c14.pd.pd.pd.pd.pd.pd.pd.pd.pd.pd.pd) ?_
  refine Gz.seqE T (by kernel_rfl : c14.pd.pd.pd.pd.pd.pd.pd.pd.pd.pd.pa = .seq c14.pd.pd.pd.pd.pd.pd.pd.pd.pd.pd.pa.pa c14.pd.pd.pd.pd.pd.pd.pd.pd.pd.pd.pa.pd) ?_
  refine Gz.regionE (id := 26) (l := c14.pd.pd.pd.pd.pd.pd.pd.pd.pd.pd.pa.pa.po) (r := [0, 1, 2, 3, 4, 5]) T (by kernel_rfl) (by kernel_rfl) ?_
  refine Gz.row T (K _) (by decide) hT21 [] [0, 1, 2, 3, 4, 5] [] [94, 8, 6, 4, 0] (g' := [(94, .bool true), (8, .int .u32 0), (6, .int .u64 4294967296), (4, .bool false), (0, .pointer (some ⟨w₀.heap.size + 8, 0, none⟩))]) (qs := []) (by kernel_rfl) (by kernel_rfl) (by simp) (fun a22 hT22 => ?_)
  refine Gz.rend T ?_
  refine Gz.condTE (q := .tmp 94) (y := c14.pd.pd.pd.pd.pd.pd.pd.pd.pd.pd.pa.pd.pa) (z := c14.pd.pd.pd.pd.pd.pd.pd.pd.pd.pd.pa.pd.pd) T (by kernel_rfl) hT22 (by kernel_rfl) ?_
  refine Gz.retE T (by kernel_rfl) ?_
  have h5LU2 := hb5.live [3, 6, 8, 9, 10] (g' := [(3, .pointer (some ⟨w₀.heap.size + 0, 0, none⟩)), (6, .pointer (some ⟨w₀.heap.size + 3, 0, none⟩)), (8, .pointer (some ⟨w₀.heap.size + k 2, 0, none⟩)), (9, .pointer (some ⟨w₀.heap.size + k 3, 0, none⟩)), (10, .pointer (some ⟨w₀.heap.size + 8, 0, none⟩))]) (by kernel_rfl)
  have h8LU2 := hb8.live [2, 3] (g' := [(2, .pointer (some ⟨w₀.heap.size + 9, 0, none⟩)), (3, .pointer (some ⟨w₀.heap.size + 10, 0, none⟩))]) (by kernel_rfl)
  have h14LU2 := hT22.live [] (g' := []) (by kernel_rfl)
  exact Goes.stop fun w₁ h₁ => ⟨hF.at h₁, b5, b8, a22, h5LU2, h8LU2, h14LU2, rfl⟩
theorem L_ena (h : LU2 w₀ cs nn N cap la k g) (hsh : ∀ ad : Addr, w₀.heap.size ≤ ad.block → ¬ Shun (.cell ad)) (hB : w₀.heap.size + 11 ≤ B) :
    g.status = .running ∧ ∃ g', (∀ w, stepG Try.prog true g w = .go g' w #[mkE .enable]) ∧ ∀ w, Fk w₀ 11 [(8, .cells #[.int .u64 4294967296, .int .u32 0] 43), (10, .cells #[.func (.func 9) #[] #[.pointer (some ⟨w₀.heap.size + 0, 0, none⟩), .pointer (some ⟨w₀.heap.size + 3, 0, none⟩), .pointer (some ⟨w₀.heap.size + k 2, 0, none⟩), .pointer (some ⟨w₀.heap.size + k 3, 0, none⟩)]] 1), (9, .cells #[.pointer (some ⟨w₀.heap.size + 8, 0, none⟩)] 52), (k 0, .chan 1 #[] false 0 0 false), (k 1, .chan 1 #[] false 0 0 false), (k 2, .cells #[.chan (some (w₀.heap.size + k 0))] 33), (k 3, .cells #[.chan (some (w₀.heap.size + k 1))] 33), (3, .cells #[.pointer (some ⟨w₀.heap.size + 2, 0, none⟩)] 29), (2, .cells #[.slice (some ⟨w₀.heap.size + 1, 0, none⟩) nn nn, .int .i64 0, .int .i64 0] 51), (1, .cells (madeCells #[.int .i64 0] nn) 3), (0, .cells #[.slice la N cap] 22)] w → Goes Try.prog true AtRel (DL Shun B W) (fun g w => Fk w₀ 11 [(8, .cells #[.int .u64 4294967296, .int .u32 0] 43), (10, .cells #[.func (.func 9) #[] #[.pointer (some ⟨w₀.heap.size + 0, 0, none⟩), .pointer (some ⟨w₀.heap.size + 3, 0, none⟩), .pointer (some ⟨w₀.heap.size + k 2, 0, none⟩), .pointer (some ⟨w₀.heap.size + k 3, 0, none⟩)]] 1), (9, .cells #[.pointer (some ⟨w₀.heap.size + 8, 0, none⟩)] 52), (k 0, .chan 1 #[] false 0 0 false), (k 1, .chan 1 #[] false 0 0 false), (k 2, .cells #[.chan (some (w₀.heap.size + k 0))] 33), (k 3, .cells #[.chan (some (w₀.heap.size + k 1))] 33), (3, .cells #[.pointer (some ⟨w₀.heap.size + 2, 0, none⟩)] 29), (2, .cells #[.slice (some ⟨w₀.heap.size + 1, 0, none⟩) nn nn, .int .i64 0, .int .i64 0] 51), (1, .cells (madeCells #[.int .i64 0] nn) 3), (0, .cells #[.slice la N cap] 22)] w ∧ LU3 w₀ cs nn N cap la k g) 4000 g' w := by
  obtain ⟨b5, b8, b14, hb5, hb8, hb14, rfl⟩ := h
  have hst := fun w => step_unwind (P := Try.prog) (x := true) (b := (base 14)) (todo := [.code c14.pd.pd.pd.pd.pd.pd.pd.pd.pd.pd.pa.pd.pa, .code c14.pd.pd.pd.pd.pd.pd.pd.pd.pd.pd.pd]) (cs := (((base 8).at b8 [.inRegion c8.pd.pa.po.toArray [1], .code c8.pd.pd]) :: ((base 5).at b5 [.inRegion c5.pd.pd.pd.pd.pd.pa.po.toArray [1], .code c5.pd.pd.pd.pd.pd.pd]) :: cs)) .enable (fun _ h => by cases h) hb14 Try.func22 (by kernel_rfl) (by kernel_rfl) (by kernel_rfl) (by kernel_rfl) w
  refine ⟨rfl, _, hst, fun w hF => ?_⟩
  have TD : Tmd AtRel (DL Shun B W) := tmdL
  have T := TD.toTms
  have K : ∀ w, Ken Try.prog AtRel (DL Shun B W) (fun _ _ => False) w := fun _ => ⟨fun _ _ hc => hc.elim⟩
  have hT1 : Tm ⟨b14.tmps, []⟩ 117 [] [] := ⟨hb14.size, hb14.val, rfl⟩
  refine Gz.back0 (d := 5) T hT1 hb8 rfl Try.func14 (by kernel_rfl) (by kernel_rfl) (by decide) (fun a2 hT2 => ?_)
  refine Gz.rend T ?_
  refine Gz.regionE (id := 2) (l := c8.pd.pd.po) (r := [0, 1]) T (by kernel_rfl) (by kernel_rfl) ?_
  refine Mz.opv (o := opq c8.pd.pd 0) (d := 6) (mvG T) (by decide) hT2 (v := .func (.func 15) #[] #[.pointer (some ⟨w₀.heap.size + 9, 0, none⟩), .pointer (some ⟨w₀.heap.size + 10, 0, none⟩)]) (by kernel_rfl) (by kernel_rfl) (by decide) (by kernel_rfl) (by kernel_rfl) (op_func (fn := .func 15) (cap := #[.tmp 2, .tmp 3]) (vs := [.pointer (some ⟨w₀.heap.size + 9, 0, none⟩), .pointer (some ⟨w₀.heap.size + 10, 0, none⟩)]) (by kernel_rfl) (by kernel_rfl)) (fun a3 hT3 => ?_)
  have h5LU3 := hb5.live [3, 6, 8, 9, 10] (g' := [(3, .pointer (some ⟨w₀.heap.size + 0, 0, none⟩)), (6, .pointer (some ⟨w₀.heap.size + 3, 0, none⟩)), (8, .pointer (some ⟨w₀.heap.size + k 2, 0, none⟩)), (9, .pointer (some ⟨w₀.heap.size + k 3, 0, none⟩)), (10, .pointer (some ⟨w₀.heap.size + 8, 0, none⟩))]) (by kernel_rfl)
  have h8LU3 := hT3.live [6] (g' := [(6, .func (.func 15) #[] #[.pointer (some ⟨w₀.heap.size + 9, 0, none⟩), .pointer (some ⟨w₀.heap.size + 10, 0, none⟩)])]) (by kernel_rfl)
  exact Goes.stop fun w₁ h₁ => ⟨hF.at h₁, b5, a3, h5LU3, h8LU3, rfl⟩
theorem L_go (h : LU3 w₀ cs nn N cap la k g) :
    g.status = .running ∧ ∃ g', ∃ b5 : Act, Tm b5 48 [(3, .pointer (some ⟨w₀.heap.size + 0, 0, none⟩)), (6, .pointer (some ⟨w₀.heap.size + 3, 0, none⟩)), (8, .pointer (some ⟨w₀.heap.size + k 2, 0, none⟩)), (9, .pointer (some ⟨w₀.heap.size + k 3, 0, none⟩)), (10, .pointer (some ⟨w₀.heap.size + 8, 0, none⟩))] [] ∧ ∃ b8 : Act, Tm b8 7 [] [] ∧ (∀ w, stepG Try.prog true g w = .spawn g' (born Try.prog (dcap 15 [.pointer (some ⟨w₀.heap.size + 9, 0, none⟩), .pointer (some ⟨w₀.heap.size + 10, 0, none⟩)])) w #[]) ∧ g' = G ((base 8).at b8 [.inRegion c8.pd.pd.po.toArray []]) (((base 5).at b5 [.inRegion c5.pd.pd.pd.pd.pd.pa.po.toArray [1], .code c5.pd.pd.pd.pd.pd.pd]) :: cs) := by
  obtain ⟨b5, b8, hb5, hb8, rfl⟩ := h
  have hst := fun w => step_go (P := Try.prog) (x := true) (b := (base 8)) (k := []) (rest := []) (cs := (((base 5).at b5 [.inRegion c5.pd.pd.pd.pd.pd.pa.po.toArray [1], .code c5.pd.pd.pd.pd.pd.pd]) :: cs)) (ops := c8.pd.pd.po.toArray) (i := 1) (o := opq c8.pd.pd 1) (q := .tmp 6) (f := 15) (cap := [.pointer (some ⟨w₀.heap.size + 9, 0, none⟩), .pointer (some ⟨w₀.heap.size + 10, 0, none⟩)]) (by decide) hb8 (by kernel_rfl) (by kernel_rfl) (by kernel_rfl) (by kernel_rfl) (by kernel_rfl) w
  refine ⟨rfl, _, b5, hb5.live [3, 6, 8, 9, 10] (g' := [(3, .pointer (some ⟨w₀.heap.size + 0, 0, none⟩)), (6, .pointer (some ⟨w₀.heap.size + 3, 0, none⟩)), (8, .pointer (some ⟨w₀.heap.size + k 2, 0, none⟩)), (9, .pointer (some ⟨w₀.heap.size + k 3, 0, none⟩)), (10, .pointer (some ⟨w₀.heap.size + 8, 0, none⟩))]) (by kernel_rfl), b8, hb8.live [] (g' := []) (by kernel_rfl), hst, rfl⟩

end
end Go.Proofs.Ytjgdhghobohdjaa.Rg
namespace Go.Proofs.Ytjgdhghobohdjaa.Rg
open Go Go.Conc
section
variable {w₀ w : World} {Shun : Loc → Prop} {B W : Nat} {cs : List Frame} {nn N cap : Nat} {la : Option Addr} {k : Nat → Nat} {g : Goroutine}
theorem L_low {z : Int} {b5 : Act} (hb5 : Tm b5 48 [(0, .int .i64 z), (1, .slice la N cap)] []) (hsh : ∀ ad : Addr, w₀.heap.size ≤ ad.block → ¬ Shun (.cell ad)) (hB : w₀.heap.size + 11 ≤ B) (hz : z < 1) (hF : Fk w₀ 0 [] w) :
    Goes Try.prog true AtRel (DL Shun B W) (fun g w => Fk w₀ 2 [(1, .cells #[.pointer none] 29), (0, .cells #[.slice la N cap] 22)] w ∧ ∃ (b5 : Act) (todo : List Item), Tm b5 48 [(4, .slice none 0 0), (5, .int .i64 3)] [] ∧ g = G { (base 5).at b5 todo with mode := .returning } cs) 4000 (G ((base 5).at b5 [.code c5]) (cs)) w := by
  have TD : Tmd AtRel (DL Shun B W) := tmdL
  have T := TD.toTms
  have K : ∀ w, Ken Try.prog AtRel (DL Shun B W) (fun _ _ => False) w := fun _ => ⟨fun _ _ hc => hc.elim⟩
  refine Gz.seqE T (by kernel_rfl : c5 = .seq c5.pa c5.pd) ?_
  refine Gz.regionE (id := 0) (l := c5.pa.po) (r := [0, 1, 2]) T (by kernel_rfl) (by kernel_rfl) ?_
  refine Gz.mk1 (w₀ := w₀) (N := 0) (o := opq c5.pa 0) (d := 3) (by decide) hb5 hF (by kernel_rfl) (by kernel_rfl) (by decide) (by kernel_rfl) (v := fun b => .pointer (some ⟨b, 0, none⟩)) (ob := .cells #[.slice la N cap] 22) (op_box (v := .slice la N cap) (y := .tmp 1) (T := 22) (by kernel_rfl) (by kernel_rfl)) (fun a1 w hT hF => ?_)
  have hT1 : Tm a1 48 ((3, .pointer (some ⟨w₀.heap.size + 0, 0, none⟩)) :: [(0, .int .i64 z), (1, .slice la N cap)]) [] := hT
  clear hT
  refine Gz.row T (K _) (by decide) hT1 [] [1, 2] [] [3, 0] (g' := [(3, .pointer (some ⟨w₀.heap.size + 0, 0, none⟩)), (0, .int .i64 z)]) (qs := []) (by kernel_rfl) (by kernel_rfl) (by simp) (fun a3 hT3 => ?_)
  refine Gz.rend T ?_
  refine Gz.seqE T (by kernel_rfl : c5.pd = .seq c5.pd.pa c5.pd.pd) ?_
  refine Gz.regionE (id := 1) (l := c5.pd.pa.po) (r := [0, 1, 2, 3, 4, 5, 6, 7]) T (by kernel_rfl) (by kernel_rfl) ?_
  refine Gz.row T (K _) (by decide) hT3 [] [0] [1, 2, 3, 4, 5, 6, 7] [15, 3] (g' := [(15, .int .i64 z), (3, .pointer (some ⟨w₀.heap.size + 0, 0, none⟩))]) (qs := []) (by kernel_rfl) (by kernel_rfl) (by simp) (fun a4 hT4 => ?_)
  refine Mz.enter (o := opq c5.pd.pa 1) (q := .func 7) (f := 7) (cc := c7) (cap := []) (args := #[.tmp 15]) (ats := #[3]) (mvG T) hT4 [.int .i64 z] 14 (by kernel_rfl) (by kernel_rfl) (by decide) (by kernel_rfl) (by kernel_rfl) Try.func7 (by kernel_rfl) (by kernel_rfl) (by kernel_rfl) (by kernel_rfl) (by kernel_rfl) (fun a5 hT5 => ?_)
  refine Gz.seqE T (by kernel_rfl : c7 = .seq c7.pa c7.pd) ?_
  refine Gz.regionE (id := 0) (l := c7.pa.po) (r := [0, 1]) T (by kernel_rfl) (by kernel_rfl) ?_
  refine Gz.row T (K _) (by decide) hT5 [] [0, 1] [] [0] (g' := [(0, .int .i64 z)]) (qs := []) (by kernel_rfl) (by kernel_rfl) (by simp) (fun a6 hT6 => ?_)
  refine Gz.rend T ?_
  refine Gz.seqE T (by kernel_rfl : c7.pd = .seq c7.pd.pa c7.pd.pd) ?_
  refine Gz.seqE T (by kernel_rfl : c7.pd.pa = .seq c7.pd.pa.pa c7.pd.pa.pd) ?_
  refine Gz.regionE (id := 1) (l := c7.pd.pa.pa.po) (r := [0, 1, 2, 3, 4, 5]) T (by kernel_rfl) (by kernel_rfl) ?_
  refine Gz.row T (K _) (by decide) hT6 [] [0] [1, 2, 3, 4, 5] [4, 0] (g' := [(4, .int .i64 z), (0, .int .i64 z)]) (qs := []) (by kernel_rfl) (by kernel_rfl) (by simp) (fun a7 hT7 => ?_)
  refine Gz.hint (o := opq c7.pd.pa.pa 1) (d := 5) T (by decide) hT7 (v := .bool true) (by kernel_rfl) (by kernel_rfl) (by decide) (by kernel_rfl) (by kernel_rfl) (congrArg some (n_low hz)) (fun a8 hT8 => ?_)
  refine Gz.row T (K _) (by decide) hT8 [] [2, 3, 4, 5] [] [9, 0] (g' := [(9, .bool true), (0, .int .i64 z)]) (qs := []) (by kernel_rfl) (by kernel_rfl) (by simp) (fun a9 hT9 => ?_)
  refine Gz.rend T ?_
  refine Gz.condTE (q := .tmp 9) (y := c7.pd.pa.pd.pa) (z := c7.pd.pa.pd.pd) T (by kernel_rfl) hT9 (by kernel_rfl) ?_
  refine Gz.seqE T (by kernel_rfl : c7.pd.pa.pd.pa = .seq c7.pd.pa.pd.pa.pa c7.pd.pa.pd.pa.pd) ?_
  refine Gz.regionE (id := 2) (l := c7.pd.pa.pd.pa.pa.po) (r := [0, 1]) T (by kernel_rfl) (by kernel_rfl) ?_
  refine Gz.row T (K _) (by decide) hT9 [] [0, 1] [] [3, 2] (g' := [(3, .int .i64 3), (2, .pointer none)]) (qs := []) (by kernel_rfl) (by kernel_rfl) (by simp) (fun a10 hT10 => ?_)
  refine Gz.rend T ?_
  refine Gz.retE T (by kernel_rfl) ?_
  refine Gz.back2 (t := 2) (t' := 3) (v := .pointer none) (u := .int .i64 3) (d := 16) T hT10 hT4 rfl Try.func7 (by kernel_rfl) (by kernel_rfl) (by kernel_rfl) (by kernel_rfl) (by decide) (fun a11 hT11 => ?_)
  refine Gz.row T (K _) (by decide) hT11 [] [2, 3, 4] [5, 6, 7] [18, 17, 3] (g' := [(18, .int .i64 3), (17, .pointer none), (3, .pointer (some ⟨w₀.heap.size + 0, 0, none⟩))]) (qs := []) (by kernel_rfl) (by kernel_rfl) (by simp) (fun a12 hT12 => ?_)
  refine Gz.mk1 (w₀ := w₀) (N := 1) (o := opq c5.pd.pa 5) (d := 6) (by decide) hT12 hF (by kernel_rfl) (by kernel_rfl) (by decide) (by kernel_rfl) (v := fun b => .pointer (some ⟨b, 0, none⟩)) (ob := .cells #[.pointer none] 29) (op_alloc (T := 29) (ti := (Try.prog.info? 29).getD default) (z := .pointer none) (by kernel_rfl) (by kernel_rfl) (by kernel_rfl)) (fun a13 w hT hF => ?_)
  have hT13 : Tm a13 48 ((6, .pointer (some ⟨w₀.heap.size + 1, 0, none⟩)) :: [(18, .int .i64 3), (17, .pointer none), (3, .pointer (some ⟨w₀.heap.size + 0, 0, none⟩))]) [] := hT
  clear hT
  refine Gz.lput (w₀ := w₀) (N := 2) (K := [(1, .cells #[.pointer none] 29), (0, .cells #[.slice la N cap] 22)]) (o := opq c5.pd.pa 6) (by decide) hT13 hF (X := 29) (y := .tmp 6) (z := .tmp 17) (ti := (Try.prog.info? 29).getD default) (off := 0) (bb := 1) (v := .pointer none) (u := .pointer none) (by kernel_rfl) (by kernel_rfl) (by kernel_rfl) (by kernel_rfl) (by kernel_rfl) (by kernel_rfl) (by kernel_rfl) (by kernel_rfl) (by kernel_rfl) (by kernel_rfl) (by kernel_rfl) (by simp) (hsh _ (by simp)) (by omega) (fun w hF => ?_)
  replace hF : Fk w₀ 2 [(1, .cells #[.pointer none] 29), (0, .cells #[.slice la N cap] 22)] w := hF
  refine Gz.row T (K _) (by decide) hT13 [] [7] [] [7, 6, 3] (g' := [(7, .int .i64 3), (6, .pointer (some ⟨w₀.heap.size + 1, 0, none⟩)), (3, .pointer (some ⟨w₀.heap.size + 0, 0, none⟩))]) (qs := []) (by kernel_rfl) (by kernel_rfl) (by simp) (fun a15 hT15 => ?_)
  refine Gz.rend T ?_
  refine Gz.seqE T (by kernel_rfl : c5.pd.pd = .seq c5.pd.pd.pa c5.pd.pd.pd) ?_
  refine Gz.seqE T (by kernel_rfl : c5.pd.pd.pa = .seq c5.pd.pd.pa.pa c5.pd.pd.pa.pd) ?_
  refine Gz.regionE (id := 2) (l := c5.pd.pd.pa.pa.po) (r := [0, 1]) T (by kernel_rfl) (by kernel_rfl) ?_
  refine Gz.row T (K _) (by decide) hT15 [] [0, 1] [] [20, 7, 6, 3] (g' := [(20, .bool true), (7, .int .i64 3), (6, .pointer (some ⟨w₀.heap.size + 1, 0, none⟩)), (3, .pointer (some ⟨w₀.heap.size + 0, 0, none⟩))]) (qs := []) (by kernel_rfl) (by kernel_rfl) (by simp) (fun a16 hT16 => ?_)
  refine Gz.rend T ?_
  refine Gz.condTE (q := .tmp 20) (y := c5.pd.pd.pa.pd.pa) (z := c5.pd.pd.pa.pd.pd) T (by kernel_rfl) hT16 (by kernel_rfl) ?_
  refine Gz.seqE T (by kernel_rfl : c5.pd.pd.pa.pd.pa = .seq c5.pd.pd.pa.pd.pa.pa c5.pd.pd.pa.pd.pa.pd) ?_
  refine Gz.regionE (id := 3) (l := c5.pd.pd.pa.pd.pa.pa.po) (r := [0, 1, 2]) T (by kernel_rfl) (by kernel_rfl) ?_
  refine Gz.row T (K _) (by decide) hT16 [] [0, 1, 2] [] [5, 4] (g' := [(5, .int .i64 3), (4, .slice none 0 0)]) (qs := []) (by kernel_rfl) (by kernel_rfl) (by simp) (fun a17 hT17 => ?_)
  refine Gz.rend T ?_
  refine Gz.retE T (by kernel_rfl) ?_
  exact Goes.stop fun w₁ h₁ => ⟨hF.at h₁, _, _, hT17.live [4, 5] (g' := [(4, .slice none 0 0), (5, .int .i64 3)]) (by kernel_rfl), rfl⟩
theorem L_high {z : Int} {b5 : Act} (hb5 : Tm b5 48 [(0, .int .i64 z), (1, .slice la N cap)] []) (hsh : ∀ ad : Addr, w₀.heap.size ≤ ad.block → ¬ Shun (.cell ad)) (hB : w₀.heap.size + 11 ≤ B) (hz : 65536 < z) (hF : Fk w₀ 0 [] w) :
    Goes Try.prog true AtRel (DL Shun B W) (fun g w => Fk w₀ 2 [(1, .cells #[.pointer none] 29), (0, .cells #[.slice la N cap] 22)] w ∧ ∃ (b5 : Act) (todo : List Item), Tm b5 48 [(4, .slice none 0 0), (5, .int .i64 3)] [] ∧ g = G { (base 5).at b5 todo with mode := .returning } cs) 4000 (G ((base 5).at b5 [.code c5]) (cs)) w := by
  have TD : Tmd AtRel (DL Shun B W) := tmdL
  have T := TD.toTms
  have K : ∀ w, Ken Try.prog AtRel (DL Shun B W) (fun _ _ => False) w := fun _ => ⟨fun _ _ hc => hc.elim⟩
  refine Gz.seqE T (by kernel_rfl : c5 = .seq c5.pa c5.pd) ?_
  refine Gz.regionE (id := 0) (l := c5.pa.po) (r := [0, 1, 2]) T (by kernel_rfl) (by kernel_rfl) ?_
  refine Gz.mk1 (w₀ := w₀) (N := 0) (o := opq c5.pa 0) (d := 3) (by decide) hb5 hF (by kernel_rfl) (by kernel_rfl) (by decide) (by kernel_rfl) (v := fun b => .pointer (some ⟨b, 0, none⟩)) (ob := .cells #[.slice la N cap] 22) (op_box (v := .slice la N cap) (y := .tmp 1) (T := 22) (by kernel_rfl) (by kernel_rfl)) (fun a1 w hT hF => ?_)
  have hT1 : Tm a1 48 ((3, .pointer (some ⟨w₀.heap.size + 0, 0, none⟩)) :: [(0, .int .i64 z), (1, .slice la N cap)]) [] := hT
  clear hT
  refine Gz.row T (K _) (by decide) hT1 [] [1, 2] [] [3, 0] (g' := [(3, .pointer (some ⟨w₀.heap.size + 0, 0, none⟩)), (0, .int .i64 z)]) (qs := []) (by kernel_rfl) (by kernel_rfl) (by simp) (fun a3 hT3 => ?_)
  refine Gz.rend T ?_
  refine Gz.seqE T (by kernel_rfl : c5.pd = .seq c5.pd.pa c5.pd.pd) ?_
  refine Gz.regionE (id := 1) (l := c5.pd.pa.po) (r := [0, 1, 2, 3, 4, 5, 6, 7]) T (by kernel_rfl) (by kernel_rfl) ?_
  refine Gz.row T (K _) (by decide) hT3 [] [0] [1, 2, 3, 4, 5, 6, 7] [15, 3] (g' := [(15, .int .i64 z), (3, .pointer (some ⟨w₀.heap.size + 0, 0, none⟩))]) (qs := []) (by kernel_rfl) (by kernel_rfl) (by simp) (fun a4 hT4 => ?_)
  refine Mz.enter (o := opq c5.pd.pa 1) (q := .func 7) (f := 7) (cc := c7) (cap := []) (args := #[.tmp 15]) (ats := #[3]) (mvG T) hT4 [.int .i64 z] 14 (by kernel_rfl) (by kernel_rfl) (by decide) (by kernel_rfl) (by kernel_rfl) Try.func7 (by kernel_rfl) (by kernel_rfl) (by kernel_rfl) (by kernel_rfl) (by kernel_rfl) (fun a5 hT5 => ?_)
  refine Gz.seqE T (by kernel_rfl : c7 = .seq c7.pa c7.pd) ?_
  refine Gz.regionE (id := 0) (l := c7.pa.po) (r := [0, 1]) T (by kernel_rfl) (by kernel_rfl) ?_
  refine Gz.row T (K _) (by decide) hT5 [] [0, 1] [] [0] (g' := [(0, .int .i64 z)]) (qs := []) (by kernel_rfl) (by kernel_rfl) (by simp) (fun a6 hT6 => ?_)
  refine Gz.rend T ?_
  refine Gz.seqE T (by kernel_rfl : c7.pd = .seq c7.pd.pa c7.pd.pd) ?_
  refine Gz.seqE T (by kernel_rfl : c7.pd.pa = .seq c7.pd.pa.pa c7.pd.pa.pd) ?_
  refine Gz.regionE (id := 1) (l := c7.pd.pa.pa.po) (r := [0, 1, 2, 3, 4, 5]) T (by kernel_rfl) (by kernel_rfl) ?_
  refine Gz.row T (K _) (by decide) hT6 [] [0] [1, 2, 3, 4, 5] [4, 0] (g' := [(4, .int .i64 z), (0, .int .i64 z)]) (qs := []) (by kernel_rfl) (by kernel_rfl) (by simp) (fun a7 hT7 => ?_)
  refine Gz.hint (o := opq c7.pd.pa.pa 1) (d := 5) T (by decide) hT7 (v := .bool false) (by kernel_rfl) (by kernel_rfl) (by decide) (by kernel_rfl) (by kernel_rfl) (congrArg some (n_one (by omega))) (fun a8 hT8 => ?_)
  refine Gz.row T (K _) (by decide) hT8 [] [2, 3] [4, 5] [7, 6, 0] (g' := [(7, .int .i64 z), (6, .bool false), (0, .int .i64 z)]) (qs := []) (by kernel_rfl) (by kernel_rfl) (by simp) (fun a9 hT9 => ?_)
  refine Gz.hint (o := opq c7.pd.pa.pa 4) (d := 8) T (by decide) hT9 (v := .bool true) (by kernel_rfl) (by kernel_rfl) (by decide) (by kernel_rfl) (by kernel_rfl) (congrArg some (n_high hz)) (fun a10 hT10 => ?_)
  refine Gz.row T (K _) (by decide) hT10 [] [5] [] [9, 0] (g' := [(9, .bool true), (0, .int .i64 z)]) (qs := []) (by kernel_rfl) (by kernel_rfl) (by simp) (fun a11 hT11 => ?_)
  refine Gz.rend T ?_
  refine Gz.condTE (q := .tmp 9) (y := c7.pd.pa.pd.pa) (z := c7.pd.pa.pd.pd) T (by kernel_rfl) hT11 (by kernel_rfl) ?_
  refine Gz.seqE T (by kernel_rfl : c7.pd.pa.pd.pa = .seq c7.pd.pa.pd.pa.pa c7.pd.pa.pd.pa.pd) ?_
  refine Gz.regionE (id := 2) (l := c7.pd.pa.pd.pa.pa.po) (r := [0, 1]) T (by kernel_rfl) (by kernel_rfl) ?_
  refine Gz.row T (K _) (by decide) hT11 [] [0, 1] [] [3, 2] (g' := [(3, .int .i64 3), (2, .pointer none)]) (qs := []) (by kernel_rfl) (by kernel_rfl) (by simp) (fun a12 hT12 => ?_)
  refine Gz.rend T ?_
  refine Gz.retE T (by kernel_rfl) ?_
  refine Gz.back2 (t := 2) (t' := 3) (v := .pointer none) (u := .int .i64 3) (d := 16) T hT12 hT4 rfl Try.func7 (by kernel_rfl) (by kernel_rfl) (by kernel_rfl) (by kernel_rfl) (by decide) (fun a13 hT13 => ?_)
  refine Gz.row T (K _) (by decide) hT13 [] [2, 3, 4] [5, 6, 7] [18, 17, 3] (g' := [(18, .int .i64 3), (17, .pointer none), (3, .pointer (some ⟨w₀.heap.size + 0, 0, none⟩))]) (qs := []) (by kernel_rfl) (by kernel_rfl) (by simp) (fun a14 hT14 => ?_)
  refine Gz.mk1 (w₀ := w₀) (N := 1) (o := opq c5.pd.pa 5) (d := 6) (by decide) hT14 hF (by kernel_rfl) (by kernel_rfl) (by decide) (by kernel_rfl) (v := fun b => .pointer (some ⟨b, 0, none⟩)) (ob := .cells #[.pointer none] 29) (op_alloc (T := 29) (ti := (Try.prog.info? 29).getD default) (z := .pointer none) (by kernel_rfl) (by kernel_rfl) (by kernel_rfl)) (fun a15 w hT hF => ?_)
  have hT15 : Tm a15 48 ((6, .pointer (some ⟨w₀.heap.size + 1, 0, none⟩)) :: [(18, .int .i64 3), (17, .pointer none), (3, .pointer (some ⟨w₀.heap.size + 0, 0, none⟩))]) [] := hT
  clear hT
  refine Gz.lput (w₀ := w₀) (N := 2) (K := [(1, .cells #[.pointer none] 29), (0, .cells #[.slice la N cap] 22)]) (o := opq c5.pd.pa 6) (by decide) hT15 hF (X := 29) (y := .tmp 6) (z := .tmp 17) (ti := (Try.prog.info? 29).getD default) (off := 0) (bb := 1) (v := .pointer none) (u := .pointer none) (by kernel_rfl) (by kernel_rfl) (by kernel_rfl) (by kernel_rfl) (by kernel_rfl) (by kernel_rfl) (by kernel_rfl) (by kernel_rfl) (by kernel_rfl) (by kernel_rfl) (by kernel_rfl) (by simp) (hsh _ (by simp)) (by omega) (fun w hF => ?_)
  replace hF : Fk w₀ 2 [(1, .cells #[.pointer none] 29), (0, .cells #[.slice la N cap] 22)] w := hF
  refine Gz.row T (K _) (by decide) hT15 [] [7] [] [7, 6, 3] (g' := [(7, .int .i64 3), (6, .pointer (some ⟨w₀.heap.size + 1, 0, none⟩)), (3, .pointer (some ⟨w₀.heap.size + 0, 0, none⟩))]) (qs := []) (by kernel_rfl) (by kernel_rfl) (by simp) (fun a17 hT17 => ?_)
  refine Gz.rend T ?_
  refine Gz.seqE T (by kernel_rfl : c5.pd.pd = .seq c5.pd.pd.pa c5.pd.pd.pd) ?_
  refine Gz.seqE T (by kernel_rfl : c5.pd.pd.pa = .seq c5.pd.pd.pa.pa c5.pd.pd.pa.pd) ?_
  refine Gz.regionE (id := 2) (l := c5.pd.pd.pa.pa.po) (r := [0, 1]) T (by kernel_rfl) (by kernel_rfl) ?_
  refine Gz.row T (K _) (by decide) hT17 [] [0, 1] [] [20, 7, 6, 3] (g' := [(20, .bool true), (7, .int .i64 3), (6, .pointer (some ⟨w₀.heap.size + 1, 0, none⟩)), (3, .pointer (some ⟨w₀.heap.size + 0, 0, none⟩))]) (qs := []) (by kernel_rfl) (by kernel_rfl) (by simp) (fun a18 hT18 => ?_)
  refine Gz.rend T ?_
  refine Gz.condTE (q := .tmp 20) (y := c5.pd.pd.pa.pd.pa) (z := c5.pd.pd.pa.pd.pd) T (by kernel_rfl) hT18 (by kernel_rfl) ?_
  refine Gz.seqE T (by kernel_rfl : c5.pd.pd.pa.pd.pa = .seq c5.pd.pd.pa.pd.pa.pa c5.pd.pd.pa.pd.pa.pd) ?_
  refine Gz.regionE (id := 3) (l := c5.pd.pd.pa.pd.pa.pa.po) (r := [0, 1, 2]) T (by kernel_rfl) (by kernel_rfl) ?_
  refine Gz.row T (K _) (by decide) hT18 [] [0, 1, 2] [] [5, 4] (g' := [(5, .int .i64 3), (4, .slice none 0 0)]) (qs := []) (by kernel_rfl) (by kernel_rfl) (by simp) (fun a19 hT19 => ?_)
  refine Gz.rend T ?_
  refine Gz.retE T (by kernel_rfl) ?_
  exact Goes.stop fun w₁ h₁ => ⟨hF.at h₁, _, _, hT19.live [4, 5] (g' := [(4, .slice none 0 0), (5, .int .i64 3)]) (by kernel_rfl), rfl⟩
theorem L_fin {L : Lay} {D : Dat} {e : Env} {i : Nat} {oa : Option Addr} {oc : Nat} (h : AOut L D e cs i oa oc g) :
    Goes Try.prog true AtRel (DL Shun B W) (fun g w₁ => AtRel w w₁ ∧ ∃ (b5 : Act) (todo : List Item), Tm b5 48 [(4, .slice oa i oc), (5, .int .i64 0)] [] ∧ g = G { (base 5).at b5 todo with mode := .returning } cs) 4000 g w := by
  obtain ⟨b5, hb5, rfl⟩ := h
  have TD : Tmd AtRel (DL Shun B W) := tmdL
  have T := TD.toTms
  have K : ∀ w, Ken Try.prog AtRel (DL Shun B W) (fun _ _ => False) w := fun _ => ⟨fun _ _ hc => hc.elim⟩
  refine Gz.rend T ?_
  refine Gz.seqE T (by kernel_rfl : c5.pd.pd.pd.pd.pd.pd.pd.pd.pd = .seq c5.pd.pd.pd.pd.pd.pd.pd.pd.pd.pa c5.pd.pd.pd.pd.pd.pd.pd.pd.pd.pd) ?_
  refine Gz.regionE (id := 15) (l := c5.pd.pd.pd.pd.pd.pd.pd.pd.pd.pa.po) (r := [0, 1, 2]) T (by kernel_rfl) (by kernel_rfl) ?_
  refine Gz.row T (K _) (by decide) hb5 [] [0, 1, 2] [] [5, 4] (g' := [(5, .int .i64 0), (4, .slice oa i oc)]) (qs := []) (by kernel_rfl) (by kernel_rfl) (by simp) (fun a1 hT1 => ?_)
  refine Gz.rend T ?_
  refine Gz.retE T (by kernel_rfl) ?_
  exact Goes.stop fun w₁ h₁ => ⟨h₁, _, _, hT1.live [4, 5] (g' := [(4, .slice oa i oc), (5, .int .i64 0)]) (by kernel_rfl), rfl⟩

end
end Go.Proofs.Ytjgdhghobohdjaa.Rg
namespace Go.Proofs.Ytjgdhghobohdjaa.Rg
open Go Go.Conc
open Go.ConcN (sumTo)

theorem goes_to {P : Program} {x : Bool} {R R' : World → World → Prop} {D D' : World → World → Array Event → Prop} {Stop : Goroutine → World → Prop} (hR : ∀ w w', R' w w' → R w w') (hD : ∀ w w' es, D w w' es → D' w w' es) : ∀ {n : Nat} {g : Goroutine} {w : World}, Goes P x R D Stop n g w → Goes P x R' D' Stop n g w
  | 0, _, _, h => fun w₁ r => h w₁ (hR _ _ r)
  | n + 1, g, w, h => by
    rcases h with hs | ⟨hr, hst⟩
    · exact .inl fun w₁ r => hs w₁ (hR _ _ r)
    · refine .inr ⟨hr, fun w₁ r => ?_⟩
      obtain ⟨g', w', es, e, hd, hn⟩ := goes_elim (hst w₁ (hR _ _ r))
      rw [e]
      exact ⟨hD _ _ _ hd, goes_to hR hD hn⟩
theorem rx_at {L : Lay} {x : Bool} {w w' : World} (h : AtRel w w') : RX L x w w' := by
  obtain ⟨d, rfl⟩ := h
  exact RX.at w d
/-- The list that is handed through. -/
structure Lin (Shun : Loc → Prop) (w : World) (la : Option Addr) (N lb lo : Nat) (z : Nat → Int) : Prop where
  la : 0 < N → la = some ⟨lb, lo, none⟩
  el : ∀ i, i < N → w.cell? ⟨lb, i + lo, none⟩ = some (.int .i64 (z i)) ∧ lb < w.heap.size ∧ ¬ Shun (.cell ⟨lb, i + lo, none⟩)
/-- What it comes to: what came out; what is kept. -/
structure Thr (w : World) (N : Nat) (z : Nat → Int) (cs : List Frame) (a' : Goroutine) (w' : World) : Prop where
  size : w.heap.size + 11 ≤ w'.heap.size
  low : ∀ b, b < w.heap.size → w'.heap[b]? = w.heap[b]?
  os : w'.os = w.os
  output : w'.output = w.output
  tape : w'.tape = w.tape
  ret : ∃ oa oc b5 todo, w'.ownsRow (w.heap.size + 11) 3 1 (.slice oa N oc) N ((List.range N).map fun i => .int .i64 (z i)) ∧ Tm b5 48 [(4, .slice oa N oc), (5, .int .i64 0)] [] ∧ a' = G { (base 5).at b5 todo with mode := .returning } cs

section
variable {Shun : Loc → Prop} {w : World} {gs : Array Goroutine} {t : Trace} {q : Nat → Nat} {cs : List Frame} {nn N cap lb lo : Nat} {la : Option Addr} {z : Nat → Int} {k : Nat → Nat}
def layF (c nn : Nat) (w : World) (k : Nat → Nat) : Lay := { c := c, n := nn, R := w.heap.size + 2, M := w.heap.size + 1, F := w.heap.size + k 0, E := w.heap.size + k 1, W := w.heap.size + 8, low := w.heap.size + 11 }
def datF (nn N : Nat) (w : World) (z : Nat → Int) : Dat := { N := N, val := fun i => .int .i64 (z i), unit := .agg #[], hdr := .slice (some ⟨w.heap.size + 1, 0, none⟩) nn nn, tR := 51, tM := 3, tW := 43 }
def envF (w : World) (k : Nat → Nat) (lb lo cap : Nat) (la : Option Addr) (z : Nat → Int) : Env := { bl := w.heap.size + 0, bR := w.heap.size + 3, bF := w.heap.size + k 2, bE := w.heap.size + k 3, gw := w.heap.size + 9, gf := w.heap.size + 10, lb := lb, lo := lo, cap := cap, la := la, z := z }
def KF (w₀ : World) (nn N cap : Nat) (la : Option Addr) (k : Nat → Nat) : List (Nat × Obj) := [(8, .cells #[.int .u64 4294967296, .int .u32 0] 43), (10, .cells #[.func (.func 9) #[] #[.pointer (some ⟨w₀.heap.size + 0, 0, none⟩), .pointer (some ⟨w₀.heap.size + 3, 0, none⟩), .pointer (some ⟨w₀.heap.size + k 2, 0, none⟩), .pointer (some ⟨w₀.heap.size + k 3, 0, none⟩)]] 1), (9, .cells #[.pointer (some ⟨w₀.heap.size + 8, 0, none⟩)] 52), (k 0, .chan 1 #[] false 0 0 false), (k 1, .chan 1 #[] false 0 0 false), (k 2, .cells #[.chan (some (w₀.heap.size + k 0))] 33), (k 3, .cells #[.chan (some (w₀.heap.size + k 1))] 33), (3, .cells #[.pointer (some ⟨w₀.heap.size + 2, 0, none⟩)] 29), (2, .cells #[.slice (some ⟨w₀.heap.size + 1, 0, none⟩) nn nn, .int .i64 0, .int .i64 0] 51), (1, .cells (madeCells #[.int .i64 0] nn) 3), (0, .cells #[.slice la N cap] 22)]
theorem KF_8 : (8, Obj.cells #[.int .u64 4294967296, .int .u32 0] 43) ∈ KF w nn N cap la k := by simp [KF]
theorem KF_10 : (10, Obj.cells #[.func (.func 9) #[] #[.pointer (some ⟨w.heap.size + 0, 0, none⟩), .pointer (some ⟨w.heap.size + 3, 0, none⟩), .pointer (some ⟨w.heap.size + k 2, 0, none⟩), .pointer (some ⟨w.heap.size + k 3, 0, none⟩)]] 1) ∈ KF w nn N cap la k := by simp [KF]
theorem KF_9 : (9, Obj.cells #[.pointer (some ⟨w.heap.size + 8, 0, none⟩)] 52) ∈ KF w nn N cap la k := by simp [KF]
theorem KF_k0 : (k 0, Obj.chan 1 #[] false 0 0 false) ∈ KF w nn N cap la k := by simp [KF]
theorem KF_k1 : (k 1, Obj.chan 1 #[] false 0 0 false) ∈ KF w nn N cap la k := by simp [KF]
theorem KF_k2 : (k 2, Obj.cells #[.chan (some (w.heap.size + k 0))] 33) ∈ KF w nn N cap la k := by simp [KF]
theorem KF_k3 : (k 3, Obj.cells #[.chan (some (w.heap.size + k 1))] 33) ∈ KF w nn N cap la k := by simp [KF]
theorem KF_3 : (3, Obj.cells #[.pointer (some ⟨w.heap.size + 2, 0, none⟩)] 29) ∈ KF w nn N cap la k := by simp [KF]
theorem KF_2 : (2, Obj.cells #[.slice (some ⟨w.heap.size + 1, 0, none⟩) nn nn, .int .i64 0, .int .i64 0] 51) ∈ KF w nn N cap la k := by simp [KF]
theorem KF_1 : (1, Obj.cells (madeCells #[.int .i64 0] nn) 3) ∈ KF w nn N cap la k := by simp [KF]
theorem KF_0 : (0, Obj.cells #[.slice la N cap] 22) ∈ KF w nn N cap la k := by simp [KF]
theorem layF_good (hk : Kc k) {c : Nat} (hc : 0 < c) (hn : 1 ≤ nn) : (layF c nn w k).Good := by
  have r0 := hk.rng 0 (by omega)
  have r1 := hk.rng 1 (by omega)
  have ne : k 0 ≠ k 1 := fun e => absurd (hk.inj 0 1 (by omega) (by omega) e) (by omega)
  constructor <;> simp only [layF] <;> omega
theorem sh_start {w₃ : World} (hF : Fk w 11 (KF w nn N cap la k) w₃) (c : Nat) : ShAt (layF c nn w k) (datF nn N w z) ⟨0, 0, false, false, false, .a⟩ w₃ := by
  refine ⟨hF.get KF_2, ⟨_, hF.get KF_1, size_madeCells _ _, fun m _ h => by simp at h, fun h => by cases h⟩, fun x => ?_, hF.get KF_8⟩
  cases x
  · exact ⟨0, 0, hF.get KF_k0⟩
  · exact ⟨0, 0, hF.get KF_k1⟩
theorem hyp_start {w₃ : World} (hF : Fk w 11 (KF w nn N cap la k) w₃) (hk : Kc k) {c : Nat} (hc : 0 < c) (hn1 : 1 ≤ nn) (hn2 : nn ≤ 65536) (hN : N ≤ 17592186044416) (hsh : ∀ ad : Addr, w.heap.size ≤ ad.block → ¬ Shun (.cell ad)) (hl : Lin Shun w la N lb lo z) :
    Hyp (layF c nn w k) (datF nn N w z) Shun w₃ (envF w k lb lo cap la z) := by
  have r0 := hk.rng 0 (by omega)
  have r1 := hk.rng 1 (by omega)
  have r2 := hk.rng 2 (by omega)
  have r3 := hk.rng 3 (by omega)
  have n02 : k 0 ≠ k 2 := fun e => absurd (hk.inj 0 2 (by omega) (by omega) e) (by omega)
  have n03 : k 0 ≠ k 3 := fun e => absurd (hk.inj 0 3 (by omega) (by omega) e) (by omega)
  have n12 : k 1 ≠ k 2 := fun e => absurd (hk.inj 1 2 (by omega) (by omega) e) (by omega)
  have n13 : k 1 ≠ k 3 := fun e => absurd (hk.inj 1 3 (by omega) (by omega) e) (by omega)
  have cw : ∀ {b : Nat} {v : Value} {ty : TypeId}, (b, Obj.cells #[v] ty) ∈ KF w nn N cap la k → b < 11 → b ≠ 1 → b ≠ 2 → b ≠ 8 → b ≠ k 0 → b ≠ k 1 → Cw (layF c nn w k) (datF nn N w z) Shun w₃ ⟨w.heap.size + b, 0, none⟩ v := fun {b v ty} hm h1 h2 h3 h4 h5 h6 => by
    refine ⟨.inr ⟨(hF.cell hm rfl).1, by show w.heap.size + b < w.heap.size + 11; omega, ?_⟩, hsh _ (by show w.heap.size ≤ w.heap.size + b; omega)⟩
    simp only [Lay.sp, layF]
    omega
  refine { good := layF_good hk hc hn1, nb := hn2, Nb := hN, sh := fun ad h => hsh ad (by simp only [layF] at h; omega), hdr := rfl, unit := rfl, val := fun _ => rfl, rd := hsh _ (by show w.heap.size ≤ w.heap.size + 2; omega), la := hl.la, cl := ?_, cR := ?_, cF := ?_, cE := ?_, cw := ?_, cf := ?_, el := fun i hi => ?_ }
  · exact cw KF_0 (by omega) (by omega) (by omega) (by omega) (by omega) (by omega)
  · exact cw KF_3 (by omega) (by omega) (by omega) (by omega) (by omega) (by omega)
  · exact cw KF_k2 (by omega) (by omega) (by omega) (by omega) (by omega) (by omega)
  · exact cw KF_k3 (by omega) (by omega) (by omega) (by omega) (by omega) (by omega)
  · exact cw KF_9 (by omega) (by omega) (by omega) (by omega) (by omega) (by omega)
  · exact cw KF_10 (by omega) (by omega) (by omega) (by omega) (by omega) (by omega)
  · obtain ⟨h1, h2, h3⟩ := hl.el i hi
    refine ⟨.inr ⟨?_, by show lb < w.heap.size + 11; omega, ?_⟩, h3⟩
    · rw [cell_of_heap (hF.low lb h2)]; exact h1
    · simp only [Lay.sp, layF, envF]
      omega
theorem kw_start {w₃ : World} {x : Bool} (hF : Fk w 11 (KF w nn N cap la k) w₃) (c d : Nat) : KW (layF c nn w k) (datF nn N w z) w₃ x 0 (w₃.at d) := by
  have hs := sh_start (z := z) hF c
  refine ⟨fun _ _ _ => rfl, ⟨_, _, hs.ring, by cases x <;> rfl⟩, ?_, ⟨_, _, hs.grp⟩⟩
  show w.heap.size + 11 ≤ w₃.heap.size
  rw [hF.size]
  exact Nat.le_refl _
end
end Go.Proofs.Ytjgdhghobohdjaa.Rg
namespace Go.Proofs.Ytjgdhghobohdjaa.Rg
open Go Go.Conc
open Go.ConcN (sumTo)

section
variable {Shun : Loc → Prop} {w : World} {gs : Array Goroutine} {t : Trace} {q : Nat → Nat} {cs : List Frame} {nn N cap lb lo : Nat} {la : Option Addr} {z : Nat → Int} {k : Nat → Nat}
theorem goes_carry {P : Program} {x : Bool} {R : World → World → Prop} {D : World → World → Array Event → Prop} {Stop : Goroutine → World → Prop} {S : World → World → Prop} (ht : ∀ a b c, S a b → S b c → S a c) (hR : ∀ w w', R w w' → S w w') (hD : ∀ w w' es, D w w' es → S w w') {w₀ : World} : ∀ {n : Nat} {g : Goroutine} {w : World}, S w₀ w → Goes P x R D Stop n g w → Goes P x R D (fun g' w' => Stop g' w' ∧ S w₀ w') n g w
  | 0, _, _, h0, h => fun w₁ r => ⟨h w₁ r, ht _ _ _ h0 (hR _ _ r)⟩
  | n + 1, g, w, h0, h => by
    rcases h with hs | ⟨hr, hst⟩
    · exact .inl fun w₁ r => ⟨hs w₁ r, ht _ _ _ h0 (hR _ _ r)⟩
    · refine .inr ⟨hr, fun w₁ r => ?_⟩
      obtain ⟨g', w', es, e, hd, hn⟩ := goes_elim (hst w₁ r)
      rw [e]
      exact ⟨hd, goes_carry ht hR hD (ht _ _ _ (ht _ _ _ h0 (hR _ _ r)) (hD _ _ _ hd)) hn⟩
def Outs (w w' : World) : Prop := w'.os = w.os ∧ w'.output = w.output ∧ w'.tape = w.tape ∧ w.heap.size ≤ w'.heap.size
theorem runs_then {P : Program} {N N' : Nat} {m m₁ m₂ : Machine} {t t₁ t₂ : Trace} (h : runNT P N m t = (.next m₁, t₁)) (hk : runNT P N' m₁ t₁ = (.next m₂, t₂)) : runNT P (N + N') m t = (.next m₂, t₂) := by
  rw [runNT_add, h]; exact hk
theorem Fk.atd {w₀ w : World} {n : Nat} {K : List (Nat × Obj)} (h : Fk w₀ n K w) (d : Nat) : Fk w₀ n K (w.at d) := h.at ⟨d, rfl⟩
theorem evD_mk {W : Nat} {B : Nat} {m : Mark} (h : m = .disable ∨ m = .enable) : ∀ e ∈ (#[mkE m] : Array Event), EvD Shun B W e := by
  intro e he
  rw [show e = mkE m from by simpa using he]
  rcases h with rfl | rfl <;> exact ⟨fun x hx => by simp [mkE, MemAct.ofEvent, MemAct.touch?] at hx, trivial, by simp [mkE]⟩
/-- Where goroutine 0 stands at the go statement, hearing. -/
theorem to_fork {b5 : Act} (hb5 : Tm b5 48 [(0, .int .i64 nn), (1, .slice la N cap)] []) (hn1 : 1 ≤ nn) (hn2 : nn ≤ 65536) (h0 : gs[0]? = some (G ((base 5).at b5 [.code c5]) cs)) (hL : Leavers Try.prog t gs q) (hP : Past Shun w.heap.size t) (hsh : ∀ ad : Addr, w.heap.size ≤ ad.block → ¬ Shun (.cell ad)) (sl : Option (Nat × Nat)) :
    ∃ (n : Nat) (gs' : Array Goroutine) (g : Goroutine) (w' : World) (sl' : Option (Nat × Nat)) (t' : Trace) (q' : Nat → Nat) (k : Nat → Nat), runNT Try.prog n (crowd gs w sl) t = (.next (crowd gs' w' sl'), t') ∧ gs'.size = gs.size ∧ gs'[0]? = some g ∧ Leavers Try.prog t' gs' q' ∧ Pd Shun (w.heap.size + 11) (w.heap.size + 8) 0 t' ∧ Kc k ∧ Fk w 11 (KF w nn N cap la k) w' ∧ LU3 w cs nn N cap la k g := by
  have hP0 : Pd Shun (w.heap.size + 11) (w.heap.size + 8) 0 t := Pd.of_past hP (by omega) (by omega)
  have B0 : w.heap.size + 11 ≤ w.heap.size + 11 := Nat.le_refl _
  obtain ⟨n1, gs1, g1, w1, sl1, t1, q1, r1, z1, i1, s1, l1, p1⟩ := lone_walk (W := w.heap.size + 8) _ _ gs _ w sl t q (Nat.le_refl _) h0 hL hP0 (L_new (w₀ := w) (w := w) (Shun := Shun) (B := w.heap.size + 11) (W := w.heap.size + 8) (cs := cs) hb5 hsh B0 hn1 hn2 (Fk.start w)) (fun g w' ⟨k, hk, _, h⟩ => (L_dis (W := 0) h hsh B0 hk).1)
  obtain ⟨k, hk, hF1, hU1⟩ := s1 w1 (atRel_refl w1)
  obtain ⟨hr1, g2, hst1, hG1⟩ := L_dis (W := w.heap.size + 8) hU1 hsh B0 hk
  obtain ⟨n2, gs2, d2, sl2, t2, q2, r2, z2, i2, l2, p2⟩ := lone_say (w := w1) hr1 hst1 (evD_mk (.inl rfl)) i1 l1 p1 sl1
  have p2' : Pd Shun (w.heap.size + 11) (w.heap.size + 8) 1 t2 := p2
  obtain ⟨n3, gs3, g3, w3, sl3, t3, q3, r3, z3, i3, s3, l3, p3⟩ := lone_walk (W := w.heap.size + 8) _ _ gs2 _ (w1.at d2) sl2 t2 q2 (Nat.le_refl _) i2 l2 p2' (hG1 (w1.at d2) (hF1.atd d2)) (fun g w' ⟨_, h⟩ => (L_ena (W := 0) h hsh B0).1)
  obtain ⟨hF3, hU3⟩ := s3 w3 (atRel_refl w3)
  obtain ⟨hr3, g4, hst3, hG3⟩ := L_ena (W := w.heap.size + 8) hU3 hsh B0
  obtain ⟨n4, gs4, d4, sl4, t4, q4, r4, z4, i4, l4, p4⟩ := lone_say (w := w3) hr3 hst3 (evD_mk (.inr rfl)) i3 l3 p3 sl3
  have p4' : Pd Shun (w.heap.size + 11) (w.heap.size + 8) 0 t4 := p4
  obtain ⟨n5, gs5, g5, w5, sl5, t5, q5, r5, z5, i5, s5, l5, p5⟩ := lone_walk (W := w.heap.size + 8) _ _ gs4 _ (w3.at d4) sl4 t4 q4 (Nat.le_refl _) i4 l4 p4' (hG3 (w3.at d4) (hF3.atd d4)) (fun g w' ⟨_, h⟩ => (L_go h).1)
  obtain ⟨hF5, hU5⟩ := s5 w5 (atRel_refl w5)
  refine ⟨n1 + n2 + n3 + n4 + n5, gs5, g5, w5, sl5, t5, q5, k, ?_, by rw [z5, z4, z3, z2, z1], i5, l5, p5, hk, hF5, hU5⟩
  exact runs_then (runs_then (runs_then (runs_then r1 r2) r3) r4) r5

/-- ████ THROUGH. ████ -/
theorem through {b5 : Act} (hb5 : Tm b5 48 [(0, .int .i64 nn), (1, .slice la N cap)] []) (hn1 : 1 ≤ nn) (hn2 : nn ≤ 65536) (hN : N ≤ 17592186044416) (h0 : gs[0]? = some (G ((base 5).at b5 [.code c5]) cs)) (hL : Leavers Try.prog t gs q) (hP : Past Shun w.heap.size t) (hsh : ∀ ad : Addr, w.heap.size ≤ ad.block → ¬ Shun (.cell ad)) (hl : Lin Shun w la N lb lo z) (sl : Option (Nat × Nat)) :
    ∃ (n : Nat) (gs' : Array Goroutine) (a' : Goroutine) (w' : World) (sl' : Option (Nat × Nat)) (t' : Trace) (q' : Nat → Nat), runNT Try.prog n (crowd gs w sl) t = (.next (crowd gs' w' sl'), t') ∧ gs'[0]? = some a' ∧ Leavers Try.prog t' gs' q' ∧ Past (fun l => Shun l ∨ ∃ b, l = .cell b ∧ b.block = w.heap.size + 8) w'.heap.size t' ∧ Thr w N z cs a' w' := by
  obtain ⟨n1, gs1, g1, w1, sl1, t1, q1, k, r1, z1, i1, l1, p1, hk, hF, hU⟩ := to_fork (cap := cap) hb5 hn1 hn2 h0 hL hP hsh sl
  have hc : 0 < gs1.size := size_lt i1
  have H := hyp_start (z := z) hF hk hc hn1 hn2 hN hsh hl
  have hS2 : ∀ y : Addr, y.block = (layF gs1.size nn w k).M → ¬ Shun (.cell y) := fun y hy => hsh y (by rw [hy]; show w.heap.size ≤ w.heap.size + 1; omega)
  obtain ⟨hr1, a', b5', hb5', b8', hb8', hsp, ha'⟩ := L_go hU
  have hlow : (layF gs1.size nn w k).low ≤ w1.heap.size := by rw [hF.size]; exact Nat.le_refl _
  -- the two begin
  have p1' : Pd Shun w1.heap.size (layF gs1.size nn w k).W 0 t1 := by rw [hF.size]; exact p1
  obtain ⟨n2, gs2, d2, sl2, t2, q2, s, p, gg, nm, r2, z2, hRI⟩ := lone_fork (Shun := Shun) (D := datF nn N w z) (At := At (layF gs1.size nn w k) (datF nn N w z) w1 (envF w k lb lo cap la z) cs) (nA := 5000) (nB := 6001) H.good rfl hr1 hsp i1 l1 p1' hS2 sl1 (sh_start hF _) (fun d => by
      rw [ha']
      have hK := kw_start (x := true) (z := z) hF gs1.size d
      by_cases e : 0 = N
      · have e1 : aft (datF nn N w z).N true 0 = .w0 := by simp [aft, datF, ← e]
        rw [e1]
        exact A_entry0 H e hK hb5' hb8'
      · have hlt : 0 < (datF nn N w z).N := by show 0 < N; omega
        have e1 : aft (datF nn N w z).N true 0 = .ld := by unfold aft; rw [if_neg (by omega)]
        rw [e1]
        exact gm (A_entry1 H hlt hK hb5' hb8') fun g w ⟨h, oa, oc, h', h''⟩ => ⟨h, oa, oc, h', hlt, h''⟩) (fun d => by
      have hK := kw_start (x := false) (z := z) hF gs1.size d
      refine Gz.ctl tmd.toTms rfl (step_born (cap := [.pointer (some ⟨w.heap.size + 9, 0, none⟩), .pointer (some ⟨w.heap.size + 10, 0, none⟩)]) Try.func15 (by kernel_rfl) (show _ = some c15 by kernel_rfl)) ?_
      have hT15 : Tm ⟨[Value.pointer (some ⟨w.heap.size + 9, 0, none⟩), .pointer (some ⟨w.heap.size + 10, 0, none⟩)].toArray ++ Array.replicate 3 undef, []⟩ 5 [(0, .pointer (some ⟨w.heap.size + 9, 0, none⟩)), (1, .pointer (some ⟨w.heap.size + 10, 0, none⟩))] [] := Tm.enter _ 3
      by_cases e : 0 = N
      · have e1 : aft (datF nn N w z).N false 0 = .d0 := by simp [aft, datF, ← e]
        rw [e1]
        exact B_entry0 H e hK hT15
      · have hlt : 0 < (datF nn N w z).N := by show 0 < N; omega
        have e1 : aft (datF nn N w z).N false 0 = .ld := by unfold aft; rw [if_neg (by omega)]
        rw [e1]
        exact gm (B_entry1 H hlt hK hT15) fun g w h => ⟨h.1, hlt, h.2⟩)
  -- as far as the join
  obtain ⟨n3, gs3, a3, w3, sl3, t3, q3, s3, r3, z3, hD⟩ := RI.runs (spec H cs) H.good hS2 (w₀ := w1.at d2) hlow _ gs2 (w1.at d2) sl2 t2 q2 s p gg nm rfl hRI
  -- goroutine 0 goes home
  obtain ⟨m3, hG3⟩ := hD.goes
  have hP3 := Pd.of_past (W := w3.heap.size) hD.past (Nat.le_refl _) (Nat.le_refl _)
  obtain ⟨n4, gs4, a4, w4, sl4, t4, q4, r4, z4, i4, s4, l4, p4⟩ := lone_walk (B := w3.heap.size) (W := w3.heap.size) _ _ gs3 a3 w3 sl3 t3 q3 (Nat.le_refl _) hD.is hD.lv hP3 (goes_to (R' := AtRel) (D' := DL _ w3.heap.size w3.heap.size) (fun _ _ => rx_at) (fun w w' es hd e he => by rw [hd.quiet rfl] at he; simp at he) (goes_carry (S := Outs) (w₀ := w3) (fun a b c h h' => ⟨h'.1.trans h.1, h'.2.1.trans h.2.1, h'.2.2.1.trans h.2.2.1, Nat.le_trans h.2.2.2 h'.2.2.2⟩) (fun w w' r => ⟨(r.mine rfl).2.2.1, (r.mine rfl).2.2.2.1, (r.mine rfl).2.2.2.2, r.grow⟩) (fun w w' es hd => ⟨hd.os, hd.output, hd.tape, hd.size⟩) ⟨rfl, rfl, rfl, Nat.le_refl _⟩ hG3)) (fun g w h => at_run h.1)
  obtain ⟨⟨hK4, oa, oc, hO4, hOut⟩, hs4⟩ := s4 w4 (atRel_refl w4)
  obtain ⟨n5, gs5, a5, w5, sl5, t5, q5, r5, z5, i5, s5, l5, p5⟩ := lone_walk (B := w3.heap.size) (W := w3.heap.size) _ _ gs4 a4 w4 sl4 t4 q4 (Nat.le_refl _) i4 l4 p4 (L_fin (L := layF gs1.size nn w k) (D := datF nn N w z) (e := envF w k lb lo cap la z) hOut) (fun g w ⟨_, b5, td, _, e⟩ => by rw [e]; rfl)
  obtain ⟨hat, b5'', td, hb5'', ha5⟩ := s5 w5 (atRel_refl w5)
  obtain ⟨d5, rfl⟩ := hat
  refine ⟨n1 + n2 + n3 + n4 + n5, gs5, a5, w4.at d5, sl5, t5, q5, runs_then (runs_then (runs_then (runs_then r1 r2) r3) r4) r5, i5, l5, ?_, ?_⟩
  · have := p5.past
    exact this.mono hs4.2.2.2
  · refine ⟨hK4.size, fun b hb => ?_, ?_, ?_, ?_, oa, oc, b5'', td, hO4, hb5'', ha5⟩
    · show w4.heap[b]? = _
      rw [hK4.low b (by show b < w.heap.size + 11; omega) (by simp only [Lay.sp, layF]; omega)]
      exact hF.low b hb
    · show w4.os = _
      rw [hs4.1, hD.keep.os]; exact hF.os
    · show w4.output = _
      rw [hs4.2.1, hD.keep.output]; exact hF.output
    · show w4.tape = _
      rw [hs4.2.2.1, hD.keep.tape]; exact hF.tape
end
end Go.Proofs.Ytjgdhghobohdjaa.Rg
namespace Go.Proofs.Ytjgdhghobohdjaa.Rg
open Go Go.Conc
def M1 (w₀ : World) (n : Int) (N cap : Nat) (la : Option Addr) (g : Goroutine) : Prop :=
  ∃ (b3 b4 b5 : Act), Tm b3 53 [(0, .int .i64 n), (1, .slice la N cap)] [] ∧ Tm b4 21 [] [] ∧ Tm b5 48 [(0, .int .i64 1), (1, .slice (some ⟨w₀.heap.size + 0, 0, none⟩) 1 1)] [] ∧ g = G ((base 5).at b5 [.code c5]) (((base 4).at b4 [.inRegion c4.pd.pa.po.toArray [1, 2, 3, 4, 5, 6], .code c4.pd.pd]) :: ((base 3).at b3 [.inRegion c3.pd.pa.pa.po.toArray [0, 1], .code c3.pd.pa.pd, .code c3.pd.pd]) :: [])
def M2 (n : Int) (N cap : Nat) (la : Option Addr) (g : Goroutine) : Prop :=
  ∃ (b3 b5 : Act), Tm b3 53 [(0, .int .i64 n), (1, .slice la N cap)] [] ∧ Tm b5 48 [(0, .int .i64 n), (1, .slice la N cap)] [] ∧ g = G ((base 5).at b5 [.code c5]) (((base 3).at b3 [.inRegion c3.pd.pd.pa.po.toArray [2, 3, 4, 5, 6, 7], .code c3.pd.pd.pd]) :: [])
def M3 (N cap oc : Nat) (oa la : Option Addr) (i : Nat) (g : Goroutine) : Prop :=
  ∃ (b3 : Act), Tm b3 53 [(1, .slice la N cap), (5, .slice oa N oc), (39, .int .i64 N), (40, .int .i64 i)] [] ∧ g = G ((base 3).at b3 [.code c3.pd.pd.pd.pd.pd.pa.pd.pa.pa, .inLoop c3.pd.pd.pd.pd.pd.pa.pd.pa.pa, .inBlock 0, .code c3.pd.pd.pd.pd.pd.pd]) ([])

/-- The cells that are known and that one may look at. -/
def CL (Shun : Loc → Prop) (B : Nat) (w : World) : Kn := fun ad v => w.cell? ad = some v ∧ ad.block < B ∧ ¬ Shun (.cell ad)
section
variable {P : Program} {Shun : Loc → Prop} {B W : Nat} {w w₁ : World} {n : Nat} {g : Gm} {ds : List Deferred} {o : Oper}
theorem kenL (hat : AtRel w w₁) : Ken P AtRel (DL Shun B W) (CL Shun B w) w₁ := by
  refine ⟨fun ad v hc w₂ h₂ => ?_⟩
  obtain ⟨d, rfl⟩ := hat
  obtain ⟨d', rfl⟩ := h₂
  refine ⟨hc.1, fun es hes e he => ?_⟩
  rw [hes e he]
  exact evD_cell (fun _ => hc.2.2) hc.2.1
theorem op_one {X E : TypeId} {ti : TypeInfo} {z0 : Value} {v : Int} (hop : o.op = .buildSlice X 1 #[(0, .const (.int .i64 v))]) (hX : P.underlying X = some (.slice E)) (hi : P.info? E = some ti) (hi1 : ti.size = 1) (hi3 : ti.zero = some (.int .i64 0)) : ∀ a', Tm a' n g ds → ∀ w, (execOp a'.eval o).run P w = .ok (.value (.slice (some ⟨w.heap.size, 0, none⟩) 1 1)) (w.alloc (.cells #[.int .i64 v] E)) ∧ (execOp a'.eval o).events P w #[] = #[] := fun a' hT w => by
  have ec : a'.eval (.const (.int .i64 v)) = .int .i64 v := rfl
  have := run_buildSlice (P := P) w X E 1 #[(0, .int .i64 v)] #[.int .i64 v] ti (.int .i64 0) hX hi hi3 (by rw [hi1]; decide) (by rw [hi1]; decide) (by rw [hi1]; simp [Instr.fill, Value.cells, show Array.range 1 = #[0] by decide])
  exact ⟨by simp [execOp, hop, ec, this], by simp [execOp, hop, ec, Instr.buildSlice, run_underlying hX, run_size hi, hi1, run_zero hi hi3, ev_zero hi hi3, Instr.fill, newRow, Value.cells]⟩
theorem n_neq {a b : Int} (h : a = b) : (Value.bool (!decide (a = b))) = .bool false := by
  rw [decide_eq_true h]; rfl
end
end Go.Proofs.Ytjgdhghobohdjaa.Rg
namespace Go.Proofs.Ytjgdhghobohdjaa.Rg
open Go Go.Conc
section
variable {w₀ w w₁ : World} {Shun : Loc → Prop} {B W : Nat} {N cap nn ob oc lb lo : Nat} {la : Option Addr} {n : Int} {g : Goroutine} {i : Nat} {z : Nat → Int}
theorem M_one {b3 : Act} (hb3 : Tm b3 53 [(0, .int .i64 n), (1, .slice la N cap)] []) (hF : Fk w₀ 0 [] w) :
    Goes Try.prog true AtRel (DL Shun B W) (fun g w => Fk w₀ 1 [(0, .cells #[.int .i64 7] 3)] w ∧ M1 w₀ n N cap la g) 4000 (G ((base 3).at b3 [.code c3]) ([])) w := by
  have TD : Tmd AtRel (DL Shun B W) := tmdL
  have T := TD.toTms
  have K : ∀ w, Ken Try.prog AtRel (DL Shun B W) (fun _ _ => False) w := fun _ => ⟨fun _ _ hc => hc.elim⟩
  refine Gz.seqE T (by kernel_rfl : c3 = .seq c3.pa c3.pd) ?_
  refine Gz.regionE (id := 0) (l := c3.pa.po) (r := [0]) T (by kernel_rfl) (by kernel_rfl) ?_
  refine Gz.row T (K _) (by decide) hb3 [] [0] [] [0, 1] (g' := [(0, .int .i64 n), (1, .slice la N cap)]) (qs := []) (by kernel_rfl) (by kernel_rfl) (by simp) (fun a1 hT1 => ?_)
  refine Gz.rend T ?_
  refine Gz.seqE T (by kernel_rfl : c3.pd = .seq c3.pd.pa c3.pd.pd) ?_
  refine Gz.seqE T (by kernel_rfl : c3.pd.pa = .seq c3.pd.pa.pa c3.pd.pa.pd) ?_
  refine Gz.regionE (id := 1) (l := c3.pd.pa.pa.po) (r := [0, 1]) T (by kernel_rfl) (by kernel_rfl) ?_
  refine Mz.enter (o := opq c3.pd.pa.pa 0) (q := .func 4) (f := 4) (cc := c4) (cap := []) (args := #[]) (ats := #[]) (mvG T) hT1 [] 21 (by kernel_rfl) (by kernel_rfl) (by decide) (by kernel_rfl) (by kernel_rfl) Try.func4 (by kernel_rfl) (by kernel_rfl) (by kernel_rfl) (by kernel_rfl) (by kernel_rfl) (fun a2 hT2 => ?_)
  refine Gz.seqE T (by kernel_rfl : c4 = .seq c4.pa c4.pd) ?_
  refine Gz.regionE (id := 0) (l := c4.pa.po) (r := [0]) T (by kernel_rfl) (by kernel_rfl) ?_
  refine Gz.row T (K _) (by decide) hT2 [] [0] [] [] (g' := []) (qs := []) (by kernel_rfl) (by kernel_rfl) (by simp) (fun a3 hT3 => ?_)
  refine Gz.rend T ?_
  refine Gz.seqE T (by kernel_rfl : c4.pd = .seq c4.pd.pa c4.pd.pd) ?_
  refine Gz.regionE (id := 1) (l := c4.pd.pa.po) (r := [0, 1, 2, 3, 4, 5, 6]) T (by kernel_rfl) (by kernel_rfl) ?_
  refine Gz.mk1 (w₀ := w₀) (N := 0) (o := opq c4.pd.pa 0) (d := 4) (by decide) hT3 hF (by kernel_rfl) (by kernel_rfl) (by decide) (by kernel_rfl) (v := fun b => .slice (some ⟨b, 0, none⟩) 1 1) (ob := .cells #[.int .i64 7] 3) (op_one (X := 22) (E := 3) (ti := (Try.prog.info? 3).getD default) (z0 := .int .i64 0) (by kernel_rfl) (by kernel_rfl) (by kernel_rfl) (by kernel_rfl) (by kernel_rfl)) (fun a4 w hT hF => ?_)
  have hT4 : Tm a4 21 ((4, .slice (some ⟨w₀.heap.size + 0, 0, none⟩) 1 1) :: []) [] := hT
  clear hT
  refine Mz.enter (o := opq c4.pd.pa 1) (q := .func 5) (f := 5) (cc := c5) (cap := []) (args := #[.const (.int .i64 1), .tmp 4]) (ats := #[3, 22]) (mvG T) hT4 [.int .i64 1, .slice (some ⟨w₀.heap.size + 0, 0, none⟩) 1 1] 48 (by kernel_rfl) (by kernel_rfl) (by decide) (by kernel_rfl) (by kernel_rfl) Try.func5 (by kernel_rfl) (by kernel_rfl) (by kernel_rfl) (by kernel_rfl) (by kernel_rfl) (fun a5 hT5 => ?_)
  have h3M1 := hT1.live [0, 1] (g' := [(0, .int .i64 n), (1, .slice la N cap)]) (by kernel_rfl)
  have h4M1 := hT4.live [] (g' := []) (by kernel_rfl)
  have h5M1 := hT5.live [0, 1] (g' := [(0, .int .i64 1), (1, .slice (some ⟨w₀.heap.size + 0, 0, none⟩) 1 1)]) (by kernel_rfl)
  exact Goes.stop fun w₂ h₂ => ⟨hF.at h₂, a1, a4, a5, h3M1, h4M1, h5M1, rfl⟩
theorem M_two {b3 : Act} (hb3 : Tm b3 53 [(0, .int .i64 n), (1, .slice la N cap)] []) {b4 : Act} (hb4 : Tm b4 21 [] []) {b5 : Act} (hb5 : Tm b5 48 [(4, .slice (some ⟨ob, 0, none⟩) 1 oc), (5, .int .i64 0)] []) {todo : List Item} (hc : CL Shun B w ⟨ob, 0, none⟩ (.int .i64 7)) (hat : AtRel w w₁) :
    Goes Try.prog true AtRel (DL Shun B W) (fun g w₂ => AtRel w w₂ ∧ M2 n N cap la g) 4000 (G { (base 5).at b5 todo with mode := .returning } (((base 4).at b4 [.inRegion c4.pd.pa.po.toArray [1, 2, 3, 4, 5, 6], .code c4.pd.pd]) :: ((base 3).at b3 [.inRegion c3.pd.pa.pa.po.toArray [0, 1], .code c3.pd.pa.pd, .code c3.pd.pd]) :: [])) w₁ := by
  have TD : Tmd AtRel (DL Shun B W) := tmdL
  have T := TD.toTms
  have K : Ken Try.prog AtRel (DL Shun B W) (CL Shun B w) w₁ := kenL hat
  refine Gz.back2 (t := 4) (t' := 5) (v := .slice (some ⟨ob, 0, none⟩) 1 oc) (u := .int .i64 0) (d := 5) T hb5 hb4 rfl Try.func5 (by kernel_rfl) (by kernel_rfl) (by kernel_rfl) (by kernel_rfl) (by decide) (fun a1 hT1 => ?_)
  refine Gz.row T K (by decide) hT1 [] [2, 3, 4, 5, 6] [] [2, 1] (g' := [(2, .int .i64 0), (1, .slice (some ⟨ob, 0, none⟩) 1 oc)]) (qs := []) (by kernel_rfl) (by kernel_rfl) (by simp) (fun a2 hT2 => ?_)
  refine Gz.rend T ?_
  refine Gz.seqE T (by kernel_rfl : c4.pd.pd = .seq c4.pd.pd.pa c4.pd.pd.pd) ?_
  refine Gz.regionE (id := 2) (l := c4.pd.pd.pa.po) (r := [0, 1, 2, 3, 4, 5, 6, 7, 8, 9, 10, 11, 12, 13]) T (by kernel_rfl) (by kernel_rfl) ?_
  refine Gz.row T K (by decide) hT2 [] [0, 1, 2, 3, 4, 5, 6, 7, 8, 9] [10, 11, 12, 13] [17, 15] (g' := [(17, .pointer (some ⟨ob, 0, none⟩)), (15, .bool true)]) (qs := []) (by kernel_rfl) (by kernel_rfl) (by simp) (fun a3 hT3 => ?_)
  refine Gz.load (o := opq c4.pd.pd.pa 10) (d := 18) (X := 3) (y := .tmp 17) (ad := ⟨ob, 0, none⟩) T K (by decide) hT3 (v := .int .i64 7) (by kernel_rfl) (by kernel_rfl) (by decide) (by kernel_rfl) (by kernel_rfl) (by kernel_rfl) (by kernel_rfl) (by kernel_rfl) hc (fun a4 hT4 => ?_)
  refine Gz.row T K (by decide) hT4 [] [11, 12, 13] [] [0] (g' := [(0, .bool true)]) (qs := []) (by kernel_rfl) (by kernel_rfl) (by simp) (fun a5 hT5 => ?_)
  refine Gz.rend T ?_
  refine Gz.retE T (by kernel_rfl) ?_
  refine Gz.back1 (t := 0) (v := .bool true) (d := 9) T hT5 hb3 rfl Try.func4 (by kernel_rfl) (by kernel_rfl) (by kernel_rfl) (by decide) (fun a6 hT6 => ?_)
  refine Gz.row T K (by decide) hT6 [] [1] [] [10, 0, 1] (g' := [(10, .bool false), (0, .int .i64 n), (1, .slice la N cap)]) (qs := []) (by kernel_rfl) (by kernel_rfl) (by simp) (fun a7 hT7 => ?_)
  refine Gz.rend T ?_
  refine Gz.condFE (q := .tmp 10) (y := c3.pd.pa.pd.pa) (z := c3.pd.pa.pd.pd) T (by kernel_rfl) hT7 (by kernel_rfl) ?_
  refine Gz.skipE T (by kernel_rfl) ?_
  refine Gz.seqE T (by kernel_rfl : c3.pd.pd = .seq c3.pd.pd.pa c3.pd.pd.pd) ?_
  refine Gz.regionE (id := 3) (l := c3.pd.pd.pa.po) (r := [0, 1, 2, 3, 4, 5, 6, 7]) T (by kernel_rfl) (by kernel_rfl) ?_
  refine Gz.row T K (by decide) hT7 [] [0, 1] [2, 3, 4, 5, 6, 7] [13, 12, 0, 1] (g' := [(13, .slice la N cap), (12, .int .i64 n), (0, .int .i64 n), (1, .slice la N cap)]) (qs := []) (by kernel_rfl) (by kernel_rfl) (by simp) (fun a8 hT8 => ?_)
  refine Mz.enter (o := opq c3.pd.pd.pa 2) (q := .func 5) (f := 5) (cc := c5) (cap := []) (args := #[.tmp 12, .tmp 13]) (ats := #[3, 22]) (mvG T) hT8 [.int .i64 n, .slice la N cap] 48 (by kernel_rfl) (by kernel_rfl) (by decide) (by kernel_rfl) (by kernel_rfl) Try.func5 (by kernel_rfl) (by kernel_rfl) (by kernel_rfl) (by kernel_rfl) (by kernel_rfl) (fun a9 hT9 => ?_)
  have h3M2 := hT8.live [0, 1] (g' := [(0, .int .i64 n), (1, .slice la N cap)]) (by kernel_rfl)
  have h5M2 := hT9.live [0, 1] (g' := [(0, .int .i64 n), (1, .slice la N cap)]) (by kernel_rfl)
  exact Goes.stop fun w₂ h₂ => ⟨atRel_trans _ _ _ hat h₂, a8, a9, h3M2, h5M2, rfl⟩
theorem M_three {oa : Option Addr} {b3 : Act} (hb3 : Tm b3 53 [(0, .int .i64 nn), (1, .slice la N cap)] []) {b5 : Act} (hb5 : Tm b5 48 [(4, .slice oa N oc), (5, .int .i64 0)] []) {todo : List Item} (h1 : 1 ≤ nn) (h2 : nn ≤ 65536) (hat : AtRel w w₁) :
    Goes Try.prog true AtRel (DL Shun B W) (fun g w₂ => AtRel w w₂ ∧ M3 N cap oc oa la 0 g) 4000 (G { (base 5).at b5 todo with mode := .returning } (((base 3).at b3 [.inRegion c3.pd.pd.pa.po.toArray [2, 3, 4, 5, 6, 7], .code c3.pd.pd.pd]) :: [])) w₁ := by
  have TD : Tmd AtRel (DL Shun B W) := tmdL
  have T := TD.toTms
  have K : Ken Try.prog AtRel (DL Shun B W) (CL Shun B w) w₁ := kenL hat
  refine Gz.back2 (t := 4) (t' := 5) (v := .slice oa N oc) (u := .int .i64 0) (d := 14) T hb5 hb3 rfl Try.func5 (by kernel_rfl) (by kernel_rfl) (by kernel_rfl) (by kernel_rfl) (by decide) (fun a1 hT1 => ?_)
  refine Gz.row T K (by decide) hT1 [] [3, 4, 5, 6, 7] [] [6, 5, 0, 1] (g' := [(6, .int .i64 0), (5, .slice oa N oc), (0, .int .i64 nn), (1, .slice la N cap)]) (qs := []) (by kernel_rfl) (by kernel_rfl) (by simp) (fun a2 hT2 => ?_)
  refine Gz.rend T ?_
  refine Gz.seqE T (by kernel_rfl : c3.pd.pd.pd = .seq c3.pd.pd.pd.pa c3.pd.pd.pd.pd) ?_
  refine Gz.seqE T (by kernel_rfl : c3.pd.pd.pd.pa = .seq c3.pd.pd.pd.pa.pa c3.pd.pd.pd.pa.pd) ?_
  refine Gz.regionE (id := 4) (l := c3.pd.pd.pd.pa.pa.po) (r := [0, 1, 2]) T (by kernel_rfl) (by kernel_rfl) ?_
  refine Gz.row T K (by decide) hT2 [] [0] [1, 2] [17, 6, 5, 1] (g' := [(17, .int .i64 nn), (6, .int .i64 0), (5, .slice oa N oc), (1, .slice la N cap)]) (qs := []) (by kernel_rfl) (by kernel_rfl) (by simp) (fun a3 hT3 => ?_)
  refine Mz.enter (o := opq c3.pd.pd.pd.pa.pa 1) (q := .func 6) (f := 6) (cc := c6) (cap := []) (args := #[.tmp 17]) (ats := #[3]) (mvG T) hT3 [.int .i64 nn] 9 (by kernel_rfl) (by kernel_rfl) (by decide) (by kernel_rfl) (by kernel_rfl) Try.func6 (by kernel_rfl) (by kernel_rfl) (by kernel_rfl) (by kernel_rfl) (by kernel_rfl) (fun a4 hT4 => ?_)
  refine Gz.seqE T (by kernel_rfl : c6 = .seq c6.pa c6.pd) ?_
  refine Gz.regionE (id := 0) (l := c6.pa.po) (r := [0]) T (by kernel_rfl) (by kernel_rfl) ?_
  refine Gz.row T K (by decide) hT4 [] [0] [] [0] (g' := [(0, .int .i64 nn)]) (qs := []) (by kernel_rfl) (by kernel_rfl) (by simp) (fun a5 hT5 => ?_)
  refine Gz.rend T ?_
  refine Gz.seqE T (by kernel_rfl : c6.pd = .seq c6.pd.pa c6.pd.pd) ?_
  refine Gz.seqE T (by kernel_rfl : c6.pd.pa = .seq c6.pd.pa.pa c6.pd.pa.pd) ?_
  refine Gz.regionE (id := 1) (l := c6.pd.pa.pa.po) (r := [0, 1, 2, 3, 4, 5]) T (by kernel_rfl) (by kernel_rfl) ?_
  refine Gz.row T K (by decide) hT5 [] [0] [1, 2, 3, 4, 5] [3, 0] (g' := [(3, .int .i64 nn), (0, .int .i64 nn)]) (qs := []) (by kernel_rfl) (by kernel_rfl) (by simp) (fun a6 hT6 => ?_)
  refine Gz.hint (o := opq c6.pd.pa.pa 1) (d := 4) T (by decide) hT6 (v := .bool false) (by kernel_rfl) (by kernel_rfl) (by decide) (by kernel_rfl) (by kernel_rfl) (congrArg some (n_one (by omega))) (fun a7 hT7 => ?_)
  refine Gz.row T K (by decide) hT7 [] [2, 3] [4, 5] [6, 5] (g' := [(6, .int .i64 nn), (5, .bool false)]) (qs := []) (by kernel_rfl) (by kernel_rfl) (by simp) (fun a8 hT8 => ?_)
  refine Gz.hint (o := opq c6.pd.pa.pa 4) (d := 7) T (by decide) hT8 (v := .bool false) (by kernel_rfl) (by kernel_rfl) (by decide) (by kernel_rfl) (by kernel_rfl) (congrArg some (n_top (by omega))) (fun a9 hT9 => ?_)
  refine Gz.row T K (by decide) hT9 [] [5] [] [8] (g' := [(8, .bool false)]) (qs := []) (by kernel_rfl) (by kernel_rfl) (by simp) (fun a10 hT10 => ?_)
  refine Gz.rend T ?_
  refine Gz.condFE (q := .tmp 8) (y := c6.pd.pa.pd.pa) (z := c6.pd.pa.pd.pd) T (by kernel_rfl) hT10 (by kernel_rfl) ?_
  refine Gz.skipE T (by kernel_rfl) ?_
  refine Gz.seqE T (by kernel_rfl : c6.pd.pd = .seq c6.pd.pd.pa c6.pd.pd.pd) ?_
  refine Gz.regionE (id := 3) (l := c6.pd.pd.pa.po) (r := [0]) T (by kernel_rfl) (by kernel_rfl) ?_
  refine Gz.row T K (by decide) hT10 [] [0] [] [2] (g' := [(2, .int .i64 0)]) (qs := []) (by kernel_rfl) (by kernel_rfl) (by simp) (fun a11 hT11 => ?_)
  refine Gz.rend T ?_
  refine Gz.retE T (by kernel_rfl) ?_
  refine Gz.back1 (t := 2) (v := .int .i64 0) (d := 18) T hT11 hT3 rfl Try.func6 (by kernel_rfl) (by kernel_rfl) (by kernel_rfl) (by decide) (fun a12 hT12 => ?_)
  refine Gz.row T K (by decide) hT12 [] [2] [] [7, 6, 5, 1] (g' := [(7, .int .i64 0), (6, .int .i64 0), (5, .slice oa N oc), (1, .slice la N cap)]) (qs := []) (by kernel_rfl) (by kernel_rfl) (by simp) (fun a13 hT13 => ?_)
  refine Gz.rend T ?_
  refine Gz.seqE T (by kernel_rfl : c3.pd.pd.pd.pa.pd = .seq c3.pd.pd.pd.pa.pd.pa c3.pd.pd.pd.pa.pd.pd) ?_
  refine Gz.regionE (id := 5) (l := c3.pd.pd.pd.pa.pd.pa.po) (r := [0, 1, 2, 3, 4, 5]) T (by kernel_rfl) (by kernel_rfl) ?_
  refine Gz.row T K (by decide) hT13 [] [0, 1, 2, 3, 4, 5] [] [24, 7, 6, 5, 1] (g' := [(24, .bool false), (7, .int .i64 0), (6, .int .i64 0), (5, .slice oa N oc), (1, .slice la N cap)]) (qs := []) (by kernel_rfl) (by kernel_rfl) (by simp) (fun a14 hT14 => ?_)
  refine Gz.rend T ?_
  refine Gz.condFE (q := .tmp 24) (y := c3.pd.pd.pd.pa.pd.pd.pa) (z := c3.pd.pd.pd.pa.pd.pd.pd) T (by kernel_rfl) hT14 (by kernel_rfl) ?_
  refine Gz.skipE T (by kernel_rfl) ?_
  refine Gz.seqE T (by kernel_rfl : c3.pd.pd.pd.pd = .seq c3.pd.pd.pd.pd.pa c3.pd.pd.pd.pd.pd) ?_
  refine Gz.seqE T (by kernel_rfl : c3.pd.pd.pd.pd.pa = .seq c3.pd.pd.pd.pd.pa.pa c3.pd.pd.pd.pd.pa.pd) ?_
  refine Gz.regionE (id := 7) (l := c3.pd.pd.pd.pd.pa.pa.po) (r := [0, 1, 2, 3, 4]) T (by kernel_rfl) (by kernel_rfl) ?_
  refine Gz.row T K (by decide) hT14 [] [0, 1, 2, 3] [4] [36, 34, 5, 1] (g' := [(36, .int .i64 N), (34, .int .i64 N), (5, .slice oa N oc), (1, .slice la N cap)]) (qs := []) (by kernel_rfl) (by kernel_rfl) (by simp) (fun a15 hT15 => ?_)
  refine Gz.hint (o := opq c3.pd.pd.pd.pd.pa.pa 4) (d := 37) T (by decide) hT15 (v := .bool false) (by kernel_rfl) (by kernel_rfl) (by decide) (by kernel_rfl) (by kernel_rfl) (congrArg some (n_neq rfl)) (fun a16 hT16 => ?_)
  refine Gz.rend T ?_
  refine Gz.condFE (q := .tmp 37) (y := c3.pd.pd.pd.pd.pa.pd.pa) (z := c3.pd.pd.pd.pd.pa.pd.pd) T (by kernel_rfl) hT16 (by kernel_rfl) ?_
  refine Gz.skipE T (by kernel_rfl) ?_
  refine Gz.seqE T (by kernel_rfl : c3.pd.pd.pd.pd.pd = .seq c3.pd.pd.pd.pd.pd.pa c3.pd.pd.pd.pd.pd.pd) ?_
  refine Gz.seqE T (by kernel_rfl : c3.pd.pd.pd.pd.pd.pa = .seq c3.pd.pd.pd.pd.pd.pa.pa c3.pd.pd.pd.pd.pd.pa.pd) ?_
  refine Gz.regionE (id := 9) (l := c3.pd.pd.pd.pd.pd.pa.pa.po) (r := [0, 1, 2]) T (by kernel_rfl) (by kernel_rfl) ?_
  refine Gz.row T K (by decide) hT16 [] [0, 1, 2] [] [40, 39, 5, 1] (g' := [(40, .int .i64 0), (39, .int .i64 N), (5, .slice oa N oc), (1, .slice la N cap)]) (qs := []) (by kernel_rfl) (by kernel_rfl) (by simp) (fun a17 hT17 => ?_)
  refine Gz.rend T ?_
  refine Gz.blockE (id := 0) (y := c3.pd.pd.pd.pd.pd.pa.pd.pa) T (by kernel_rfl) ?_
  refine Gz.loopE (y := c3.pd.pd.pd.pd.pd.pa.pd.pa.pa) T (by kernel_rfl) ?_
  have h3M3 := hT17.live [1, 5, 39, 40] (g' := [(1, .slice la N cap), (5, .slice oa N oc), (39, .int .i64 N), (40, .int .i64 0)]) (by kernel_rfl)
  exact Goes.stop fun w₂ h₂ => ⟨atRel_trans _ _ _ hat h₂, a17, h3M3, rfl⟩

end
end Go.Proofs.Ytjgdhghobohdjaa.Rg
namespace Go.Proofs.Ytjgdhghobohdjaa.Rg
open Go Go.Conc
section
variable {w₀ w w₁ : World} {Shun : Loc → Prop} {B W : Nat} {N cap nn ob oc lb lo : Nat} {la : Option Addr} {n : Int} {g : Goroutine} {i : Nat} {z : Nat → Int}
theorem M_body {oa : Option Addr} (h : M3 N cap oc oa la i g) (hoa : 0 < N → oa = some ⟨ob, 0, none⟩) (hla : 0 < N → la = some ⟨lb, lo, none⟩) (ho : ∀ i, i < N → CL Shun B w ⟨ob, i + 0, none⟩ (.int .i64 (z i))) (hl : ∀ i, i < N → CL Shun B w ⟨lb, i + lo, none⟩ (.int .i64 (z i))) (hN : N ≤ 17592186044416) (hi : i < N) (hat : AtRel w w₁) :
    Goes Try.prog true AtRel (DL Shun B W) (fun g w₂ => AtRel w w₂ ∧ M3 N cap oc oa la (i + 1) g) 4000 g w₁ := by
  obtain ⟨b3, hb3, rfl⟩ := h
  have TD : Tmd AtRel (DL Shun B W) := tmdL
  have T := TD.toTms
  have K : Ken Try.prog AtRel (DL Shun B W) (CL Shun B w) w₁ := kenL hat
  rw [hoa (by omega), hla (by omega)] at hb3
  refine Gz.seqE T (by kernel_rfl : c3.pd.pd.pd.pd.pd.pa.pd.pa.pa = .seq c3.pd.pd.pd.pd.pd.pa.pd.pa.pa.pa c3.pd.pd.pd.pd.pd.pa.pd.pa.pa.pd) ?_
  refine Gz.regionE (id := 10) (l := c3.pd.pd.pd.pd.pd.pa.pd.pa.pa.pa.po) (r := [0]) T (by kernel_rfl) (by kernel_rfl) ?_
  refine Gz.hint (o := opq c3.pd.pd.pd.pd.pd.pa.pd.pa.pa.pa 0) (d := 41) T (by decide) hb3 (v := .bool true) (by kernel_rfl) (by kernel_rfl) (by decide) (by kernel_rfl) (by kernel_rfl) (congrArg some (n_lt hi)) (fun a1 hT1 => ?_)
  refine Gz.rend T ?_
  refine Gz.seqE T (by kernel_rfl : c3.pd.pd.pd.pd.pd.pa.pd.pa.pa.pd = .seq c3.pd.pd.pd.pd.pd.pa.pd.pa.pa.pd.pa c3.pd.pd.pd.pd.pd.pa.pd.pa.pa.pd.pd) ?_
  refine Gz.condTE (q := .tmp 41) (y := c3.pd.pd.pd.pd.pd.pa.pd.pa.pa.pd.pa.pa) (z := c3.pd.pd.pd.pd.pd.pa.pd.pa.pa.pd.pa.pd) T (by kernel_rfl) hT1 (by kernel_rfl) ?_
  refine Gz.skipE T (by kernel_rfl) ?_
  refine Gz.seqE T (by kernel_rfl : c3.pd.pd.pd.pd.pd.pa.pd.pa.pa.pd.pd = .seq c3.pd.pd.pd.pd.pd.pa.pd.pa.pa.pd.pd.pa c3.pd.pd.pd.pd.pd.pa.pd.pa.pa.pd.pd.pd) ?_
  refine Gz.blockE (id := 1) (y := c3.pd.pd.pd.pd.pd.pa.pd.pa.pa.pd.pd.pa.pa) T (by kernel_rfl) ?_
  refine Gz.seqE T (by kernel_rfl : c3.pd.pd.pd.pd.pd.pa.pd.pa.pa.pd.pd.pa.pa = .seq c3.pd.pd.pd.pd.pd.pa.pd.pa.pa.pd.pd.pa.pa.pa c3.pd.pd.pd.pd.pd.pa.pd.pa.pa.pd.pd.pa.pa.pd) ?_
  refine Gz.regionE (id := 11) (l := c3.pd.pd.pd.pd.pd.pa.pd.pa.pa.pd.pd.pa.pa.pa.po) (r := [0, 1]) T (by kernel_rfl) (by kernel_rfl) ?_
  refine Gz.row T K (by decide) hT1 [] [0, 1] [] [8, 1, 5, 39, 40] (g' := [(8, .int .i64 i), (1, .slice (some ⟨lb, lo, none⟩) N cap), (5, .slice (some ⟨ob, 0, none⟩) N oc), (39, .int .i64 N), (40, .int .i64 i)]) (qs := []) (by kernel_rfl) (by kernel_rfl) (by simp) (fun a2 hT2 => ?_)
  refine Gz.rend T ?_
  refine Gz.seqE T (by kernel_rfl : c3.pd.pd.pd.pd.pd.pa.pd.pa.pa.pd.pd.pa.pa.pd = .seq c3.pd.pd.pd.pd.pd.pa.pd.pa.pa.pd.pd.pa.pa.pd.pa c3.pd.pd.pd.pd.pd.pa.pd.pa.pa.pd.pd.pa.pa.pd.pd) ?_
  refine Gz.drawnE (id := 12) 3700 (l := c3.pd.pd.pd.pd.pd.pa.pd.pa.pa.pd.pd.pa.pa.pd.pa.po) (sp := []) (H := [(2, .val (.pointer (some ⟨ob, i + 0, none⟩))), (3, .ld ⟨ob, i + 0, none⟩ (.int .i64 ((z i)))), (6, .val (.pointer (some ⟨lb, i + lo, none⟩))), (7, .ld ⟨lb, i + lo, none⟩ (.int .i64 ((z i)))), (8, .val (.bool false))]) (vals := [.slice (some ⟨ob, 0, none⟩) N oc, .int .i64 i, .pointer (some ⟨ob, i + 0, none⟩), .int .i64 ((z i)), .slice (some ⟨lb, lo, none⟩) N cap, .int .i64 i, .pointer (some ⟨lb, i + lo, none⟩), .int .i64 ((z i)), .bool false]) (rds := [[5], [8], [43, 44], [45], [1], [8], [47, 48], [49], [46, 50]]) (bf := befs c3.pd.pd.pd.pd.pd.pa.pd.pa.pa.pd.pd.pa.pa.pd.pa.po) (qs := [(if 0 ≤ (i : Int) ∧ (i : Int) < ((N : Nat) : Int) then some (.pointer (some ⟨ob, Int.toNat (i) + 0, none⟩)) else none : Option Value) = some (.pointer (some ⟨ob, i + 0, none⟩)), (some (.pointer (some ⟨ob, i + 0, none⟩)) : Option Value) = some (.pointer (some ⟨ob, i + 0, none⟩)), (CL Shun B w) ⟨ob, i + 0, none⟩ (.int .i64 ((z i))), (if 0 ≤ (i : Int) ∧ (i : Int) < ((N : Nat) : Int) then some (.pointer (some ⟨lb, Int.toNat (i) + lo, none⟩)) else none : Option Value) = some (.pointer (some ⟨lb, i + lo, none⟩)), (some (.pointer (some ⟨lb, i + lo, none⟩)) : Option Value) = some (.pointer (some ⟨lb, i + lo, none⟩)), (CL Shun B w) ⟨lb, i + lo, none⟩ (.int .i64 ((z i))), (some (.bool (!decide ((z i) = (z i)))) : Option Value) = some (.bool false)]) TD (by kernel_rfl) mixed K (by decide) hT2 (by kernel_rfl) (by kernel_rfl) (by kernel_rfl) (by kernel_rfl) (Rg.oc (n_idx hi) (Rg.oc rfl (Rg.oc (ho i hi) (Rg.oc (n_idx hi) (Rg.oc rfl (Rg.oc (hl i hi) (Rg.oc (congrArg some (n_neq rfl)) Rg.on))))))) (by kernel_rfl) (by kernel_rfl) (fun j fuel t listed a3 hsp hlf hM hun => ?_) (fun listed a3 hall hJ hun => ?_)
  · simp at hsp
  have hT3 := hJ.finE hall [1, 5, 39, 40, 51] (g' := [(1, .slice (some ⟨lb, lo, none⟩) N cap), (5, .slice (some ⟨ob, 0, none⟩) N oc), (39, .int .i64 N), (40, .int .i64 i), (51, .bool false)]) (by kernel_rfl)
  refine Gz.rend T ?_
  refine Gz.condFE (q := .tmp 51) (y := c3.pd.pd.pd.pd.pd.pa.pd.pa.pa.pd.pd.pa.pa.pd.pd.pa) (z := c3.pd.pd.pd.pd.pd.pa.pd.pa.pa.pd.pd.pa.pa.pd.pd.pd) T (by kernel_rfl) hT3 (by kernel_rfl) ?_
  refine Gz.skipE T (by kernel_rfl) ?_
  refine Gz.out T ?_
  refine Gz.regionE (id := 14) (l := c3.pd.pd.pd.pd.pd.pa.pd.pa.pa.pd.pd.pd.po) (r := [0, 1]) T (by kernel_rfl) (by kernel_rfl) ?_
  refine Gz.hint (o := opq c3.pd.pd.pd.pd.pd.pa.pd.pa.pa.pd.pd.pd 0) (d := 52) T (by decide) hT3 (v := .int .i64 (((i + 1 : Nat) : Int))) (by kernel_rfl) (by kernel_rfl) (by decide) (by kernel_rfl) (by kernel_rfl) (n_inc (by omega)) (fun a4 hT4 => ?_)
  refine Gz.row T K (by decide) hT4 [] [1] [] [40, 1, 5, 39] (g' := [(40, .int .i64 (((i + 1 : Nat) : Int))), (1, .slice (some ⟨lb, lo, none⟩) N cap), (5, .slice (some ⟨ob, 0, none⟩) N oc), (39, .int .i64 N)]) (qs := []) (by kernel_rfl) (by kernel_rfl) (by simp) (fun a5 hT5 => ?_)
  refine Gz.rend T ?_
  refine Gz.again T ?_
  rw [← hoa (by omega), ← hla (by omega)] at hT5
  have h3M3 := hT5.live [1, 5, 39, 40] (g' := [(1, .slice la N cap), (5, .slice oa N oc), (39, .int .i64 N), (40, .int .i64 (((i + 1 : Nat) : Int)))]) (by kernel_rfl)
  exact Goes.stop fun w₂ h₂ => ⟨atRel_trans _ _ _ hat h₂, a5, h3M3, rfl⟩
theorem M_end {oa : Option Addr} (h : M3 N cap oc oa la i g) (hi : i = N) (hat : AtRel w w₁) :
    Goes Try.prog true AtRel (DL Shun B W) (fun g w₂ => AtRel w w₂ ∧ ∃ (b3 : Act) (todo : List Item), Tm b3 53 [(4, .bool true)] [] ∧ g = G { (base 3).at b3 todo with mode := .returning } []) 4000 g w₁ := by
  obtain ⟨b3, hb3, rfl⟩ := h
  have TD : Tmd AtRel (DL Shun B W) := tmdL
  have T := TD.toTms
  have K : Ken Try.prog AtRel (DL Shun B W) (CL Shun B w) w₁ := kenL hat
  refine Gz.seqE T (by kernel_rfl : c3.pd.pd.pd.pd.pd.pa.pd.pa.pa = .seq c3.pd.pd.pd.pd.pd.pa.pd.pa.pa.pa c3.pd.pd.pd.pd.pd.pa.pd.pa.pa.pd) ?_
  refine Gz.regionE (id := 10) (l := c3.pd.pd.pd.pd.pd.pa.pd.pa.pa.pa.po) (r := [0]) T (by kernel_rfl) (by kernel_rfl) ?_
  refine Gz.hint (o := opq c3.pd.pd.pd.pd.pd.pa.pd.pa.pa.pa 0) (d := 41) T (by decide) hb3 (v := .bool false) (by kernel_rfl) (by kernel_rfl) (by decide) (by kernel_rfl) (by kernel_rfl) (congrArg some (n_nlt (by omega))) (fun a1 hT1 => ?_)
  refine Gz.rend T ?_
  refine Gz.seqE T (by kernel_rfl : c3.pd.pd.pd.pd.pd.pa.pd.pa.pa.pd = .seq c3.pd.pd.pd.pd.pd.pa.pd.pa.pa.pd.pa c3.pd.pd.pd.pd.pd.pa.pd.pa.pa.pd.pd) ?_
  refine Gz.condFE (q := .tmp 41) (y := c3.pd.pd.pd.pd.pd.pa.pd.pa.pa.pd.pa.pa) (z := c3.pd.pd.pd.pd.pd.pa.pd.pa.pa.pd.pa.pd) T (by kernel_rfl) hT1 (by kernel_rfl) ?_
  refine Gz.exitE (id := 0) T (by kernel_rfl) rfl ?_
  refine Gz.seqE T (by kernel_rfl : c3.pd.pd.pd.pd.pd.pd = .seq c3.pd.pd.pd.pd.pd.pd.pa c3.pd.pd.pd.pd.pd.pd.pd) ?_
  refine Gz.regionE (id := 15) (l := c3.pd.pd.pd.pd.pd.pd.pa.po) (r := [0]) T (by kernel_rfl) (by kernel_rfl) ?_
  refine Gz.row T K (by decide) hT1 [] [0] [] [4] (g' := [(4, .bool true)]) (qs := []) (by kernel_rfl) (by kernel_rfl) (by simp) (fun a2 hT2 => ?_)
  refine Gz.rend T ?_
  refine Gz.retE T (by kernel_rfl) ?_
  exact Goes.stop fun w₂ h₂ => ⟨atRel_trans _ _ _ hat h₂, _, _, hT2.live [4] (g' := [(4, .bool true)]) (by kernel_rfl), rfl⟩
theorem M_low {b3 : Act} (hb3 : Tm b3 53 [(0, .int .i64 n), (1, .slice la N cap)] []) {b5 : Act} (hb5 : Tm b5 48 [(4, .slice none 0 0), (5, .int .i64 3)] []) {todo : List Item} (hz : n < 1) (hat : AtRel w w₁) :
    Goes Try.prog true AtRel (DL Shun B W) (fun g w₂ => AtRel w w₂ ∧ ∃ (b3 : Act) (todo : List Item), Tm b3 53 [(4, .bool true)] [] ∧ g = G { (base 3).at b3 todo with mode := .returning } []) 4000 (G { (base 5).at b5 todo with mode := .returning } (((base 3).at b3 [.inRegion c3.pd.pd.pa.po.toArray [2, 3, 4, 5, 6, 7], .code c3.pd.pd.pd]) :: [])) w₁ := by
  have TD : Tmd AtRel (DL Shun B W) := tmdL
  have T := TD.toTms
  have K : Ken Try.prog AtRel (DL Shun B W) (CL Shun B w) w₁ := kenL hat
  refine Gz.back2 (t := 4) (t' := 5) (v := .slice none 0 0) (u := .int .i64 3) (d := 14) T hb5 hb3 rfl Try.func5 (by kernel_rfl) (by kernel_rfl) (by kernel_rfl) (by kernel_rfl) (by decide) (fun a1 hT1 => ?_)
  refine Gz.row T K (by decide) hT1 [] [3, 4, 5, 6, 7] [] [6, 5, 0, 1] (g' := [(6, .int .i64 3), (5, .slice none 0 0), (0, .int .i64 n), (1, .slice la N cap)]) (qs := []) (by kernel_rfl) (by kernel_rfl) (by simp) (fun a2 hT2 => ?_)
  refine Gz.rend T ?_
  refine Gz.seqE T (by kernel_rfl : c3.pd.pd.pd = .seq c3.pd.pd.pd.pa c3.pd.pd.pd.pd) ?_
  refine Gz.seqE T (by kernel_rfl : c3.pd.pd.pd.pa = .seq c3.pd.pd.pd.pa.pa c3.pd.pd.pd.pa.pd) ?_
  refine Gz.regionE (id := 4) (l := c3.pd.pd.pd.pa.pa.po) (r := [0, 1, 2]) T (by kernel_rfl) (by kernel_rfl) ?_
  refine Gz.row T K (by decide) hT2 [] [0] [1, 2] [17, 6, 5, 1] (g' := [(17, .int .i64 n), (6, .int .i64 3), (5, .slice none 0 0), (1, .slice la N cap)]) (qs := []) (by kernel_rfl) (by kernel_rfl) (by simp) (fun a3 hT3 => ?_)
  refine Mz.enter (o := opq c3.pd.pd.pd.pa.pa 1) (q := .func 6) (f := 6) (cc := c6) (cap := []) (args := #[.tmp 17]) (ats := #[3]) (mvG T) hT3 [.int .i64 n] 9 (by kernel_rfl) (by kernel_rfl) (by decide) (by kernel_rfl) (by kernel_rfl) Try.func6 (by kernel_rfl) (by kernel_rfl) (by kernel_rfl) (by kernel_rfl) (by kernel_rfl) (fun a4 hT4 => ?_)
  refine Gz.seqE T (by kernel_rfl : c6 = .seq c6.pa c6.pd) ?_
  refine Gz.regionE (id := 0) (l := c6.pa.po) (r := [0]) T (by kernel_rfl) (by kernel_rfl) ?_
  refine Gz.row T K (by decide) hT4 [] [0] [] [0] (g' := [(0, .int .i64 n)]) (qs := []) (by kernel_rfl) (by kernel_rfl) (by simp) (fun a5 hT5 => ?_)
  refine Gz.rend T ?_
  refine Gz.seqE T (by kernel_rfl : c6.pd = .seq c6.pd.pa c6.pd.pd) ?_
  refine Gz.seqE T (by kernel_rfl : c6.pd.pa = .seq c6.pd.pa.pa c6.pd.pa.pd) ?_
  refine Gz.regionE (id := 1) (l := c6.pd.pa.pa.po) (r := [0, 1, 2, 3, 4, 5]) T (by kernel_rfl) (by kernel_rfl) ?_
  refine Gz.row T K (by decide) hT5 [] [0] [1, 2, 3, 4, 5] [3, 0] (g' := [(3, .int .i64 n), (0, .int .i64 n)]) (qs := []) (by kernel_rfl) (by kernel_rfl) (by simp) (fun a6 hT6 => ?_)
  refine Gz.hint (o := opq c6.pd.pa.pa 1) (d := 4) T (by decide) hT6 (v := .bool true) (by kernel_rfl) (by kernel_rfl) (by decide) (by kernel_rfl) (by kernel_rfl) (congrArg some (n_low hz)) (fun a7 hT7 => ?_)
  refine Gz.row T K (by decide) hT7 [] [2, 3, 4, 5] [] [8] (g' := [(8, .bool true)]) (qs := []) (by kernel_rfl) (by kernel_rfl) (by simp) (fun a8 hT8 => ?_)
  refine Gz.rend T ?_
  refine Gz.condTE (q := .tmp 8) (y := c6.pd.pa.pd.pa) (z := c6.pd.pa.pd.pd) T (by kernel_rfl) hT8 (by kernel_rfl) ?_
  refine Gz.seqE T (by kernel_rfl : c6.pd.pa.pd.pa = .seq c6.pd.pa.pd.pa.pa c6.pd.pa.pd.pa.pd) ?_
  refine Gz.regionE (id := 2) (l := c6.pd.pa.pd.pa.pa.po) (r := [0]) T (by kernel_rfl) (by kernel_rfl) ?_
  refine Gz.row T K (by decide) hT8 [] [0] [] [2] (g' := [(2, .int .i64 3)]) (qs := []) (by kernel_rfl) (by kernel_rfl) (by simp) (fun a9 hT9 => ?_)
  refine Gz.rend T ?_
  refine Gz.retE T (by kernel_rfl) ?_
  refine Gz.back1 (t := 2) (v := .int .i64 3) (d := 18) T hT9 hT3 rfl Try.func6 (by kernel_rfl) (by kernel_rfl) (by kernel_rfl) (by decide) (fun a10 hT10 => ?_)
  refine Gz.row T K (by decide) hT10 [] [2] [] [7, 6, 5, 1] (g' := [(7, .int .i64 3), (6, .int .i64 3), (5, .slice none 0 0), (1, .slice la N cap)]) (qs := []) (by kernel_rfl) (by kernel_rfl) (by simp) (fun a11 hT11 => ?_)
  refine Gz.rend T ?_
  refine Gz.seqE T (by kernel_rfl : c3.pd.pd.pd.pa.pd = .seq c3.pd.pd.pd.pa.pd.pa c3.pd.pd.pd.pa.pd.pd) ?_
  refine Gz.regionE (id := 5) (l := c3.pd.pd.pd.pa.pd.pa.po) (r := [0, 1, 2, 3, 4, 5]) T (by kernel_rfl) (by kernel_rfl) ?_
  refine Gz.row T K (by decide) hT11 [] [0, 1, 2, 3, 4, 5] [] [24, 7, 6, 5, 1] (g' := [(24, .bool true), (7, .int .i64 3), (6, .int .i64 3), (5, .slice none 0 0), (1, .slice la N cap)]) (qs := []) (by kernel_rfl) (by kernel_rfl) (by simp) (fun a12 hT12 => ?_)
  refine Gz.rend T ?_
  refine Gz.condTE (q := .tmp 24) (y := c3.pd.pd.pd.pa.pd.pd.pa) (z := c3.pd.pd.pd.pa.pd.pd.pd) T (by kernel_rfl) hT12 (by kernel_rfl) ?_
  refine Gz.seqE T (by kernel_rfl : c3.pd.pd.pd.pa.pd.pd.pa = .seq c3.pd.pd.pd.pa.pd.pd.pa.pa c3.pd.pd.pd.pa.pd.pd.pa.pd) ?_
  refine Gz.regionE (id := 6) (l := c3.pd.pd.pd.pa.pd.pd.pa.pa.po) (r := [0, 1, 2, 3, 4, 5, 6, 7, 8]) T (by kernel_rfl) (by kernel_rfl) ?_
  refine Gz.row T K (by decide) hT12 [] [0, 1, 2, 3, 4, 5, 6, 7, 8] [] [4] (g' := [(4, .bool true)]) (qs := []) (by kernel_rfl) (by kernel_rfl) (by simp) (fun a13 hT13 => ?_)
  refine Gz.rend T ?_
  refine Gz.retE T (by kernel_rfl) ?_
  exact Goes.stop fun w₂ h₂ => ⟨atRel_trans _ _ _ hat h₂, _, _, hT13.live [4] (g' := [(4, .bool true)]) (by kernel_rfl), rfl⟩
theorem M_high {b3 : Act} (hb3 : Tm b3 53 [(0, .int .i64 n), (1, .slice la N cap)] []) {b5 : Act} (hb5 : Tm b5 48 [(4, .slice none 0 0), (5, .int .i64 3)] []) {todo : List Item} (hz : 65536 < n) (hat : AtRel w w₁) :
    Goes Try.prog true AtRel (DL Shun B W) (fun g w₂ => AtRel w w₂ ∧ ∃ (b3 : Act) (todo : List Item), Tm b3 53 [(4, .bool true)] [] ∧ g = G { (base 3).at b3 todo with mode := .returning } []) 4000 (G { (base 5).at b5 todo with mode := .returning } (((base 3).at b3 [.inRegion c3.pd.pd.pa.po.toArray [2, 3, 4, 5, 6, 7], .code c3.pd.pd.pd]) :: [])) w₁ := by
  have TD : Tmd AtRel (DL Shun B W) := tmdL
  have T := TD.toTms
  have K : Ken Try.prog AtRel (DL Shun B W) (CL Shun B w) w₁ := kenL hat
  refine Gz.back2 (t := 4) (t' := 5) (v := .slice none 0 0) (u := .int .i64 3) (d := 14) T hb5 hb3 rfl Try.func5 (by kernel_rfl) (by kernel_rfl) (by kernel_rfl) (by kernel_rfl) (by decide) (fun a1 hT1 => ?_)
  refine Gz.row T K (by decide) hT1 [] [3, 4, 5, 6, 7] [] [6, 5, 0, 1] (g' := [(6, .int .i64 3), (5, .slice none 0 0), (0, .int .i64 n), (1, .slice la N cap)]) (qs := []) (by kernel_rfl) (by kernel_rfl) (by simp) (fun a2 hT2 => ?_)
  refine Gz.rend T ?_
  refine Gz.seqE T (by kernel_rfl : c3.pd.pd.pd = .seq c3.pd.pd.pd.pa c3.pd.pd.pd.pd) ?_
  refine Gz.seqE T (by kernel_rfl : c3.pd.pd.pd.pa = .seq c3.pd.pd.pd.pa.pa c3.pd.pd.pd.pa.pd) ?_
  refine Gz.regionE (id := 4) (l := c3.pd.pd.pd.pa.pa.po) (r := [0, 1, 2]) T (by kernel_rfl) (by kernel_rfl) ?_
  refine Gz.row T K (by decide) hT2 [] [0] [1, 2] [17, 6, 5, 1] (g' := [(17, .int .i64 n), (6, .int .i64 3), (5, .slice none 0 0), (1, .slice la N cap)]) (qs := []) (by kernel_rfl) (by kernel_rfl) (by simp) (fun a3 hT3 => ?_)
  refine Mz.enter (o := opq c3.pd.pd.pd.pa.pa 1) (q := .func 6) (f := 6) (cc := c6) (cap := []) (args := #[.tmp 17]) (ats := #[3]) (mvG T) hT3 [.int .i64 n] 9 (by kernel_rfl) (by kernel_rfl) (by decide) (by kernel_rfl) (by kernel_rfl) Try.func6 (by kernel_rfl) (by kernel_rfl) (by kernel_rfl) (by kernel_rfl) (by kernel_rfl) (fun a4 hT4 => ?_)
  refine Gz.seqE T (by kernel_rfl : c6 = .seq c6.pa c6.pd) ?_
  refine Gz.regionE (id := 0) (l := c6.pa.po) (r := [0]) T (by kernel_rfl) (by kernel_rfl) ?_
  refine Gz.row T K (by decide) hT4 [] [0] [] [0] (g' := [(0, .int .i64 n)]) (qs := []) (by kernel_rfl) (by kernel_rfl) (by simp) (fun a5 hT5 => ?_)
  refine Gz.rend T ?_
  refine Gz.seqE T (by kernel_rfl : c6.pd = .seq c6.pd.pa c6.pd.pd) ?_
  refine Gz.seqE T (by kernel_rfl : c6.pd.pa = .seq c6.pd.pa.pa c6.pd.pa.pd) ?_
  refine Gz.regionE (id := 1) (l := c6.pd.pa.pa.po) (r := [0, 1, 2, 3, 4, 5]) T (by kernel_rfl) (by kernel_rfl) ?_
  refine Gz.row T K (by decide) hT5 [] [0] [1, 2, 3, 4, 5] [3, 0] (g' := [(3, .int .i64 n), (0, .int .i64 n)]) (qs := []) (by kernel_rfl) (by kernel_rfl) (by simp) (fun a6 hT6 => ?_)
  refine Gz.hint (o := opq c6.pd.pa.pa 1) (d := 4) T (by decide) hT6 (v := .bool false) (by kernel_rfl) (by kernel_rfl) (by decide) (by kernel_rfl) (by kernel_rfl) (congrArg some (n_one (by omega))) (fun a7 hT7 => ?_)
  refine Gz.row T K (by decide) hT7 [] [2, 3] [4, 5] [6, 5] (g' := [(6, .int .i64 n), (5, .bool false)]) (qs := []) (by kernel_rfl) (by kernel_rfl) (by simp) (fun a8 hT8 => ?_)
  refine Gz.hint (o := opq c6.pd.pa.pa 4) (d := 7) T (by decide) hT8 (v := .bool true) (by kernel_rfl) (by kernel_rfl) (by decide) (by kernel_rfl) (by kernel_rfl) (congrArg some (n_high hz)) (fun a9 hT9 => ?_)
  refine Gz.row T K (by decide) hT9 [] [5] [] [8] (g' := [(8, .bool true)]) (qs := []) (by kernel_rfl) (by kernel_rfl) (by simp) (fun a10 hT10 => ?_)
  refine Gz.rend T ?_
  refine Gz.condTE (q := .tmp 8) (y := c6.pd.pa.pd.pa) (z := c6.pd.pa.pd.pd) T (by kernel_rfl) hT10 (by kernel_rfl) ?_
  refine Gz.seqE T (by kernel_rfl : c6.pd.pa.pd.pa = .seq c6.pd.pa.pd.pa.pa c6.pd.pa.pd.pa.pd) ?_
  refine Gz.regionE (id := 2) (l := c6.pd.pa.pd.pa.pa.po) (r := [0]) T (by kernel_rfl) (by kernel_rfl) ?_
  refine Gz.row T K (by decide) hT10 [] [0] [] [2] (g' := [(2, .int .i64 3)]) (qs := []) (by kernel_rfl) (by kernel_rfl) (by simp) (fun a11 hT11 => ?_)
  refine Gz.rend T ?_
  refine Gz.retE T (by kernel_rfl) ?_
  refine Gz.back1 (t := 2) (v := .int .i64 3) (d := 18) T hT11 hT3 rfl Try.func6 (by kernel_rfl) (by kernel_rfl) (by kernel_rfl) (by decide) (fun a12 hT12 => ?_)
  refine Gz.row T K (by decide) hT12 [] [2] [] [7, 6, 5, 1] (g' := [(7, .int .i64 3), (6, .int .i64 3), (5, .slice none 0 0), (1, .slice la N cap)]) (qs := []) (by kernel_rfl) (by kernel_rfl) (by simp) (fun a13 hT13 => ?_)
  refine Gz.rend T ?_
  refine Gz.seqE T (by kernel_rfl : c3.pd.pd.pd.pa.pd = .seq c3.pd.pd.pd.pa.pd.pa c3.pd.pd.pd.pa.pd.pd) ?_
  refine Gz.regionE (id := 5) (l := c3.pd.pd.pd.pa.pd.pa.po) (r := [0, 1, 2, 3, 4, 5]) T (by kernel_rfl) (by kernel_rfl) ?_
  refine Gz.row T K (by decide) hT13 [] [0, 1, 2, 3, 4, 5] [] [24, 7, 6, 5, 1] (g' := [(24, .bool true), (7, .int .i64 3), (6, .int .i64 3), (5, .slice none 0 0), (1, .slice la N cap)]) (qs := []) (by kernel_rfl) (by kernel_rfl) (by simp) (fun a14 hT14 => ?_)
  refine Gz.rend T ?_
  refine Gz.condTE (q := .tmp 24) (y := c3.pd.pd.pd.pa.pd.pd.pa) (z := c3.pd.pd.pd.pa.pd.pd.pd) T (by kernel_rfl) hT14 (by kernel_rfl) ?_
  refine Gz.seqE T (by kernel_rfl : c3.pd.pd.pd.pa.pd.pd.pa = .seq c3.pd.pd.pd.pa.pd.pd.pa.pa c3.pd.pd.pd.pa.pd.pd.pa.pd) ?_
  refine Gz.regionE (id := 6) (l := c3.pd.pd.pd.pa.pd.pd.pa.pa.po) (r := [0, 1, 2, 3, 4, 5, 6, 7, 8]) T (by kernel_rfl) (by kernel_rfl) ?_
  refine Gz.row T K (by decide) hT14 [] [0, 1, 2, 3, 4, 5, 6, 7, 8] [] [4] (g' := [(4, .bool true)]) (qs := []) (by kernel_rfl) (by kernel_rfl) (by simp) (fun a15 hT15 => ?_)
  refine Gz.rend T ?_
  refine Gz.retE T (by kernel_rfl) ?_
  exact Goes.stop fun w₂ h₂ => ⟨atRel_trans _ _ _ hat h₂, _, _, hT15.live [4] (g' := [(4, .bool true)]) (by kernel_rfl), rfl⟩

end
end Go.Proofs.Ytjgdhghobohdjaa.Rg
namespace Go.Proofs.Ytjgdhghobohdjaa.Rg
open Go Go.Conc
open Go.ConcN (sumTo)
open Go.RowKit (Below)

theorem goes_then {P : Program} {x : Bool} {R : World → World → Prop} {D : World → World → Array Event → Prop} {Stop Stop' : Goroutine → World → Prop} {m : Nat} (hr : ∀ w, R w w) : ∀ {n : Nat} {g : Goroutine} {w : World}, Goes P x R D Stop n g w → (∀ g w, Stop g w → Goes P x R D Stop' m g w) → Goes P x R D Stop' (n + m) g w
  | 0, g, w, h, hs => Goes.mono (hs g w (h w (hr w))) (by omega)
  | n + 1, g, w, h, hs => by
    rcases h with h | ⟨hrun, hst⟩
    · exact Goes.mono (hs g w (h w (hr w))) (by omega)
    · rw [show n + 1 + m = (n + m) + 1 by omega]
      refine .inr ⟨hrun, fun w₁ r => ?_⟩
      obtain ⟨g', w', es, e, hd, hn⟩ := goes_elim (hst w₁ r)
      rw [e]
      exact ⟨hd, goes_then hr hn hs⟩

section
variable {Shun : Loc → Prop} {w w₁ : World} {gs : Array Goroutine} {t : Trace} {q : Nat → Nat} {cs : List Frame} {nn N cap lb lo ob oc : Nat} {la oa : Option Addr} {z : Nat → Int} {n : Int} {B W : Nat} {b5 : Act}
def EndM (w : World) (g : Goroutine) (w₂ : World) : Prop := AtRel w w₂ ∧ ∃ (b3 : Act) (todo : List Item), Tm b3 53 [(4, .bool true)] [] ∧ g = G { (base 3).at b3 todo with mode := .returning } []
/-- The comparison. -/
theorem loop_all (hoa : 0 < N → oa = some ⟨ob, 0, none⟩) (hla : 0 < N → la = some ⟨lb, lo, none⟩) (ho : ∀ i, i < N → CL Shun B w ⟨ob, i + 0, none⟩ (.int .i64 (z i))) (hl : ∀ i, i < N → CL Shun B w ⟨lb, i + lo, none⟩ (.int .i64 (z i))) (hN : N ≤ 17592186044416) :
    ∀ (d i : Nat) (g : Goroutine) (w₁ : World), i + d = N → M3 N cap oc oa la i g → AtRel w w₁ → Goes Try.prog true AtRel (DL Shun B W) (EndM w) (4000 * (d + 1)) g w₁
  | 0, i, g, w₁, hi, h, hat => M_end h hi hat
  | d + 1, i, g, w₁, hi, h, hat => by
    rw [show 4000 * (d + 1 + 1) = 4000 + 4000 * (d + 1) by omega]
    exact goes_then atRel_refl (M_body h hoa hla ho hl hN (by omega) hat) fun g' w' ⟨hat', h'⟩ => loop_all hoa hla ho hl hN d (i + 1) g' w' (by omega) h' hat'
theorem at_end {b3 : Act} {todo : List Item} (hT : Tm b3 53 [(4, .bool true)] []) (w : World) : stepG Try.prog true (G { (base 3).at b3 todo with mode := .returning } []) w = .ended (.done (.bool true)) w #[] := by
  have hr : Try.f3.results = #[.tmp 4] := by kernel_rfl
  have h4 : b3.tmps.getD 4 undef = .bool true := hT.val 4 _ rfl
  have h1 := results_tmp hr b3.tmps Try.prog w
  have h2 := events_results_tmp (P := Try.prog) (w := w) hr b3.tmps
  rw [h4] at h1
  have hi : Try.prog.inits.idxOf? 3 = none := by kernel_rfl
  simp [G, stepG, unwind, doReturn, Frame.at, base, hT.dfr, Try.func3, h1, h2, hi, seen_none, GStep.after]
theorem evL_of_dl : ∀ w w' es, DL Shun B W w w' es → ∀ e ∈ es, EvL Shun B e := fun _ _ es h e he => ⟨(h e he).1.1, (h e he).2.1, (h e he).2.2, (h e he).1.2.1⟩
/-- The last walk. -/
theorem last_walk {W₀ : World} {m : Nat} {a : Goroutine} (hb : Below W₀.heap.size W₀ w) (h0 : gs[0]? = some a) (hL : Leavers Try.prog t gs q) (hP : Past Shun B t) (hG : Goes Try.prog true AtRel (DL Shun B W) (EndM w) m a w) (sl : Option (Nat × Nat)) :
    ∃ N last o w' t', runNT Try.prog (N + 1) (crowd gs w sl) t = (.ended o w', t') ∧ runN Try.prog N (crowd gs w sl) = .next last ∧ step Try.prog last = .ended o w' ∧ Conc.Good Try.prog (fun v w' => v = .bool true ∧ Below W₀.heap.size W₀ w') last o w' t' := by
  refine beside_ends (sl := sl) evL_of_dl h0 hL hP (gm hG fun g w₂ ⟨hat, b3, todo, hT, e⟩ => ?_)
  subst e
  obtain ⟨d, rfl⟩ := hat
  exact ⟨rfl, _, #[], at_end hT _, fun e he => by simp at he, rfl, ⟨hb.os, hb.tape, hb.output, hb.size, hb.block⟩⟩
/-- What it comes to where the number is refused. -/
def NoT (Shun : Loc → Prop) (gs : Array Goroutine) (w : World) (sl : Option (Nat × Nat)) (t : Trace) (cs : List Frame) : Prop :=
  ∃ (m : Nat) (gs' : Array Goroutine) (a' : Goroutine) (w' : World) (sl' : Option (Nat × Nat)) (t' : Trace) (q' : Nat → Nat), runNT Try.prog m (crowd gs w sl) t = (.next (crowd gs' w' sl'), t') ∧ gs'[0]? = some a' ∧ Leavers Try.prog t' gs' q' ∧ Past Shun (w.heap.size + 11) t' ∧ Below w.heap.size w w' ∧
    ∃ (b5 : Act) (todo : List Item), Tm b5 48 [(4, .slice none 0 0), (5, .int .i64 3)] [] ∧ a' = G { (base 5).at b5 todo with mode := .returning } cs
theorem no_of (h0 : gs[0]? = some (G ((base 5).at b5 [.code c5]) cs)) (hL : Leavers Try.prog t gs q) (hP : Past Shun w.heap.size t) (sl : Option (Nat × Nat)) {K : List (Nat × Obj)}
    (hG : Goes Try.prog true AtRel (DL Shun (w.heap.size + 11) (w.heap.size + 11)) (fun g w' => Fk w 2 K w' ∧ ∃ (b5 : Act) (todo : List Item), Tm b5 48 [(4, .slice none 0 0), (5, .int .i64 3)] [] ∧ g = G { (base 5).at b5 todo with mode := .returning } cs) 4000 (G ((base 5).at b5 [.code c5]) cs) w) : NoT Shun gs w sl t cs := by
  have hP0 : Pd Shun (w.heap.size + 11) (w.heap.size + 11) 0 t := Pd.of_past hP (by omega) (by omega)
  obtain ⟨n1, gs1, g1, w1, sl1, t1, q1, r1, z1, i1, s1, l1, p1⟩ := lone_walk _ _ gs _ w sl t q (Nat.le_refl _) h0 hL hP0 hG (fun g w ⟨_, _, _, _, e⟩ => by rw [e]; rfl)
  obtain ⟨hF, hx⟩ := s1 w1 (atRel_refl w1)
  exact ⟨n1, gs1, g1, w1, sl1, t1, q1, r1, i1, l1, p1.past, ⟨hF.os, hF.tape, hF.output, by rw [hF.size]; omega, hF.low⟩, hx⟩
/-- THROUGH, refused. -/
theorem through_no (hb5 : Tm b5 48 [(0, .int .i64 n), (1, .slice la N cap)] []) (hn : n < 1 ∨ 65536 < n) (h0 : gs[0]? = some (G ((base 5).at b5 [.code c5]) cs)) (hL : Leavers Try.prog t gs q) (hP : Past Shun w.heap.size t) (hsh : ∀ ad : Addr, w.heap.size ≤ ad.block → ¬ Shun (.cell ad)) (sl : Option (Nat × Nat)) : NoT Shun gs w sl t cs := by
  rcases hn with h | h
  · exact no_of h0 hL hP sl (L_low hb5 hsh (Nat.le_refl _) h (Fk.start w))
  · exact no_of h0 hL hP sl (L_high hb5 hsh (Nat.le_refl _) h (Fk.start w))
end
end Go.Proofs.Ytjgdhghobohdjaa.Rg
namespace Go.Proofs.Ytjgdhghobohdjaa.Rg
open Go Go.Conc
open Go.ConcN (sumTo)
open Go.RowKit (Below)

section
variable {W₀ : World} {N cap lb lo : Nat} {la : Option Addr} {z : Nat → Int} {n : Int}
theorem Thr.below {w w' : World} {cs : List Frame} {a : Goroutine} (h : Thr w N z cs a w') : Below w.heap.size w w' := ⟨h.os, h.tape, h.output, by have := h.size; omega, h.low⟩
theorem row_head {w : World} {base oc N : Nat} {oa : Option Addr} {xs : List Value} (h : w.ownsRow base 3 1 (.slice oa N oc) N xs) (hN : 0 < N) : ∃ ob, oa = some ⟨ob, 0, none⟩ ∧ base ≤ ob ∧ ob < w.heap.size ∧ ∀ i, i < N → w.cell? ⟨ob, i + 0, none⟩ = xs[i]? := by
  rcases h.2 with ⟨_, rfl⟩ | ⟨g, c, cur, h1, h2, h3, h4, h5, h6, h7⟩
  · omega
  · have e : oa = some ⟨g, 0, none⟩ := by simp only [Value.slice.injEq] at h1; exact h1.1
    refine ⟨g, e, h2, (Array.getElem?_eq_some_iff.1 h3).1, fun i hi => ?_⟩
    rw [← h7, List.getElem?_take_of_lt (by omega)]
    simp [World.cell?, h3]
theorem run_fin {P : Program} {Post : Value → World → Prop} {m M : Nat} {m₀ mm : Machine} {t : Trace} (h1 : runNT P m m₀ #[] = (.next mm, t)) (h : ∃ last o w' t', runNT P (M + 1) mm t = (Stepped.ended o w', t') ∧ runN P M mm = .next last ∧ step P last = .ended o w' ∧ Conc.Good P Post last o w' t') :
    ∃ M last o w' t', runNT P (M + 1) m₀ #[] = (Stepped.ended o w', t') ∧ runN P M m₀ = .next last ∧ step P last = .ended o w' ∧ Conc.Good P Post last o w' t' := by
  obtain ⟨last, o, w', t', h2, h3, h4, h5⟩ := h
  refine ⟨m + M, last, o, w', t', ?_, ?_, h4, h5⟩
  · rw [Nat.add_assoc, runNT_add, h1]; exact h2
  · rw [runN_add, ← runNT_fst P _ _ #[], h1]; exact h3
theorem law_enter (n : Int) (la : Option Addr) (N cap : Nat) : Frame.enter Try.prog 3 #[.int .i64 n, .slice la N cap] .normal = (base 3).at ⟨[Value.int .i64 n, .slice la N cap].toArray ++ Array.replicate 51 undef, []⟩ [.code c3] := by
  have hb : Try.f3.body = some c3 := by kernel_rfl
  have hn : Try.f3.ntmps = 53 := by kernel_rfl
  have h := enter_at (P := Try.prog) (c := c3) #[.int .i64 n, .slice la N cap] Try.func3 hb
  rw [hn] at h
  exact h
/-- ████ THE RUN. ████ -/
theorem law_run (hla : 0 < N → la = some ⟨lb, lo, none⟩) (hel : ∀ i, i < N → W₀.cell? ⟨lb, i + lo, none⟩ = some (.int .i64 (z i)) ∧ lb < W₀.heap.size) (hN : N ≤ 17592186044416) :
    ∃ M last o w' t', runNT Try.prog (M + 1) (solo (G (Frame.enter Try.prog 3 #[.int .i64 n, .slice la N cap] .normal) []) W₀) #[] = (.ended o w', t') ∧ runN Try.prog M (solo (G (Frame.enter Try.prog 3 #[.int .i64 n, .slice la N cap] .normal) []) W₀) = .next last ∧
      step Try.prog last = .ended o w' ∧ Conc.Good Try.prog (fun v w' => v = .bool true ∧ Below W₀.heap.size W₀ w') last o w' t' := by
  have hent : Frame.enter Try.prog 3 #[.int .i64 n, .slice la N cap] .normal = (base 3).at ⟨[Value.int .i64 n, .slice la N cap].toArray ++ Array.replicate 51 undef, []⟩ [.code c3] :=
    law_enter n la N cap
  have hT3 : Tm ⟨[Value.int .i64 n, .slice la N cap].toArray ++ Array.replicate 51 undef, []⟩ 53 [(0, .int .i64 n), (1, .slice la N cap)] [] := Tm.enter _ 51
  rw [hent, solo_eq_crowd]
  -- to the first call
  have hP0 : Past (fun _ => False) W₀.heap.size #[] := past_nil.mono (Nat.zero_le _)
  obtain ⟨n1, gs1, g1, w1, sl1, t1, q1, r1, z1, i1, s1, l1, p1⟩ := lone_walk (W := W₀.heap.size + 1) _ _ _ _ W₀ none _ _ (Nat.le_refl _) rfl (leavers_one Try.prog _) (Pd.of_past hP0 (by omega) (Nat.le_succ _)) (M_one (B := W₀.heap.size + 1) (W := W₀.heap.size + 1) (w₀ := W₀) hT3 (Fk.start W₀)) (fun g w ⟨_, h⟩ => by obtain ⟨_, _, _, _, _, _, e⟩ := h; rw [e]; rfl)
  obtain ⟨hF1, b3, b4, b5, hb3, hb4, hb5, e1⟩ := s1 w1 (atRel_refl w1)
  subst e1
  have hsz1 : w1.heap.size = W₀.heap.size + 1 := hF1.size
  have P1 : Past (fun _ => False) w1.heap.size t1 := by rw [hsz1]; exact p1.past
  -- the first call
  obtain ⟨n2, gs2, a2, w2, sl2, t2, q2, r2, i2, l2, P2, hT2⟩ := through (nn := 1) (N := 1) (cap := 1) (lb := W₀.heap.size + 0) (lo := 0) (z := fun _ => 7) hb5 (Nat.le_refl _) (by omega) (by omega) i1 l1 P1 (fun _ _ h => h) ⟨fun _ => rfl, fun i hi => by
    obtain rfl : i = 0 := by omega
    exact ⟨(hF1.cell (b := 0) (off := 0) (arr := #[.int .i64 7]) (ty := 3) (by simp) rfl).1, by omega, fun h => h⟩⟩ sl1
  have hb2 := hT2.below
  obtain ⟨oa, oc, b5', td, hown, hb5', ea⟩ := hT2.ret
  subst ea
  obtain ⟨ob, rfl, hob1, hob2, hcell⟩ := row_head hown (by omega)
  have hsz2 := hT2.size
  -- to the second call
  have hc2 : CL (fun l => False ∨ ∃ b, l = .cell b ∧ b.block = w1.heap.size + 8) w2.heap.size w2 ⟨ob, 0, none⟩ (.int .i64 7) := by
    refine ⟨?_, hob2, ?_⟩
    · have := hcell 0 (by omega)
      simpa using this
    · rintro (h | ⟨b, h, h'⟩)
      · exact h
      · cases h
        simp only at h'
        omega
  obtain ⟨n3, gs3, g3, w3, sl3, t3, q3, r3, z3, i3, s3, l3, p3⟩ := lone_walk (W := w2.heap.size) _ _ _ _ w2 sl2 t2 q2 (Nat.le_refl _) i2 l2 (Pd.of_past P2 (Nat.le_refl _) (Nat.le_refl _)) (M_two (W := w2.heap.size) hb3 hb4 hb5' hc2 (atRel_refl w2)) (fun g w ⟨_, h⟩ => by obtain ⟨_, _, _, _, e⟩ := h; rw [e]; rfl)
  obtain ⟨⟨d3, e3⟩, b3', b5'', hb3', hb5'', e3'⟩ := s3 w3 (atRel_refl w3)
  subst e3'
  have hsz3 : w3.heap.size = w2.heap.size := by rw [e3]; rfl
  have P3 : Past (fun l => False ∨ ∃ b, l = .cell b ∧ b.block = w1.heap.size + 8) w3.heap.size t3 := by rw [hsz3]; exact p3.past
  have hsh3 : ∀ ad : Addr, w3.heap.size ≤ ad.block → ¬ (False ∨ ∃ b, Loc.cell ad = .cell b ∧ b.block = w1.heap.size + 8) := fun ad had => by
    rintro (h | ⟨b, h, h'⟩)
    · exact h
    · cases h
      omega
  have hlow3 : ∀ b, b < W₀.heap.size → w3.heap[b]? = W₀.heap[b]? := fun b hb => by
    rw [e3]
    show w2.heap[b]? = _
    rw [hT2.low b (by omega)]
    exact hF1.low b hb
  have hB3 : Below W₀.heap.size W₀ w3 := by
    refine ⟨?_, ?_, ?_, by omega, hlow3⟩
    · rw [e3]; exact hT2.os.trans hF1.os
    · rw [e3]; exact hT2.tape.trans hF1.tape
    · rw [e3]; exact hT2.output.trans hF1.output
  have r123 := runs_then (runs_then r1 r2) r3
  by_cases hok : 1 ≤ n ∧ n ≤ 65536
  · -- it is carried out
    obtain ⟨nn, rfl⟩ : ∃ nn : Nat, n = (nn : Int) := ⟨n.toNat, by omega⟩
    have hl3 : Lin (fun l => False ∨ ∃ b, l = .cell b ∧ b.block = w1.heap.size + 8) w3 la N lb lo z := ⟨hla, fun i hi => by
      obtain ⟨h1, h2⟩ := hel i hi
      refine ⟨by rw [cell_of_heap (hlow3 lb h2)]; exact h1, by omega, ?_⟩
      rintro (h | ⟨b, h, h'⟩)
      · exact h
      · cases h
        simp only at h'
        omega⟩
    obtain ⟨n4, gs4, a4, w4, sl4, t4, q4, r4, i4, l4, P4, hT4⟩ := through (cap := cap) (z := z) hb5'' (by omega) (by omega) hN i3 l3 P3 hsh3 hl3 sl3
    have hb4' := hT4.below
    obtain ⟨oa4, oc4, b54, td4, hown4, hb54, ea4⟩ := hT4.ret
    subst ea4
    have hsz4 := hT4.size
    have hB4 : Below W₀.heap.size W₀ w4 := hB3.trans ⟨hb4'.os, hb4'.tape, hb4'.output, hb4'.size, fun b hb => hb4'.block b (by omega)⟩
    obtain ⟨ob4, hoa4, ho4⟩ : ∃ ob, (0 < N → oa4 = some ⟨ob, 0, none⟩) ∧ ∀ i, i < N → CL (fun l => (False ∨ ∃ b, l = .cell b ∧ b.block = w1.heap.size + 8) ∨ ∃ b, l = .cell b ∧ b.block = w3.heap.size + 8) w4.heap.size w4 ⟨ob, i + 0, none⟩ (.int .i64 (z i)) := by
      by_cases h0 : 0 < N
      · obtain ⟨ob, h1, h2, h3, h4⟩ := row_head hown4 h0
        refine ⟨ob, fun _ => h1, fun i hi => ⟨?_, h3, ?_⟩⟩
        · rw [h4 i hi]
          simp [hi]
        · rintro ((h | ⟨b, h, h'⟩) | ⟨b, h, h'⟩)
          · exact h
          · cases h
            simp only at h'
            omega
          · cases h
            simp only at h'
            omega
      · exact ⟨0, fun h => absurd h h0, fun i hi => by omega⟩
    have hl4 : ∀ i, i < N → CL (fun l => (False ∨ ∃ b, l = .cell b ∧ b.block = w1.heap.size + 8) ∨ ∃ b, l = .cell b ∧ b.block = w3.heap.size + 8) w4.heap.size w4 ⟨lb, i + lo, none⟩ (.int .i64 (z i)) := fun i hi => by
      obtain ⟨h1, h2⟩ := hel i hi
      refine ⟨by rw [cell_of_heap (hB4.block lb h2)]; exact h1, by show lb < w4.heap.size; omega, ?_⟩
      rintro ((h | ⟨b, h, h'⟩) | ⟨b, h, h'⟩)
      · exact h
      · cases h
        simp only at h'
        omega
      · cases h
        simp only at h'
        omega
    have hG := goes_then (m := 4000 * (N + 1)) atRel_refl (M_three (W := 0) hb3' hb54 (todo := td4) (by omega) (by omega) (atRel_refl w4)) fun g w' ⟨hat, h⟩ => loop_all hoa4 hla ho4 hl4 hN N 0 g w' (by omega) h hat
    obtain ⟨M, hM⟩ := last_walk hB4 i4 l4 P4 hG sl4
    exact run_fin (runs_then r123 r4) hM
  · -- it is refused
    obtain ⟨n4, gs4, a4, w4, sl4, t4, q4, r4, i4, l4, P4, hb4', b54, td4, hb54, ea4⟩ := through_no hb5'' (by omega) i3 l3 P3 hsh3 sl3
    subst ea4
    have hB4 : Below W₀.heap.size W₀ w4 := hB3.trans ⟨hb4'.os, hb4'.tape, hb4'.output, hb4'.size, fun b hb => hb4'.block b (by omega)⟩
    by_cases hlo : n < 1
    · obtain ⟨M, hM⟩ := last_walk hB4 i4 l4 P4 (M_low (W := 0) (w := w4) hb3' hb54 (todo := td4) hlo (atRel_refl w4)) sl4
      exact run_fin (runs_then r123 r4) hM
    · obtain ⟨M, hM⟩ := last_walk hB4 i4 l4 P4 (M_high (W := 0) (w := w4) hb3' hb54 (todo := td4) (by omega) (atRel_refl w4)) sl4
      exact run_fin (runs_then r123 r4) hM
end
end Go.Proofs.Ytjgdhghobohdjaa.Rg
namespace Go.Proofs.Ytjgdhghobohdjaa
open Go.ChangeShapes Go.WideShapes Go.ChangeAt Go.RowKit

theorem Try.own : ownKnob Try.prog.godebug = none := by kernel_rfl
theorem Try.laidOut : laidOutB Try.prog = true := by kernel_rfl

section
variable {H : Type} {enc : TypeId × Value → H} {P : Program}
/-- All arguments at once. -/
theorem trodAll_stays (hl : laidOutB P = true) {W W' : World} {sp : Nat → Bool} (hb : Below W.heap.size W W') :
    ∀ {ts : List TypeId} {vs : List Value} {ds : List (DataW H)} {ps : List MemPlace}, (ts.all fun t => P.readableRec t && decide (t < P.types.size)) = true →
      DataW.TrodAll enc P W 0 (fun _ => true) true ts vs ds ps → (∀ x ∈ ps, x.block < W.heap.size) → (∀ x ∈ ps, sp x.block = true) → DataW.TrodAll enc P W' 0 sp true ts vs ds ps
  | [], _, _, _, _, h, _, _ => by obtain ⟨rfl, rfl, rfl⟩ := trodAll_nil h; exact trodAll_mk0
  | t :: ts, _, _, _, hr, h, hlt, hsp => by
    obtain ⟨v, vs, d, ds, p, q, rfl, rfl, rfl, h0, h1⟩ := trodAll_cons h
    simp only [List.all_cons, Bool.and_eq_true, decide_eq_true_eq] at hr
    exact trodAll_cons_mk (WideElems.Trod_stays hl hr.1.1 hr.1.2 h0 (fun x hx => hb.same (hlt x (by simp [hx]))) (fun x hx => hsp x (by simp [hx])))
      (trodAll_stays hl hb hr.2 h1 (fun x hx => hlt x (by simp [hx])) (fun x hx => hsp x (by simp [hx])))

/-- A law's post: true, and each argument reads as it did. -/
theorem law_post {f : Func} {s : ChangeSpec} {apart fresh handsOn again : Bool} {W W' : World} {args : Array Value} {ds : List (DataW H)} {before : List MemPlace} {tb : TypeId}
    (hW : DataW.Whole enc P f.params.toList s.vars apart W args.toList ds [] before) (hl : laidOutB P = true)
    (hv : s.vars = []) (hr : (f.params.toList.all fun t => P.readableRec t && decide (t < P.types.size)) = true) (hrt : f.resultTypes = #[tb]) (htb : P.underlying tb = some .bool)
    (hs : s.fn H (ds ++ []) = { results := [.lit (.bool true)], args := ds }) (hb : Below W.heap.size W W') :
    s.post enc P f apart fresh handsOn again W args (.bool true) W' := by
  have hlt : ∀ p ∈ before, p.block < W.heap.size := fun p hp => hW.lt p hp
  have hold : ∀ p ∈ before, (fun b => decide (b < W.heap.size)) p.block = true := fun p hp => by simpa using hlt p hp
  have hW0 := hW
  obtain ⟨p, q, hA, hV, hpq, hz, hn⟩ := hW
  have hq : q = [] := by rw [hv] at hV; exact (trodVars_none hV).2
  have hpq' : before = p := by rw [hpq, hq, List.append_nil]
  subst hpq'
  have hargs : ∀ sp : Nat → Bool, (∀ x ∈ before, sp x.block = true) → DataW.TrodAll enc P W' 0 sp true f.params.toList args.toList (s.fn H (ds ++ [])).args before := fun sp hsp => by
    rw [hs]; exact trodAll_stays hl hb hr hA hlt hsp
  have hvars : ∀ sp : Nat → Bool, DataW.TrodVars enc P W' sp s.vars (s.fn H (ds ++ [])).vars [] := fun sp => by rw [hs, hv]; rfl
  have hres : ∀ (b : Nat) (sp : Nat → Bool) (hd : Bool), DataW.TrodAll enc P W' b sp hd f.resultTypes.toList (Value.resultList f.resultTypes.size (.bool true)) (s.fn H (ds ++ [])).results [] := fun b sp hd => by
    rw [hrt, hs]; exact trodAll_mk1 (shut_bool htb true)
  have hok : ∀ (j : Nat) (t : TypeId) (r : Value), f.resultTypes[j]? = some t → (Value.resultList f.resultTypes.size (.bool true))[j]? = some r → Value.okWide P W' .any 0 t r := by
    exact ok_one (t := tb) hrt rfl (okWide_bool_mk htb true)
  refine ⟨ds, [], before, [], before, [], hW0, hres _ _ _, hargs _ hold, hvars _, World.keptBut_mono (fun p hp => ⟨hp, ?_⟩) (hb.frame (· ∈ before)), fun _ => ?_⟩
  · exact Or.inr (Or.inl hp)
  · refine ⟨hok, _, _, ([] ++ before) ++ [], ⟨[] ++ before, [], trodAll_append (hargs _ (fun _ _ => rfl)) (hres _ _ _), hvars _, rfl, ?_, ?_⟩, ?_⟩
    · intro b off hp
      have hin : MemPlace.cell b off ∈ before := by simpa using hp
      rw [hb.frozen (hlt _ hin)]
      exact hz b off hin
    · intro ha
      have := hn ha
      simpa using this
    · intro p hp _
      simpa using hp
end
end Go.Proofs.Ytjgdhghobohdjaa
