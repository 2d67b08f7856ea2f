/-
  RingThrough (RhU): printed by pm/rl.py. | RingThrough (RhW): printed by pm/rl.py. | RingThrough (HX): THROUGH, beside goroutines that only leave: from its entry to its return. | RingThrough (HY): THROUGH, beside goroutines that only leave: the phase. | RingQueue (HZ): cells that are known. No program in sight. | RingQueue (B): goroutine 0 alone, where some blocks are known and one row is its own: what it makes, stores, loads, appends. No program in sight. | RingQueue (C): a region that asks the tape, with two special operations: behind the first of them. No program in sight. | RingQueue (D): small lemmas: numbers; a row's elements of three cells; structs. No program in sight. | RingQueue (RqE): printed by pm/rq.py. | RingQueue (RqF): printed by pm/rq.py. | RingQueue (A): what a ring comes to, number by number; plain. No program in sight. | RingQueue (RqG): printed by pm/rq.py. | RingQueue (RqH): printed by pm/rq.py.
-/
import Derived.Test.YtdmiilgdkmbmeaaJRqQ3
import Derived.Test.YtdmiilgdkmbmeaaJRqQ2
import Derived.Great.BuildSlice
namespace Go.Proofs.Ytdmiilgdkmbmeaa.Rg
open Go Go.Conc
section
variable {w₀ w : World} {Shun : Loc → Prop} {B W : Nat} {cs : List Frame} {nn N cap : Nat} {la : Option Addr} {k : Nat → Nat} {g : Goroutine}
theorem L_dis (h : LU1 w₀ cs nn N cap la k g) (hsh : ∀ ad : Addr, w₀.heap.size ≤ ad.block → ¬ Shun (.cell ad)) (hB : w₀.heap.size + 11 ≤ B) (hk : Kc k) :
    g.status = .running ∧ ∃ g', (∀ w, stepG Try.prog true g w = .go g' w #[mkE .disable]) ∧ ∀ w, Fk w₀ 11 [(10, .cells #[.func (.func 12) #[] #[.pointer (some ⟨w₀.heap.size + 0, 0, none⟩), .pointer (some ⟨w₀.heap.size + 3, 0, none⟩), .pointer (some ⟨w₀.heap.size + k 2, 0, none⟩), .pointer (some ⟨w₀.heap.size + k 3, 0, none⟩)]] 1), (9, .cells #[.pointer (some ⟨w₀.heap.size + 8, 0, none⟩)] 59), (8, .cells #[.int .u64 0, .int .u32 0] 51), (k 0, .chan 1 #[] false 0 0 false), (k 1, .chan 1 #[] false 0 0 false), (k 2, .cells #[.chan (some (w₀.heap.size + k 0))] 41), (k 3, .cells #[.chan (some (w₀.heap.size + k 1))] 41), (3, .cells #[.pointer (some ⟨w₀.heap.size + 2, 0, none⟩)] 33), (2, .cells #[.slice (some ⟨w₀.heap.size + 1, 0, none⟩) nn nn, .int .i64 0, .int .i64 0] 56), (1, .cells (madeCells #[.int .i64 0] nn) 3), (0, .cells #[.slice la N cap] 22)] w → Goes Try.prog true AtRel (DL Shun B W) (fun g w => Fk w₀ 11 [(8, .cells #[.int .u64 4294967296, .int .u32 0] 51), (10, .cells #[.func (.func 12) #[] #[.pointer (some ⟨w₀.heap.size + 0, 0, none⟩), .pointer (some ⟨w₀.heap.size + 3, 0, none⟩), .pointer (some ⟨w₀.heap.size + k 2, 0, none⟩), .pointer (some ⟨w₀.heap.size + k 3, 0, none⟩)]] 1), (9, .cells #[.pointer (some ⟨w₀.heap.size + 8, 0, none⟩)] 59), (k 0, .chan 1 #[] false 0 0 false), (k 1, .chan 1 #[] false 0 0 false), (k 2, .cells #[.chan (some (w₀.heap.size + k 0))] 41), (k 3, .cells #[.chan (some (w₀.heap.size + k 1))] 41), (3, .cells #[.pointer (some ⟨w₀.heap.size + 2, 0, none⟩)] 33), (2, .cells #[.slice (some ⟨w₀.heap.size + 1, 0, none⟩) nn nn, .int .i64 0, .int .i64 0] 56), (1, .cells (madeCells #[.int .i64 0] nn) 3), (0, .cells #[.slice la N cap] 22)] w ∧ LU2 w₀ cs nn N cap la k g) 4000 g' w := by
  obtain ⟨b5, b8, b14, hb5, hb8, hb14, rfl⟩ := h
  obtain ⟨a1, hT1, hst⟩ := step_mark0 (P := Try.prog) (x := true) (ops := c14.pa.pa.pd.pa.po.toArray) (i := 0) (o := opq c14.pa.pa.pd.pa 0) (d := 14) (f := 21) (ags := #[]) (ats := #[]) (k := [.code c14.pa.pa.pd.pd, .code c14.pd]) (rest := []) (cs := (((base 11).at b8 [.inRegion c8.pd.pa.po.toArray [1], .code c8.pd.pd]) :: ((base 6).at b5 [.inRegion c5.pd.pd.pd.pd.pd.pa.po.toArray [1], .code c5.pd.pd.pd.pd.pd.pd]) :: cs)) (b := (base 17)) .disable (fun _ h => by cases h) (by decide) hb14 (by kernel_rfl) (by kernel_rfl) (by decide) (by kernel_rfl) (by kernel_rfl) Try.func21 (by kernel_rfl) (by kernel_rfl) (by kernel_rfl) (by kernel_rfl)
  refine ⟨rfl, _, hst, fun w hF => ?_⟩
  have TD : Tmd AtRel (DL Shun B W) := tmdL
  have T := TD.toTms
  have K : ∀ w, Ken Try.prog AtRel (DL Shun B W) (fun _ _ => False) w := fun _ => ⟨fun _ _ hc => hc.elim⟩
  refine Gz.rend T ?_
  refine Gz.regionE (id := 3) (l := c14.pa.pa.pd.pd.po) (r := [0]) T (by kernel_rfl) (by kernel_rfl) ?_
  refine Mz.defer (o := opq c14.pa.pa.pd.pd 0) (q := .func 23) (f := 23) (cap := []) (ats := #[]) (mvG T) hT1 (by kernel_rfl) (by kernel_rfl) (by kernel_rfl) (by decide) rfl (by kernel_rfl) (by kernel_rfl) (fun a2 hT2 => ?_)
  refine Gz.rend T ?_
  refine Gz.seqE T (by kernel_rfl : c14.pd = .seq c14.pd.pa c14.pd.pd) ?_
  refine Gz.regionE (id := 4) (l := c14.pd.pa.po) (r := [0]) T (by kernel_rfl) (by kernel_rfl) ?_
  refine Gz.row T (K _) (by decide) hT2 [] [0] [] [4, 0, 1] (g' := [(4, .bool false), (0, .pointer (some ⟨w₀.heap.size + 8, 0, none⟩)), (1, .int .i64 1)]) (qs := []) (by kernel_rfl) (by kernel_rfl) (by simp) (fun a3 hT3 => ?_)
  refine Gz.rend T ?_
  refine Gz.seqE T (by kernel_rfl : c14.pd.pd = .seq c14.pd.pd.pa c14.pd.pd.pd) ?_
  refine Gz.seqE T (by kernel_rfl : c14.pd.pd.pa = .seq c14.pd.pd.pa.pa c14.pd.pd.pa.pd) ?_
  refine Gz.regionE (id := 5) (l := c14.pd.pd.pa.pa.po) (r := [0]) T (by kernel_rfl) (by kernel_rfl) ?_
  refine Mz.entry (o := opq c14.pd.pd.pa.pa 0) (d := 15) (f := 29) (ags := #[]) (ats := #[]) (mvG T) (by decide) hT3 (v := .bool false) (by kernel_rfl) (by kernel_rfl) (by decide) (by kernel_rfl) (by kernel_rfl) Try.func29 (by kernel_rfl) (by kernel_rfl) (by kernel_rfl) (by kernel_rfl) (fun a4 hT4 => ?_)
  refine Gz.rend T ?_
  refine Gz.condFE (q := .tmp 15) (y := c14.pd.pd.pa.pd.pa) (z := c14.pd.pd.pa.pd.pd) T (by kernel_rfl) hT4 (by kernel_rfl) ?_
  refine Gz.skipE T (by kernel_rfl) ?_
  refine Gz.seqE T (by kernel_rfl : c14.pd.pd.pd = .seq c14.pd.pd.pd.pa c14.pd.pd.pd.pd) ?_
  refine Gz.regionE (id := 15) (l := c14.pd.pd.pd.pa.po) (r := [0, 1, 2, 3, 4, 5, 6, 7]) T (by kernel_rfl) (by kernel_rfl) ?_
  refine Gz.row T (K _) (by decide) hT4 [] [0, 1, 2, 3, 4, 5] [6, 7] [42, 39, 4, 0, 1] (g' := [(42, .int .u64 4294967296), (39, .pointer (some ⟨w₀.heap.size + 8, 0, none⟩)), (4, .bool false), (0, .pointer (some ⟨w₀.heap.size + 8, 0, none⟩)), (1, .int .i64 1)]) (qs := []) (by kernel_rfl) (by kernel_rfl) (by simp) (fun a5 hT5 => ?_)
  refine Mz.enter (o := opq c14.pd.pd.pd.pa 6) (q := .func 37) (f := 37) (cc := c34) (cap := []) (args := #[.tmp 39, .tmp 42]) (ats := #[48, 46]) (mvG T) hT5 [.pointer (some ⟨w₀.heap.size + 8, 0, none⟩), .int .u64 4294967296] 10 (by kernel_rfl) (by kernel_rfl) (by decide) (by kernel_rfl) (by kernel_rfl) Try.func37 (by kernel_rfl) (by kernel_rfl) (by kernel_rfl) (by kernel_rfl) (by kernel_rfl) (fun a6 hT6 => ?_)
  refine Gz.seqE T (by kernel_rfl : c34 = .seq c34.pa c34.pd) ?_
  refine Gz.regionE (id := 0) (l := c34.pa.po) (r := [0]) T (by kernel_rfl) (by kernel_rfl) ?_
  refine Gz.row T (K _) (by decide) hT6 [] [0] [] [0, 1] (g' := [(0, .pointer (some ⟨w₀.heap.size + 8, 0, none⟩)), (1, .int .u64 4294967296)]) (qs := []) (by kernel_rfl) (by kernel_rfl) (by simp) (fun a7 hT7 => ?_)
  refine Gz.rend T ?_
  refine Gz.seqE T (by kernel_rfl : c34.pd = .seq c34.pd.pa c34.pd.pd) ?_
  refine Gz.regionE (id := 1) (l := c34.pd.pa.po) (r := [0, 1, 2, 3, 4, 5]) T (by kernel_rfl) (by kernel_rfl) ?_
  refine Gz.row T (K _) (by decide) hT7 [] [0, 1, 2, 3] [4, 5] [8, 7] (g' := [(8, .int .u64 4294967296), (7, .pointer (some ⟨w₀.heap.size + 8, 0, none⟩))]) (qs := []) (by kernel_rfl) (by kernel_rfl) (by simp) (fun a8 hT8 => ?_)
  refine Gz.ladd (w₀ := w₀) (N := 11) (K := [(10, .cells #[.func (.func 12) #[] #[.pointer (some ⟨w₀.heap.size + 0, 0, none⟩), .pointer (some ⟨w₀.heap.size + 3, 0, none⟩), .pointer (some ⟨w₀.heap.size + k 2, 0, none⟩), .pointer (some ⟨w₀.heap.size + k 3, 0, none⟩)]] 1), (9, .cells #[.pointer (some ⟨w₀.heap.size + 8, 0, none⟩)] 59), (8, .cells #[.int .u64 0, .int .u32 0] 51), (k 0, .chan 1 #[] false 0 0 false), (k 1, .chan 1 #[] false 0 0 false), (k 2, .cells #[.chan (some (w₀.heap.size + k 0))] 41), (k 3, .cells #[.chan (some (w₀.heap.size + k 1))] 41), (3, .cells #[.pointer (some ⟨w₀.heap.size + 2, 0, none⟩)] 33), (2, .cells #[.slice (some ⟨w₀.heap.size + 1, 0, none⟩) nn nn, .int .i64 0, .int .i64 0] 56), (1, .cells (madeCells #[.int .i64 0] nn) 3), (0, .cells #[.slice la N cap] 22)]) (K' := [(10, .cells #[.func (.func 12) #[] #[.pointer (some ⟨w₀.heap.size + 0, 0, none⟩), .pointer (some ⟨w₀.heap.size + 3, 0, none⟩), .pointer (some ⟨w₀.heap.size + k 2, 0, none⟩), .pointer (some ⟨w₀.heap.size + k 3, 0, none⟩)]] 1), (9, .cells #[.pointer (some ⟨w₀.heap.size + 8, 0, none⟩)] 59), (k 0, .chan 1 #[] false 0 0 false), (k 1, .chan 1 #[] false 0 0 false), (k 2, .cells #[.chan (some (w₀.heap.size + k 0))] 41), (k 3, .cells #[.chan (some (w₀.heap.size + k 1))] 41), (3, .cells #[.pointer (some ⟨w₀.heap.size + 2, 0, none⟩)] 33), (2, .cells #[.slice (some ⟨w₀.heap.size + 1, 0, none⟩) nn nn, .int .i64 0, .int .i64 0] 56), (1, .cells (madeCells #[.int .i64 0] nn) 3), (0, .cells #[.slice la N cap] 22)]) (o := opq c34.pd.pa 4) (d := 9) (f := 44) (ats := #[82, 46]) (y := .tmp 7) (z := .tmp 8) (v := 0) (e := 4294967296) (u := 4294967296) (bb := 8) (off := 0) (arr := #[.int .u64 0, .int .u32 0]) (arr' := #[.int .u64 4294967296, .int .u32 0]) (ty := 51) (by decide) hT8 hF (by kernel_rfl) (by kernel_rfl) (by decide) (by kernel_rfl) (by kernel_rfl) Try.func44 (by kernel_rfl) (by kernel_rfl) (by kernel_rfl) (by kernel_rfl) (by kernel_rfl) (by kernel_rfl) (by simp) rfl (by kernel_rfl) rfl (fun p hp => ?_) (by omega) (fun a9 w hT9 hF => ?_)
  · have r0 := hk.rng 0 (by omega)
    have r1 := hk.rng 1 (by omega)
    have r2 := hk.rng 2 (by omega)
    have r3 := hk.rng 3 (by omega)
    simp only [List.mem_cons, List.not_mem_nil, or_false] at hp
    rcases hp with rfl | rfl | rfl | rfl | rfl | rfl | rfl | rfl | rfl | rfl <;> exact ⟨by simp, by show _ ≠ 8; omega⟩
  refine Gz.row T (K _) (by decide) hT9 [] [5] [] [4] (g' := [(4, .int .u64 4294967296)]) (qs := []) (by kernel_rfl) (by kernel_rfl) (by simp) (fun a10 hT10 => ?_)
  refine Gz.rend T ?_
  refine Gz.retE T (by kernel_rfl) ?_
  refine Gz.back1 (t := 4) (v := .int .u64 4294967296) (d := 43) T hT10 hT5 rfl Try.func37 (by kernel_rfl) (by kernel_rfl) (by kernel_rfl) (by decide) (fun a11 hT11 => ?_)
  refine Gz.row T (K _) (by decide) hT11 [] [7] [] [6, 4, 0, 1] (g' := [(6, .int .u64 4294967296), (4, .bool false), (0, .pointer (some ⟨w₀.heap.size + 8, 0, none⟩)), (1, .int .i64 1)]) (qs := []) (by kernel_rfl) (by kernel_rfl) (by simp) (fun a12 hT12 => ?_)
  refine Gz.rend T ?_
  refine Gz.seqE T (by kernel_rfl : c14.pd.pd.pd.pd = .seq c14.pd.pd.pd.pd.pa c14.pd.pd.pd.pd.pd) ?_
  refine Gz.seqE T (by kernel_rfl : c14.pd.pd.pd.pd.pa = .seq c14.pd.pd.pd.pd.pa.pa c14.pd.pd.pd.pd.pa.pd) ?_
  refine Gz.regionE (id := 16) (l := c14.pd.pd.pd.pd.pa.pa.po) (r := [0, 1, 2, 3, 4, 5, 6]) T (by kernel_rfl) (by kernel_rfl) ?_
  refine Gz.row T (K _) (by decide) hT12 [] [0, 1, 2, 3, 4, 5, 6] [] [50, 6, 4, 0, 1] (g' := [(50, .bool false), (6, .int .u64 4294967296), (4, .bool false), (0, .pointer (some ⟨w₀.heap.size + 8, 0, none⟩)), (1, .int .i64 1)]) (qs := []) (by kernel_rfl) (by kernel_rfl) (by simp) (fun a13 hT13 => ?_)
  refine Gz.rend T ?_
  refine Gz.condFE (q := .tmp 50) (y := c14.pd.pd.pd.pd.pa.pd.pa) (z := c14.pd.pd.pd.pd.pa.pd.pd) T (by kernel_rfl) hT13 (by kernel_rfl) ?_
  refine Gz.skipE T (by kernel_rfl) ?_
  refine Gz.seqE T (by kernel_rfl : c14.pd.pd.pd.pd.pd = .seq c14.pd.pd.pd.pd.pd.pa c14.pd.pd.pd.pd.pd.pd) ?_
  refine Gz.regionE (id := 18) (l := c14.pd.pd.pd.pd.pd.pa.po) (r := [0, 1, 2, 3]) T (by kernel_rfl) (by kernel_rfl) ?_
  refine Gz.row T (K _) (by decide) hT13 [] [0, 1, 2, 3] [] [7, 6, 4, 0, 1] (g' := [(7, .int .i32 1), (6, .int .u64 4294967296), (4, .bool false), (0, .pointer (some ⟨w₀.heap.size + 8, 0, none⟩)), (1, .int .i64 1)]) (qs := []) (by kernel_rfl) (by kernel_rfl) (by simp) (fun a14 hT14 => ?_)
  refine Gz.rend T ?_
  refine Gz.seqE T (by kernel_rfl : c14.pd.pd.pd.pd.pd.pd = .seq c14.pd.pd.pd.pd.pd.pd.pa c14.pd.pd.pd.pd.pd.pd.pd) ?_
  refine Gz.regionE (id := 19) (l := c14.pd.pd.pd.pd.pd.pd.pa.po) (r := [0, 1, 2, 3]) T (by kernel_rfl) (by kernel_rfl) ?_
  refine Gz.row T (K _) (by decide) hT14 [] [0, 1, 2, 3] [] [8, 7, 6, 4, 0, 1] (g' := [(8, .int .u32 0), (7, .int .i32 1), (6, .int .u64 4294967296), (4, .bool false), (0, .pointer (some ⟨w₀.heap.size + 8, 0, none⟩)), (1, .int .i64 1)]) (qs := []) (by kernel_rfl) (by kernel_rfl) (by simp) (fun a15 hT15 => ?_)
  refine Gz.rend T ?_
  refine Gz.seqE T (by kernel_rfl : c14.pd.pd.pd.pd.pd.pd.pd = .seq c14.pd.pd.pd.pd.pd.pd.pd.pa c14.pd.pd.pd.pd.pd.pd.pd.pd) ?_
  refine Gz.seqE T (by kernel_rfl : c14.pd.pd.pd.pd.pd.pd.pd.pa = .seq c14.pd.pd.pd.pd.pd.pd.pd.pa.pa c14.pd.pd.pd.pd.pd.pd.pd.pa.pd) ?_
  refine Gz.regionE (id := 20) (l := c14.pd.pd.pd.pd.pd.pd.pd.pa.pa.po) (r := [0, 1, 2, 3, 4, 5, 6, 7, 8, 9]) T (by kernel_rfl) (by kernel_rfl) ?_
  refine Gz.row T (K _) (by decide) hT15 [] [0, 1, 2, 3, 4, 5, 6, 7, 8, 9] [] [67, 8, 7, 6, 4, 0, 1] (g' := [(67, .bool true), (8, .int .u32 0), (7, .int .i32 1), (6, .int .u64 4294967296), (4, .bool false), (0, .pointer (some ⟨w₀.heap.size + 8, 0, none⟩)), (1, .int .i64 1)]) (qs := []) (by kernel_rfl) (by kernel_rfl) (by simp) (fun a16 hT16 => ?_)
  refine Gz.rend T ?_
  refine Gz.condTE (q := .tmp 67) (y := c14.pd.pd.pd.pd.pd.pd.pd.pa.pd.pa) (z := c14.pd.pd.pd.pd.pd.pd.pd.pa.pd.pd) T (by kernel_rfl) hT16 (by kernel_rfl) ?_
  refine Gz.regionE (id := 21) (l := c14.pd.pd.pd.pd.pd.pd.pd.pa.pd.pa.po) (r := [0, 1, 2, 3, 4]) T (by kernel_rfl) (by kernel_rfl) ?_
  refine Gz.row T (K _) (by decide) hT16 [] [0, 1, 2] [3, 4] [70, 8, 7, 6, 4, 0, 1] (g' := [(70, .pointer (some ⟨w₀.heap.size + 8, 1, none⟩)), (8, .int .u32 0), (7, .int .i32 1), (6, .int .u64 4294967296), (4, .bool false), (0, .pointer (some ⟨w₀.heap.size + 8, 0, none⟩)), (1, .int .i64 1)]) (qs := []) (by kernel_rfl) (by kernel_rfl) (by simp) (fun a17 hT17 => ?_)
  refine Gz.conv (o := opq c14.pd.pd.pd.pd.pd.pd.pd.pa.pd.pa 3) (d := 71) (src := 68) (dst := 64) (t := 49) (y := .tmp 70) T (by decide) hT17 (ad := ⟨w₀.heap.size + 8, 1, none⟩) (by kernel_rfl) (by kernel_rfl) (by decide) (by kernel_rfl) (by kernel_rfl) (by kernel_rfl) (by kernel_rfl) (by kernel_rfl) (by kernel_rfl) (fun w₁ h₁ => ⟨_, ((hF.at h₁).cell (b := 8) (off := 1) (arr := #[.int .u64 4294967296, .int .u32 0]) (ty := 51) (v := .int .u32 0) (by simp) rfl).1⟩) (fun a18 hT18 => ?_)
  obtain ⟨a19, hT19, hst2⟩ := step_markAt (P := Try.prog) (x := true) (ops := c14.pd.pd.pd.pd.pd.pd.pd.pa.pd.pa.po.toArray) (i := 4) (o := opq c14.pd.pd.pd.pd.pd.pd.pd.pa.pd.pa 4) (d := 72) (f := 38) (ags := #[.tmp 71]) (ats := #[64]) (y := .tmp 71) (l := []) (k := [.code c14.pd.pd.pd.pd.pd.pd.pd.pd]) (rest := []) (cs := (((base 11).at b8 [.inRegion c8.pd.pa.po.toArray [1], .code c8.pd.pd]) :: ((base 6).at b5 [.inRegion c5.pd.pd.pd.pd.pd.pa.po.toArray [1], .code c5.pd.pd.pd.pd.pd.pd]) :: cs)) (b := (base 17)) .read (fun _ _ h => by cases h) (by decide) hT18 (by kernel_rfl) (by kernel_rfl) (by decide) (by kernel_rfl) (by kernel_rfl) Try.func38 (by kernel_rfl) (by kernel_rfl) (by kernel_rfl) (by kernel_rfl) rfl (by kernel_rfl)
  refine Gz.st T rfl (fun w₁ h₁ => ⟨_, hst2 w₁, evD_said (ad := ⟨w₀.heap.size + 8, 1, none⟩) (by show w₀.heap.size + 8 < B; omega)⟩) ?_
  refine Gz.rend T ?_
  refine Gz.seqE T (by kernel_rfl : c14.pd.pd.pd.pd.pd.pd.pd.pd = .seq c14.pd.pd.pd.pd.pd.pd.pd.pd.pa c14.pd.pd.pd.pd.pd.pd.pd.pd.pd) ?_
  refine Gz.seqE T (by kernel_rfl : c14.pd.pd.pd.pd.pd.pd.pd.pd.pa = .seq c14.pd.pd.pd.pd.pd.pd.pd.pd.pa.pa c14.pd.pd.pd.pd.pd.pd.pd.pd.pa.pd) ?_
  refine Gz.regionE (id := 22) (l := c14.pd.pd.pd.pd.pd.pd.pd.pd.pa.pa.po) (r := [0, 1]) T (by kernel_rfl) (by kernel_rfl) ?_
  refine Gz.row T (K _) (by decide) hT19 [] [0, 1] [] [74, 8, 7, 6, 4, 0, 1] (g' := [(74, .bool false), (8, .int .u32 0), (7, .int .i32 1), (6, .int .u64 4294967296), (4, .bool false), (0, .pointer (some ⟨w₀.heap.size + 8, 0, none⟩)), (1, .int .i64 1)]) (qs := []) (by kernel_rfl) (by kernel_rfl) (by simp) (fun a20 hT20 => ?_)
  refine Gz.rend T ?_
  refine Gz.condFE (q := .tmp 74) (y := c14.pd.pd.pd.pd.pd.pd.pd.pd.pa.pd.pa) (z := c14.pd.pd.pd.pd.pd.pd.pd.pd.pa.pd.pd) T (by kernel_rfl) hT20 (by kernel_rfl) ?_
  refine Gz.skipE T (by kernel_rfl) ?_
  refine Gz.seqE T (by kernel_rfl : c14.pd.pd.pd.pd.pd.pd.pd.pd.pd = .seq c14.pd.pd.pd.pd.pd.pd.pd.pd.pd.pa c14.pd.pd.pd.pd.pd.pd.pd.pd.pd.pd) ?_
  refine Gz.seqE T (by kernel_rfl : c14.pd.pd.pd.pd.pd.pd.pd.pd.pd.pa = .seq c14.pd.pd.pd.pd.pd.pd.pd.pd.pd.pa.pa c14.pd.pd.pd.pd.pd.pd.pd.pd.pd.pa.pd) ?_
  refine Gz.regionE (id := 24) (l := c14.pd.pd.pd.pd.pd.pd.pd.pd.pd.pa.pa.po) (r := [0, 1, 2, 3, 4, 5, 6, 7, 8, 9, 10, 11]) T (by kernel_rfl) (by kernel_rfl) ?_
  refine Gz.row T (K _) (by decide) hT20 [] [0, 1, 2, 3, 4, 5, 6, 7, 8, 9, 10, 11] [] [87, 8, 7, 6, 4, 0] (g' := [(87, .bool false), (8, .int .u32 0), (7, .int .i32 1), (6, .int .u64 4294967296), (4, .bool false), (0, .pointer (some ⟨w₀.heap.size + 8, 0, none⟩))]) (qs := []) (by kernel_rfl) (by kernel_rfl) (by simp) (fun a21 hT21 => ?_)
  refine Gz.rend T ?_
  refine Gz.condFE (q := .tmp 87) (y := c14.pd.pd.pd.pd.pd.pd.pd.pd.pd.pa.pd.pa) (z := c14.pd.pd.pd.pd.pd.pd.pd.pd.pd.pa.pd.pd) T (by kernel_rfl) hT21 (by kernel_rfl) ?_
  refine Gz.skipE T (by kernel_rfl) ?_
  refine Gz.seqE T (by kernel_rfl : c14.pd.pd.pd.pd.pd.pd.pd.pd.pd.pd = .seq c14.pd.pd.pd.pd.pd.pd.pd.pd.pd.pd.pa c14.pd.pd.pd.pd.pd.pd.pd.pd.pd.pd.pd) ?_
  refine Gz.seqE T (by kernel_rfl : c14.pd.pd.pd.pd.pd.pd.pd.pd.pd.pd.pa = .seq c14.pd.pd.pd.pd.pd.pd.pd.pd.pd.pd.pa.pa c14.pd.pd.pd.pd.pd.pd.pd.pd.pd.pd.pa.pd) ?_
  refine Gz.regionE (id := 26) (l := c14.pd.pd.pd.pd.pd.pd.pd.pd.pd.pd.pa.pa.po) (r := [0, 1, 2, 3, 4, 5]) T (by kernel_rfl) (by kernel_rfl) ?_
  refine Gz.row T (K _) (by decide) hT21 [] [0, 1, 2, 3, 4, 5] [] [94, 8, 6, 4, 0] (g' := [(94, .bool true), (8, .int .u32 0), (6, .int .u64 4294967296), (4, .bool false), (0, .pointer (some ⟨w₀.heap.size + 8, 0, none⟩))]) (qs := []) (by kernel_rfl) (by kernel_rfl) (by simp) (fun a22 hT22 => ?_)
  refine Gz.rend T ?_
  refine Gz.condTE (q := .tmp 94) (y := c14.pd.pd.pd.pd.pd.pd.pd.pd.pd.pd.pa.pd.pa) (z := c14.pd.pd.pd.pd.pd.pd.pd.pd.pd.pd.pa.pd.pd) T (by kernel_rfl) hT22 (by kernel_rfl) ?_
  refine Gz.retE T (by kernel_rfl) ?_
  have h5LU2 := hb5.live [3, 6, 8, 9, 10] (g' := [(3, .pointer (some ⟨w₀.heap.size + 0, 0, none⟩)), (6, .pointer (some ⟨w₀.heap.size + 3, 0, none⟩)), (8, .pointer (some ⟨w₀.heap.size + k 2, 0, none⟩)), (9, .pointer (some ⟨w₀.heap.size + k 3, 0, none⟩)), (10, .pointer (some ⟨w₀.heap.size + 8, 0, none⟩))]) (by kernel_rfl)
  have h8LU2 := hb8.live [2, 3] (g' := [(2, .pointer (some ⟨w₀.heap.size + 9, 0, none⟩)), (3, .pointer (some ⟨w₀.heap.size + 10, 0, none⟩))]) (by kernel_rfl)
  have h14LU2 := hT22.live [] (g' := []) (by kernel_rfl)
  exact Goes.stop fun w₁ h₁ => ⟨hF.at h₁, b5, b8, a22, h5LU2, h8LU2, h14LU2, rfl⟩
theorem L_ena (h : LU2 w₀ cs nn N cap la k g) (hsh : ∀ ad : Addr, w₀.heap.size ≤ ad.block → ¬ Shun (.cell ad)) (hB : w₀.heap.size + 11 ≤ B) :
    g.status = .running ∧ ∃ g', (∀ w, stepG Try.prog true g w = .go g' w #[mkE .enable]) ∧ ∀ w, Fk w₀ 11 [(8, .cells #[.int .u64 4294967296, .int .u32 0] 51), (10, .cells #[.func (.func 12) #[] #[.pointer (some ⟨w₀.heap.size + 0, 0, none⟩), .pointer (some ⟨w₀.heap.size + 3, 0, none⟩), .pointer (some ⟨w₀.heap.size + k 2, 0, none⟩), .pointer (some ⟨w₀.heap.size + k 3, 0, none⟩)]] 1), (9, .cells #[.pointer (some ⟨w₀.heap.size + 8, 0, none⟩)] 59), (k 0, .chan 1 #[] false 0 0 false), (k 1, .chan 1 #[] false 0 0 false), (k 2, .cells #[.chan (some (w₀.heap.size + k 0))] 41), (k 3, .cells #[.chan (some (w₀.heap.size + k 1))] 41), (3, .cells #[.pointer (some ⟨w₀.heap.size + 2, 0, none⟩)] 33), (2, .cells #[.slice (some ⟨w₀.heap.size + 1, 0, none⟩) nn nn, .int .i64 0, .int .i64 0] 56), (1, .cells (madeCells #[.int .i64 0] nn) 3), (0, .cells #[.slice la N cap] 22)] w → Goes Try.prog true AtRel (DL Shun B W) (fun g w => Fk w₀ 11 [(8, .cells #[.int .u64 4294967296, .int .u32 0] 51), (10, .cells #[.func (.func 12) #[] #[.pointer (some ⟨w₀.heap.size + 0, 0, none⟩), .pointer (some ⟨w₀.heap.size + 3, 0, none⟩), .pointer (some ⟨w₀.heap.size + k 2, 0, none⟩), .pointer (some ⟨w₀.heap.size + k 3, 0, none⟩)]] 1), (9, .cells #[.pointer (some ⟨w₀.heap.size + 8, 0, none⟩)] 59), (k 0, .chan 1 #[] false 0 0 false), (k 1, .chan 1 #[] false 0 0 false), (k 2, .cells #[.chan (some (w₀.heap.size + k 0))] 41), (k 3, .cells #[.chan (some (w₀.heap.size + k 1))] 41), (3, .cells #[.pointer (some ⟨w₀.heap.size + 2, 0, none⟩)] 33), (2, .cells #[.slice (some ⟨w₀.heap.size + 1, 0, none⟩) nn nn, .int .i64 0, .int .i64 0] 56), (1, .cells (madeCells #[.int .i64 0] nn) 3), (0, .cells #[.slice la N cap] 22)] w ∧ LU3 w₀ cs nn N cap la k g) 4000 g' w := by
  obtain ⟨b5, b8, b14, hb5, hb8, hb14, rfl⟩ := h
  have hst := fun w => step_unwind (P := Try.prog) (x := true) (b := (base 17)) (todo := [.code c14.pd.pd.pd.pd.pd.pd.pd.pd.pd.pd.pa.pd.pa, .code c14.pd.pd.pd.pd.pd.pd.pd.pd.pd.pd.pd]) (cs := (((base 11).at b8 [.inRegion c8.pd.pa.po.toArray [1], .code c8.pd.pd]) :: ((base 6).at b5 [.inRegion c5.pd.pd.pd.pd.pd.pa.po.toArray [1], .code c5.pd.pd.pd.pd.pd.pd]) :: cs)) .enable (fun _ h => by cases h) hb14 Try.func23 (by kernel_rfl) (by kernel_rfl) (by kernel_rfl) (by kernel_rfl) w
  refine ⟨rfl, _, hst, fun w hF => ?_⟩
  have TD : Tmd AtRel (DL Shun B W) := tmdL
  have T := TD.toTms
  have K : ∀ w, Ken Try.prog AtRel (DL Shun B W) (fun _ _ => False) w := fun _ => ⟨fun _ _ hc => hc.elim⟩
  have hT1 : Tm ⟨b14.tmps, []⟩ 117 [] [] := ⟨hb14.size, hb14.val, rfl⟩
  refine Gz.back0 (d := 5) T hT1 hb8 rfl Try.func17 (by kernel_rfl) (by kernel_rfl) (by decide) (fun a2 hT2 => ?_)
  refine Gz.rend T ?_
  refine Gz.regionE (id := 2) (l := c8.pd.pd.po) (r := [0, 1]) T (by kernel_rfl) (by kernel_rfl) ?_
  refine Mz.opv (o := opq c8.pd.pd 0) (d := 6) (mvG T) (by decide) hT2 (v := .func (.func 18) #[] #[.pointer (some ⟨w₀.heap.size + 9, 0, none⟩), .pointer (some ⟨w₀.heap.size + 10, 0, none⟩)]) (by kernel_rfl) (by kernel_rfl) (by decide) (by kernel_rfl) (by kernel_rfl) (op_func (fn := .func 18) (cap := #[.tmp 2, .tmp 3]) (vs := [.pointer (some ⟨w₀.heap.size + 9, 0, none⟩), .pointer (some ⟨w₀.heap.size + 10, 0, none⟩)]) (by kernel_rfl) (by kernel_rfl)) (fun a3 hT3 => ?_)
  have h5LU3 := hb5.live [3, 6, 8, 9, 10] (g' := [(3, .pointer (some ⟨w₀.heap.size + 0, 0, none⟩)), (6, .pointer (some ⟨w₀.heap.size + 3, 0, none⟩)), (8, .pointer (some ⟨w₀.heap.size + k 2, 0, none⟩)), (9, .pointer (some ⟨w₀.heap.size + k 3, 0, none⟩)), (10, .pointer (some ⟨w₀.heap.size + 8, 0, none⟩))]) (by kernel_rfl)
  have h8LU3 := hT3.live [6] (g' := [(6, .func (.func 18) #[] #[.pointer (some ⟨w₀.heap.size + 9, 0, none⟩), .pointer (some ⟨w₀.heap.size + 10, 0, none⟩)])]) (by kernel_rfl)
  exact Goes.stop fun w₁ h₁ => ⟨hF.at h₁, b5, a3, h5LU3, h8LU3, rfl⟩
theorem L_go (h : LU3 w₀ cs nn N cap la k g) :
    g.status = .running ∧ ∃ g', ∃ b5 : Act, Tm b5 48 [(3, .pointer (some ⟨w₀.heap.size + 0, 0, none⟩)), (6, .pointer (some ⟨w₀.heap.size + 3, 0, none⟩)), (8, .pointer (some ⟨w₀.heap.size + k 2, 0, none⟩)), (9, .pointer (some ⟨w₀.heap.size + k 3, 0, none⟩)), (10, .pointer (some ⟨w₀.heap.size + 8, 0, none⟩))] [] ∧ ∃ b8 : Act, Tm b8 7 [] [] ∧ (∀ w, stepG Try.prog true g w = .spawn g' (born Try.prog (dcap 18 [.pointer (some ⟨w₀.heap.size + 9, 0, none⟩), .pointer (some ⟨w₀.heap.size + 10, 0, none⟩)])) w #[]) ∧ g' = G ((base 11).at b8 [.inRegion c8.pd.pd.po.toArray []]) (((base 6).at b5 [.inRegion c5.pd.pd.pd.pd.pd.pa.po.toArray [1], .code c5.pd.pd.pd.pd.pd.pd]) :: cs) := by
  obtain ⟨b5, b8, hb5, hb8, rfl⟩ := h
  have hst := fun w => step_go (P := Try.prog) (x := true) (b := (base 11)) (k := []) (rest := []) (cs := (((base 6).at b5 [.inRegion c5.pd.pd.pd.pd.pd.pa.po.toArray [1], .code c5.pd.pd.pd.pd.pd.pd]) :: cs)) (ops := c8.pd.pd.po.toArray) (i := 1) (o := opq c8.pd.pd 1) (q := .tmp 6) (f := 18) (cap := [.pointer (some ⟨w₀.heap.size + 9, 0, none⟩), .pointer (some ⟨w₀.heap.size + 10, 0, none⟩)]) (by decide) hb8 (by kernel_rfl) (by kernel_rfl) (by kernel_rfl) (by kernel_rfl) (by kernel_rfl) w
  refine ⟨rfl, _, b5, hb5.live [3, 6, 8, 9, 10] (g' := [(3, .pointer (some ⟨w₀.heap.size + 0, 0, none⟩)), (6, .pointer (some ⟨w₀.heap.size + 3, 0, none⟩)), (8, .pointer (some ⟨w₀.heap.size + k 2, 0, none⟩)), (9, .pointer (some ⟨w₀.heap.size + k 3, 0, none⟩)), (10, .pointer (some ⟨w₀.heap.size + 8, 0, none⟩))]) (by kernel_rfl), b8, hb8.live [] (g' := []) (by kernel_rfl), hst, rfl⟩

end
end Go.Proofs.Ytdmiilgdkmbmeaa.Rg
namespace Go.Proofs.Ytdmiilgdkmbmeaa.Rg
open Go Go.Conc
section
variable {w₀ w : World} {Shun : Loc → Prop} {B W : Nat} {cs : List Frame} {nn N cap : Nat} {la : Option Addr} {k : Nat → Nat} {g : Goroutine}
theorem L_low {z : Int} {b5 : Act} (hb5 : Tm b5 48 [(0, .int .i64 z), (1, .slice la N cap)] []) (hsh : ∀ ad : Addr, w₀.heap.size ≤ ad.block → ¬ Shun (.cell ad)) (hB : w₀.heap.size + 11 ≤ B) (hz : z < 1) (hF : Fk w₀ 0 [] w) :
    Goes Try.prog true AtRel (DL Shun B W) (fun g w => Fk w₀ 2 [(1, .cells #[.pointer none] 33), (0, .cells #[.slice la N cap] 22)] w ∧ ∃ (b5 : Act) (todo : List Item), Tm b5 48 [(4, .slice none 0 0), (5, .int .i64 3)] [] ∧ g = G { (base 6).at b5 todo with mode := .returning } cs) 4000 (G ((base 6).at b5 [.code c5]) (cs)) w := by
  have TD : Tmd AtRel (DL Shun B W) := tmdL
  have T := TD.toTms
  have K : ∀ w, Ken Try.prog AtRel (DL Shun B W) (fun _ _ => False) w := fun _ => ⟨fun _ _ hc => hc.elim⟩
  refine Gz.seqE T (by kernel_rfl : c5 = .seq c5.pa c5.pd) ?_
  refine Gz.regionE (id := 0) (l := c5.pa.po) (r := [0, 1, 2]) T (by kernel_rfl) (by kernel_rfl) ?_
  refine Gz.mk1 (w₀ := w₀) (N := 0) (o := opq c5.pa 0) (d := 3) (by decide) hb5 hF (by kernel_rfl) (by kernel_rfl) (by decide) (by kernel_rfl) (v := fun b => .pointer (some ⟨b, 0, none⟩)) (ob := .cells #[.slice la N cap] 22) (op_box (v := .slice la N cap) (y := .tmp 1) (T := 22) (by kernel_rfl) (by kernel_rfl)) (fun a1 w hT hF => ?_)
  have hT1 : Tm a1 48 ((3, .pointer (some ⟨w₀.heap.size + 0, 0, none⟩)) :: [(0, .int .i64 z), (1, .slice la N cap)]) [] := hT
  clear hT
  refine Gz.row T (K _) (by decide) hT1 [] [1, 2] [] [3, 0] (g' := [(3, .pointer (some ⟨w₀.heap.size + 0, 0, none⟩)), (0, .int .i64 z)]) (qs := []) (by kernel_rfl) (by kernel_rfl) (by simp) (fun a3 hT3 => ?_)
  refine Gz.rend T ?_
  refine Gz.seqE T (by kernel_rfl : c5.pd = .seq c5.pd.pa c5.pd.pd) ?_
  refine Gz.regionE (id := 1) (l := c5.pd.pa.po) (r := [0, 1, 2, 3, 4, 5, 6, 7]) T (by kernel_rfl) (by kernel_rfl) ?_
  refine Gz.row T (K _) (by decide) hT3 [] [0] [1, 2, 3, 4, 5, 6, 7] [15, 3] (g' := [(15, .int .i64 z), (3, .pointer (some ⟨w₀.heap.size + 0, 0, none⟩))]) (qs := []) (by kernel_rfl) (by kernel_rfl) (by simp) (fun a4 hT4 => ?_)
  refine Mz.enter (o := opq c5.pd.pa 1) (q := .func 7) (f := 7) (cc := c7) (cap := []) (args := #[.tmp 15]) (ats := #[3]) (mvG T) hT4 [.int .i64 z] 14 (by kernel_rfl) (by kernel_rfl) (by decide) (by kernel_rfl) (by kernel_rfl) Try.func7 (by kernel_rfl) (by kernel_rfl) (by kernel_rfl) (by kernel_rfl) (by kernel_rfl) (fun a5 hT5 => ?_)
  refine Gz.seqE T (by kernel_rfl : c7 = .seq c7.pa c7.pd) ?_
  refine Gz.regionE (id := 0) (l := c7.pa.po) (r := [0, 1]) T (by kernel_rfl) (by kernel_rfl) ?_
  refine Gz.row T (K _) (by decide) hT5 [] [0, 1] [] [0] (g' := [(0, .int .i64 z)]) (qs := []) (by kernel_rfl) (by kernel_rfl) (by simp) (fun a6 hT6 => ?_)
  refine Gz.rend T ?_
  refine Gz.seqE T (by kernel_rfl : c7.pd = .seq c7.pd.pa c7.pd.pd) ?_
  refine Gz.seqE T (by kernel_rfl : c7.pd.pa = .seq c7.pd.pa.pa c7.pd.pa.pd) ?_
  refine Gz.regionE (id := 1) (l := c7.pd.pa.pa.po) (r := [0, 1, 2, 3, 4, 5]) T (by kernel_rfl) (by kernel_rfl) ?_
  refine Gz.row T (K _) (by decide) hT6 [] [0] [1, 2, 3, 4, 5] [4, 0] (g' := [(4, .int .i64 z), (0, .int .i64 z)]) (qs := []) (by kernel_rfl) (by kernel_rfl) (by simp) (fun a7 hT7 => ?_)
  refine Gz.hint (o := opq c7.pd.pa.pa 1) (d := 5) T (by decide) hT7 (v := .bool true) (by kernel_rfl) (by kernel_rfl) (by decide) (by kernel_rfl) (by kernel_rfl) (congrArg some (n_low hz)) (fun a8 hT8 => ?_)
  refine Gz.row T (K _) (by decide) hT8 [] [2, 3, 4, 5] [] [9, 0] (g' := [(9, .bool true), (0, .int .i64 z)]) (qs := []) (by kernel_rfl) (by kernel_rfl) (by simp) (fun a9 hT9 => ?_)
  refine Gz.rend T ?_
  refine Gz.condTE (q := .tmp 9) (y := c7.pd.pa.pd.pa) (z := c7.pd.pa.pd.pd) T (by kernel_rfl) hT9 (by kernel_rfl) ?_
  refine Gz.seqE T (by kernel_rfl : c7.pd.pa.pd.pa = .seq c7.pd.pa.pd.pa.pa c7.pd.pa.pd.pa.pd) ?_
  refine Gz.regionE (id := 2) (l := c7.pd.pa.pd.pa.pa.po) (r := [0, 1]) T (by kernel_rfl) (by kernel_rfl) ?_
  refine Gz.row T (K _) (by decide) hT9 [] [0, 1] [] [3, 2] (g' := [(3, .int .i64 3), (2, .pointer none)]) (qs := []) (by kernel_rfl) (by kernel_rfl) (by simp) (fun a10 hT10 => ?_)
  refine Gz.rend T ?_
  refine Gz.retE T (by kernel_rfl) ?_
  refine Gz.back2 (t := 2) (t' := 3) (v := .pointer none) (u := .int .i64 3) (d := 16) T hT10 hT4 rfl Try.func7 (by kernel_rfl) (by kernel_rfl) (by kernel_rfl) (by kernel_rfl) (by decide) (fun a11 hT11 => ?_)
  refine Gz.row T (K _) (by decide) hT11 [] [2, 3, 4] [5, 6, 7] [18, 17, 3] (g' := [(18, .int .i64 3), (17, .pointer none), (3, .pointer (some ⟨w₀.heap.size + 0, 0, none⟩))]) (qs := []) (by kernel_rfl) (by kernel_rfl) (by simp) (fun a12 hT12 => ?_)
  refine Gz.mk1 (w₀ := w₀) (N := 1) (o := opq c5.pd.pa 5) (d := 6) (by decide) hT12 hF (by kernel_rfl) (by kernel_rfl) (by decide) (by kernel_rfl) (v := fun b => .pointer (some ⟨b, 0, none⟩)) (ob := .cells #[.pointer none] 33) (op_alloc (T := 33) (ti := (Try.prog.info? 33).getD default) (z := .pointer none) (by kernel_rfl) (by kernel_rfl) (by kernel_rfl)) (fun a13 w hT hF => ?_)
  have hT13 : Tm a13 48 ((6, .pointer (some ⟨w₀.heap.size + 1, 0, none⟩)) :: [(18, .int .i64 3), (17, .pointer none), (3, .pointer (some ⟨w₀.heap.size + 0, 0, none⟩))]) [] := hT
  clear hT
  refine Gz.lput (w₀ := w₀) (N := 2) (K := [(1, .cells #[.pointer none] 33), (0, .cells #[.slice la N cap] 22)]) (o := opq c5.pd.pa 6) (by decide) hT13 hF (X := 33) (y := .tmp 6) (z := .tmp 17) (ti := (Try.prog.info? 33).getD default) (off := 0) (bb := 1) (v := .pointer none) (u := .pointer none) (by kernel_rfl) (by kernel_rfl) (by kernel_rfl) (by kernel_rfl) (by kernel_rfl) (by kernel_rfl) (by kernel_rfl) (by kernel_rfl) (by kernel_rfl) (by kernel_rfl) (by kernel_rfl) (by simp) (hsh _ (by simp)) (by omega) (fun w hF => ?_)
  replace hF : Fk w₀ 2 [(1, .cells #[.pointer none] 33), (0, .cells #[.slice la N cap] 22)] w := hF
  refine Gz.row T (K _) (by decide) hT13 [] [7] [] [7, 6, 3] (g' := [(7, .int .i64 3), (6, .pointer (some ⟨w₀.heap.size + 1, 0, none⟩)), (3, .pointer (some ⟨w₀.heap.size + 0, 0, none⟩))]) (qs := []) (by kernel_rfl) (by kernel_rfl) (by simp) (fun a15 hT15 => ?_)
  refine Gz.rend T ?_
  refine Gz.seqE T (by kernel_rfl : c5.pd.pd = .seq c5.pd.pd.pa c5.pd.pd.pd) ?_
  refine Gz.seqE T (by kernel_rfl : c5.pd.pd.pa = .seq c5.pd.pd.pa.pa c5.pd.pd.pa.pd) ?_
  refine Gz.regionE (id := 2) (l := c5.pd.pd.pa.pa.po) (r := [0, 1]) T (by kernel_rfl) (by kernel_rfl) ?_
  refine Gz.row T (K _) (by decide) hT15 [] [0, 1] [] [20, 7, 6, 3] (g' := [(20, .bool true), (7, .int .i64 3), (6, .pointer (some ⟨w₀.heap.size + 1, 0, none⟩)), (3, .pointer (some ⟨w₀.heap.size + 0, 0, none⟩))]) (qs := []) (by kernel_rfl) (by kernel_rfl) (by simp) (fun a16 hT16 => ?_)
  refine Gz.rend T ?_
  refine Gz.condTE (q := .tmp 20) (y := c5.pd.pd.pa.pd.pa) (z := c5.pd.pd.pa.pd.pd) T (by kernel_rfl) hT16 (by kernel_rfl) ?_
  refine Gz.seqE T (by kernel_rfl : c5.pd.pd.pa.pd.pa = .seq c5.pd.pd.pa.pd.pa.pa c5.pd.pd.pa.pd.pa.pd) ?_
  refine Gz.regionE (id := 3) (l := c5.pd.pd.pa.pd.pa.pa.po) (r := [0, 1, 2]) T (by kernel_rfl) (by kernel_rfl) ?_
  refine Gz.row T (K _) (by decide) hT16 [] [0, 1, 2] [] [5, 4] (g' := [(5, .int .i64 3), (4, .slice none 0 0)]) (qs := []) (by kernel_rfl) (by kernel_rfl) (by simp) (fun a17 hT17 => ?_)
  refine Gz.rend T ?_
  refine Gz.retE T (by kernel_rfl) ?_
  exact Goes.stop fun w₁ h₁ => ⟨hF.at h₁, _, _, hT17.live [4, 5] (g' := [(4, .slice none 0 0), (5, .int .i64 3)]) (by kernel_rfl), rfl⟩
theorem L_high {z : Int} {b5 : Act} (hb5 : Tm b5 48 [(0, .int .i64 z), (1, .slice la N cap)] []) (hsh : ∀ ad : Addr, w₀.heap.size ≤ ad.block → ¬ Shun (.cell ad)) (hB : w₀.heap.size + 11 ≤ B) (hz : 65536 < z) (hF : Fk w₀ 0 [] w) :
    Goes Try.prog true AtRel (DL Shun B W) (fun g w => Fk w₀ 2 [(1, .cells #[.pointer none] 33), (0, .cells #[.slice la N cap] 22)] w ∧ ∃ (b5 : Act) (todo : List Item), Tm b5 48 [(4, .slice none 0 0), (5, .int .i64 3)] [] ∧ g = G { (base 6).at b5 todo with mode := .returning } cs) 4000 (G ((base 6).at b5 [.code c5]) (cs)) w := by
  have TD : Tmd AtRel (DL Shun B W) := tmdL
  have T := TD.toTms
  have K : ∀ w, Ken Try.prog AtRel (DL Shun B W) (fun _ _ => False) w := fun _ => ⟨fun _ _ hc => hc.elim⟩
  refine Gz.seqE T (by kernel_rfl : c5 = .seq c5.pa c5.pd) ?_
  refine Gz.regionE (id := 0) (l := c5.pa.po) (r := [0, 1, 2]) T (by kernel_rfl) (by kernel_rfl) ?_
  refine Gz.mk1 (w₀ := w₀) (N := 0) (o := opq c5.pa 0) (d := 3) (by decide) hb5 hF (by kernel_rfl) (by kernel_rfl) (by decide) (by kernel_rfl) (v := fun b => .pointer (some ⟨b, 0, none⟩)) (ob := .cells #[.slice la N cap] 22) (op_box (v := .slice la N cap) (y := .tmp 1) (T := 22) (by kernel_rfl) (by kernel_rfl)) (fun a1 w hT hF => ?_)
  have hT1 : Tm a1 48 ((3, .pointer (some ⟨w₀.heap.size + 0, 0, none⟩)) :: [(0, .int .i64 z), (1, .slice la N cap)]) [] := hT
  clear hT
  refine Gz.row T (K _) (by decide) hT1 [] [1, 2] [] [3, 0] (g' := [(3, .pointer (some ⟨w₀.heap.size + 0, 0, none⟩)), (0, .int .i64 z)]) (qs := []) (by kernel_rfl) (by kernel_rfl) (by simp) (fun a3 hT3 => ?_)
  refine Gz.rend T ?_
  refine Gz.seqE T (by kernel_rfl : c5.pd = .seq c5.pd.pa c5.pd.pd) ?_
  refine Gz.regionE (id := 1) (l := c5.pd.pa.po) (r := [0, 1, 2, 3, 4, 5, 6, 7]) T (by kernel_rfl) (by kernel_rfl) ?_
  refine Gz.row T (K _) (by decide) hT3 [] [0] [1, 2, 3, 4, 5, 6, 7] [15, 3] (g' := [(15, .int .i64 z), (3, .pointer (some ⟨w₀.heap.size + 0, 0, none⟩))]) (qs := []) (by kernel_rfl) (by kernel_rfl) (by simp) (fun a4 hT4 => ?_)
  refine Mz.enter (o := opq c5.pd.pa 1) (q := .func 7) (f := 7) (cc := c7) (cap := []) (args := #[.tmp 15]) (ats := #[3]) (mvG T) hT4 [.int .i64 z] 14 (by kernel_rfl) (by kernel_rfl) (by decide) (by kernel_rfl) (by kernel_rfl) Try.func7 (by kernel_rfl) (by kernel_rfl) (by kernel_rfl) (by kernel_rfl) (by kernel_rfl) (fun a5 hT5 => ?_)
  refine Gz.seqE T (by kernel_rfl : c7 = .seq c7.pa c7.pd) ?_
  refine Gz.regionE (id := 0) (l := c7.pa.po) (r := [0, 1]) T (by kernel_rfl) (by kernel_rfl) ?_
  refine Gz.row T (K _) (by decide) hT5 [] [0, 1] [] [0] (g' := [(0, .int .i64 z)]) (qs := []) (by kernel_rfl) (by kernel_rfl) (by simp) (fun a6 hT6 => ?_)
  refine Gz.rend T ?_
  refine Gz.seqE T (by kernel_rfl : c7.pd = .seq c7.pd.pa c7.pd.pd) ?_
  refine Gz.seqE T (by kernel_rfl : c7.pd.pa = .seq c7.pd.pa.pa c7.pd.pa.pd) ?_
  refine Gz.regionE (id := 1) (l := c7.pd.pa.pa.po) (r := [0, 1, 2, 3, 4, 5]) T (by kernel_rfl) (by kernel_rfl) ?_
  refine Gz.row T (K _) (by decide) hT6 [] [0] [1, 2, 3, 4, 5] [4, 0] (g' := [(4, .int .i64 z), (0, .int .i64 z)]) (qs := []) (by kernel_rfl) (by kernel_rfl) (by simp) (fun a7 hT7 => ?_)
  refine Gz.hint (o := opq c7.pd.pa.pa 1) (d := 5) T (by decide) hT7 (v := .bool false) (by kernel_rfl) (by kernel_rfl) (by decide) (by kernel_rfl) (by kernel_rfl) (congrArg some (n_one (by omega))) (fun a8 hT8 => ?_)
  refine Gz.row T (K _) (by decide) hT8 [] [2, 3] [4, 5] [7, 6, 0] (g' := [(7, .int .i64 z), (6, .bool false), (0, .int .i64 z)]) (qs := []) (by kernel_rfl) (by kernel_rfl) (by simp) (fun a9 hT9 => ?_)
  refine Gz.hint (o := opq c7.pd.pa.pa 4) (d := 8) T (by decide) hT9 (v := .bool true) (by kernel_rfl) (by kernel_rfl) (by decide) (by kernel_rfl) (by kernel_rfl) (congrArg some (n_high hz)) (fun a10 hT10 => ?_)
  refine Gz.row T (K _) (by decide) hT10 [] [5] [] [9, 0] (g' := [(9, .bool true), (0, .int .i64 z)]) (qs := []) (by kernel_rfl) (by kernel_rfl) (by simp) (fun a11 hT11 => ?_)
  refine Gz.rend T ?_
  refine Gz.condTE (q := .tmp 9) (y := c7.pd.pa.pd.pa) (z := c7.pd.pa.pd.pd) T (by kernel_rfl) hT11 (by kernel_rfl) ?_
  refine Gz.seqE T (by kernel_rfl : c7.pd.pa.pd.pa = .seq c7.pd.pa.pd.pa.pa c7.pd.pa.pd.pa.pd) ?_
  refine Gz.regionE (id := 2) (l := c7.pd.pa.pd.pa.pa.po) (r := [0, 1]) T (by kernel_rfl) (by kernel_rfl) ?_
  refine Gz.row T (K _) (by decide) hT11 [] [0, 1] [] [3, 2] (g' := [(3, .int .i64 3), (2, .pointer none)]) (qs := []) (by kernel_rfl) (by kernel_rfl) (by simp) (fun a12 hT12 => ?_)
  refine Gz.rend T ?_
  refine Gz.retE T (by kernel_rfl) ?_
  refine Gz.back2 (t := 2) (t' := 3) (v := .pointer none) (u := .int .i64 3) (d := 16) T hT12 hT4 rfl Try.func7 (by kernel_rfl) (by kernel_rfl) (by kernel_rfl) (by kernel_rfl) (by decide) (fun a13 hT13 => ?_)
  refine Gz.row T (K _) (by decide) hT13 [] [2, 3, 4] [5, 6, 7] [18, 17, 3] (g' := [(18, .int .i64 3), (17, .pointer none), (3, .pointer (some ⟨w₀.heap.size + 0, 0, none⟩))]) (qs := []) (by kernel_rfl) (by kernel_rfl) (by simp) (fun a14 hT14 => ?_)
  refine Gz.mk1 (w₀ := w₀) (N := 1) (o := opq c5.pd.pa 5) (d := 6) (by decide) hT14 hF (by kernel_rfl) (by kernel_rfl) (by decide) (by kernel_rfl) (v := fun b => .pointer (some ⟨b, 0, none⟩)) (ob := .cells #[.pointer none] 33) (op_alloc (T := 33) (ti := (Try.prog.info? 33).getD default) (z := .pointer none) (by kernel_rfl) (by kernel_rfl) (by kernel_rfl)) (fun a15 w hT hF => ?_)
  have hT15 : Tm a15 48 ((6, .pointer (some ⟨w₀.heap.size + 1, 0, none⟩)) :: [(18, .int .i64 3), (17, .pointer none), (3, .pointer (some ⟨w₀.heap.size + 0, 0, none⟩))]) [] := hT
  clear hT
  refine Gz.lput (w₀ := w₀) (N := 2) (K := [(1, .cells #[.pointer none] 33), (0, .cells #[.slice la N cap] 22)]) (o := opq c5.pd.pa 6) (by decide) hT15 hF (X := 33) (y := .tmp 6) (z := .tmp 17) (ti := (Try.prog.info? 33).getD default) (off := 0) (bb := 1) (v := .pointer none) (u := .pointer none) (by kernel_rfl) (by kernel_rfl) (by kernel_rfl) (by kernel_rfl) (by kernel_rfl) (by kernel_rfl) (by kernel_rfl) (by kernel_rfl) (by kernel_rfl) (by kernel_rfl) (by kernel_rfl) (by simp) (hsh _ (by simp)) (by omega) (fun w hF => ?_)
  replace hF : Fk w₀ 2 [(1, .cells #[.pointer none] 33), (0, .cells #[.slice la N cap] 22)] w := hF
  refine Gz.row T (K _) (by decide) hT15 [] [7] [] [7, 6, 3] (g' := [(7, .int .i64 3), (6, .pointer (some ⟨w₀.heap.size + 1, 0, none⟩)), (3, .pointer (some ⟨w₀.heap.size + 0, 0, none⟩))]) (qs := []) (by kernel_rfl) (by kernel_rfl) (by simp) (fun a17 hT17 => ?_)
  refine Gz.rend T ?_
  refine Gz.seqE T (by kernel_rfl : c5.pd.pd = .seq c5.pd.pd.pa c5.pd.pd.pd) ?_
  refine Gz.seqE T (by kernel_rfl : c5.pd.pd.pa = .seq c5.pd.pd.pa.pa c5.pd.pd.pa.pd) ?_
  refine Gz.regionE (id := 2) (l := c5.pd.pd.pa.pa.po) (r := [0, 1]) T (by kernel_rfl) (by kernel_rfl) ?_
  refine Gz.row T (K _) (by decide) hT17 [] [0, 1] [] [20, 7, 6, 3] (g' := [(20, .bool true), (7, .int .i64 3), (6, .pointer (some ⟨w₀.heap.size + 1, 0, none⟩)), (3, .pointer (some ⟨w₀.heap.size + 0, 0, none⟩))]) (qs := []) (by kernel_rfl) (by kernel_rfl) (by simp) (fun a18 hT18 => ?_)
  refine Gz.rend T ?_
  refine Gz.condTE (q := .tmp 20) (y := c5.pd.pd.pa.pd.pa) (z := c5.pd.pd.pa.pd.pd) T (by kernel_rfl) hT18 (by kernel_rfl) ?_
  refine Gz.seqE T (by kernel_rfl : c5.pd.pd.pa.pd.pa = .seq c5.pd.pd.pa.pd.pa.pa c5.pd.pd.pa.pd.pa.pd) ?_
  refine Gz.regionE (id := 3) (l := c5.pd.pd.pa.pd.pa.pa.po) (r := [0, 1, 2]) T (by kernel_rfl) (by kernel_rfl) ?_
  refine Gz.row T (K _) (by decide) hT18 [] [0, 1, 2] [] [5, 4] (g' := [(5, .int .i64 3), (4, .slice none 0 0)]) (qs := []) (by kernel_rfl) (by kernel_rfl) (by simp) (fun a19 hT19 => ?_)
  refine Gz.rend T ?_
  refine Gz.retE T (by kernel_rfl) ?_
  exact Goes.stop fun w₁ h₁ => ⟨hF.at h₁, _, _, hT19.live [4, 5] (g' := [(4, .slice none 0 0), (5, .int .i64 3)]) (by kernel_rfl), rfl⟩
theorem L_fin {L : Lay} {D : Dat} {e : Env} {i : Nat} {oa : Option Addr} {oc : Nat} (h : AOut L D e cs i oa oc g) :
    Goes Try.prog true AtRel (DL Shun B W) (fun g w₁ => AtRel w w₁ ∧ ∃ (b5 : Act) (todo : List Item), Tm b5 48 [(4, .slice oa i oc), (5, .int .i64 0)] [] ∧ g = G { (base 6).at b5 todo with mode := .returning } cs) 4000 g w := by
  obtain ⟨b5, hb5, rfl⟩ := h
  have TD : Tmd AtRel (DL Shun B W) := tmdL
  have T := TD.toTms
  have K : ∀ w, Ken Try.prog AtRel (DL Shun B W) (fun _ _ => False) w := fun _ => ⟨fun _ _ hc => hc.elim⟩
  refine Gz.rend T ?_
  refine Gz.seqE T (by kernel_rfl : c5.pd.pd.pd.pd.pd.pd.pd.pd.pd = .seq c5.pd.pd.pd.pd.pd.pd.pd.pd.pd.pa c5.pd.pd.pd.pd.pd.pd.pd.pd.pd.pd) ?_
  refine Gz.regionE (id := 15) (l := c5.pd.pd.pd.pd.pd.pd.pd.pd.pd.pa.po) (r := [0, 1, 2]) T (by kernel_rfl) (by kernel_rfl) ?_
  refine Gz.row T (K _) (by decide) hb5 [] [0, 1, 2] [] [5, 4] (g' := [(5, .int .i64 0), (4, .slice oa i oc)]) (qs := []) (by kernel_rfl) (by kernel_rfl) (by simp) (fun a1 hT1 => ?_)
  refine Gz.rend T ?_
  refine Gz.retE T (by kernel_rfl) ?_
  exact Goes.stop fun w₁ h₁ => ⟨h₁, _, _, hT1.live [4, 5] (g' := [(4, .slice oa i oc), (5, .int .i64 0)]) (by kernel_rfl), rfl⟩

end
end Go.Proofs.Ytdmiilgdkmbmeaa.Rg
namespace Go.Proofs.Ytdmiilgdkmbmeaa.Rg
open Go Go.Conc
open Go.ConcN (sumTo)

theorem goes_to {P : Program} {x : Bool} {R R' : World → World → Prop} {D D' : World → World → Array Event → Prop} {Stop : Goroutine → World → Prop} (hR : ∀ w w', R' w w' → R w w') (hD : ∀ w w' es, D w w' es → D' w w' es) : ∀ {n : Nat} {g : Goroutine} {w : World}, Goes P x R D Stop n g w → Goes P x R' D' Stop n g w
  | 0, _, _, h => fun w₁ r => h w₁ (hR _ _ r)
  | n + 1, g, w, h => by
    rcases h with hs | ⟨hr, hst⟩
    · exact .inl fun w₁ r => hs w₁ (hR _ _ r)
    · refine .inr ⟨hr, fun w₁ r => ?_⟩
      obtain ⟨g', w', es, e, hd, hn⟩ := goes_elim (hst w₁ (hR _ _ r))
      rw [e]
      exact ⟨hD _ _ _ hd, goes_to hR hD hn⟩
theorem rx_at {L : Lay} {x : Bool} {w w' : World} (h : AtRel w w') : RX L x w w' := by
  obtain ⟨d, rfl⟩ := h
  exact RX.at w d
/-- The list that is handed through. -/
structure Lin (Shun : Loc → Prop) (w : World) (la : Option Addr) (N lb lo : Nat) (z : Nat → Int) : Prop where
  la : 0 < N → la = some ⟨lb, lo, none⟩
  el : ∀ i, i < N → w.cell? ⟨lb, i + lo, none⟩ = some (.int .i64 (z i)) ∧ lb < w.heap.size ∧ ¬ Shun (.cell ⟨lb, i + lo, none⟩)
/-- What it comes to: what came out; what is kept. -/
structure Thr (w : World) (N : Nat) (z : Nat → Int) (cs : List Frame) (a' : Goroutine) (w' : World) : Prop where
  size : w.heap.size + 11 ≤ w'.heap.size
  low : ∀ b, b < w.heap.size → w'.heap[b]? = w.heap[b]?
  os : w'.os = w.os
  output : w'.output = w.output
  tape : w'.tape = w.tape
  ret : ∃ oa oc b5 todo, w'.ownsRow (w.heap.size + 11) 3 1 (.slice oa N oc) N ((List.range N).map fun i => .int .i64 (z i)) ∧ Tm b5 48 [(4, .slice oa N oc), (5, .int .i64 0)] [] ∧ a' = G { (base 6).at b5 todo with mode := .returning } cs

section
variable {Shun : Loc → Prop} {w : World} {gs : Array Goroutine} {t : Trace} {q : Nat → Nat} {cs : List Frame} {nn N cap lb lo : Nat} {la : Option Addr} {z : Nat → Int} {k : Nat → Nat}
def layF (c nn : Nat) (w : World) (k : Nat → Nat) : Lay := { c := c, n := nn, R := w.heap.size + 2, M := w.heap.size + 1, F := w.heap.size + k 0, E := w.heap.size + k 1, W := w.heap.size + 8, low := w.heap.size + 11 }
def datF (nn N : Nat) (w : World) (z : Nat → Int) : Dat := { N := N, val := fun i => .int .i64 (z i), unit := .agg #[], hdr := .slice (some ⟨w.heap.size + 1, 0, none⟩) nn nn, tR := tRing, tM := 3, tW := tGroup }
def envF (w : World) (k : Nat → Nat) (lb lo cap : Nat) (la : Option Addr) (z : Nat → Int) : Env := { bl := w.heap.size + 0, bR := w.heap.size + 3, bF := w.heap.size + k 2, bE := w.heap.size + k 3, gw := w.heap.size + 9, gf := w.heap.size + 10, lb := lb, lo := lo, cap := cap, la := la, z := z }
theorem layF_good (hk : Kc k) {c : Nat} (hc : 0 < c) (hn : 1 ≤ nn) : (layF c nn w k).Good := by
  have r0 := hk.rng 0 (by omega)
  have r1 := hk.rng 1 (by omega)
  have ne : k 0 ≠ k 1 := fun e => absurd (hk.inj 0 1 (by omega) (by omega) e) (by omega)
  constructor <;> simp only [layF] <;> omega
theorem sh_start {w₃ : World} (hF : Fk w 11 (KF w nn N cap la k) w₃) (c : Nat) : ShAt (layF c nn w k) (datF nn N w z) ⟨0, 0, false, false, false, .a⟩ w₃ := by
  refine ⟨hF.get KF_2, ⟨_, hF.get KF_1, size_madeCells _ _, fun m _ h => by simp at h, fun h => by cases h⟩, fun x => ?_, hF.get KF_8⟩
  cases x
  · exact ⟨0, 0, hF.get KF_k0⟩
  · exact ⟨0, 0, hF.get KF_k1⟩
theorem hyp_start {w₃ : World} (hF : Fk w 11 (KF w nn N cap la k) w₃) (hk : Kc k) {c : Nat} (hc : 0 < c) (hn1 : 1 ≤ nn) (hn2 : nn ≤ 65536) (hN : N ≤ 17592186044416) (hsh : ∀ ad : Addr, w.heap.size ≤ ad.block → ¬ Shun (.cell ad)) (hl : Lin Shun w la N lb lo z) :
    Hyp (layF c nn w k) (datF nn N w z) Shun w₃ (envF w k lb lo cap la z) := by
  have r0 := hk.rng 0 (by omega)
  have r1 := hk.rng 1 (by omega)
  have r2 := hk.rng 2 (by omega)
  have r3 := hk.rng 3 (by omega)
  have n02 : k 0 ≠ k 2 := fun e => absurd (hk.inj 0 2 (by omega) (by omega) e) (by omega)
  have n03 : k 0 ≠ k 3 := fun e => absurd (hk.inj 0 3 (by omega) (by omega) e) (by omega)
  have n12 : k 1 ≠ k 2 := fun e => absurd (hk.inj 1 2 (by omega) (by omega) e) (by omega)
  have n13 : k 1 ≠ k 3 := fun e => absurd (hk.inj 1 3 (by omega) (by omega) e) (by omega)
  have cw : ∀ {b : Nat} {v : Value} {ty : TypeId}, (b, Obj.cells #[v] ty) ∈ KF w nn N cap la k → b < 11 → b ≠ 1 → b ≠ 2 → b ≠ 8 → b ≠ k 0 → b ≠ k 1 → Cw (layF c nn w k) (datF nn N w z) Shun w₃ ⟨w.heap.size + b, 0, none⟩ v := fun {b v ty} hm h1 h2 h3 h4 h5 h6 => by
    refine ⟨.inr ⟨(hF.cell hm rfl).1, by show w.heap.size + b < w.heap.size + 11; omega, ?_⟩, hsh _ (by show w.heap.size ≤ w.heap.size + b; omega)⟩
    simp only [Lay.sp, layF]
    omega
  refine { good := layF_good hk hc hn1, nb := hn2, Nb := hN, sh := fun ad h => hsh ad (by simp only [layF] at h; omega), hdr := rfl, unit := rfl, val := fun _ => rfl, rd := hsh _ (by show w.heap.size ≤ w.heap.size + 2; omega), la := hl.la, cl := ?_, cR := ?_, cF := ?_, cE := ?_, cw := ?_, cf := ?_, el := fun i hi => ?_ }
  · exact cw KF_0 (by omega) (by omega) (by omega) (by omega) (by omega) (by omega)
  · exact cw KF_3 (by omega) (by omega) (by omega) (by omega) (by omega) (by omega)
  · exact cw KF_k2 (by omega) (by omega) (by omega) (by omega) (by omega) (by omega)
  · exact cw KF_k3 (by omega) (by omega) (by omega) (by omega) (by omega) (by omega)
  · exact cw KF_9 (by omega) (by omega) (by omega) (by omega) (by omega) (by omega)
  · exact cw KF_10 (by omega) (by omega) (by omega) (by omega) (by omega) (by omega)
  · obtain ⟨h1, h2, h3⟩ := hl.el i hi
    refine ⟨.inr ⟨?_, by show lb < w.heap.size + 11; omega, ?_⟩, h3⟩
    · rw [cell_of_heap (hF.low lb h2)]; exact h1
    · simp only [Lay.sp, layF, envF]
      omega
theorem kw_start {w₃ : World} {x : Bool} (hF : Fk w 11 (KF w nn N cap la k) w₃) (c d : Nat) : KW (layF c nn w k) (datF nn N w z) w₃ x 0 (w₃.at d) := by
  have hs := sh_start (z := z) hF c
  refine ⟨fun _ _ _ => rfl, ⟨_, _, hs.ring, by cases x <;> rfl⟩, ?_, ⟨_, _, hs.grp⟩⟩
  show w.heap.size + 11 ≤ w₃.heap.size
  rw [hF.size]
  exact Nat.le_refl _
end
end Go.Proofs.Ytdmiilgdkmbmeaa.Rg
namespace Go.Proofs.Ytdmiilgdkmbmeaa.Rg
open Go Go.Conc
open Go.ConcN (sumTo)

section
variable {Shun : Loc → Prop} {w : World} {gs : Array Goroutine} {t : Trace} {q : Nat → Nat} {cs : List Frame} {nn N cap lb lo : Nat} {la : Option Addr} {z : Nat → Int} {k : Nat → Nat}
theorem goes_carry {P : Program} {x : Bool} {R : World → World → Prop} {D : World → World → Array Event → Prop} {Stop : Goroutine → World → Prop} {S : World → World → Prop} (ht : ∀ a b c, S a b → S b c → S a c) (hR : ∀ w w', R w w' → S w w') (hD : ∀ w w' es, D w w' es → S w w') {w₀ : World} : ∀ {n : Nat} {g : Goroutine} {w : World}, S w₀ w → Goes P x R D Stop n g w → Goes P x R D (fun g' w' => Stop g' w' ∧ S w₀ w') n g w
  | 0, _, _, h0, h => fun w₁ r => ⟨h w₁ r, ht _ _ _ h0 (hR _ _ r)⟩
  | n + 1, g, w, h0, h => by
    rcases h with hs | ⟨hr, hst⟩
    · exact .inl fun w₁ r => ⟨hs w₁ r, ht _ _ _ h0 (hR _ _ r)⟩
    · refine .inr ⟨hr, fun w₁ r => ?_⟩
      obtain ⟨g', w', es, e, hd, hn⟩ := goes_elim (hst w₁ r)
      rw [e]
      exact ⟨hd, goes_carry ht hR hD (ht _ _ _ (ht _ _ _ h0 (hR _ _ r)) (hD _ _ _ hd)) hn⟩
def Outs (w w' : World) : Prop := w'.os = w.os ∧ w'.output = w.output ∧ w'.tape = w.tape ∧ w.heap.size ≤ w'.heap.size
theorem runs_then {P : Program} {N N' : Nat} {m m₁ m₂ : Machine} {t t₁ t₂ : Trace} (h : runNT P N m t = (.next m₁, t₁)) (hk : runNT P N' m₁ t₁ = (.next m₂, t₂)) : runNT P (N + N') m t = (.next m₂, t₂) := by
  rw [runNT_add, h]; exact hk
theorem Fk.atd {w₀ w : World} {n : Nat} {K : List (Nat × Obj)} (h : Fk w₀ n K w) (d : Nat) : Fk w₀ n K (w.at d) := h.at ⟨d, rfl⟩
theorem evD_mk {W : Nat} {B : Nat} {m : Mark} (h : m = .disable ∨ m = .enable) : ∀ e ∈ (#[mkE m] : Array Event), EvD Shun B W e := by
  intro e he
  rw [show e = mkE m from by simpa using he]
  rcases h with rfl | rfl <;> exact ⟨fun x hx => by simp [mkE, MemAct.ofEvent, MemAct.touch?] at hx, trivial, by simp [mkE]⟩
/-- Where goroutine 0 stands at the go statement, hearing. -/
theorem to_fork {b5 : Act} (hb5 : Tm b5 48 [(0, .int .i64 nn), (1, .slice la N cap)] []) (hn1 : 1 ≤ nn) (hn2 : nn ≤ 65536) (h0 : gs[0]? = some (G ((base 6).at b5 [.code c5]) cs)) (hL : Leavers Try.prog t gs q) (hP : Past Shun w.heap.size t) (hsh : ∀ ad : Addr, w.heap.size ≤ ad.block → ¬ Shun (.cell ad)) (sl : Option (Nat × Nat)) :
    ∃ (n : Nat) (gs' : Array Goroutine) (g : Goroutine) (w' : World) (sl' : Option (Nat × Nat)) (t' : Trace) (q' : Nat → Nat) (k : Nat → Nat), runNT Try.prog n (crowd gs w sl) t = (.next (crowd gs' w' sl'), t') ∧ gs'.size = gs.size ∧ gs'[0]? = some g ∧ Leavers Try.prog t' gs' q' ∧ Pd Shun (w.heap.size + 11) (w.heap.size + 8) 0 t' ∧ Kc k ∧ Fk w 11 (KF w nn N cap la k) w' ∧ LU3 w cs nn N cap la k g := by
  have hP0 : Pd Shun (w.heap.size + 11) (w.heap.size + 8) 0 t := Pd.of_past hP (by omega) (by omega)
  have B0 : w.heap.size + 11 ≤ w.heap.size + 11 := Nat.le_refl _
  obtain ⟨n1, gs1, g1, w1, sl1, t1, q1, r1, z1, i1, s1, l1, p1⟩ := lone_walk (W := w.heap.size + 8) _ _ gs _ w sl t q (Nat.le_refl _) h0 hL hP0 (L_new (w₀ := w) (w := w) (Shun := Shun) (B := w.heap.size + 11) (W := w.heap.size + 8) (cs := cs) hb5 hsh B0 hn1 hn2 (Fk.start w)) (fun g w' ⟨k, hk, _, h⟩ => (L_dis (W := 0) h hsh B0 hk).1)
  obtain ⟨k, hk, hF1, hU1⟩ := s1 w1 (atRel_refl w1)
  obtain ⟨hr1, g2, hst1, hG1⟩ := L_dis (W := w.heap.size + 8) hU1 hsh B0 hk
  obtain ⟨n2, gs2, d2, sl2, t2, q2, r2, z2, i2, l2, p2⟩ := lone_say (w := w1) hr1 hst1 (evD_mk (.inl rfl)) i1 l1 p1 sl1
  have p2' : Pd Shun (w.heap.size + 11) (w.heap.size + 8) 1 t2 := p2
  obtain ⟨n3, gs3, g3, w3, sl3, t3, q3, r3, z3, i3, s3, l3, p3⟩ := lone_walk (W := w.heap.size + 8) _ _ gs2 _ (w1.at d2) sl2 t2 q2 (Nat.le_refl _) i2 l2 p2' (hG1 (w1.at d2) (hF1.atd d2)) (fun g w' ⟨_, h⟩ => (L_ena (W := 0) h hsh B0).1)
  obtain ⟨hF3, hU3⟩ := s3 w3 (atRel_refl w3)
  obtain ⟨hr3, g4, hst3, hG3⟩ := L_ena (W := w.heap.size + 8) hU3 hsh B0
  obtain ⟨n4, gs4, d4, sl4, t4, q4, r4, z4, i4, l4, p4⟩ := lone_say (w := w3) hr3 hst3 (evD_mk (.inr rfl)) i3 l3 p3 sl3
  have p4' : Pd Shun (w.heap.size + 11) (w.heap.size + 8) 0 t4 := p4
  obtain ⟨n5, gs5, g5, w5, sl5, t5, q5, r5, z5, i5, s5, l5, p5⟩ := lone_walk (W := w.heap.size + 8) _ _ gs4 _ (w3.at d4) sl4 t4 q4 (Nat.le_refl _) i4 l4 p4' (hG3 (w3.at d4) (hF3.atd d4)) (fun g w' ⟨_, h⟩ => (L_go h).1)
  obtain ⟨hF5, hU5⟩ := s5 w5 (atRel_refl w5)
  refine ⟨n1 + n2 + n3 + n4 + n5, gs5, g5, w5, sl5, t5, q5, k, ?_, by rw [z5, z4, z3, z2, z1], i5, l5, p5, hk, hF5, hU5⟩
  exact runs_then (runs_then (runs_then (runs_then r1 r2) r3) r4) r5

/-- ████ THROUGH. ████ -/
theorem through {b5 : Act} (hb5 : Tm b5 48 [(0, .int .i64 nn), (1, .slice la N cap)] []) (hn1 : 1 ≤ nn) (hn2 : nn ≤ 65536) (hN : N ≤ 17592186044416) (h0 : gs[0]? = some (G ((base 6).at b5 [.code c5]) cs)) (hL : Leavers Try.prog t gs q) (hP : Past Shun w.heap.size t) (hsh : ∀ ad : Addr, w.heap.size ≤ ad.block → ¬ Shun (.cell ad)) (hl : Lin Shun w la N lb lo z) (sl : Option (Nat × Nat)) :
    ∃ (n : Nat) (gs' : Array Goroutine) (a' : Goroutine) (w' : World) (sl' : Option (Nat × Nat)) (t' : Trace) (q' : Nat → Nat), runNT Try.prog n (crowd gs w sl) t = (.next (crowd gs' w' sl'), t') ∧ gs'[0]? = some a' ∧ Leavers Try.prog t' gs' q' ∧ Past (fun l => Shun l ∨ ∃ b, l = .cell b ∧ b.block = w.heap.size + 8) w'.heap.size t' ∧ Thr w N z cs a' w' := by
  obtain ⟨n1, gs1, g1, w1, sl1, t1, q1, k, r1, z1, i1, l1, p1, hk, hF, hU⟩ := to_fork (cap := cap) hb5 hn1 hn2 h0 hL hP hsh sl
  have hc : 0 < gs1.size := size_lt i1
  have H := hyp_start (z := z) hF hk hc hn1 hn2 hN hsh hl
  have hS2 : ∀ y : Addr, y.block = (layF gs1.size nn w k).M → ¬ Shun (.cell y) := fun y hy => hsh y (by rw [hy]; show w.heap.size ≤ w.heap.size + 1; omega)
  obtain ⟨hr1, a', b5', hb5', b8', hb8', hsp, ha'⟩ := L_go hU
  have hlow : (layF gs1.size nn w k).low ≤ w1.heap.size := by rw [hF.size]; exact Nat.le_refl _
  -- the two begin
  have p1' : Pd Shun w1.heap.size (layF gs1.size nn w k).W 0 t1 := by rw [hF.size]; exact p1
  obtain ⟨n2, gs2, d2, sl2, t2, q2, s, p, gg, nm, r2, z2, hRI⟩ := lone_fork (Shun := Shun) (D := datF nn N w z) (At := At (layF gs1.size nn w k) (datF nn N w z) w1 (envF w k lb lo cap la z) cs) (nA := 5000) (nB := 6001) H.good rfl hr1 hsp i1 l1 p1' hS2 sl1 (sh_start hF _) (fun d => by
      rw [ha']
      have hK := kw_start (x := true) (z := z) hF gs1.size d
      by_cases e : 0 = N
      · have e1 : aft (datF nn N w z).N true 0 = .w0 := by simp [aft, datF, ← e]
        rw [e1]
        exact A_entry0 H e hK hb5' hb8'
      · have hlt : 0 < (datF nn N w z).N := by show 0 < N; omega
        have e1 : aft (datF nn N w z).N true 0 = .ld := by unfold aft; rw [if_neg (by omega)]
        rw [e1]
        exact gm (A_entry1 H hlt hK hb5' hb8') fun g w ⟨h, oa, oc, h', h''⟩ => ⟨h, oa, oc, h', hlt, h''⟩) (fun d => by
      have hK := kw_start (x := false) (z := z) hF gs1.size d
      refine Gz.ctl tmd.toTms rfl (step_born (cap := [.pointer (some ⟨w.heap.size + 9, 0, none⟩), .pointer (some ⟨w.heap.size + 10, 0, none⟩)]) Try.func18 (by kernel_rfl) (show _ = some c15 by kernel_rfl)) ?_
      have hT15 : Tm ⟨[Value.pointer (some ⟨w.heap.size + 9, 0, none⟩), .pointer (some ⟨w.heap.size + 10, 0, none⟩)].toArray ++ Array.replicate 3 undef, []⟩ 5 [(0, .pointer (some ⟨w.heap.size + 9, 0, none⟩)), (1, .pointer (some ⟨w.heap.size + 10, 0, none⟩))] [] := Tm.enter _ 3
      by_cases e : 0 = N
      · have e1 : aft (datF nn N w z).N false 0 = .d0 := by simp [aft, datF, ← e]
        rw [e1]
        exact B_entry0 H e hK hT15
      · have hlt : 0 < (datF nn N w z).N := by show 0 < N; omega
        have e1 : aft (datF nn N w z).N false 0 = .ld := by unfold aft; rw [if_neg (by omega)]
        rw [e1]
        exact gm (B_entry1 H hlt hK hT15) fun g w h => ⟨h.1, hlt, h.2⟩)
  -- as far as the join
  obtain ⟨n3, gs3, a3, w3, sl3, t3, q3, s3, r3, z3, hD⟩ := RI.runs (spec H cs) H.good hS2 (w₀ := w1.at d2) hlow _ gs2 (w1.at d2) sl2 t2 q2 s p gg nm rfl hRI
  -- goroutine 0 goes home
  obtain ⟨m3, hG3⟩ := hD.goes
  have hP3 := Pd.of_past (W := w3.heap.size) hD.past (Nat.le_refl _) (Nat.le_refl _)
  obtain ⟨n4, gs4, a4, w4, sl4, t4, q4, r4, z4, i4, s4, l4, p4⟩ := lone_walk (B := w3.heap.size) (W := w3.heap.size) _ _ gs3 a3 w3 sl3 t3 q3 (Nat.le_refl _) hD.is hD.lv hP3 (goes_to (R' := AtRel) (D' := DL _ w3.heap.size w3.heap.size) (fun _ _ => rx_at) (fun w w' es hd e he => by rw [hd.quiet rfl] at he; simp at he) (goes_carry (S := Outs) (w₀ := w3) (fun a b c h h' => ⟨h'.1.trans h.1, h'.2.1.trans h.2.1, h'.2.2.1.trans h.2.2.1, Nat.le_trans h.2.2.2 h'.2.2.2⟩) (fun w w' r => ⟨(r.mine rfl).2.2.1, (r.mine rfl).2.2.2.1, (r.mine rfl).2.2.2.2, r.grow⟩) (fun w w' es hd => ⟨hd.os, hd.output, hd.tape, hd.size⟩) ⟨rfl, rfl, rfl, Nat.le_refl _⟩ hG3)) (fun g w h => at_run h.1)
  obtain ⟨⟨hK4, oa, oc, hO4, hOut⟩, hs4⟩ := s4 w4 (atRel_refl w4)
  obtain ⟨n5, gs5, a5, w5, sl5, t5, q5, r5, z5, i5, s5, l5, p5⟩ := lone_walk (B := w3.heap.size) (W := w3.heap.size) _ _ gs4 a4 w4 sl4 t4 q4 (Nat.le_refl _) i4 l4 p4 (L_fin (L := layF gs1.size nn w k) (D := datF nn N w z) (e := envF w k lb lo cap la z) hOut) (fun g w ⟨_, b5, td, _, e⟩ => by rw [e]; rfl)
  obtain ⟨hat, b5'', td, hb5'', ha5⟩ := s5 w5 (atRel_refl w5)
  obtain ⟨d5, rfl⟩ := hat
  refine ⟨n1 + n2 + n3 + n4 + n5, gs5, a5, w4.at d5, sl5, t5, q5, runs_then (runs_then (runs_then (runs_then r1 r2) r3) r4) r5, i5, l5, ?_, ?_⟩
  · have := p5.past
    exact this.mono hs4.2.2.2
  · refine ⟨hK4.size, fun b hb => ?_, ?_, ?_, ?_, oa, oc, b5'', td, hO4, hb5'', ha5⟩
    · show w4.heap[b]? = _
      rw [hK4.low b (by show b < w.heap.size + 11; omega) (by simp only [Lay.sp, layF]; omega)]
      exact hF.low b hb
    · show w4.os = _
      rw [hs4.1, hD.keep.os]; exact hF.os
    · show w4.output = _
      rw [hs4.2.1, hD.keep.output]; exact hF.output
    · show w4.tape = _
      rw [hs4.2.2.1, hD.keep.tape]; exact hF.tape
end
end Go.Proofs.Ytdmiilgdkmbmeaa.Rg
namespace Go.Proofs.Ytdmiilgdkmbmeaa.Rg
open Go Go.Conc
/-- The cells that are known and that one may look at. -/
def CL (Shun : Loc → Prop) (B : Nat) (w : World) : Kn := fun ad v => w.cell? ad = some v ∧ ad.block < B ∧ ¬ Shun (.cell ad)
section
variable {P : Program} {Shun : Loc → Prop} {B W : Nat} {w w₁ : World} {n : Nat} {g : Gm} {ds : List Deferred} {o : Oper}
theorem kenL (hat : AtRel w w₁) : Ken P AtRel (DL Shun B W) (CL Shun B w) w₁ := by
  refine ⟨fun ad v hc w₂ h₂ => ?_⟩
  obtain ⟨d, rfl⟩ := hat
  obtain ⟨d', rfl⟩ := h₂
  refine ⟨hc.1, fun es hes e he => ?_⟩
  rw [hes e he]
  exact evD_cell (fun _ => hc.2.2) hc.2.1
theorem op_one {X E : TypeId} {ti : TypeInfo} {z0 : Value} {v : Int} (hop : o.op = .buildSlice X 1 #[(0, .const (.int .i64 v))]) (hX : P.underlying X = some (.slice E)) (hi : P.info? E = some ti) (hi1 : ti.size = 1) (hi3 : ti.zero = some (.int .i64 0)) : ∀ a', Tm a' n g ds → ∀ w, (execOp a'.eval o).run P w = .ok (.value (.slice (some ⟨w.heap.size, 0, none⟩) 1 1)) (w.alloc (.cells #[.int .i64 v] E)) ∧ (execOp a'.eval o).events P w #[] = #[] := fun a' hT w => by
  have ec : a'.eval (.const (.int .i64 v)) = .int .i64 v := rfl
  have := run_buildSlice (P := P) w X E 1 #[(0, .int .i64 v)] #[.int .i64 v] ti (.int .i64 0) hX hi hi3 (by rw [hi1]; decide) (by rw [hi1]; decide) (by rw [hi1]; simp [Instr.fill, Value.cells, show Array.range 1 = #[0] by decide])
  exact ⟨by simp [execOp, hop, ec, this], by simp [execOp, hop, ec, Instr.buildSlice, run_underlying hX, run_size hi, hi1, run_zero hi hi3, ev_zero hi hi3, Instr.fill, newRow, Value.cells]⟩
theorem n_neq {a b : Int} (h : a = b) : (Value.bool (!decide (a = b))) = .bool false := by
  rw [decide_eq_true h]; rfl
end
end Go.Proofs.Ytdmiilgdkmbmeaa.Rg
namespace Go.Proofs.Ytdmiilgdkmbmeaa.Rg
open Go Go.Conc

theorem row_keep {w w' : World} {base : Nat} {E : TypeId} {sz : Nat} {v : Value} {k : Nat} {xs : List Value} (h : w.ownsRow base E sz v k xs) (hb : ∀ g, v.ownBlock = some g → w'.heap[g]? = w.heap[g]?) : w'.ownsRow base E sz v k xs := by
  refine ⟨h.1, h.2.imp id ?_⟩
  rintro ⟨g, cap, cur, rfl, h2, h3, h4⟩
  exact ⟨g, cap, cur, rfl, h2, (hb g rfl).trans h3, h4⟩
/-- Since w₀: these blocks are so; this row is its own; all else below 'base' is as it was. -/
structure Hp (w₀ : World) (lo base n : Nat) (K : List (Nat × Obj)) (E : TypeId) (sz : Nat) (v : Value) (k : Nat) (xs : List Value) (w : World) : Prop where
  lb : lo ≤ base
  bs : base ≤ w₀.heap.size
  ge : w₀.heap.size ≤ w.heap.size
  size : w.heap.size ≤ w₀.heap.size + n
  rest : ∀ b, b < base → (∀ p ∈ K, p.1 ≠ b) → w.heap[b]? = w₀.heap[b]?
  os : w.os = w₀.os
  output : w.output = w₀.output
  tape : w.tape = w₀.tape
  obj : ∀ p ∈ K, w.heap[p.1]? = some p.2
  los : ∀ p ∈ K, lo ≤ p.1
  nd : (K.map Prod.fst).Nodup
  row : w.ownsRow base E sz v k xs
  off : ∀ p ∈ K, some p.1 ≠ v.ownBlock
section
variable {w₀ w w' : World} {lo base n : Nat} {K : List (Nat × Obj)} {E : TypeId} {sz : Nat} {v : Value} {k : Nat} {xs : List Value}
theorem Hp.at (h : Hp w₀ lo base n K E sz v k xs w) (hr : AtRel w w') : Hp w₀ lo base n K E sz v k xs w' := by
  obtain ⟨d, rfl⟩ := hr
  exact ⟨h.lb, h.bs, h.ge, h.size, h.rest, h.os, h.output, h.tape, h.obj, h.los, h.nd, h.row, h.off⟩
theorem Hp.more {n' : Nat} (h : Hp w₀ lo base n K E sz v k xs w) (hn : n ≤ n') : Hp w₀ lo base n' K E sz v k xs w :=
  ⟨h.lb, h.bs, h.ge, Nat.le_trans h.size (by omega), h.rest, h.os, h.output, h.tape, h.obj, h.los, h.nd, h.row, h.off⟩
theorem Hp.lt (h : Hp w₀ lo base n K E sz v k xs w) {p : Nat × Obj} (hp : p ∈ K) : p.1 < w.heap.size := (Array.getElem?_eq_some_iff.1 (h.obj p hp)).1
theorem Hp.mem {j b : Nat} {o : Obj} (_ : Hp w₀ lo base n K E sz v k xs w) (hj : K[j]? = some (b, o)) : (b, o) ∈ K := List.mem_of_getElem? hj
theorem Hp.get (h : Hp w₀ lo base n K E sz v k xs w) {j b : Nat} {o : Obj} (hj : K[j]? = some (b, o)) : w.heap[b]? = some o := h.obj _ (h.mem hj)
theorem Hp.cell (h : Hp w₀ lo base n K E sz v k xs w) {j b off : Nat} {arr : Array Value} {ty : TypeId} {u : Value} (hj : K[j]? = some (b, .cells arr ty)) (ho : arr[off]? = some u) : w.cell? ⟨b, off, none⟩ = some u ∧ w.frozen? ⟨b, off, none⟩ = false := by
  have := h.get hj
  exact ⟨by simp [World.cell?, this, ho], by simp [World.frozen?, this]⟩
/-- A cell of a block that is known. -/
theorem Hp.cl {Shun : Loc → Prop} {B : Nat} (h : Hp w₀ lo base n K E sz v k xs w) (hs : ∀ ad : Addr, lo ≤ ad.block → ¬ Shun (.cell ad)) (hB : w₀.heap.size + n ≤ B) {j b off : Nat} {arr : Array Value} {ty : TypeId} {u : Value} (hj : K[j]? = some (b, .cells arr ty)) (ho : arr[off]? = some u) : CL Shun B w ⟨b, off, none⟩ u :=
  ⟨(h.cell hj ho).1, by have := h.lt (h.mem hj); have := h.size; show b < B; simp only at *; omega, hs _ (h.los _ (h.mem hj))⟩
/-- A cell that was there before. -/
theorem Hp.old {Shun : Loc → Prop} {B : Nat} (h : Hp w₀ lo base n K E sz v k xs w) {ad : Addr} {u : Value} (hc : CL Shun B w₀ ad u) (hb : ad.block < base) (hk : ∀ p ∈ K, p.1 ≠ ad.block) : CL Shun B w ad u :=
  ⟨by rw [cell_of_heap (h.rest _ hb hk)]; exact hc.1, hc.2⟩
theorem Hp.alloc (h : Hp w₀ lo base n K E sz v k xs w) (o : Obj) : Hp w₀ lo base (n + 1) ((w.heap.size, o) :: K) E sz v k xs (w.alloc o) := by
  have hz : (w.alloc o).heap.size = w.heap.size + 1 := by show (w.heap.push o).size = _; simp
  have hge := h.ge
  refine ⟨h.lb, h.bs, by omega, by have := h.size; omega, fun b hb hk => ?_, h.os, h.output, h.tape, fun p hp => ?_, fun p hp => ?_, ?_, row_keep h.row fun g hg => al_old w o (World.ownsRow.lt h.row g hg).2, fun p hp => ?_⟩
  · rw [al_old w o (by have := h.bs; omega)]
    exact h.rest b hb fun p hp => hk p (List.mem_cons_of_mem _ hp)
  · rcases List.mem_cons.1 hp with rfl | hp
    · exact al_new w o
    · rw [al_old w o (h.lt hp)]; exact h.obj p hp
  · rcases List.mem_cons.1 hp with rfl | hp
    · have := h.lb; have := h.bs
      show lo ≤ w.heap.size
      omega
    · exact h.los p hp
  · rw [List.map_cons, List.nodup_cons]
    refine ⟨fun hm => ?_, h.nd⟩
    obtain ⟨p, hp, e⟩ := List.mem_map.1 hm
    have := h.lt hp
    simp only at e
    omega
  · rcases List.mem_cons.1 hp with rfl | hp
    · intro e
      have := (World.ownsRow.lt h.row _ e.symm).2
      simp only at this
      omega
    · exact h.off p hp
theorem Hp.set (h : Hp w₀ lo base n K E sz v k xs w) {j b : Nat} {arr : Array Value} {ty : TypeId} (hj : K[j]? = some (b, .cells arr ty)) (off : Nat) (u : Value) : Hp w₀ lo base n (K.set j (b, .cells (arr.setIfInBounds off u) ty)) E sz v k xs (w.setCell ⟨b, off, none⟩ u) := by
  have hjl : j < K.length := (List.getElem?_eq_some_iff.1 hj).1
  have hfst : (K.map Prod.fst)[j]? = some b := by rw [List.getElem?_map, hj]; rfl
  have hkey : (K.set j (b, Obj.cells (arr.setIfInBounds off u) ty)).map Prod.fst = K.map Prod.fst := by
    rw [List.map_set]
    obtain ⟨hl, e⟩ := List.getElem?_eq_some_iff.1 hfst
    show (K.map Prod.fst).set j b = _
    rw [← e]
    exact List.set_getElem_self _
  have hmem : ∀ p ∈ K.set j (b, Obj.cells (arr.setIfInBounds off u) ty), p = (b, Obj.cells (arr.setIfInBounds off u) ty) ∨ (p ∈ K ∧ p.1 ≠ b) := by
    intro p hp
    obtain ⟨i, hi⟩ := List.mem_iff_getElem?.1 hp
    by_cases hne : j = i
    · subst hne
      rw [List.getElem?_set_self hjl] at hi
      exact .inl (Option.some.inj hi).symm
    · rw [List.getElem?_set_ne hne] at hi
      refine .inr ⟨List.mem_of_getElem? hi, fun e => hne ?_⟩
      have h1 : (K.map Prod.fst)[i]? = some b := by rw [List.getElem?_map, hi]; simp [e]
      exact (List.getElem?_inj (by rw [List.length_map]; exact hjl) h.nd).1 (hfst.trans h1.symm)
  have hb := h.mem hj
  refine ⟨h.lb, h.bs, by rw [set_size]; exact h.ge, by rw [set_size]; exact h.size, fun b' hb' hk => ?_, h.os, h.output, h.tape, fun p hp => ?_, fun p hp => ?_, by rw [hkey]; exact h.nd, row_keep h.row fun g hg => set_ne _ _ _ (fun e => ?_), fun p hp => ?_⟩
  · have hk' : ∀ p ∈ K, p.1 ≠ b' := fun p hp e => by
      have : b' ∈ (K.set j (b, Obj.cells (arr.setIfInBounds off u) ty)).map Prod.fst := by rw [hkey]; exact List.mem_map.2 ⟨p, hp, e⟩
      obtain ⟨p', hp', e'⟩ := List.mem_map.1 this
      exact hk p' hp' e'
    rw [set_ne _ _ _ (fun e => hk' _ hb (by simpa using e.symm))]
    exact h.rest b' hb' hk'
  · rcases hmem p hp with rfl | ⟨h1, h2⟩
    · exact set_eq u (h.get hj)
    · rw [set_ne _ _ _ h2]; exact h.obj p h1
  · rcases hmem p hp with rfl | ⟨h1, _⟩
    · have := h.los _ hb; exact this
    · exact h.los p h1
  · exact h.off _ hb (by rw [hg]; exact congrArg some e.symm)
  · rcases hmem p hp with rfl | ⟨h1, _⟩
    · have := h.off _ hb; exact this
    · exact h.off p h1
theorem Hp.drop {p : Nat × Obj} (h : Hp w₀ lo base n (p :: K) E sz v k xs w) (hb : base ≤ p.1) : Hp w₀ lo base n K E sz v k xs w :=
  ⟨h.lb, h.bs, h.ge, h.size, fun b hb' hk => h.rest b hb' fun q hq => by
    rcases List.mem_cons.1 hq with rfl | hq
    · omega
    · exact hk q hq, h.os, h.output, h.tape, fun q hq => h.obj q (List.mem_cons_of_mem _ hq), fun q hq => h.los q (List.mem_cons_of_mem _ hq), (List.nodup_cons.1 (by simpa using h.nd)).2, h.row, fun q hq => h.off q (List.mem_cons_of_mem _ hq)⟩
end

section
variable {P : Program} {Shun : Loc → Prop} {B W : Nat} {Stop : Goroutine → World → Prop} {b : Frame} {a : Act} {kk : List Item} {cs : List Frame} {w₀ w : World} {lo base N : Nat} {K : List (Nat × Obj)} {E : TypeId} {sz : Nat} {v : Value} {k : Nat} {xs : List Value} {m n d : Nat} {g : Gm} {ds : List Deferred} {ops : Array Oper} {i : Nat} {rest : List Nat} {o : Oper}
/-- Something is made. -/
theorem Gz.hmk (hk : b.kind ≠ .early) (hT : Tm a n g ds) (hH : Hp w₀ lo base N K E sz v k xs w) (ho : ops[i]? = some o) (hd : o.dst = some d) (hlt : Nat.blt d n = true) (hg : o.guard = none) (vf : Nat → Value) (ob : Obj)
    (hr : ∀ a', Tm a' n g ds → ∀ w, (execOp a'.eval o).run P w = .ok (.value (vf w.heap.size)) (w.alloc ob) ∧ (execOp a'.eval o).events P w #[] = #[])
    (h : ∀ a' w' nb, base ≤ nb → Tm a' n ((d, vf nb) :: g) ds → Hp w₀ lo base (N + 1) ((nb, ob) :: K) E sz v k xs w' → Goes P true AtRel (DL Shun B W) Stop m (G (b.at a' (.inRegion ops rest :: kk)) cs) w') :
    Goes P true AtRel (DL Shun B W) Stop (m + 1) (G (b.at a (.inRegion ops (i :: rest) :: kk)) cs) w := by
  refine Goes.step rfl fun w₁ h₁ => ?_
  have hH1 := hH.at h₁
  obtain ⟨h2, h3⟩ := hr a hT w₁
  have hl : Go.Conc.listed P b.fn a o w₁ = #[] := by unfold Go.Conc.listed; rw [h3]; exact seen_none P _
  rw [stepG_value ho (by simp [Region.wanted, hg]) hk h2, hl, hd]
  exact ⟨fun e he => by simp at he, h _ _ _ (by have := hH1.bs; have := hH1.ge; omega) (hT.put d (by simpa [Nat.blt_eq] using hlt) _) (hH1.alloc ob)⟩
/-- A plain store of one cell. -/
theorem Gz.hput {K' : List (Nat × Obj)} (hk : b.kind ≠ .early) (hT : Tm a n g ds) (hH : Hp w₀ lo base N K E sz v k xs w) (hs : ∀ ad : Addr, lo ≤ ad.block → ¬ Shun (.cell ad)) (hB : w₀.heap.size + N ≤ B) {X ty : TypeId} {y z : Operand} {ti : TypeInfo} {j bb off : Nat} {arr : Array Value} {u u0 : Value} (ho : ops[i]? = some o) (hd : o.dst = none) (hg : o.guard = none) (hop : o.op = .store X y z) (hz1 : P.info? X = some ti) (hz2 : ti.size = 1)
    (hvc : u.cells = #[u]) (hv1 : u.oneCell' = true) (hy : evv g y = some (.pointer (some ⟨bb, off, none⟩))) (hz : evv g z = some u) (hj : K[j]? = some (bb, .cells arr ty)) (hoff : arr[off]? = some u0) (hK : K.set j (bb, .cells (arr.setIfInBounds off u) ty) = K')
    (h : ∀ w', Hp w₀ lo base N K' E sz v k xs w' → Goes P true AtRel (DL Shun B W) Stop m (G (b.at a (.inRegion ops rest :: kk)) cs) w') :
    Goes P true AtRel (DL Shun B W) Stop (m + 1) (G (b.at a (.inRegion ops (i :: rest) :: kk)) cs) w := by
  subst hK
  refine Goes.step rfl fun w₁ h₁ => ?_
  have hH1 := hH.at h₁
  have ey := evv_ok hT hy
  have ez := evv_ok hT hz
  obtain ⟨hc, hf⟩ := hH1.cell hj hoff
  have hs1 : (storeVar X ⟨bb, off, none⟩ u).run P w₁ = .ok () (w₁.setCell ⟨bb, off, none⟩ u) := by
    unfold storeVar
    simp only [hvc]
    simp [run_size hz1, hz2, storeCells, go_sem, run_store P w₁ _ u .plain hv1, hc, hf]
  have hs2 : (storeVar X ⟨bb, off, none⟩ u).events P w₁ #[] = #[⟨.cell ⟨bb, off, none⟩, true, false⟩] := by
    unfold storeVar
    simp only [hvc]
    simp [run_size hz1, hz2, storeCells, go_sem, events_store P w₁ _ _ u .plain hv1, hc, hf]
  have hr : (execOp a.eval o).run P w₁ = .ok .skip (w₁.setCell ⟨bb, off, none⟩ u) := by simp [execOp, hop, ey, ez, Instr.storeAt, Instr.sureAddr, hs1]
  have he : (execOp a.eval o).events P w₁ #[] = #[⟨.cell ⟨bb, off, none⟩, true, false⟩] := by simp [execOp, hop, ey, ez, Instr.storeAt, Instr.sureAddr, hs2]
  rw [stepG_none ho (by simp [Region.wanted, hg]) hk hr, hd]
  refine ⟨fun e he' => ?_, h _ (hH1.set hj off u)⟩
  have hm' := mem_listed he'
  rw [he] at hm'
  rw [show e = _ from by simpa using hm']
  have hl := hH1.cl hs hB hj hoff
  exact evD_cell (fun _ => hl.2.2) hl.2.1
/-- An atomic store. -/
theorem Gz.hast {K' : List (Nat × Obj)} (hk : b.kind ≠ .early) (hT : Tm a n g ds) (hH : Hp w₀ lo base N K E sz v k xs w) (hs : ∀ ad : Addr, lo ≤ ad.block → ¬ Shun (.cell ad)) (hB : w₀.heap.size + N ≤ B) {f : FuncId} {fn : Func} {y z : Operand} {ats : Array TypeId} {kd : IntKind} {u : Int} {ty : TypeId} {j bb off : Nat} {arr : Array Value} {u0 : Value} (ho : ops[i]? = some o) (hd : o.dst = some d) (hlt : Nat.blt d n = true) (hg : o.guard = none) (hop : o.op = .call { callee := .value (.func f), args := #[y, z], argTypes := ats })
    (hf : P.funcs[f]? = some fn) (hname : (fn.name == "runtime.NumGoroutine") = false) (hb : fn.body.isNone = true) (hx : Extern.findNext fn = none) (he : Extern.find fn = some Extern.Atomic.storeT) (hy : evv g y = some (.pointer (some ⟨bb, off, none⟩))) (hz : evv g z = some (.int kd u)) (hj : K[j]? = some (bb, .cells arr ty)) (hoff : arr[off]? = some u0) (hK : K.set j (bb, .cells (arr.setIfInBounds off (.int kd u)) ty) = K')
    (h : ∀ a' w', Tm a' n ((d, .tuple #[]) :: g) ds → Hp w₀ lo base N K' E sz v k xs w' → Goes P true AtRel (DL Shun B W) Stop m (G (b.at a' (.inRegion ops rest :: kk)) cs) w') :
    Goes P true AtRel (DL Shun B W) Stop (m + 1) (G (b.at a (.inRegion ops (i :: rest) :: kk)) cs) w := by
  subst hK
  refine Goes.step rfl fun w₁ h₁ => ?_
  have hH1 := hH.at h₁
  obtain ⟨hc, hf2⟩ := hH1.cell hj hoff
  rw [stepG_store_atomic ho (by simp [Region.wanted, hg]) hk hop hf hname hb hx he (evv_ok hT hy) (evv_ok hT hz) hc hf2, hd]
  refine ⟨fun e he' => ?_, h _ _ (hT.put d (by simpa [Nat.blt_eq] using hlt) _) (hH1.set hj off _)⟩
  rw [show e = _ from by simpa using he']
  have hl := hH1.cl hs hB hj hoff
  exact evD_cell (fun _ => hl.2.2) hl.2.1
/-- A load of three cells that are known. -/
theorem Gz.load3 (hk : b.kind ≠ .early) (hT : Tm a n g ds) {X : TypeId} {y : Operand} {ti : TypeInfo} {bb off : Nat} {u0 u1 u2 : Value} (ho : ops[i]? = some o) (hd : o.dst = some d) (hlt : Nat.blt d n = true) (hg : o.guard = none) (hop : o.op = .load X y) (hagg : ∀ w, (isAgg X).run P w = .ok true w ∧ (isAgg X).events P w #[] = #[]) (hz1 : P.info? X = some ti) (hz2 : ti.size = 3)
    (hy : evv g y = some (.pointer (some ⟨bb, off, none⟩))) (h0 : CL Shun B w ⟨bb, off + 0, none⟩ u0) (h1 : CL Shun B w ⟨bb, off + 1, none⟩ u1) (h2 : CL Shun B w ⟨bb, off + 2, none⟩ u2)
    (h : ∀ a', Tm a' n ((d, .agg #[u0, u1, u2]) :: g) ds → Goes P true AtRel (DL Shun B W) Stop m (G (b.at a' (.inRegion ops rest :: kk)) cs) w) :
    Goes P true AtRel (DL Shun B W) Stop (m + 1) (G (b.at a (.inRegion ops (i :: rest) :: kk)) cs) w := by
  refine Gz.val tmdL.toTms ho (by simp [Region.wanted, hg]) hk (v := .agg #[u0, u1, u2]) (fun w₁ h₁ => ?_) (by rw [hd]; exact h _ (hT.put d (by simpa [Nat.blt_eq] using hlt) _))
  obtain ⟨dd, rfl⟩ := h₁
  have ey := evv_ok hT hy
  have c0 : (w.at dd).cell? ⟨bb, off, none⟩ = some u0 := h0.1
  have c1 : (w.at dd).cell? ⟨bb, off + 1, none⟩ = some u1 := h1.1
  have c2 : (w.at dd).cell? ⟨bb, off + 2, none⟩ = some u2 := h2.1
  have hr : (execOp a.eval o).run P (w.at dd) = .ok (.value (.agg #[u0, u1, u2])) (w.at dd) := by
    simp [execOp, hop, ey, Instr.loadAt, Instr.sureAddr, loadVar, (hagg (w.at dd)).1, run_size hz1, hz2, loadCells, loadCellsFrom, addr_add, Go.load, Sem.run, c0, c1, c2]
  refine ⟨hr, fun e he => ?_⟩
  have hm' := mem_listed he
  simp [execOp, hop, ey, Instr.loadAt, Instr.sureAddr, loadVar, (hagg (w.at dd)).1, (hagg (w.at dd)).2, run_size hz1, hz2, loadCells, loadCellsFrom, addr_add, c0, c1, c2] at hm'
  rcases hm' with rfl | rfl | rfl
  · exact evD_cell (fun _ => h0.2.2) h0.2.1
  · exact evD_cell (fun _ => h1.2.2) h1.2.1
  · exact evD_cell (fun _ => h2.2.2) h2.2.1

/-- A store of three cells. -/
theorem Gz.hput3 {K' : List (Nat × Obj)} (hk : b.kind ≠ .early) (hT : Tm a n g ds) (hH : Hp w₀ lo base N K E sz v k xs w) (hs : ∀ ad : Addr, lo ≤ ad.block → ¬ Shun (.cell ad)) (hB : w₀.heap.size + N ≤ B) {X ty : TypeId} {y z : Operand} {ti : TypeInfo} {j bb : Nat} {u0 u1 u2 z0 z1 z2 : Value} (ho : ops[i]? = some o) (hd : o.dst = none) (hg : o.guard = none) (hop : o.op = .store X y z) (hz1 : P.info? X = some ti) (hz2 : ti.size = 3)
    (v0 : u0.oneCell' = true) (v1 : u1.oneCell' = true) (v2 : u2.oneCell' = true) (hy : evv g y = some (.pointer (some ⟨bb, 0, none⟩))) (hz : evv g z = some (.agg #[u0, u1, u2])) (hj : K[j]? = some (bb, .cells #[z0, z1, z2] ty)) (hK : K.set j (bb, .cells #[u0, u1, u2] ty) = K')
    (h : ∀ w', Hp w₀ lo base N K' E sz v k xs w' → Goes P true AtRel (DL Shun B W) Stop m (G (b.at a (.inRegion ops rest :: kk)) cs) w') :
    Goes P true AtRel (DL Shun B W) Stop (m + 1) (G (b.at a (.inRegion ops (i :: rest) :: kk)) cs) w := by
  subst hK
  refine Goes.step rfl fun w₁ h₁ => ?_
  have hH1 := hH.at h₁
  have ey := evv_ok hT hy
  have ez := evv_ok hT hz
  have hjl : j < K.length := (List.getElem?_eq_some_iff.1 hj).1
  have hH2 : Hp w₀ lo base N (K.set j (bb, .cells #[u0, z1, z2] ty)) E sz v k xs (w₁.setCell ⟨bb, 0, none⟩ u0) := hH1.set hj 0 u0
  have hj2 : (K.set j (bb, Obj.cells #[u0, z1, z2] ty))[j]? = some (bb, .cells #[u0, z1, z2] ty) := by simp [hjl]
  have hH3 : Hp w₀ lo base N (K.set j (bb, .cells #[u0, u1, z2] ty)) E sz v k xs ((w₁.setCell ⟨bb, 0, none⟩ u0).setCell ⟨bb, 1, none⟩ u1) := by
    have := hH2.set hj2 1 u1
    rw [List.set_set] at this
    exact this
  have hj3 : (K.set j (bb, Obj.cells #[u0, u1, z2] ty))[j]? = some (bb, .cells #[u0, u1, z2] ty) := by simp [hjl]
  have hH4 : Hp w₀ lo base N (K.set j (bb, .cells #[u0, u1, u2] ty)) E sz v k xs (((w₁.setCell ⟨bb, 0, none⟩ u0).setCell ⟨bb, 1, none⟩ u1).setCell ⟨bb, 2, none⟩ u2) := by
    have := hH3.set hj3 2 u2
    rw [List.set_set] at this
    exact this
  obtain ⟨c0, f0⟩ := hH1.cell (off := 0) hj (u := z0) (by rfl)
  obtain ⟨c1, f1⟩ := hH2.cell (off := 1) hj2 (u := z1) (by rfl)
  obtain ⟨c2, f2⟩ := hH3.cell (off := 2) hj3 (u := z2) (by rfl)
  have hst : ∀ es, (storeCells ⟨bb, 0, none⟩ [u0, u1, u2] 0).run P w₁ = .ok () (((w₁.setCell ⟨bb, 0, none⟩ u0).setCell ⟨bb, 1, none⟩ u1).setCell ⟨bb, 2, none⟩ u2) ∧ (storeCells ⟨bb, 0, none⟩ [u0, u1, u2] 0).events P w₁ es = ((es.push ⟨.cell ⟨bb, 0, none⟩, true, false⟩).push ⟨.cell ⟨bb, 1, none⟩, true, false⟩).push ⟨.cell ⟨bb, 2, none⟩, true, false⟩ := fun es => by
    refine ⟨?_, ?_⟩
    · simp [storeCells, addr_add, go_sem, run_store P _ _ u0 .plain v0, run_store P _ _ u1 .plain v1, run_store P _ _ u2 .plain v2, c0, f0, c1, f1, c2, f2]
    · simp [storeCells, addr_add, go_sem, run_store P _ _ u0 .plain v0, run_store P _ _ u1 .plain v1, events_store P _ _ _ u0 .plain v0, events_store P _ _ _ u1 .plain v1, events_store P _ _ _ u2 .plain v2, c0, f0, c1, f1, c2, f2]
      rfl
  have hs1 : (storeVar X ⟨bb, 0, none⟩ (.agg #[u0, u1, u2])).run P w₁ = .ok () (((w₁.setCell ⟨bb, 0, none⟩ u0).setCell ⟨bb, 1, none⟩ u1).setCell ⟨bb, 2, none⟩ u2) := by
    unfold storeVar
    simp [run_size hz1, hz2, Value.cells, (hst #[]).1]
  have hs2 : (storeVar X ⟨bb, 0, none⟩ (.agg #[u0, u1, u2])).events P w₁ #[] = #[⟨.cell ⟨bb, 0, none⟩, true, false⟩, ⟨.cell ⟨bb, 1, none⟩, true, false⟩, ⟨.cell ⟨bb, 2, none⟩, true, false⟩] := by
    unfold storeVar
    simp [run_size hz1, hz2, Value.cells, (hst #[]).2]
  have hr : (execOp a.eval o).run P w₁ = .ok .skip (((w₁.setCell ⟨bb, 0, none⟩ u0).setCell ⟨bb, 1, none⟩ u1).setCell ⟨bb, 2, none⟩ u2) := by simp [execOp, hop, ey, ez, Instr.storeAt, Instr.sureAddr, hs1]
  have he : (execOp a.eval o).events P w₁ #[] = #[⟨.cell ⟨bb, 0, none⟩, true, false⟩, ⟨.cell ⟨bb, 1, none⟩, true, false⟩, ⟨.cell ⟨bb, 2, none⟩, true, false⟩] := by simp [execOp, hop, ey, ez, Instr.storeAt, Instr.sureAddr, hs2]
  rw [stepG_none ho (by simp [Region.wanted, hg]) hk hr, hd]
  refine ⟨fun e he' => ?_, h _ hH4⟩
  have hm' := mem_listed he'
  rw [he] at hm'
  have hl0 := hH1.cl hs hB (off := 0) hj (u := z0) (by rfl)
  have hl1 := hH1.cl hs hB (off := 1) hj (u := z1) (by rfl)
  have hl2 := hH1.cl hs hB (off := 2) hj (u := z2) (by rfl)
  have hm3 : e = ⟨.cell ⟨bb, 0, none⟩, true, false⟩ ∨ e = ⟨.cell ⟨bb, 1, none⟩, true, false⟩ ∨ e = ⟨.cell ⟨bb, 2, none⟩, true, false⟩ := by simpa using hm'
  rcases hm3 with rfl | rfl | rfl
  · exact evD_cell (fun _ => hl0.2.2) hl0.2.1
  · exact evD_cell (fun _ => hl1.2.2) hl1.2.1
  · exact evD_cell (fun _ => hl2.2.2) hl2.2.1
/-- A counter that is known. -/
theorem lookL {ad : Addr} {u : Value} (hc : CL Shun B w ad u) : ∀ w₁, AtRel w w₁ → w₁.cell? ad = some u ∧ DL Shun B W w₁ w₁ #[⟨.cell ad, false, true⟩] := fun w₁ h₁ => by
  obtain ⟨d, rfl⟩ := h₁
  refine ⟨hc.1, fun e he => ?_⟩
  rw [show e = _ from by simpa using he]
  exact evD_cell (fun _ => hc.2.2) hc.2.1
theorem row_form' {v : Value} {n : Nat} {w : World} (h : w.ownsRow base E sz v n xs) : ∃ oa oc, v = .slice oa n oc := by
  rcases h.2 with ⟨rfl, rfl⟩ | ⟨g, cap, _, rfl, _⟩
  · exact ⟨none, 0, rfl⟩
  · exact ⟨_, _, rfl⟩
theorem append_size {X ty : TypeId} {i : TypeInfo} {z : Value} {oa : Option Addr} {oc : Nat} {v' : Value} {w' : World} (ht : P.underlying X = some (.slice E)) (hi : P.info? E = some i) (hz : i.zero = some z) (hsize : i.size = sz) (hown : w.ownsRow base E sz (.slice oa k oc) k xs) (a : Addr) (c : Nat) (news : List Value) (hl : news.length = sz) (hnews : ∀ j u, news[j]? = some u → w.cell? (a.add j) = some u) (h1 : ∀ u ∈ news, u.oneCell' = true) (hbytes : (k + 1) * i.bytes ≤ 140737488355328) (h63 : k + 1 ≤ maxLen)
    (hr : (Builtin.append_ #[X, X] ty #[.slice oa k oc, .slice (some a) 1 c]).run P w = .ok v' w') : w'.heap.size ≤ w.heap.size + 1 ∧ ∀ b, b < w.heap.size → some b = v'.ownBlock → some b = (Value.slice oa k oc).ownBlock := by
  subst hsize
  have hsmall : k + 1 ≤ 9223372036854775807 := by simp only [maxLen] at h63; omega
  rcases hown.2 with ⟨hv, rfl⟩ | ⟨g, cap, cur, hv, hbg, hg, hnc, hcm, hcs, htake⟩
  · simp only [Value.slice.injEq] at hv
    obtain ⟨rfl, _, rfl⟩ := hv
    rw [run_append_nil (P := P) w X ty E i z ht hi hz a 1 c news (by omega) hnews (by omega) (by omega) (by omega)] at hr
    cases hr
    exact ⟨by show (w.heap.push _).size ≤ _; simp, fun b hb e => by simp only [Value.ownBlock, Option.some.injEq] at e; omega⟩
  · simp only [Value.slice.injEq] at hv
    obtain ⟨rfl, _, rfl⟩ := hv
    by_cases hroom : k + 1 ≤ oc
    · have hfit : k * i.size + news.length ≤ cur.size := by rw [hl, hcs, ← Nat.succ_mul]; exact Nat.mul_le_mul_right _ hroom
      rw [run_append_room (P := P) w X ty E i ht hi g k oc cur hg a 1 c news (by omega) hnews h1 hroom hfit] at hr
      cases hr
      exact ⟨by simp, fun b hb e => e⟩
    · have holds : ∀ j u, xs[j]? = some u → w.cell? ((⟨g, 0, none⟩ : Addr).add j) = some u := hown.cells (g := g) rfl
      rw [run_append_grow (P := P) w X ty E i z ht hi hz ⟨g, 0, none⟩ k oc xs hown.1 holds a 1 c news (by omega) hnews (by omega) (by omega) (growslice_fits (by omega) hbytes)] at hr
      cases hr
      exact ⟨by show (w.heap.push _).size ≤ _; simp, fun b hb e => by simp only [Value.ownBlock, Option.some.injEq] at e; omega⟩
theorem Hp.grown {w' : World} {oa : Option Addr} {oc : Nat} {v' : Value} {k' : Nat} {xs' : List Value} (h : Hp w₀ lo base N K E sz (.slice oa k oc) k xs w) (hg : w.grownBy w' (Value.slice oa k oc).ownBlock) (hr : w'.ownsRow base E sz v' k' xs') (hsz : w'.heap.size ≤ w.heap.size + 1) (hoff : ∀ b, b < w.heap.size → some b ≠ (Value.slice oa k oc).ownBlock → some b ≠ v'.ownBlock) : Hp w₀ lo base (N + 1) K E sz v' k' xs' w' :=
  ⟨h.lb, h.bs, Nat.le_trans h.ge hg.size, by have := h.size; omega, fun b hb hk => (hg.block b (by have := h.bs; have := h.ge; omega) fun e => by
    have := (World.ownsRow.lt h.row b e.symm).1
    omega).trans (h.rest b hb hk), hg.os.trans h.os, hg.output.trans h.output, hg.tape.trans h.tape, fun p hp => (hg.block _ (h.lt hp) (h.off p hp)).trans (h.obj p hp), h.los, h.nd, hr, fun p hp => hoff _ (h.lt hp) (h.off p hp)⟩
/-- 'append(out, x)'. -/
theorem Gz.hpush (hk : b.kind ≠ .early) (hT : Tm a n g ds) {oa : Option Addr} {oc : Nat} (hH : Hp w₀ lo base N K E sz (.slice oa k oc) k xs w) (hs : ∀ ad : Addr, lo ≤ ad.block → ¬ Shun (.cell ad)) (hB : w₀.heap.size + N + 2 ≤ B)
    {X : TypeId} {ti : TypeInfo} {zv u : Value} {vs : List Value} {i1 i2 d1 d2 : Nat} {o1 o2 : Oper} {y y1 y2 : Operand} (hX : P.underlying X = some (.slice E)) (hi : P.info? E = some ti) (hi1 : ti.size = sz) (hi3 : ti.zero = some zv) (hzs : zv.cells.size = sz) (hsz : 0 < sz) (hsz2 : sz ≤ 4) (hN : (k + 1) * ti.bytes ≤ 140737488355328) (hmx : k + 1 ≤ maxLen)
    (hvl : vs.length = sz) (hv1 : ∀ u ∈ vs, u.oneCell' = true) (hfill : Instr.fill (fun i => some (i * sz, sz)) ((Array.range (1 * sz)).map (zv.cells[· % zv.cells.size]!)) [(0, u)] = some vs.toArray)
    (ho1 : ops[i1]? = some o1) (hd1 : o1.dst = some d1) (hlt1 : Nat.blt d1 n = true) (hg1 : o1.guard = none) (hop1 : o1.op = .buildSlice X 1 #[(0, y)]) (hy : evv g y = some u)
    (ho2 : ops[i2]? = some o2) (hd2 : o2.dst = some d2) (hlt2 : Nat.blt d2 n = true) (hg2 : o2.guard = none) (hop2 : o2.op = .call { callee := .builtin .append, args := #[y1, y2], argTypes := #[X, X] }) (hy1 : evv g y1 = some (.slice oa k oc)) (hy2 : y2 = .tmp d1) (hne : ∀ t, y1 = .tmp t → t ≠ d1)
    (hgd1 : ∀ v, lkv d1 g = some v → False)
    (h : ∀ a' w' oa' oc', Tm a' n ((d2, .slice oa' (k + 1) oc') :: g) ds → Hp w₀ lo base (N + 2) K E sz (.slice oa' (k + 1) oc') (k + 1) (xs ++ vs) w' → Goes P true AtRel (DL Shun B W) Stop m (G (b.at a' (.inRegion ops rest :: kk)) cs) w') :
    Goes P true AtRel (DL Shun B W) Stop (m + 2) (G (b.at a (.inRegion ops (i1 :: i2 :: rest) :: kk)) cs) w := by
  refine Goes.step rfl fun w₁ h₁ => ?_
  have hH1 := hH.at h₁
  have ey := evv_ok hT hy
  have hne0 : sz ≠ 0 := by omega
  have hr1 : (execOp a.eval o1).run P w₁ = .ok (.value (.slice (some ⟨w₁.heap.size, 0, none⟩) 1 1)) (w₁.alloc (.cells vs.toArray E)) := by
    have := run_buildSlice (P := P) w₁ X E 1 #[(0, u)] vs.toArray ti zv hX hi hi3 (by rw [hi1]; omega) (by rw [hi1]; omega) (by rw [hi1]; exact hfill)
    simp [execOp, hop1, ey, this]
  have he1 : (execOp a.eval o1).events P w₁ #[] = #[] := by
    have hsm : ¬ 2 ^ 24 < sz := by omega
    have hf2 := hfill
    rw [Nat.one_mul] at hf2
    simp [execOp, hop1, ey, Instr.buildSlice, run_underlying hX, run_size hi, hi1, run_zero hi hi3, ev_zero hi hi3, hne0, hsm, hf2, newRow]
  have hl1 : Go.Conc.listed P b.fn a o1 w₁ = #[] := by unfold Go.Conc.listed; rw [he1]; exact seen_none P _
  rw [stepG_value ho1 (by simp [Region.wanted, hg1]) hk hr1, hl1, hd1]
  refine ⟨fun e he => by simp at he, ?_⟩
  refine Goes.step rfl fun w₂ h₂ => ?_
  have hH2 := (hH1.alloc (.cells vs.toArray E)).at h₂
  have hT2 := hT.put d1 (by simpa [Nat.blt_eq] using hlt1) (.slice (some ⟨w₁.heap.size, 0, none⟩) 1 1)
  have hnew : w₂.heap[w₁.heap.size]? = some (.cells vs.toArray E) := hH2.get (j := 0) rfl
  have ex : (a.put (some d1) (.slice (some ⟨w₁.heap.size, 0, none⟩) 1 1)).eval y2 = .slice (some ⟨w₁.heap.size, 0, none⟩) 1 1 := by
    subst hy2
    exact hT2.val d1 _ (by simp [lkv])
  have es : (a.put (some d1) (.slice (some ⟨w₁.heap.size, 0, none⟩) 1 1)).eval y1 = .slice oa k oc := by
    refine evv_ok hT2 ?_
    cases y1 with
    | tmp t =>
      have : t ≠ d1 := hne t rfl
      simp only [evv, lkv] at hy1 ⊢
      rw [if_neg (by simpa using this)]
      exact hy1
    | const v => exact hy1
    | global q => exact hy1
    | func q => exact hy1
  have hnews : ∀ j u, vs[j]? = some u → w₂.cell? ((⟨w₁.heap.size, 0, none⟩ : Addr).add j) = some u := by
    intro j u hj
    rw [addr_add, Nat.zero_add]
    simp [World.cell?, hnew, hj]
  obtain ⟨v', w', hrun, hown, hgr, _⟩ := run_append_own (P := P) (w := w₂) base X o2.type E ti zv sz ti.bytes hX hi hi3 hi1 rfl hzs hsz _ k xs hH2.row ⟨w₁.heap.size, 0, none⟩ 1 1 vs (by omega) hnews hv1 hmx hN (by have := hH2.bs; have := hH2.ge; omega)
  obtain ⟨oa', oc', rfl⟩ := row_form' hown
  obtain ⟨hsz', hoff'⟩ := append_size (P := P) hX hi hi3 hi1 hH2.row ⟨w₁.heap.size, 0, none⟩ 1 vs hvl hnews hv1 hN hmx hrun
  have hev := events_append_where (P := P) w₂ base X o2.type E ti zv sz ti.bytes hX hi hi3 hi1 rfl _ k xs hH2.row ⟨w₁.heap.size, 0, none⟩ 1 1 vs (by omega) hnews hv1 hmx hN
  have he2 : (execOp (a.put (some d1) (.slice (some ⟨w₁.heap.size, 0, none⟩) 1 1)).eval o2).events P w₂ #[] = _ := events_append_op y1 y2 X hop2 es ex #[]
  have hr2 : (execOp (a.put (some d1) (.slice (some ⟨w₁.heap.size, 0, none⟩) 1 1)).eval o2).run P w₂ = .ok (.value (.slice oa' (k + 1) oc')) w' := by
    unfold execOp
    simp only [hop2, resolve, invoke, builtin, Sem.run_bind, Sem.run_pure, Result.andThen_ok, List.map_toArray, List.map_cons, List.map_nil, es, ex, hrun]
  rw [stepG_value ho2 (by simp [Region.wanted, hg2]) hk hr2, hd2]
  have hbase : base ≤ w₁.heap.size := by have := hH1.bs; have := hH1.ge; omega
  have hw2 : w₂.heap.size ≤ w₀.heap.size + (N + 1) := hH2.size
  refine ⟨fun e he => ?_, ?_⟩
  · have hm := mem_listed he
    rw [he2] at hm
    rcases hev e hm with ⟨ad, h1, h2⟩ | ⟨mk, h1, h2⟩
    · have hb : lo ≤ ad.block ∧ ad.block < B := by
        have := hH.lb
        rcases h2 with ⟨_, h3⟩ | h3
        · rw [h3]
          have := (Array.getElem?_eq_some_iff.1 hnew).1
          refine ⟨by show lo ≤ w₁.heap.size; omega, by show w₁.heap.size < B; omega⟩
        · have h4 := World.ownsRow.lt hH2.row ad.block h3.symm
          exact ⟨by omega, by omega⟩
      obtain ⟨loc, wr, sy⟩ := e
      simp only at h1
      subst h1
      exact evD_cell (fun _ => hs _ hb.1) hb.2
    · subst h1
      have h3 : mk = .noRoom := h2
      subst h3
      exact ⟨⟨fun x hx => by simp [MemAct.ofEvent, MemAct.touch?] at hx, trivial, by simp⟩, by simp, by simp⟩
  · have hd1' := hT2.put d2 (by simpa [Nat.blt_eq] using hlt2) (.slice oa' (k + 1) oc')
    have hH3 : Hp w₀ lo base (N + 1 + 1) ((w₁.heap.size, .cells vs.toArray E) :: K) E sz (.slice oa' (k + 1) oc') (k + 1) (xs ++ vs) w' := hH2.grown hgr hown hsz' fun b' hb' hne' e => ?_
    · refine h _ w' oa' oc' (hd1'.less fun i v hv => ?_) (hH3.drop hbase)
      simp only [lkv] at hv ⊢
      split
      · rename_i c; rw [if_pos c] at hv; exact hv
      · rename_i c
        rw [if_neg c] at hv
        rw [if_neg (fun e => by rw [Nat.eq_of_beq_eq_true e] at hv; exact hgd1 v hv)]
        exact hv
    · exact hne' (hoff' b' hb' e)
end
end Go.Proofs.Ytdmiilgdkmbmeaa.Rg
namespace Go.Proofs.Ytdmiilgdkmbmeaa.Rg
open Go Go.Conc

theorem ctT {l : List Nat} {j : Nat} : l.contains j = true ↔ j ∈ l := by simp
theorem ctF {l : List Nat} {j : Nat} : l.contains j = false ↔ j ∉ l := by simp
section
variable {P : Program} {x : Bool} {R : World → World → Prop} {D : World → World → Array Event → Prop} {Stop : Goroutine → World → Prop} {b : Frame} {a a' : Act} {k : List Item} {cs : List Frame} {w : World} {C : Kn} {l : List Oper} {n : Nat} {H : List (Nat × Hint)} {ds : List Deferred} {g : Gm} {vals : List Value} {bf : List (List Nat)} {rds : List (List Nat)} {qs : List Prop} {i : Nat} {u : Value}
theorem Gz.more2 {sp0 sp1 dn : List Nat} (ups : List (Nat × Value)) (m : Nat) {n' : Nat} (T : Tmd R D) (K : Ken P R D C w) (hk : b.kind ≠ .early) (hb : befB l bf = true) (hn : dstsN l = true) (hn2 : dstsB l.toArray n = true) {vals' : List Value} (hd : dra P C l bf (i :: (sp1 ++ dn)) H vals' g rds l 0 = some (vals', qs)) (hq : ∀ q ∈ qs, q)
    (hdst : hasD l (i :: (sp1 ++ dn)) = true) {fuel t : Nat} {listed : Array Bool} (hM : Mid l n g vals ds i listed a) (hun : ∀ j, sp0.contains j = true → listed.getD j false = false) (hlf : left (fun j => (listed.setIfInBounds i true).getD j false) l.length ≤ fuel) (hdn : ∀ j, dn.contains j = true → listed.getD j false = true)
    {o : Oper} (ho : l[i]? = some o) (ha : a' = a.put o.dst u) (hput : ∀ d, o.dst = some d → vals'.getD i undef = u) (he : vals' = upsL vals ups) (hc : ups.all (fun p => sp0.contains p.1) = true) (hsub : sp1.all (fun j => sp0.contains j && j != i) = true) (hle : Nat.ble (m + l.length) n' = true)
    (hS : ∀ (i' : Nat) (fuel t : Nat) (listed : Array Bool) (a : Act), sp1.contains i' = true → left (fun j => (listed.setIfInBounds i' true).getD j false) l.length ≤ fuel → Mid l n g vals' ds i' listed a → (∀ j, sp1.contains j = true → listed.getD j false = false) → (∀ j, (i :: dn).contains j = true → listed.getD j false = true) →
      Goes P x R D Stop (m + left (fun j => (listed.setIfInBounds i' true).getD j false) l.length + 1) (G (b.at a (.inRegion l.toArray (i' :: Region.linearise.go .any l.toArray fuel t (listed.setIfInBounds i' true) []) :: k)) cs) w)
    (hE : ∀ (listed : Array Bool) (a : Act), (∀ i, i < l.length → listed.getD i false = true) → Jd l n g vals' ds listed a → (∀ j, sp1.contains j = true → listed.getD j false = false) → Goes P x R D Stop m (G (b.at a (.inRegion l.toArray [] :: k)) cs) w) :
    Goes P x R D Stop n' (G (b.at a' (.inRegion l.toArray (Region.linearise.go .any l.toArray fuel t (listed.setIfInBounds i true) []) :: k)) cs) w := by
  subst ha
  have hlft := left_le (fun j => (listed.setIfInBounds i true).getD j false) l.length
  have hle' := Nat.le_of_ble_eq_true hle
  have hsame : ∀ (j : Nat), listed.getD j false = true → vals'.getD j undef = vals.getD j undef := fun j hj => by
    rw [he]
    refine upsL_same ?_ hc
    cases h : sp0.contains j
    · rfl
    · rw [hun j h] at hj; cases hj
  have hs1 : ∀ j, sp1.contains j = true → sp0.contains j = true ∧ j ≠ i := fun j hj => by
    have := List.all_eq_true.1 hsub j (by simpa using hj)
    simpa [Bool.and_eq_true] using this
  have hJ1 : Jd l n g vals' ds listed a := hM.jd.tell fun j o d _ _ h3 => hsame j h3
  have hil : i < l.length := (List.getElem?_eq_some_iff.1 ho).1
  have hJ2 : Jd l n g vals' ds (listed.setIfInBounds i true) (a.put o.dst u) := by
    cases hdo : o.dst with
    | none =>
      refine ⟨hJ1.size, hJ1.dfr, hJ1.old, fun j oj d hj hdj hl => ?_⟩
      have hij : i ≠ j := fun e => by
        subst e
        rw [ho] at hj
        rw [← Option.some.inj hj, hdo] at hdj
        cases hdj
      rw [getD_set_ne _ hij] at hl
      exact hJ1.new j oj d hj hdj hl
    | some d =>
      have := hJ1.put hn ho hdo (dsts_ok hn2 i d (by simp [ho, hdo])) hM.size
      rw [hput d hdo] at this
      exact this
  refine Goes.mono (Gz.any T.toTms K hk hb hn hn2 hd hq (hasD_ok hdst) (fun listed => (∀ j, (i :: dn).contains j = true → listed.getD j false = true) ∧ ∀ j, sp1.contains j = true → listed.getD j false = false) (fun listed j hj h => ⟨fun j' hj' => ?_, fun j' hj' => ?_⟩) (fun i' fuel t listed' a h1 h2 h3 h4 h5 h6 h7 => ?_) (fun listed a h1 h2 h3 => hE listed a h1 h2 h3.2) fuel t (listed.setIfInBounds i true) (a.put o.dst u) (by simpa using hM.size) hlf (closed_put hM.closed hM.rdy) hJ2 ⟨fun j hj => ?_, fun j hj => ?_⟩) (by omega)
  · have hne : j ≠ j' := fun e => by
      subst e
      rcases List.mem_cons.1 (ctT.1 hj') with e | e
      · exact ctF.1 hj (e ▸ List.mem_cons_self)
      · exact ctF.1 hj (List.mem_cons_of_mem _ (List.mem_append_right _ e))
    rw [getD_set_ne _ hne]; exact h.1 j' hj'
  · have hne : j ≠ j' := fun e => by
      subst e
      exact ctF.1 hj (List.mem_cons_of_mem _ (List.mem_append_left _ (ctT.1 hj')))
    rw [getD_set_ne _ hne]; exact h.2 j' hj'
  · by_cases e : (i :: dn).contains i' = true
    · obtain ⟨h8, o', ho', _⟩ := mem_ready.1 h2
      have h9 := h7.1 i' e
      have hlt : i' < listed'.size := by
        rw [h3]
        have : l[i']? = some o' := by simpa using ho'
        exact (List.getElem?_eq_some_iff.1 this).1
      rw [Array.getD_eq_getD_getElem?, Array.getElem?_eq_getElem hlt] at h8 h9
      rw [Option.getD_some] at h8 h9
      rw [h8] at h9
      cases h9
    · refine hS i' fuel t listed' a ?_ h4 ⟨h2, h3, h5, h6⟩ h7.2 h7.1
      rcases List.mem_cons.1 (ctT.1 h1) with e' | e'
      · exact absurd (ctT.2 (e' ▸ List.mem_cons_self)) e
      · rcases List.mem_append.1 e' with e' | e'
        · exact ctT.2 e'
        · exact absurd (ctT.2 (List.mem_cons_of_mem _ e')) e
  · by_cases e : j = i
    · subst e
      rw [Array.getD_eq_getD_getElem?, Array.getElem?_setIfInBounds_self_of_lt (by rw [hM.size]; exact hil)]; rfl
    · rw [getD_set_ne _ (Ne.symm e)]
      exact hdn j (ctT.2 ((List.mem_cons.1 (ctT.1 hj)).resolve_left e))
  · obtain ⟨h1, h2⟩ := hs1 j hj
    rw [getD_set_ne _ (Ne.symm h2)]; exact hun j h1
end
end Go.Proofs.Ytdmiilgdkmbmeaa.Rg
namespace Go.Proofs.Ytdmiilgdkmbmeaa.Rg
open Go Go.Conc

theorem n_geq {x : Int} (h : 0 ≤ x) : (Value.bool (decide (0 ≤ x))) = .bool true := by rw [decide_eq_true h]
theorem n_ngeq {x : Int} (h : ¬ 0 ≤ x) : (Value.bool (decide (0 ≤ x))) = .bool false := by rw [decide_eq_false h]
theorem n_neg {x : Int} (h : ¬ 0 ≤ x) : (Value.bool (decide (x < 0))) = .bool true := by rw [decide_eq_true (by omega)]
theorem n_nneg {x : Int} (h : 0 ≤ x) : (Value.bool (decide (x < 0))) = .bool false := by rw [decide_eq_false (by omega)]
theorem n_nle {p k : Nat} (h : k < p) : (Value.bool (decide ((p : Int) ≤ (k : Int)))) = .bool false := by rw [decide_eq_false (by omega)]
theorem n_zero {n : Nat} (h : n = 0) : (Value.bool (decide ((0 : Int) < (n : Int)))) = .bool false := by rw [decide_eq_false (by omega)]
theorem n_subN {p k : Nat} (h : k ≤ p) (hp : p < 4611686018427387904) : (some (Value.int .i64 (IntKind.i64.wrap ((p : Int) - (k : Int))))) = some (.int .i64 ((p - k : Nat) : Int)) := by
  rw [n_wrap (by omega) (by omega), Int.ofNat_sub h]
theorem n_subE {p k q : Nat} (h : p = q + k) (hp : p < 4611686018427387904) : (some (Value.int .i64 (IntKind.i64.wrap ((p : Int) - (k : Int))))) = some (.int .i64 (q : Int)) := by
  rw [n_wrap (by omega) (by omega), show (p : Int) - (k : Int) = (q : Int) by omega]
theorem fill1 (u z : Value) (hu : u.cells = #[u]) (hz : z.cells = #[z]) : Instr.fill (fun i => some (i * 1, 1)) ((Array.range (1 * 1)).map (z.cells[· % z.cells.size]!)) [(0, u)] = some [u].toArray := by
  simp [Instr.fill, hu, hz, show Array.range 1 = #[0] by decide]
theorem fill3 (a b c x y z : Value) : Instr.fill (fun i => some (i * 3, 3)) ((Array.range (1 * 3)).map ((Value.agg #[x, y, z]).cells[· % (Value.agg #[x, y, z]).cells.size]!)) [(0, .agg #[a, b, c])] = some [a, b, c].toArray := by
  simp [Instr.fill, Value.cells, show Array.range 3 = #[0, 1, 2] by decide]
section
variable {P : Program} {a : Act} {n : Nat} {g : Gm} {ds : List Deferred} {o : Oper}
theorem agg_struct {X : TypeId} {fs : Array Field} (hu : P.underlying X = some (.struct fs)) (w : World) : (isAgg X).run P w = .ok true w ∧ (isAgg X).events P w #[] = #[] := by
  exact ⟨by simp [isAgg, run_underlying hu], by simp [isAgg, run_underlying hu]⟩
theorem op_idx3 {X E : TypeId} {ti : TypeInfo} {y z : Operand} {b len c i : Nat} (hop : o.op = .indexAddr X y z) (hu : P.underlying X = some (.slice E)) (hi : P.info? E = some ti) (h3 : ti.size = 3) (hy : evv g y = some (.slice (some ⟨b, 0, none⟩) len c)) (hz : evv g z = some (.int .i64 i)) (hlt : i < len) : ∀ a', Tm a' n g ds → ∀ w, (execOp a'.eval o).run P w = .ok (.value (.pointer (some ⟨b, i * 3, none⟩))) w ∧ (execOp a'.eval o).events P w #[] = #[] := fun a' hT w => by
  have e1 := evv_ok hT hy
  have e2 := evv_ok hT hz
  have h1 : (0 : Int) ≤ (i : Int) ∧ (i : Int) < ((len : Nat) : Int) := ⟨by omega, by omega⟩
  exact of_yi (s := Instr.indexAt X (a'.eval y) (a'.eval z)) (by simp [execOp, hop]) (fun w es => by
    rw [e1, e2]
    exact ⟨by simp [Instr.indexAt, asIntOf, run_underlying hu, run_size hi, h3, addr_add, hlt], by simp [Instr.indexAt, asIntOf, run_underlying hu, run_size hi, h3, addr_add, hlt]⟩) w
end
/-- A cell of the own row. -/
theorem Hp.rowcl {w₀ w : World} {lo base n : Nat} {K : List (Nat × Obj)} {E : TypeId} {sz : Nat} {ob k oc : Nat} {xs : List Value} {Shun : Loc → Prop} {B : Nat} (h : Hp w₀ lo base n K E sz (.slice (some ⟨ob, 0, none⟩) k oc) k xs w) (hs : ∀ ad : Addr, lo ≤ ad.block → ¬ Shun (.cell ad)) (hB : w₀.heap.size + n ≤ B) {j : Nat} {u : Value} (hj : xs[j]? = some u) : CL Shun B w ⟨ob, j, none⟩ u := by
  have hl := World.ownsRow.lt h.row ob rfl
  refine ⟨?_, by have := h.size; show ob < B; omega, hs _ (by have := h.lb; show lo ≤ ob; omega)⟩
  have := h.row.cells (g := ob) rfl j u hj
  rwa [addr_add, Nat.zero_add] at this
theorem Hp.rowhead {w₀ w : World} {lo base n : Nat} {K : List (Nat × Obj)} {E : TypeId} {sz : Nat} {oa : Option Addr} {k oc : Nat} {xs : List Value} (h : Hp w₀ lo base n K E sz (.slice oa k oc) k xs w) (hk : 0 < k) : ∃ ob, oa = some ⟨ob, 0, none⟩ ∧ base ≤ ob ∧ ob < w.heap.size := by
  rcases h.row.2 with ⟨_, rfl⟩ | ⟨g, cap, cur, hv, h2, h3, _⟩
  · omega
  · simp only [Value.slice.injEq] at hv
    exact ⟨g, hv.1, h2, (Array.getElem?_eq_some_iff.1 h3).1⟩
end Go.Proofs.Ytdmiilgdkmbmeaa.Rg
namespace Go.Proofs.Ytdmiilgdkmbmeaa.Rg
open Go Go.Conc
section
variable {w₀ w : World} {Shun : Loc → Prop} {B W : Nat} {lo bse N cap nn p k i len oc lb lz Rb Sb tb gb gc pc : Nat} {arr : Array Value} {oa la ga pa : Option Addr} {x y : Int} {ok : Bool} {xs : List Value} {K₀ : List (Nat × Obj)} {g : Goroutine}
noncomputable def c60 : Code := (Try.f10).body.getD .skip
def EndL (g : Goroutine) : Prop := ∃ (b203 : Act) (todo : List Item), Tm b203 118 [(4, .bool true)] [] ∧ g = G { (base 3).at b203 todo with mode := .returning } []
def M1 (w₀ : World) (n : Int) (N cap : Nat) (la : Option Addr) (g : Goroutine) : Prop :=
  ∃ (b203 b4 b5 : Act), Tm b203 118 [(0, .int .i64 n), (1, .slice la N cap)] [] ∧ Tm b4 21 [] [] ∧ Tm b5 48 [(0, .int .i64 1), (1, .slice (some ⟨w₀.heap.size + 0, 0, none⟩) 1 1)] [] ∧ g = G ((base 6).at b5 [.code c5]) (((base 4).at b4 [.inRegion c4.pd.pa.po.toArray [1, 2, 3, 4, 5, 6], .code c4.pd.pd]) :: ((base 3).at b203 [.inRegion c203.pd.pa.pa.po.toArray [0, 1], .code c203.pd.pa.pd, .code c203.pd.pd]) :: [])
def M2 (n : Int) (N cap : Nat) (la : Option Addr) (g : Goroutine) : Prop :=
  ∃ (b203 b205 : Act), Tm b203 118 [(0, .int .i64 n), (1, .slice la N cap)] [] ∧ Tm b205 48 [(0, .int .i64 n), (1, .slice la N cap)] [] ∧ g = G ((base 5).at b205 [.code c205]) (((base 3).at b203 [.inRegion c203.pd.pd.pa.po.toArray [2, 3, 4, 5, 6, 7], .code c203.pd.pd.pd]) :: [])
def QHead (nn N cap : Nat) (la : Option Addr) (Rb : Nat) (oa : Option Addr) (oc i : Nat) (g : Goroutine) : Prop :=
  ∃ (b203 b205 : Act), Tm b203 118 [(0, .int .i64 nn), (1, .slice la N cap)] [] ∧ Tm b205 48 [(6, .pointer (some ⟨Rb, 0, none⟩)), (8, .slice oa i oc), (20, .slice la N cap), (21, .int .i64 N), (22, .int .i64 i)] [] ∧ g = G ((base 5).at b205 [.code c205.pd.pd.pd.pd.pa.pd.pa.pa, .inLoop c205.pd.pd.pd.pd.pa.pd.pa.pa, .inBlock 0, .code c205.pd.pd.pd.pd.pd]) (((base 3).at b203 [.inRegion c203.pd.pd.pa.po.toArray [2, 3, 4, 5, 6, 7], .code c203.pd.pd.pd]) :: [])
def QT (nn N cap : Nat) (la : Option Addr) (Rb : Nat) (tb : Nat) (oa : Option Addr) (oc i : Nat) (g : Goroutine) : Prop :=
  ∃ (b203 b205 : Act), Tm b203 118 [(0, .int .i64 nn), (1, .slice la N cap)] [] ∧ Tm b205 48 [(6, .pointer (some ⟨Rb, 0, none⟩)), (8, .slice oa i oc), (11, .pointer (some ⟨tb, 0, none⟩)), (20, .slice la N cap), (21, .int .i64 N), (22, .int .i64 i)] [] ∧ g = G ((base 5).at b205 [.inRegion c205.pd.pd.pd.pd.pa.pd.pa.pa.pd.pd.pa.pa.pd.pd.pd.pa.po.toArray [0, 1, 2, 3], .code c205.pd.pd.pd.pd.pa.pd.pa.pa.pd.pd.pa.pa.pd.pd.pd.pd, .inBlock 1, .code c205.pd.pd.pd.pd.pa.pd.pa.pa.pd.pd.pd, .inLoop c205.pd.pd.pd.pd.pa.pd.pa.pa, .inBlock 0, .code c205.pd.pd.pd.pd.pd]) (((base 3).at b203 [.inRegion c203.pd.pd.pa.po.toArray [2, 3, 4, 5, 6, 7], .code c203.pd.pd.pd]) :: [])
def QL (nn N cap : Nat) (la : Option Addr) (Rb : Nat) (tb : Nat) (oa : Option Addr) (oc i len : Nat) (g : Goroutine) : Prop :=
  ∃ (b203 b205 b60 : Act), Tm b203 118 [(0, .int .i64 nn), (1, .slice la N cap)] [] ∧ Tm b205 48 [(6, .pointer (some ⟨Rb, 0, none⟩)), (8, .slice oa i oc), (11, .pointer (some ⟨tb, 0, none⟩)), (20, .slice la N cap), (21, .int .i64 N), (22, .int .i64 i)] [] ∧ Tm b60 12 [(2, .int .i64 len)] [] ∧ g = G ((base 10).at b60 [.code c60.pd.pd]) (((base 5).at b205 [.inRegion c205.pd.pd.pd.pd.pa.pd.pa.pa.pd.pd.pa.pa.pd.pd.pd.pa.po.toArray [1, 2, 3], .code c205.pd.pd.pd.pd.pa.pd.pa.pa.pd.pd.pa.pa.pd.pd.pd.pd, .inBlock 1, .code c205.pd.pd.pd.pd.pa.pd.pa.pa.pd.pd.pd, .inLoop c205.pd.pd.pd.pd.pa.pd.pa.pa, .inBlock 0, .code c205.pd.pd.pd.pd.pd]) :: ((base 3).at b203 [.inRegion c203.pd.pd.pa.po.toArray [2, 3, 4, 5, 6, 7], .code c203.pd.pd.pd]) :: [])
def LHead (nn N cap : Nat) (la : Option Addr) (ga : Option Addr) (gc : Nat) (pa : Option Addr) (pc p k i : Nat) (g : Goroutine) : Prop :=
  ∃ (b203 : Act), Tm b203 118 [(0, .int .i64 nn), (5, .slice ga N gc), (7, .slice pa p pc), (8, .int .i64 k), (33, .slice la N cap), (34, .int .i64 N), (35, .int .i64 i)] [] ∧ g = G ((base 3).at b203 [.code c203.pd.pd.pd.pd.pd.pd.pd.pa.pd.pa.pa, .inLoop c203.pd.pd.pd.pd.pd.pd.pd.pa.pd.pa.pa, .inBlock 0, .code c203.pd.pd.pd.pd.pd.pd.pd.pd]) ([])
theorem CLk {ob : Nat} {n : Nat} {K : List (Nat × Obj)} {E : TypeId} {sz q : Nat} (h : Hp w₀ lo bse n K E sz (.slice (some ⟨ob, 0, none⟩) q oc) q xs w) (hs : ∀ ad : Addr, lo ≤ ad.block → ¬ Shun (.cell ad)) (hB : w₀.heap.size + n ≤ B) (hj : xs[k]? = some (.int .i64 y)) : CL Shun B w ⟨ob, k + 0, none⟩ (.int .i64 y) := h.rowcl hs hB hj

end
end Go.Proofs.Ytdmiilgdkmbmeaa.Rg
namespace Go.Proofs.Ytdmiilgdkmbmeaa.Rg
open Go Go.Conc
section
variable {w₀ w : World} {Shun : Loc → Prop} {B W : Nat} {lo bse N cap nn p k i len oc lb lz Rb Sb tb gb gc pc : Nat} {arr : Array Value} {oa la ga pa : Option Addr} {x y : Int} {ok : Bool} {xs : List Value} {K₀ : List (Nat × Obj)} {g : Goroutine}
theorem M_one {n : Int} {b203 : Act} (hb203 : Tm b203 118 [(0, .int .i64 n), (1, .slice la N cap)] []) (hF : Fk w₀ 0 [] w) :
    Goes Try.prog true AtRel (DL Shun B W) (fun g w => Fk w₀ 1 [(0, .cells #[.int .i64 7] 3)] w ∧ M1 w₀ n N cap la g) 4000 (G ((base 3).at b203 [.code c203]) ([])) w := by
  have TD : Tmd AtRel (DL Shun B W) := tmdL
  have T := TD.toTms
  have K : ∀ w, Ken Try.prog AtRel (DL Shun B W) (fun _ _ => False) w := fun _ => ⟨fun _ _ hc => hc.elim⟩
  refine Gz.seqE T (by kernel_rfl : c203 = .seq c203.pa c203.pd) ?_
  refine Gz.regionE (id := 0) (l := c203.pa.po) (r := [0]) T (by kernel_rfl) (by kernel_rfl) ?_
  refine Gz.row T (K _) (by decide) hb203 [] [0] [] [0, 1] (g' := [(0, .int .i64 n), (1, .slice la N cap)]) (qs := []) (by kernel_rfl) (by kernel_rfl) (by simp) (fun a1 hT1 => ?_)
  refine Gz.rend T ?_
  refine Gz.seqE T (by kernel_rfl : c203.pd = .seq c203.pd.pa c203.pd.pd) ?_
  refine Gz.seqE T (by kernel_rfl : c203.pd.pa = .seq c203.pd.pa.pa c203.pd.pa.pd) ?_
  refine Gz.regionE (id := 1) (l := c203.pd.pa.pa.po) (r := [0, 1]) T (by kernel_rfl) (by kernel_rfl) ?_
  refine Mz.enter (o := opq c203.pd.pa.pa 0) (q := .func 4) (f := 4) (cc := c4) (cap := []) (args := #[]) (ats := #[]) (mvG T) hT1 [] 21 (by kernel_rfl) (by kernel_rfl) (by decide) (by kernel_rfl) (by kernel_rfl) Try.func4 (by kernel_rfl) (by kernel_rfl) (by kernel_rfl) (by kernel_rfl) (by kernel_rfl) (fun a2 hT2 => ?_)
  refine Gz.seqE T (by kernel_rfl : c4 = .seq c4.pa c4.pd) ?_
  refine Gz.regionE (id := 0) (l := c4.pa.po) (r := [0]) T (by kernel_rfl) (by kernel_rfl) ?_
  refine Gz.row T (K _) (by decide) hT2 [] [0] [] [] (g' := []) (qs := []) (by kernel_rfl) (by kernel_rfl) (by simp) (fun a3 hT3 => ?_)
  refine Gz.rend T ?_
  refine Gz.seqE T (by kernel_rfl : c4.pd = .seq c4.pd.pa c4.pd.pd) ?_
  refine Gz.regionE (id := 1) (l := c4.pd.pa.po) (r := [0, 1, 2, 3, 4, 5, 6]) T (by kernel_rfl) (by kernel_rfl) ?_
  refine Gz.mk1 (w₀ := w₀) (N := 0) (o := opq c4.pd.pa 0) (d := 4) (by decide) hT3 hF (by kernel_rfl) (by kernel_rfl) (by decide) (by kernel_rfl) (v := fun b => .slice (some ⟨b, 0, none⟩) 1 1) (ob := .cells #[.int .i64 7] 3) (op_one (X := 22) (E := 3) (ti := (Try.prog.info? 3).getD default) (z0 := .int .i64 0) (by kernel_rfl) (by kernel_rfl) (by kernel_rfl) (by kernel_rfl) (by kernel_rfl)) (fun a4 w hT hF => ?_)
  have hT4 : Tm a4 21 ((4, .slice (some ⟨w₀.heap.size + 0, 0, none⟩) 1 1) :: []) [] := hT
  clear hT
  refine Mz.enter (o := opq c4.pd.pa 1) (q := .func 6) (f := 6) (cc := c5) (cap := []) (args := #[.const (.int .i64 1), .tmp 4]) (ats := #[3, 22]) (mvG T) hT4 [.int .i64 1, .slice (some ⟨w₀.heap.size + 0, 0, none⟩) 1 1] 48 (by kernel_rfl) (by kernel_rfl) (by decide) (by kernel_rfl) (by kernel_rfl) Try.func6 (by kernel_rfl) (by kernel_rfl) (by kernel_rfl) (by kernel_rfl) (by kernel_rfl) (fun a5 hT5 => ?_)
  have h203M1 := hT1.live [0, 1] (g' := [(0, .int .i64 n), (1, .slice la N cap)]) (by kernel_rfl)
  have h4M1 := hT4.live [] (g' := []) (by kernel_rfl)
  have h5M1 := hT5.live [0, 1] (g' := [(0, .int .i64 1), (1, .slice (some ⟨w₀.heap.size + 0, 0, none⟩) 1 1)]) (by kernel_rfl)
  exact Goes.stop fun w₂ h₂ => ⟨hF.at h₂, a1, a4, a5, h203M1, h4M1, h5M1, rfl⟩
theorem M_two {n : Int} {ob : Nat} {b203 : Act} (hb203 : Tm b203 118 [(0, .int .i64 n), (1, .slice la N cap)] []) {b4 : Act} (hb4 : Tm b4 21 [] []) {b5 : Act} (hb5 : Tm b5 48 [(4, .slice (some ⟨ob, 0, none⟩) 1 oc), (5, .int .i64 0)] []) {todo : List Item} (hc : CL Shun B w ⟨ob, 0, none⟩ (.int .i64 7)) :
    Goes Try.prog true AtRel (DL Shun B W) (fun g w₂ => AtRel w w₂ ∧ M2 n N cap la g) 4000 (G { (base 6).at b5 todo with mode := .returning } (((base 4).at b4 [.inRegion c4.pd.pa.po.toArray [1, 2, 3, 4, 5, 6], .code c4.pd.pd]) :: ((base 3).at b203 [.inRegion c203.pd.pa.pa.po.toArray [0, 1], .code c203.pd.pa.pd, .code c203.pd.pd]) :: [])) w := by
  have TD : Tmd AtRel (DL Shun B W) := tmdL
  have T := TD.toTms
  have K : Ken Try.prog AtRel (DL Shun B W) (CL Shun B w) w := kenL (atRel_refl w)
  refine Gz.back2 (t := 4) (t' := 5) (v := .slice (some ⟨ob, 0, none⟩) 1 oc) (u := .int .i64 0) (d := 5) T hb5 hb4 rfl Try.func6 (by kernel_rfl) (by kernel_rfl) (by kernel_rfl) (by kernel_rfl) (by decide) (fun a1 hT1 => ?_)
  refine Gz.row T K (by decide) hT1 [] [2, 3, 4, 5, 6] [] [2, 1] (g' := [(2, .int .i64 0), (1, .slice (some ⟨ob, 0, none⟩) 1 oc)]) (qs := []) (by kernel_rfl) (by kernel_rfl) (by simp) (fun a2 hT2 => ?_)
  refine Gz.rend T ?_
  refine Gz.seqE T (by kernel_rfl : c4.pd.pd = .seq c4.pd.pd.pa c4.pd.pd.pd) ?_
  refine Gz.regionE (id := 2) (l := c4.pd.pd.pa.po) (r := [0, 1, 2, 3, 4, 5, 6, 7, 8, 9, 10, 11, 12, 13]) T (by kernel_rfl) (by kernel_rfl) ?_
  refine Gz.row T K (by decide) hT2 [] [0, 1, 2, 3, 4, 5, 6, 7, 8, 9] [10, 11, 12, 13] [17, 15] (g' := [(17, .pointer (some ⟨ob, 0, none⟩)), (15, .bool true)]) (qs := []) (by kernel_rfl) (by kernel_rfl) (by simp) (fun a3 hT3 => ?_)
  refine Gz.load (o := opq c4.pd.pd.pa 10) (d := 18) (X := 3) (y := .tmp 17) (ad := ⟨ob, 0, none⟩) T K (by decide) hT3 (v := .int .i64 7) (by kernel_rfl) (by kernel_rfl) (by decide) (by kernel_rfl) (by kernel_rfl) (by kernel_rfl) (by kernel_rfl) (by kernel_rfl) hc (fun a4 hT4 => ?_)
  refine Gz.row T K (by decide) hT4 [] [11, 12, 13] [] [0] (g' := [(0, .bool true)]) (qs := []) (by kernel_rfl) (by kernel_rfl) (by simp) (fun a5 hT5 => ?_)
  refine Gz.rend T ?_
  refine Gz.retE T (by kernel_rfl) ?_
  refine Gz.back1 (t := 0) (v := .bool true) (d := 12) T hT5 hb203 rfl Try.func4 (by kernel_rfl) (by kernel_rfl) (by kernel_rfl) (by decide) (fun a6 hT6 => ?_)
  refine Gz.row T K (by decide) hT6 [] [1] [] [13, 0, 1] (g' := [(13, .bool false), (0, .int .i64 n), (1, .slice la N cap)]) (qs := []) (by kernel_rfl) (by kernel_rfl) (by simp) (fun a7 hT7 => ?_)
  refine Gz.rend T ?_
  refine Gz.condFE (q := .tmp 13) (y := c203.pd.pa.pd.pa) (z := c203.pd.pa.pd.pd) T (by kernel_rfl) hT7 (by kernel_rfl) ?_
  refine Gz.skipE T (by kernel_rfl) ?_
  refine Gz.seqE T (by kernel_rfl : c203.pd.pd = .seq c203.pd.pd.pa c203.pd.pd.pd) ?_
  refine Gz.regionE (id := 3) (l := c203.pd.pd.pa.po) (r := [0, 1, 2, 3, 4, 5, 6, 7]) T (by kernel_rfl) (by kernel_rfl) ?_
  refine Gz.row T K (by decide) hT7 [] [0, 1] [2, 3, 4, 5, 6, 7] [16, 15, 0, 1] (g' := [(16, .slice la N cap), (15, .int .i64 n), (0, .int .i64 n), (1, .slice la N cap)]) (qs := []) (by kernel_rfl) (by kernel_rfl) (by simp) (fun a8 hT8 => ?_)
  refine Mz.enter (o := opq c203.pd.pd.pa 2) (q := .func 5) (f := 5) (cc := c205) (cap := []) (args := #[.tmp 15, .tmp 16]) (ats := #[3, 22]) (mvG T) hT8 [.int .i64 n, .slice la N cap] 48 (by kernel_rfl) (by kernel_rfl) (by decide) (by kernel_rfl) (by kernel_rfl) Try.func5 (by kernel_rfl) (by kernel_rfl) (by kernel_rfl) (by kernel_rfl) (by kernel_rfl) (fun a9 hT9 => ?_)
  have h203M2 := hT8.live [0, 1] (g' := [(0, .int .i64 n), (1, .slice la N cap)]) (by kernel_rfl)
  have h205M2 := hT9.live [0, 1] (g' := [(0, .int .i64 n), (1, .slice la N cap)]) (by kernel_rfl)
  exact Goes.stop fun w₂ h₂ => ⟨h₂, a8, a9, h203M2, h205M2, rfl⟩

end
end Go.Proofs.Ytdmiilgdkmbmeaa.Rg
namespace Go.Proofs.Ytdmiilgdkmbmeaa.Rg
open Go

/-- What went in; how many have come out. -/
structure Qs where
  v : List Int
  k : Nat
/-- What is told of one number. -/
structure Qr where
  n : Int
  ok : Bool
  len : Nat
def qgo (n : Nat) (s : Qs) (x : Int) : Qs :=
  if 0 ≤ x then (if s.v.length = s.k + n then s else ⟨s.v ++ [x], s.k⟩) else (if s.k = s.v.length then s else ⟨s.v, s.k + 1⟩)
def qtell (n : Nat) (s : Qs) (x : Int) : Qr :=
  if 0 ≤ x then (if s.v.length = s.k + n then ⟨0, false, s.v.length - s.k⟩ else ⟨0, true, s.v.length + 1 - s.k⟩) else (if s.k = s.v.length then ⟨0, false, 0⟩ else ⟨s.v.getD s.k 0, true, s.v.length - (s.k + 1)⟩)
def qat (n : Nat) (z : Nat → Int) : Nat → Qs
  | 0 => ⟨[], 0⟩
  | i + 1 => qgo n (qat n z i) (z i)
def qrec (n : Nat) (z : Nat → Int) (i : Nat) : Qr := qtell n (qat n z i) (z i)
structure Qs.Ok (n i : Nat) (s : Qs) : Prop where
  le : s.k ≤ s.v.length
  room : s.v.length ≤ s.k + n
  len : s.v.length ≤ i
theorem qgo_ok {n i : Nat} {s : Qs} (h : s.Ok n i) (x : Int) : (qgo n s x).Ok n (i + 1) := by
  obtain ⟨h1, h2, h3⟩ := h
  unfold qgo
  split
  · split
    · exact ⟨h1, h2, by omega⟩
    · exact ⟨by simp; omega, by simp; omega, by simp; omega⟩
  · split
    · exact ⟨h1, h2, by omega⟩
    · exact ⟨by show s.k + 1 ≤ s.v.length; omega, by show s.v.length ≤ s.k + 1 + n; omega, by show s.v.length ≤ i + 1; omega⟩
theorem qat_ok (n : Nat) (z : Nat → Int) : ∀ i, (qat n z i).Ok n i
  | 0 => ⟨Nat.le_refl _, Nat.zero_le _, Nat.le_refl _⟩
  | i + 1 => qgo_ok (qat_ok n z i) _
/-- The cells that tell of the numbers. -/
def cellsOf (r : Qr) : List Value := [.int .i64 r.n, .bool r.ok, .int .i64 r.len]
def recs (n : Nat) (z : Nat → Int) : Nat → List Value
  | 0 => []
  | i + 1 => recs n z i ++ cellsOf (qrec n z i)
theorem recs_len (n : Nat) (z : Nat → Int) : ∀ i, (recs n z i).length = i * 3
  | 0 => rfl
  | i + 1 => by rw [recs, List.length_append, recs_len n z i]; simp [cellsOf]; omega
theorem recs_get (n : Nat) (z : Nat → Int) {j t : Nat} (ht : t < 3) : ∀ {i : Nat}, j < i → (recs n z i)[j * 3 + t]? = (cellsOf (qrec n z j))[t]?
  | 0, h => by omega
  | i + 1, h => by
    rw [recs]
    by_cases e : j = i
    · subst e
      rw [List.getElem?_append_right (by rw [recs_len]; omega), recs_len]
      congr 1
      omega
    · rw [List.getElem?_append_left (by rw [recs_len]; omega)]
      exact recs_get n z ht (by omega)
/-- What lies in the room. -/
def Held (nn : Nat) (arr : Array Value) (s : Qs) : Prop := ∀ j, s.k ≤ j → j < s.v.length → arr[j % nn]? = some (.int .i64 (s.v.getD j 0))
theorem mod_apart {j p n : Nat} (h1 : j < p) (h2 : p < j + n) : j % n ≠ p % n := fun e => by
  have h3 : (p - j) % n = 0 := Nat.sub_mod_eq_zero_of_mod_eq e.symm
  rw [Nat.mod_eq_of_lt (by omega)] at h3
  omega
theorem held_put {nn : Nat} {arr : Array Value} {s : Qs} (h : Held nn arr s) (hz : arr.size = nn) (hn : 0 < nn) (hf : s.v.length < s.k + nn) (x : Int) : Held nn (arr.setIfInBounds (s.v.length % nn) (.int .i64 x)) ⟨s.v ++ [x], s.k⟩ := by
  intro j h1 h2
  simp only [List.length_append, List.length_singleton] at h1 h2
  by_cases e : j = s.v.length
  · subst e
    rw [Array.getElem?_setIfInBounds_self_of_lt (by rw [hz]; exact Nat.mod_lt _ hn)]
    simp
  · rw [Array.getElem?_setIfInBounds_ne (Ne.symm (mod_apart (by omega) (by omega)))]
    rw [h j h1 (by omega)]
    show some (Value.int .i64 (s.v.getD j 0)) = some (Value.int .i64 ((s.v ++ [x]).getD j 0))
    rw [List.getD_eq_getElem?_getD, List.getD_eq_getElem?_getD, List.getElem?_append_left (by omega)]
theorem held_get {nn : Nat} {arr : Array Value} {s : Qs} (h : Held nn arr s) : Held nn arr ⟨s.v, s.k + 1⟩ := fun j h1 h2 => h j (by simp only at h1; omega) h2
theorem held_nil (nn : Nat) (arr : Array Value) : Held nn arr ⟨[], 0⟩ := fun j _ h2 => by simp at h2
def ints (v : List Int) : List Value := v.map (.int .i64)
theorem ints_get {v : List Int} {k : Nat} (h : k < v.length) : (ints v)[k]? = some (.int .i64 (v.getD k 0)) := by
  simp [ints, List.getD_eq_getElem?_getD, List.getElem?_eq_getElem h]
theorem ints_put (v : List Int) (x : Int) : ints (v ++ [x]) = ints v ++ [.int .i64 x] := by simp [ints]
end Go.Proofs.Ytdmiilgdkmbmeaa.Rg
namespace Go.Proofs.Ytdmiilgdkmbmeaa.Rg
open Go Go.Conc
section
variable {w₀ w : World} {Shun : Loc → Prop} {B W : Nat} {lo bse N cap nn p k i len oc lb lz Rb Sb tb gb gc pc : Nat} {arr : Array Value} {oa la ga pa : Option Addr} {x y : Int} {ok : Bool} {xs : List Value} {K₀ : List (Nat × Obj)} {g : Goroutine}
theorem Q_new {b203 : Act} (hb203 : Tm b203 118 [(0, .int .i64 nn), (1, .slice la N cap)] []) {b205 : Act} (hb205 : Tm b205 48 [(0, .int .i64 nn), (1, .slice la N cap)] []) (hn1 : 1 ≤ nn) (hn2 : nn ≤ 65536) (hF : Fk w₀ 0 [] w) :
    Goes Try.prog true AtRel (DL Shun B W) (fun g w => Fk w₀ 2 [(1, .cells #[.slice (some ⟨w₀.heap.size + 0, 0, none⟩) nn nn, .int .i64 0, .int .i64 0] 56), (0, .cells (madeCells #[.int .i64 0] nn) 3)] w ∧ QHead nn N cap la (w₀.heap.size + 1) none 0 0 g) 4000 (G ((base 5).at b205 [.code c205]) (((base 3).at b203 [.inRegion c203.pd.pd.pa.po.toArray [2, 3, 4, 5, 6, 7], .code c203.pd.pd.pd]) :: [])) w := by
  have TD : Tmd AtRel (DL Shun B W) := tmdL
  have T := TD.toTms
  have K : ∀ w, Ken Try.prog AtRel (DL Shun B W) (fun _ _ => False) w := fun _ => ⟨fun _ _ hc => hc.elim⟩
  refine Gz.seqE T (by kernel_rfl : c205 = .seq c205.pa c205.pd) ?_
  refine Gz.regionE (id := 0) (l := c205.pa.po) (r := [0, 1]) T (by kernel_rfl) (by kernel_rfl) ?_
  refine Gz.row T (K _) (by decide) hb205 [] [0, 1] [] [0, 1] (g' := [(0, .int .i64 nn), (1, .slice la N cap)]) (qs := []) (by kernel_rfl) (by kernel_rfl) (by simp) (fun a1 hT1 => ?_)
  refine Gz.rend T ?_
  refine Gz.seqE T (by kernel_rfl : c205.pd = .seq c205.pd.pa c205.pd.pd) ?_
  refine Gz.regionE (id := 1) (l := c205.pd.pa.po) (r := [0, 1, 2, 3, 4, 5, 6]) T (by kernel_rfl) (by kernel_rfl) ?_
  refine Gz.row T (K _) (by decide) hT1 [] [0] [1, 2, 3, 4, 5, 6] [13, 1] (g' := [(13, .int .i64 nn), (1, .slice la N cap)]) (qs := []) (by kernel_rfl) (by kernel_rfl) (by simp) (fun a2 hT2 => ?_)
  refine Mz.enter (o := opq c205.pd.pa 1) (q := .func 7) (f := 7) (cc := c7) (cap := []) (args := #[.tmp 13]) (ats := #[3]) (mvG T) hT2 [.int .i64 nn] 14 (by kernel_rfl) (by kernel_rfl) (by decide) (by kernel_rfl) (by kernel_rfl) Try.func7 (by kernel_rfl) (by kernel_rfl) (by kernel_rfl) (by kernel_rfl) (by kernel_rfl) (fun a3 hT3 => ?_)
  refine Gz.seqE T (by kernel_rfl : c7 = .seq c7.pa c7.pd) ?_
  refine Gz.regionE (id := 0) (l := c7.pa.po) (r := [0, 1]) T (by kernel_rfl) (by kernel_rfl) ?_
  refine Gz.row T (K _) (by decide) hT3 [] [0, 1] [] [0] (g' := [(0, .int .i64 nn)]) (qs := []) (by kernel_rfl) (by kernel_rfl) (by simp) (fun a4 hT4 => ?_)
  refine Gz.rend T ?_
  refine Gz.seqE T (by kernel_rfl : c7.pd = .seq c7.pd.pa c7.pd.pd) ?_
  refine Gz.seqE T (by kernel_rfl : c7.pd.pa = .seq c7.pd.pa.pa c7.pd.pa.pd) ?_
  refine Gz.regionE (id := 1) (l := c7.pd.pa.pa.po) (r := [0, 1, 2, 3, 4, 5]) T (by kernel_rfl) (by kernel_rfl) ?_
  refine Gz.row T (K _) (by decide) hT4 [] [0] [1, 2, 3, 4, 5] [4, 0] (g' := [(4, .int .i64 nn), (0, .int .i64 nn)]) (qs := []) (by kernel_rfl) (by kernel_rfl) (by simp) (fun a5 hT5 => ?_)
  refine Gz.hint (o := opq c7.pd.pa.pa 1) (d := 5) T (by decide) hT5 (v := .bool false) (by kernel_rfl) (by kernel_rfl) (by decide) (by kernel_rfl) (by kernel_rfl) (congrArg some (n_one (by omega))) (fun a6 hT6 => ?_)
  refine Gz.row T (K _) (by decide) hT6 [] [2, 3] [4, 5] [7, 6, 0] (g' := [(7, .int .i64 nn), (6, .bool false), (0, .int .i64 nn)]) (qs := []) (by kernel_rfl) (by kernel_rfl) (by simp) (fun a7 hT7 => ?_)
  refine Gz.hint (o := opq c7.pd.pa.pa 4) (d := 8) T (by decide) hT7 (v := .bool false) (by kernel_rfl) (by kernel_rfl) (by decide) (by kernel_rfl) (by kernel_rfl) (congrArg some (n_top (by omega))) (fun a8 hT8 => ?_)
  refine Gz.row T (K _) (by decide) hT8 [] [5] [] [9, 0] (g' := [(9, .bool false), (0, .int .i64 nn)]) (qs := []) (by kernel_rfl) (by kernel_rfl) (by simp) (fun a9 hT9 => ?_)
  refine Gz.rend T ?_
  refine Gz.condFE (q := .tmp 9) (y := c7.pd.pa.pd.pa) (z := c7.pd.pa.pd.pd) T (by kernel_rfl) hT9 (by kernel_rfl) ?_
  refine Gz.skipE T (by kernel_rfl) ?_
  refine Gz.seqE T (by kernel_rfl : c7.pd.pd = .seq c7.pd.pd.pa c7.pd.pd.pd) ?_
  refine Gz.regionE (id := 3) (l := c7.pd.pd.pa.po) (r := [0, 1, 2, 3, 4, 5]) T (by kernel_rfl) (by kernel_rfl) ?_
  refine Gz.row T (K _) (by decide) hT9 [] [0] [1, 2, 3, 4, 5] [10] (g' := [(10, .int .i64 nn)]) (qs := []) (by kernel_rfl) (by kernel_rfl) (by simp) (fun a10 hT10 => ?_)
  refine Gz.mk1 (w₀ := w₀) (N := 0) (o := opq c7.pd.pd.pa 1) (d := 11) (by decide) hT10 hF (by kernel_rfl) (by kernel_rfl) (by decide) (by kernel_rfl) (v := fun b => .slice (some ⟨b, 0, none⟩) nn nn) (ob := .cells (madeCells #[.int .i64 0] nn) 3) (op_slice (T := 22) (E := 3) (ti := (Try.prog.info? 3).getD default) (z := .int .i64 0) (y := .tmp 10) (c := nn) (by kernel_rfl) (by kernel_rfl) (by kernel_rfl) (by kernel_rfl) (by kernel_rfl) (by kernel_rfl) hn2 (by kernel_rfl)) (fun a11 w hT hF => ?_)
  have hT11 : Tm a11 14 ((11, .slice (some ⟨w₀.heap.size + 0, 0, none⟩) nn nn) :: [(10, .int .i64 nn)]) [] := hT
  clear hT
  refine Mz.opv (o := opq c7.pd.pd.pa 2) (d := 12) (mvG T) (by decide) hT11 (v := .agg #[.slice (some ⟨w₀.heap.size + 0, 0, none⟩) nn nn, .int .i64 0, .int .i64 0]) (by kernel_rfl) (by kernel_rfl) (by decide) (by kernel_rfl) (by kernel_rfl) (op_struct (T := 56) (fs := match Try.prog.underlying 56 with | some (.struct fs) => fs | _ => #[]) (places := [(0, 1), (1, 1), (2, 1)]) (ti := (Try.prog.info? 56).getD default) (z := .agg #[.slice none 0 0, .int .i64 0, .int .i64 0]) (y := .tmp 11) (v := .slice (some ⟨w₀.heap.size + 0, 0, none⟩) nn nn) (by kernel_rfl) (by kernel_rfl) (by kernel_rfl) (by kernel_rfl) (by kernel_rfl) (by kernel_rfl) (by kernel_rfl)) (fun a13 hT13 => ?_)
  refine Gz.mk1 (w₀ := w₀) (N := 1) (o := opq c7.pd.pd.pa 3) (d := 13) (by decide) hT13 hF (by kernel_rfl) (by kernel_rfl) (by decide) (by kernel_rfl) (v := fun b => .pointer (some ⟨b, 0, none⟩)) (ob := .cells #[.slice (some ⟨w₀.heap.size + 0, 0, none⟩) nn nn, .int .i64 0, .int .i64 0] 56) (op_box (v := .agg #[.slice (some ⟨w₀.heap.size + 0, 0, none⟩) nn nn, .int .i64 0, .int .i64 0]) (y := .tmp 12) (T := 56) (by kernel_rfl) (by kernel_rfl)) (fun a14 w hT hF => ?_)
  have hT14 : Tm a14 14 ((13, .pointer (some ⟨w₀.heap.size + 1, 0, none⟩)) :: [(12, .agg #[.slice (some ⟨w₀.heap.size + 0, 0, none⟩) nn nn, .int .i64 0, .int .i64 0]), (11, .slice (some ⟨w₀.heap.size + 0, 0, none⟩) nn nn), (10, .int .i64 nn)]) [] := hT
  clear hT
  refine Gz.row T (K _) (by decide) hT14 [] [4, 5] [] [3, 2] (g' := [(3, .int .i64 0), (2, .pointer (some ⟨w₀.heap.size + 1, 0, none⟩))]) (qs := []) (by kernel_rfl) (by kernel_rfl) (by simp) (fun a16 hT16 => ?_)
  refine Gz.rend T ?_
  refine Gz.retE T (by kernel_rfl) ?_
  refine Gz.back2 (t := 2) (t' := 3) (v := .pointer (some ⟨w₀.heap.size + 1, 0, none⟩)) (u := .int .i64 0) (d := 14) T hT16 hT2 rfl Try.func7 (by kernel_rfl) (by kernel_rfl) (by kernel_rfl) (by kernel_rfl) (by decide) (fun a17 hT17 => ?_)
  refine Gz.row T (K _) (by decide) hT17 [] [2, 3, 4, 5, 6] [] [7, 6, 1] (g' := [(7, .int .i64 0), (6, .pointer (some ⟨w₀.heap.size + 1, 0, none⟩)), (1, .slice la N cap)]) (qs := []) (by kernel_rfl) (by kernel_rfl) (by simp) (fun a18 hT18 => ?_)
  refine Gz.rend T ?_
  refine Gz.seqE T (by kernel_rfl : c205.pd.pd = .seq c205.pd.pd.pa c205.pd.pd.pd) ?_
  refine Gz.seqE T (by kernel_rfl : c205.pd.pd.pa = .seq c205.pd.pd.pa.pa c205.pd.pd.pa.pd) ?_
  refine Gz.regionE (id := 2) (l := c205.pd.pd.pa.pa.po) (r := [0, 1]) T (by kernel_rfl) (by kernel_rfl) ?_
  refine Gz.row T (K _) (by decide) hT18 [] [0, 1] [] [18, 7, 6, 1] (g' := [(18, .bool false), (7, .int .i64 0), (6, .pointer (some ⟨w₀.heap.size + 1, 0, none⟩)), (1, .slice la N cap)]) (qs := []) (by kernel_rfl) (by kernel_rfl) (by simp) (fun a19 hT19 => ?_)
  refine Gz.rend T ?_
  refine Gz.condFE (q := .tmp 18) (y := c205.pd.pd.pa.pd.pa) (z := c205.pd.pd.pa.pd.pd) T (by kernel_rfl) hT19 (by kernel_rfl) ?_
  refine Gz.skipE T (by kernel_rfl) ?_
  refine Gz.seqE T (by kernel_rfl : c205.pd.pd.pd = .seq c205.pd.pd.pd.pa c205.pd.pd.pd.pd) ?_
  refine Gz.regionE (id := 4) (l := c205.pd.pd.pd.pa.po) (r := [0]) T (by kernel_rfl) (by kernel_rfl) ?_
  refine Gz.row T (K _) (by decide) hT19 [] [0] [] [8, 6, 1] (g' := [(8, .slice none 0 0), (6, .pointer (some ⟨w₀.heap.size + 1, 0, none⟩)), (1, .slice la N cap)]) (qs := []) (by kernel_rfl) (by kernel_rfl) (by simp) (fun a20 hT20 => ?_)
  refine Gz.rend T ?_
  refine Gz.seqE T (by kernel_rfl : c205.pd.pd.pd.pd = .seq c205.pd.pd.pd.pd.pa c205.pd.pd.pd.pd.pd) ?_
  refine Gz.seqE T (by kernel_rfl : c205.pd.pd.pd.pd.pa = .seq c205.pd.pd.pd.pd.pa.pa c205.pd.pd.pd.pd.pa.pd) ?_
  refine Gz.regionE (id := 5) (l := c205.pd.pd.pd.pd.pa.pa.po) (r := [0, 1, 2]) T (by kernel_rfl) (by kernel_rfl) ?_
  refine Gz.row T (K _) (by decide) hT20 [] [0, 1, 2] [] [22, 21, 20, 8, 6] (g' := [(22, .int .i64 0), (21, .int .i64 N), (20, .slice la N cap), (8, .slice none 0 0), (6, .pointer (some ⟨w₀.heap.size + 1, 0, none⟩))]) (qs := []) (by kernel_rfl) (by kernel_rfl) (by simp) (fun a21 hT21 => ?_)
  refine Gz.rend T ?_
  refine Gz.blockE (id := 0) (y := c205.pd.pd.pd.pd.pa.pd.pa) T (by kernel_rfl) ?_
  refine Gz.loopE (y := c205.pd.pd.pd.pd.pa.pd.pa.pa) T (by kernel_rfl) ?_
  have h203QHead := hb203.live [0, 1] (g' := [(0, .int .i64 nn), (1, .slice la N cap)]) (by kernel_rfl)
  have h205QHead := hT21.live [6, 8, 20, 21, 22] (g' := [(6, .pointer (some ⟨w₀.heap.size + 1, 0, none⟩)), (8, .slice none 0 0), (20, .slice la N cap), (21, .int .i64 N), (22, .int .i64 0)]) (by kernel_rfl)
  exact Goes.stop fun w₁ h₁ => ⟨hF.at h₁, b203, a21, h203QHead, h205QHead, rfl⟩
theorem Q_low {n : Int} {b203 : Act} (hb203 : Tm b203 118 [(0, .int .i64 n), (1, .slice la N cap)] []) {b205 : Act} (hb205 : Tm b205 48 [(0, .int .i64 n), (1, .slice la N cap)] []) (hz : n < 1) :
    Goes Try.prog true AtRel (DL Shun B W) (fun g w₂ => AtRel w w₂ ∧ EndL g) 4000 (G ((base 5).at b205 [.code c205]) (((base 3).at b203 [.inRegion c203.pd.pd.pa.po.toArray [2, 3, 4, 5, 6, 7], .code c203.pd.pd.pd]) :: [])) w := by
  have TD : Tmd AtRel (DL Shun B W) := tmdL
  have T := TD.toTms
  have K : ∀ w, Ken Try.prog AtRel (DL Shun B W) (fun _ _ => False) w := fun _ => ⟨fun _ _ hc => hc.elim⟩
  refine Gz.seqE T (by kernel_rfl : c205 = .seq c205.pa c205.pd) ?_
  refine Gz.regionE (id := 0) (l := c205.pa.po) (r := [0, 1]) T (by kernel_rfl) (by kernel_rfl) ?_
  refine Gz.row T (K _) (by decide) hb205 [] [0, 1] [] [0, 1] (g' := [(0, .int .i64 n), (1, .slice la N cap)]) (qs := []) (by kernel_rfl) (by kernel_rfl) (by simp) (fun a1 hT1 => ?_)
  refine Gz.rend T ?_
  refine Gz.seqE T (by kernel_rfl : c205.pd = .seq c205.pd.pa c205.pd.pd) ?_
  refine Gz.regionE (id := 1) (l := c205.pd.pa.po) (r := [0, 1, 2, 3, 4, 5, 6]) T (by kernel_rfl) (by kernel_rfl) ?_
  refine Gz.row T (K _) (by decide) hT1 [] [0] [1, 2, 3, 4, 5, 6] [13, 1] (g' := [(13, .int .i64 n), (1, .slice la N cap)]) (qs := []) (by kernel_rfl) (by kernel_rfl) (by simp) (fun a2 hT2 => ?_)
  refine Mz.enter (o := opq c205.pd.pa 1) (q := .func 7) (f := 7) (cc := c7) (cap := []) (args := #[.tmp 13]) (ats := #[3]) (mvG T) hT2 [.int .i64 n] 14 (by kernel_rfl) (by kernel_rfl) (by decide) (by kernel_rfl) (by kernel_rfl) Try.func7 (by kernel_rfl) (by kernel_rfl) (by kernel_rfl) (by kernel_rfl) (by kernel_rfl) (fun a3 hT3 => ?_)
  refine Gz.seqE T (by kernel_rfl : c7 = .seq c7.pa c7.pd) ?_
  refine Gz.regionE (id := 0) (l := c7.pa.po) (r := [0, 1]) T (by kernel_rfl) (by kernel_rfl) ?_
  refine Gz.row T (K _) (by decide) hT3 [] [0, 1] [] [0] (g' := [(0, .int .i64 n)]) (qs := []) (by kernel_rfl) (by kernel_rfl) (by simp) (fun a4 hT4 => ?_)
  refine Gz.rend T ?_
  refine Gz.seqE T (by kernel_rfl : c7.pd = .seq c7.pd.pa c7.pd.pd) ?_
  refine Gz.seqE T (by kernel_rfl : c7.pd.pa = .seq c7.pd.pa.pa c7.pd.pa.pd) ?_
  refine Gz.regionE (id := 1) (l := c7.pd.pa.pa.po) (r := [0, 1, 2, 3, 4, 5]) T (by kernel_rfl) (by kernel_rfl) ?_
  refine Gz.row T (K _) (by decide) hT4 [] [0] [1, 2, 3, 4, 5] [4, 0] (g' := [(4, .int .i64 n), (0, .int .i64 n)]) (qs := []) (by kernel_rfl) (by kernel_rfl) (by simp) (fun a5 hT5 => ?_)
  refine Gz.hint (o := opq c7.pd.pa.pa 1) (d := 5) T (by decide) hT5 (v := .bool true) (by kernel_rfl) (by kernel_rfl) (by decide) (by kernel_rfl) (by kernel_rfl) (congrArg some (n_low hz)) (fun a6 hT6 => ?_)
  refine Gz.row T (K _) (by decide) hT6 [] [2, 3, 4, 5] [] [9, 0] (g' := [(9, .bool true), (0, .int .i64 n)]) (qs := []) (by kernel_rfl) (by kernel_rfl) (by simp) (fun a7 hT7 => ?_)
  refine Gz.rend T ?_
  refine Gz.condTE (q := .tmp 9) (y := c7.pd.pa.pd.pa) (z := c7.pd.pa.pd.pd) T (by kernel_rfl) hT7 (by kernel_rfl) ?_
  refine Gz.seqE T (by kernel_rfl : c7.pd.pa.pd.pa = .seq c7.pd.pa.pd.pa.pa c7.pd.pa.pd.pa.pd) ?_
  refine Gz.regionE (id := 2) (l := c7.pd.pa.pd.pa.pa.po) (r := [0, 1]) T (by kernel_rfl) (by kernel_rfl) ?_
  refine Gz.row T (K _) (by decide) hT7 [] [0, 1] [] [3, 2] (g' := [(3, .int .i64 3), (2, .pointer none)]) (qs := []) (by kernel_rfl) (by kernel_rfl) (by simp) (fun a8 hT8 => ?_)
  refine Gz.rend T ?_
  refine Gz.retE T (by kernel_rfl) ?_
  refine Gz.back2 (t := 2) (t' := 3) (v := .pointer none) (u := .int .i64 3) (d := 14) T hT8 hT2 rfl Try.func7 (by kernel_rfl) (by kernel_rfl) (by kernel_rfl) (by kernel_rfl) (by decide) (fun a9 hT9 => ?_)
  refine Gz.row T (K _) (by decide) hT9 [] [2, 3, 4, 5, 6] [] [7, 6, 1] (g' := [(7, .int .i64 3), (6, .pointer none), (1, .slice la N cap)]) (qs := []) (by kernel_rfl) (by kernel_rfl) (by simp) (fun a10 hT10 => ?_)
  refine Gz.rend T ?_
  refine Gz.seqE T (by kernel_rfl : c205.pd.pd = .seq c205.pd.pd.pa c205.pd.pd.pd) ?_
  refine Gz.seqE T (by kernel_rfl : c205.pd.pd.pa = .seq c205.pd.pd.pa.pa c205.pd.pd.pa.pd) ?_
  refine Gz.regionE (id := 2) (l := c205.pd.pd.pa.pa.po) (r := [0, 1]) T (by kernel_rfl) (by kernel_rfl) ?_
  refine Gz.row T (K _) (by decide) hT10 [] [0, 1] [] [18, 7, 6, 1] (g' := [(18, .bool true), (7, .int .i64 3), (6, .pointer none), (1, .slice la N cap)]) (qs := []) (by kernel_rfl) (by kernel_rfl) (by simp) (fun a11 hT11 => ?_)
  refine Gz.rend T ?_
  refine Gz.condTE (q := .tmp 18) (y := c205.pd.pd.pa.pd.pa) (z := c205.pd.pd.pa.pd.pd) T (by kernel_rfl) hT11 (by kernel_rfl) ?_
  refine Gz.seqE T (by kernel_rfl : c205.pd.pd.pa.pd.pa = .seq c205.pd.pd.pa.pd.pa.pa c205.pd.pd.pa.pd.pa.pd) ?_
  refine Gz.regionE (id := 3) (l := c205.pd.pd.pa.pd.pa.pa.po) (r := [0, 1, 2]) T (by kernel_rfl) (by kernel_rfl) ?_
  refine Gz.row T (K _) (by decide) hT11 [] [0, 1, 2] [] [5, 4] (g' := [(5, .int .i64 3), (4, .slice none 0 0)]) (qs := []) (by kernel_rfl) (by kernel_rfl) (by simp) (fun a12 hT12 => ?_)
  refine Gz.rend T ?_
  refine Gz.retE T (by kernel_rfl) ?_
  refine Gz.back2 (t := 4) (t' := 5) (v := .slice none 0 0) (u := .int .i64 3) (d := 17) T hT12 hb203 rfl Try.func5 (by kernel_rfl) (by kernel_rfl) (by kernel_rfl) (by kernel_rfl) (by decide) (fun a13 hT13 => ?_)
  refine Gz.row T (K _) (by decide) hT13 [] [3, 4, 5, 6, 7] [] [6, 5, 0, 1] (g' := [(6, .int .i64 3), (5, .slice none 0 0), (0, .int .i64 n), (1, .slice la N cap)]) (qs := []) (by kernel_rfl) (by kernel_rfl) (by simp) (fun a14 hT14 => ?_)
  refine Gz.rend T ?_
  refine Gz.seqE T (by kernel_rfl : c203.pd.pd.pd = .seq c203.pd.pd.pd.pa c203.pd.pd.pd.pd) ?_
  refine Gz.seqE T (by kernel_rfl : c203.pd.pd.pd.pa = .seq c203.pd.pd.pd.pa.pa c203.pd.pd.pd.pa.pd) ?_
  refine Gz.regionE (id := 4) (l := c203.pd.pd.pd.pa.pa.po) (r := [0, 1]) T (by kernel_rfl) (by kernel_rfl) ?_
  refine Gz.row T (K _) (by decide) hT14 [] [0, 1] [] [21, 5, 0, 1] (g' := [(21, .bool true), (5, .slice none 0 0), (0, .int .i64 n), (1, .slice la N cap)]) (qs := []) (by kernel_rfl) (by kernel_rfl) (by simp) (fun a15 hT15 => ?_)
  refine Gz.rend T ?_
  refine Gz.condTE (q := .tmp 21) (y := c203.pd.pd.pd.pa.pd.pa) (z := c203.pd.pd.pd.pa.pd.pd) T (by kernel_rfl) hT15 (by kernel_rfl) ?_
  refine Gz.seqE T (by kernel_rfl : c203.pd.pd.pd.pa.pd.pa = .seq c203.pd.pd.pd.pa.pd.pa.pa c203.pd.pd.pd.pa.pd.pa.pd) ?_
  refine Gz.regionE (id := 5) (l := c203.pd.pd.pd.pa.pd.pa.pa.po) (r := [0, 1, 2, 3, 4, 5, 6]) T (by kernel_rfl) (by kernel_rfl) ?_
  refine Gz.row T (K _) (by decide) hT15 [] [0] [1, 2, 3, 4, 5, 6] [22, 0] (g' := [(22, .int .i64 n), (0, .int .i64 n)]) (qs := []) (by kernel_rfl) (by kernel_rfl) (by simp) (fun a16 hT16 => ?_)
  refine Gz.hint (o := opq c203.pd.pd.pd.pa.pd.pa.pa 1) (d := 23) T (by decide) hT16 (v := .bool true) (by kernel_rfl) (by kernel_rfl) (by decide) (by kernel_rfl) (by kernel_rfl) (congrArg some (n_low hz)) (fun a17 hT17 => ?_)
  refine Gz.row T (K _) (by decide) hT17 [] [2, 3, 4, 5, 6] [] [4] (g' := [(4, .bool true)]) (qs := []) (by kernel_rfl) (by kernel_rfl) (by simp) (fun a18 hT18 => ?_)
  refine Gz.rend T ?_
  refine Gz.retE T (by kernel_rfl) ?_
  exact Goes.stop fun w₁ h₁ => ⟨h₁, _, _, hT18.live [4] (g' := [(4, .bool true)]) (by kernel_rfl), rfl⟩
theorem Q_high {n : Int} {b203 : Act} (hb203 : Tm b203 118 [(0, .int .i64 n), (1, .slice la N cap)] []) {b205 : Act} (hb205 : Tm b205 48 [(0, .int .i64 n), (1, .slice la N cap)] []) (hz : 65536 < n) :
    Goes Try.prog true AtRel (DL Shun B W) (fun g w₂ => AtRel w w₂ ∧ EndL g) 4000 (G ((base 5).at b205 [.code c205]) (((base 3).at b203 [.inRegion c203.pd.pd.pa.po.toArray [2, 3, 4, 5, 6, 7], .code c203.pd.pd.pd]) :: [])) w := by
  have TD : Tmd AtRel (DL Shun B W) := tmdL
  have T := TD.toTms
  have K : ∀ w, Ken Try.prog AtRel (DL Shun B W) (fun _ _ => False) w := fun _ => ⟨fun _ _ hc => hc.elim⟩
  refine Gz.seqE T (by kernel_rfl : c205 = .seq c205.pa c205.pd) ?_
  refine Gz.regionE (id := 0) (l := c205.pa.po) (r := [0, 1]) T (by kernel_rfl) (by kernel_rfl) ?_
  refine Gz.row T (K _) (by decide) hb205 [] [0, 1] [] [0, 1] (g' := [(0, .int .i64 n), (1, .slice la N cap)]) (qs := []) (by kernel_rfl) (by kernel_rfl) (by simp) (fun a1 hT1 => ?_)
  refine Gz.rend T ?_
  refine Gz.seqE T (by kernel_rfl : c205.pd = .seq c205.pd.pa c205.pd.pd) ?_
  refine Gz.regionE (id := 1) (l := c205.pd.pa.po) (r := [0, 1, 2, 3, 4, 5, 6]) T (by kernel_rfl) (by kernel_rfl) ?_
  refine Gz.row T (K _) (by decide) hT1 [] [0] [1, 2, 3, 4, 5, 6] [13, 1] (g' := [(13, .int .i64 n), (1, .slice la N cap)]) (qs := []) (by kernel_rfl) (by kernel_rfl) (by simp) (fun a2 hT2 => ?_)
  refine Mz.enter (o := opq c205.pd.pa 1) (q := .func 7) (f := 7) (cc := c7) (cap := []) (args := #[.tmp 13]) (ats := #[3]) (mvG T) hT2 [.int .i64 n] 14 (by kernel_rfl) (by kernel_rfl) (by decide) (by kernel_rfl) (by kernel_rfl) Try.func7 (by kernel_rfl) (by kernel_rfl) (by kernel_rfl) (by kernel_rfl) (by kernel_rfl) (fun a3 hT3 => ?_)
  refine Gz.seqE T (by kernel_rfl : c7 = .seq c7.pa c7.pd) ?_
  refine Gz.regionE (id := 0) (l := c7.pa.po) (r := [0, 1]) T (by kernel_rfl) (by kernel_rfl) ?_
  refine Gz.row T (K _) (by decide) hT3 [] [0, 1] [] [0] (g' := [(0, .int .i64 n)]) (qs := []) (by kernel_rfl) (by kernel_rfl) (by simp) (fun a4 hT4 => ?_)
  refine Gz.rend T ?_
  refine Gz.seqE T (by kernel_rfl : c7.pd = .seq c7.pd.pa c7.pd.pd) ?_
  refine Gz.seqE T (by kernel_rfl : c7.pd.pa = .seq c7.pd.pa.pa c7.pd.pa.pd) ?_
  refine Gz.regionE (id := 1) (l := c7.pd.pa.pa.po) (r := [0, 1, 2, 3, 4, 5]) T (by kernel_rfl) (by kernel_rfl) ?_
  refine Gz.row T (K _) (by decide) hT4 [] [0] [1, 2, 3, 4, 5] [4, 0] (g' := [(4, .int .i64 n), (0, .int .i64 n)]) (qs := []) (by kernel_rfl) (by kernel_rfl) (by simp) (fun a5 hT5 => ?_)
  refine Gz.hint (o := opq c7.pd.pa.pa 1) (d := 5) T (by decide) hT5 (v := .bool false) (by kernel_rfl) (by kernel_rfl) (by decide) (by kernel_rfl) (by kernel_rfl) (congrArg some (n_one (by omega))) (fun a6 hT6 => ?_)
  refine Gz.row T (K _) (by decide) hT6 [] [2, 3] [4, 5] [7, 6, 0] (g' := [(7, .int .i64 n), (6, .bool false), (0, .int .i64 n)]) (qs := []) (by kernel_rfl) (by kernel_rfl) (by simp) (fun a7 hT7 => ?_)
  refine Gz.hint (o := opq c7.pd.pa.pa 4) (d := 8) T (by decide) hT7 (v := .bool true) (by kernel_rfl) (by kernel_rfl) (by decide) (by kernel_rfl) (by kernel_rfl) (congrArg some (n_high hz)) (fun a8 hT8 => ?_)
  refine Gz.row T (K _) (by decide) hT8 [] [5] [] [9, 0] (g' := [(9, .bool true), (0, .int .i64 n)]) (qs := []) (by kernel_rfl) (by kernel_rfl) (by simp) (fun a9 hT9 => ?_)
  refine Gz.rend T ?_
  refine Gz.condTE (q := .tmp 9) (y := c7.pd.pa.pd.pa) (z := c7.pd.pa.pd.pd) T (by kernel_rfl) hT9 (by kernel_rfl) ?_
  refine Gz.seqE T (by kernel_rfl : c7.pd.pa.pd.pa = .seq c7.pd.pa.pd.pa.pa c7.pd.pa.pd.pa.pd) ?_
  refine Gz.regionE (id := 2) (l := c7.pd.pa.pd.pa.pa.po) (r := [0, 1]) T (by kernel_rfl) (by kernel_rfl) ?_
  refine Gz.row T (K _) (by decide) hT9 [] [0, 1] [] [3, 2] (g' := [(3, .int .i64 3), (2, .pointer none)]) (qs := []) (by kernel_rfl) (by kernel_rfl) (by simp) (fun a10 hT10 => ?_)
  refine Gz.rend T ?_
  refine Gz.retE T (by kernel_rfl) ?_
  refine Gz.back2 (t := 2) (t' := 3) (v := .pointer none) (u := .int .i64 3) (d := 14) T hT10 hT2 rfl Try.func7 (by kernel_rfl) (by kernel_rfl) (by kernel_rfl) (by kernel_rfl) (by decide) (fun a11 hT11 => ?_)
  refine Gz.row T (K _) (by decide) hT11 [] [2, 3, 4, 5, 6] [] [7, 6, 1] (g' := [(7, .int .i64 3), (6, .pointer none), (1, .slice la N cap)]) (qs := []) (by kernel_rfl) (by kernel_rfl) (by simp) (fun a12 hT12 => ?_)
  refine Gz.rend T ?_
  refine Gz.seqE T (by kernel_rfl : c205.pd.pd = .seq c205.pd.pd.pa c205.pd.pd.pd) ?_
  refine Gz.seqE T (by kernel_rfl : c205.pd.pd.pa = .seq c205.pd.pd.pa.pa c205.pd.pd.pa.pd) ?_
  refine Gz.regionE (id := 2) (l := c205.pd.pd.pa.pa.po) (r := [0, 1]) T (by kernel_rfl) (by kernel_rfl) ?_
  refine Gz.row T (K _) (by decide) hT12 [] [0, 1] [] [18, 7, 6, 1] (g' := [(18, .bool true), (7, .int .i64 3), (6, .pointer none), (1, .slice la N cap)]) (qs := []) (by kernel_rfl) (by kernel_rfl) (by simp) (fun a13 hT13 => ?_)
  refine Gz.rend T ?_
  refine Gz.condTE (q := .tmp 18) (y := c205.pd.pd.pa.pd.pa) (z := c205.pd.pd.pa.pd.pd) T (by kernel_rfl) hT13 (by kernel_rfl) ?_
  refine Gz.seqE T (by kernel_rfl : c205.pd.pd.pa.pd.pa = .seq c205.pd.pd.pa.pd.pa.pa c205.pd.pd.pa.pd.pa.pd) ?_
  refine Gz.regionE (id := 3) (l := c205.pd.pd.pa.pd.pa.pa.po) (r := [0, 1, 2]) T (by kernel_rfl) (by kernel_rfl) ?_
  refine Gz.row T (K _) (by decide) hT13 [] [0, 1, 2] [] [5, 4] (g' := [(5, .int .i64 3), (4, .slice none 0 0)]) (qs := []) (by kernel_rfl) (by kernel_rfl) (by simp) (fun a14 hT14 => ?_)
  refine Gz.rend T ?_
  refine Gz.retE T (by kernel_rfl) ?_
  refine Gz.back2 (t := 4) (t' := 5) (v := .slice none 0 0) (u := .int .i64 3) (d := 17) T hT14 hb203 rfl Try.func5 (by kernel_rfl) (by kernel_rfl) (by kernel_rfl) (by kernel_rfl) (by decide) (fun a15 hT15 => ?_)
  refine Gz.row T (K _) (by decide) hT15 [] [3, 4, 5, 6, 7] [] [6, 5, 0, 1] (g' := [(6, .int .i64 3), (5, .slice none 0 0), (0, .int .i64 n), (1, .slice la N cap)]) (qs := []) (by kernel_rfl) (by kernel_rfl) (by simp) (fun a16 hT16 => ?_)
  refine Gz.rend T ?_
  refine Gz.seqE T (by kernel_rfl : c203.pd.pd.pd = .seq c203.pd.pd.pd.pa c203.pd.pd.pd.pd) ?_
  refine Gz.seqE T (by kernel_rfl : c203.pd.pd.pd.pa = .seq c203.pd.pd.pd.pa.pa c203.pd.pd.pd.pa.pd) ?_
  refine Gz.regionE (id := 4) (l := c203.pd.pd.pd.pa.pa.po) (r := [0, 1]) T (by kernel_rfl) (by kernel_rfl) ?_
  refine Gz.row T (K _) (by decide) hT16 [] [0, 1] [] [21, 5, 0, 1] (g' := [(21, .bool true), (5, .slice none 0 0), (0, .int .i64 n), (1, .slice la N cap)]) (qs := []) (by kernel_rfl) (by kernel_rfl) (by simp) (fun a17 hT17 => ?_)
  refine Gz.rend T ?_
  refine Gz.condTE (q := .tmp 21) (y := c203.pd.pd.pd.pa.pd.pa) (z := c203.pd.pd.pd.pa.pd.pd) T (by kernel_rfl) hT17 (by kernel_rfl) ?_
  refine Gz.seqE T (by kernel_rfl : c203.pd.pd.pd.pa.pd.pa = .seq c203.pd.pd.pd.pa.pd.pa.pa c203.pd.pd.pd.pa.pd.pa.pd) ?_
  refine Gz.regionE (id := 5) (l := c203.pd.pd.pd.pa.pd.pa.pa.po) (r := [0, 1, 2, 3, 4, 5, 6]) T (by kernel_rfl) (by kernel_rfl) ?_
  refine Gz.row T (K _) (by decide) hT17 [] [0] [1, 2, 3, 4, 5, 6] [22, 0] (g' := [(22, .int .i64 n), (0, .int .i64 n)]) (qs := []) (by kernel_rfl) (by kernel_rfl) (by simp) (fun a18 hT18 => ?_)
  refine Gz.hint (o := opq c203.pd.pd.pd.pa.pd.pa.pa 1) (d := 23) T (by decide) hT18 (v := .bool false) (by kernel_rfl) (by kernel_rfl) (by decide) (by kernel_rfl) (by kernel_rfl) (congrArg some (n_one (by omega))) (fun a19 hT19 => ?_)
  refine Gz.row T (K _) (by decide) hT19 [] [2, 3] [4, 5, 6] [25, 24] (g' := [(25, .int .i64 n), (24, .bool false)]) (qs := []) (by kernel_rfl) (by kernel_rfl) (by simp) (fun a20 hT20 => ?_)
  refine Gz.hint (o := opq c203.pd.pd.pd.pa.pd.pa.pa 4) (d := 26) T (by decide) hT20 (v := .bool true) (by kernel_rfl) (by kernel_rfl) (by decide) (by kernel_rfl) (by kernel_rfl) (congrArg some (n_high hz)) (fun a21 hT21 => ?_)
  refine Gz.row T (K _) (by decide) hT21 [] [5, 6] [] [4] (g' := [(4, .bool true)]) (qs := []) (by kernel_rfl) (by kernel_rfl) (by simp) (fun a22 hT22 => ?_)
  refine Gz.rend T ?_
  refine Gz.retE T (by kernel_rfl) ?_
  exact Goes.stop fun w₁ h₁ => ⟨h₁, _, _, hT22.live [4] (g' := [(4, .bool true)]) (by kernel_rfl), rfl⟩

end
end Go.Proofs.Ytdmiilgdkmbmeaa.Rg
namespace Go.Proofs.Ytdmiilgdkmbmeaa.Rg
open Go Go.Conc
section
variable {w₀ w : World} {Shun : Loc → Prop} {B W : Nat} {lo bse N cap nn p k i len oc lb lz Rb Sb tb gb gc pc : Nat} {arr : Array Value} {oa la ga pa : Option Addr} {x y : Int} {ok : Bool} {xs : List Value} {K₀ : List (Nat × Obj)} {g : Goroutine}
theorem Q_full (h : QHead nn N cap la Rb oa oc i g) (hH : Hp w₀ lo bse (3 * i) ([(Rb, .cells #[.slice (some ⟨Sb, 0, none⟩) nn nn, .int .i64 p, .int .i64 k] 56), (Sb, .cells arr 3)]) 29 3 (.slice oa i oc) i xs w) (hs : ∀ ad : Addr, lo ≤ ad.block → ¬ Shun (.cell ad)) (hB : w₀.heap.size + (3 * N + 3) ≤ B) (hN : N ≤ 1048576) (hp : p ≤ i) (hk : k ≤ p) (hpn : p ≤ k + nn) (hn1 : 0 < nn) (hi : i < N) (hla : la = some ⟨lb, lz, none⟩) (hz : CL Shun B w ⟨lb, i + lz, none⟩ (.int .i64 x)) (hx : 0 ≤ x) (hf : p = k + nn) :
    Goes Try.prog true AtRel (DL Shun B W) (fun g w => ∃ tb, bse ≤ tb ∧ Hp w₀ lo bse (3 * i + 1) ([(tb, .cells #[.int .i64 0, .bool false, .int .i64 0] 29), (Rb, .cells #[.slice (some ⟨Sb, 0, none⟩) nn nn, .int .i64 p, .int .i64 k] 56), (Sb, .cells arr 3)]) 29 3 (.slice oa i oc) i xs w ∧ QT nn N cap la Rb tb oa oc i g) 4000 g w := by
  obtain ⟨b203, b205, hb203, hb205, rfl⟩ := h
  subst hla
  have TD : Tmd AtRel (DL Shun B W) := tmdL
  have T := TD.toTms
  have K : Ken Try.prog AtRel (DL Shun B W) (CL Shun B w) w := kenL (atRel_refl w)
  refine Gz.seqE T (by kernel_rfl : c205.pd.pd.pd.pd.pa.pd.pa.pa = .seq c205.pd.pd.pd.pd.pa.pd.pa.pa.pa c205.pd.pd.pd.pd.pa.pd.pa.pa.pd) ?_
  refine Gz.regionE (id := 6) (l := c205.pd.pd.pd.pd.pa.pd.pa.pa.pa.po) (r := [0]) T (by kernel_rfl) (by kernel_rfl) ?_
  refine Gz.hint (o := opq c205.pd.pd.pd.pd.pa.pd.pa.pa.pa 0) (d := 23) T (by decide) hb205 (v := .bool true) (by kernel_rfl) (by kernel_rfl) (by decide) (by kernel_rfl) (by kernel_rfl) (congrArg some (n_lt hi)) (fun a1 hT1 => ?_)
  refine Gz.rend T ?_
  refine Gz.seqE T (by kernel_rfl : c205.pd.pd.pd.pd.pa.pd.pa.pa.pd = .seq c205.pd.pd.pd.pd.pa.pd.pa.pa.pd.pa c205.pd.pd.pd.pd.pa.pd.pa.pa.pd.pd) ?_
  refine Gz.condTE (q := .tmp 23) (y := c205.pd.pd.pd.pd.pa.pd.pa.pa.pd.pa.pa) (z := c205.pd.pd.pd.pd.pa.pd.pa.pa.pd.pa.pd) T (by kernel_rfl) hT1 (by kernel_rfl) ?_
  refine Gz.skipE T (by kernel_rfl) ?_
  refine Gz.seqE T (by kernel_rfl : c205.pd.pd.pd.pd.pa.pd.pa.pa.pd.pd = .seq c205.pd.pd.pd.pd.pa.pd.pa.pa.pd.pd.pa c205.pd.pd.pd.pd.pa.pd.pa.pa.pd.pd.pd) ?_
  refine Gz.blockE (id := 1) (y := c205.pd.pd.pd.pd.pa.pd.pa.pa.pd.pd.pa.pa) T (by kernel_rfl) ?_
  refine Gz.seqE T (by kernel_rfl : c205.pd.pd.pd.pd.pa.pd.pa.pa.pd.pd.pa.pa = .seq c205.pd.pd.pd.pd.pa.pd.pa.pa.pd.pd.pa.pa.pa c205.pd.pd.pd.pd.pa.pd.pa.pa.pd.pd.pa.pa.pd) ?_
  refine Gz.regionE (id := 7) (l := c205.pd.pd.pd.pd.pa.pd.pa.pa.pd.pd.pa.pa.pa.po) (r := [0, 1, 2]) T (by kernel_rfl) (by kernel_rfl) ?_
  refine Gz.hint (o := opq c205.pd.pd.pd.pd.pa.pd.pa.pa.pd.pd.pa.pa.pa 0) (d := 24) T (by decide) hT1 (v := .pointer (some ⟨lb, i + lz, none⟩)) (by kernel_rfl) (by kernel_rfl) (by decide) (by kernel_rfl) (by kernel_rfl) ((n_idx hi)) (fun a2 hT2 => ?_)
  refine Gz.load (o := opq c205.pd.pd.pd.pd.pa.pd.pa.pa.pd.pd.pa.pa.pa 1) (d := 25) (X := 3) (y := .tmp 24) (ad := ⟨lb, i + lz, none⟩) T K (by decide) hT2 (v := .int .i64 x) (by kernel_rfl) (by kernel_rfl) (by decide) (by kernel_rfl) (by kernel_rfl) (by kernel_rfl) (by kernel_rfl) (by kernel_rfl) hz (fun a3 hT3 => ?_)
  refine Gz.row T K (by decide) hT3 [] [2] [] [10, 6, 8, 20, 21, 22] (g' := [(10, .int .i64 x), (6, .pointer (some ⟨Rb, 0, none⟩)), (8, .slice oa i oc), (20, .slice (some ⟨lb, lz, none⟩) N cap), (21, .int .i64 N), (22, .int .i64 i)]) (qs := []) (by kernel_rfl) (by kernel_rfl) (by simp) (fun a4 hT4 => ?_)
  refine Gz.rend T ?_
  refine Gz.seqE T (by kernel_rfl : c205.pd.pd.pd.pd.pa.pd.pa.pa.pd.pd.pa.pa.pd = .seq c205.pd.pd.pd.pd.pa.pd.pa.pa.pd.pd.pa.pa.pd.pa c205.pd.pd.pd.pd.pa.pd.pa.pa.pd.pd.pa.pa.pd.pd) ?_
  refine Gz.regionE (id := 8) (l := c205.pd.pd.pd.pd.pa.pd.pa.pa.pd.pd.pa.pa.pd.pa.po) (r := [0]) T (by kernel_rfl) (by kernel_rfl) ?_
  refine Gz.hmk (o := opq c205.pd.pd.pd.pd.pa.pd.pa.pa.pd.pd.pa.pa.pd.pa 0) (d := 11) (by decide) hT4 hH (by kernel_rfl) (by kernel_rfl) (by decide) (by kernel_rfl) (fun b => .pointer (some ⟨b, 0, none⟩)) (.cells #[.int .i64 0, .bool false, .int .i64 0] 29) (op_alloc (T := 29) (ti := (Try.prog.info? 29).getD default) (z := .agg #[.int .i64 0, .bool false, .int .i64 0]) (by kernel_rfl) (by kernel_rfl) (by kernel_rfl)) (fun a5 w tb htb hT5 hH => ?_)
  replace hT5 : Tm a5 48 ((11, .pointer (some ⟨tb, 0, none⟩)) :: [(10, .int .i64 x), (6, .pointer (some ⟨Rb, 0, none⟩)), (8, .slice oa i oc), (20, .slice (some ⟨lb, lz, none⟩) N cap), (21, .int .i64 N), (22, .int .i64 i)]) [] := hT5
  have K : Ken Try.prog AtRel (DL Shun B W) (CL Shun B w) w := kenL (atRel_refl w)
  refine Gz.rend T ?_
  refine Gz.seqE T (by kernel_rfl : c205.pd.pd.pd.pd.pa.pd.pa.pa.pd.pd.pa.pa.pd.pd = .seq c205.pd.pd.pd.pd.pa.pd.pa.pa.pd.pd.pa.pa.pd.pd.pa c205.pd.pd.pd.pd.pa.pd.pa.pa.pd.pd.pa.pa.pd.pd.pd) ?_
  refine Gz.seqE T (by kernel_rfl : c205.pd.pd.pd.pd.pa.pd.pa.pa.pd.pd.pa.pa.pd.pd.pa = .seq c205.pd.pd.pd.pd.pa.pd.pa.pa.pd.pd.pa.pa.pd.pd.pa.pa c205.pd.pd.pd.pd.pa.pd.pa.pa.pd.pd.pa.pa.pd.pd.pa.pd) ?_
  refine Gz.regionE (id := 9) (l := c205.pd.pd.pd.pd.pa.pd.pa.pa.pd.pd.pa.pa.pd.pd.pa.pa.po) (r := [0, 1]) T (by kernel_rfl) (by kernel_rfl) ?_
  refine Gz.row T K (by decide) hT5 [] [0] [1] [26, 11, 10, 6, 8, 20, 21, 22] (g' := [(26, .int .i64 x), (11, .pointer (some ⟨tb, 0, none⟩)), (10, .int .i64 x), (6, .pointer (some ⟨Rb, 0, none⟩)), (8, .slice oa i oc), (20, .slice (some ⟨lb, lz, none⟩) N cap), (21, .int .i64 N), (22, .int .i64 i)]) (qs := []) (by kernel_rfl) (by kernel_rfl) (by simp) (fun a6 hT6 => ?_)
  refine Gz.hint (o := opq c205.pd.pd.pd.pd.pa.pd.pa.pa.pd.pd.pa.pa.pd.pd.pa.pa 1) (d := 27) T (by decide) hT6 (v := .bool true) (by kernel_rfl) (by kernel_rfl) (by decide) (by kernel_rfl) (by kernel_rfl) (congrArg some (n_geq hx)) (fun a7 hT7 => ?_)
  refine Gz.rend T ?_
  refine Gz.condTE (q := .tmp 27) (y := c205.pd.pd.pd.pd.pa.pd.pa.pa.pd.pd.pa.pa.pd.pd.pa.pd.pa) (z := c205.pd.pd.pd.pd.pa.pd.pa.pa.pd.pd.pa.pa.pd.pd.pa.pd.pd) T (by kernel_rfl) hT7 (by kernel_rfl) ?_
  refine Gz.regionE (id := 10) (l := c205.pd.pd.pd.pd.pa.pd.pa.pa.pd.pd.pa.pa.pd.pd.pa.pd.pa.po) (r := [0, 1, 2, 3, 4]) T (by kernel_rfl) (by kernel_rfl) ?_
  refine Gz.row T K (by decide) hT7 [] [0, 1] [2, 3, 4] [29, 28, 11, 6, 8, 20, 21, 22] (g' := [(29, .int .i64 x), (28, .pointer (some ⟨Rb, 0, none⟩)), (11, .pointer (some ⟨tb, 0, none⟩)), (6, .pointer (some ⟨Rb, 0, none⟩)), (8, .slice oa i oc), (20, .slice (some ⟨lb, lz, none⟩) N cap), (21, .int .i64 N), (22, .int .i64 i)]) (qs := []) (by kernel_rfl) (by kernel_rfl) (by simp) (fun a8 hT8 => ?_)
  refine Mz.enter (o := opq c205.pd.pd.pd.pd.pa.pd.pa.pa.pd.pd.pa.pa.pd.pd.pa.pd.pa 2) (q := .func 8) (f := 8) (cc := c10) (cap := []) (args := #[.tmp 28, .tmp 29]) (ats := #[33, 3]) (mvG T) hT8 [.pointer (some ⟨Rb, 0, none⟩), .int .i64 x] 41 (by kernel_rfl) (by kernel_rfl) (by decide) (by kernel_rfl) (by kernel_rfl) Try.func8 (by kernel_rfl) (by kernel_rfl) (by kernel_rfl) (by kernel_rfl) (by kernel_rfl) (fun a9 hT9 => ?_)
  refine Gz.seqE T (by kernel_rfl : c10 = .seq c10.pa c10.pd) ?_
  refine Gz.regionE (id := 0) (l := c10.pa.po) (r := [0]) T (by kernel_rfl) (by kernel_rfl) ?_
  refine Gz.row T K (by decide) hT9 [] [0] [] [0, 1] (g' := [(0, .pointer (some ⟨Rb, 0, none⟩)), (1, .int .i64 x)]) (qs := []) (by kernel_rfl) (by kernel_rfl) (by simp) (fun a10 hT10 => ?_)
  refine Gz.rend T ?_
  refine Gz.seqE T (by kernel_rfl : c10.pd = .seq c10.pd.pa c10.pd.pd) ?_
  refine Gz.regionE (id := 1) (l := c10.pd.pa.po) (r := [0, 1, 2, 3, 4]) T (by kernel_rfl) (by kernel_rfl) ?_
  refine Gz.row T K (by decide) hT10 [] [0, 1, 2] [3, 4] [8, 0, 1] (g' := [(8, .pointer (some ⟨Rb, 1, none⟩)), (0, .pointer (some ⟨Rb, 0, none⟩)), (1, .int .i64 x)]) (qs := []) (by kernel_rfl) (by kernel_rfl) (by simp) (fun a11 hT11 => ?_)
  refine Mz.enter (o := opq c10.pd.pa 3) (q := .func 15) (f := 15) (cc := c18) (cap := []) (args := #[.tmp 8]) (ats := #[54]) (mvG T) hT11 [.pointer (some ⟨Rb, 1, none⟩)] 7 (by kernel_rfl) (by kernel_rfl) (by decide) (by kernel_rfl) (by kernel_rfl) Try.func15 (by kernel_rfl) (by kernel_rfl) (by kernel_rfl) (by kernel_rfl) (by kernel_rfl) (fun a12 hT12 => ?_)
  refine Gz.seqE T (by kernel_rfl : c18 = .seq c18.pa c18.pd) ?_
  refine Gz.regionE (id := 0) (l := c18.pa.po) (r := [0]) T (by kernel_rfl) (by kernel_rfl) ?_
  refine Gz.row T K (by decide) hT12 [] [0] [] [0] (g' := [(0, .pointer (some ⟨Rb, 1, none⟩))]) (qs := []) (by kernel_rfl) (by kernel_rfl) (by simp) (fun a13 hT13 => ?_)
  refine Gz.rend T ?_
  refine Gz.seqE T (by kernel_rfl : c18.pd = .seq c18.pd.pa c18.pd.pd) ?_
  refine Gz.regionE (id := 1) (l := c18.pd.pa.po) (r := [0, 1, 2, 3, 4]) T (by kernel_rfl) (by kernel_rfl) ?_
  refine Gz.row T K (by decide) hT13 [] [0, 1, 2] [3, 4] [5] (g' := [(5, .pointer (some ⟨Rb, 1, none⟩))]) (qs := []) (by kernel_rfl) (by kernel_rfl) (by simp) (fun a14 hT14 => ?_)
  refine Gz.aload (o := opq c18.pd.pa 3) (d := 6) (ats := #[72]) (y := .tmp 5) (f := 31) T (by decide) hT14 (by kernel_rfl) (by kernel_rfl) (by decide) (by kernel_rfl) (by kernel_rfl) Try.func31 (by kernel_rfl) (by kernel_rfl) (by kernel_rfl) (by kernel_rfl) (by kernel_rfl) (lookL (hH.cl hs (by omega) (j := 1) (off := 1) (arr := #[.slice (some ⟨Sb, 0, none⟩) nn nn, .int .i64 p, .int .i64 k]) (u := .int .i64 p) rfl rfl)) (fun a15 hT15 => ?_)
  refine Gz.row T K (by decide) hT15 [] [4] [] [2] (g' := [(2, .int .i64 p)]) (qs := []) (by kernel_rfl) (by kernel_rfl) (by simp) (fun a16 hT16 => ?_)
  refine Gz.rend T ?_
  refine Gz.retE T (by kernel_rfl) ?_
  refine Gz.back1 (t := 2) (v := .int .i64 p) (d := 9) T hT16 hT11 rfl Try.func15 (by kernel_rfl) (by kernel_rfl) (by kernel_rfl) (by decide) (fun a17 hT17 => ?_)
  refine Gz.row T K (by decide) hT17 [] [4] [] [5, 0, 1] (g' := [(5, .int .i64 p), (0, .pointer (some ⟨Rb, 0, none⟩)), (1, .int .i64 x)]) (qs := []) (by kernel_rfl) (by kernel_rfl) (by simp) (fun a18 hT18 => ?_)
  refine Gz.rend T ?_
  refine Gz.seqE T (by kernel_rfl : c10.pd.pd = .seq c10.pd.pd.pa c10.pd.pd.pd) ?_
  refine Gz.seqE T (by kernel_rfl : c10.pd.pd.pa = .seq c10.pd.pd.pa.pa c10.pd.pd.pa.pd) ?_
  refine Gz.drawnE (id := 2) 3700 (l := c10.pd.pd.pa.pa.po) (sp := [4, 5, 11]) (H := [(9, .ld ⟨Rb, 0, none⟩ (.slice (some ⟨Sb, 0, none⟩) nn nn))]) (vals := [.int .i64 p, .pointer (some ⟨Rb, 0, none⟩), .pointer (some ⟨Rb, 0, none⟩), .pointer (some ⟨Rb, 2, none⟩), undef, undef, .pointer (some ⟨Rb, 0, none⟩), .pointer (some ⟨Rb, 0, none⟩), .pointer (some ⟨Rb, 0, none⟩), .slice (some ⟨Sb, 0, none⟩) nn nn, .int .i64 nn, undef]) (rds := [[5], [0], [11], [12], [13], [10, 14], [0], [16], [17], [18], [19], [15, 20]]) (bf := befs c10.pd.pd.pa.pa.po) (qs := [(some (.pointer (some ⟨Rb, 0, none⟩)) : Option Value) = some (.pointer (some ⟨Rb, 0, none⟩)), (CL Shun B w) ⟨Rb, 0, none⟩ (.slice (some ⟨Sb, 0, none⟩) nn nn)]) TD (by kernel_rfl) mixed K (by decide) hT18 (by kernel_rfl) (by kernel_rfl) (by kernel_rfl) (by kernel_rfl) (Rg.oc rfl (Rg.oc (hH.cl hs (by omega) (j := 1) (off := 0) (arr := #[.slice (some ⟨Sb, 0, none⟩) nn nn, .int .i64 p, .int .i64 k]) (u := .slice (some ⟨Sb, 0, none⟩) nn nn) rfl rfl) Rg.on)) (by kernel_rfl) (by kernel_rfl) (fun j fuel t listed a19 hsp hlf hM hun => ?_) (fun listed a19 hall hJ hun => ?_)
  rotate_left
  · have h0 := hun 4 (by kernel_rfl)
    rw [hall 4 (by decide)] at h0
    cases h0
  have hj : j = 4 ∨ j = 5 ∨ j = 11 := by simpa using hsp
  rcases hj with rfl | rfl | rfl
  rotate_left
  · exact (hM.not hun (by kernel_rfl)).elim
  · exact (hM.not hun (by kernel_rfl)).elim
  refine Goes.mono (n := 3700) ?_ (by omega)
  have hS19 := hM.sees (bf := befs c10.pd.pd.pa.pa.po) (by kernel_rfl) (o := opq c10.pd.pd.pa.pa 4) (by kernel_rfl) [13] (g' := [(13, .pointer (some ⟨Rb, 2, none⟩))]) (by kernel_rfl)
  refine Mz.enter (o := opq c10.pd.pd.pa.pa 4) (q := .func 15) (f := 15) (cc := c18) (cap := []) (args := #[.tmp 13]) (ats := #[54]) (mvG T) hS19 [.pointer (some ⟨Rb, 2, none⟩)] 7 (by kernel_rfl) (by kernel_rfl) (by decide) (by kernel_rfl) (by kernel_rfl) Try.func15 (by kernel_rfl) (by kernel_rfl) (by kernel_rfl) (by kernel_rfl) (by kernel_rfl) (fun a20 hT20 => ?_)
  refine Gz.seqE T (by kernel_rfl : c18 = .seq c18.pa c18.pd) ?_
  refine Gz.regionE (id := 0) (l := c18.pa.po) (r := [0]) T (by kernel_rfl) (by kernel_rfl) ?_
  refine Gz.row T K (by decide) hT20 [] [0] [] [0] (g' := [(0, .pointer (some ⟨Rb, 2, none⟩))]) (qs := []) (by kernel_rfl) (by kernel_rfl) (by simp) (fun a21 hT21 => ?_)
  refine Gz.rend T ?_
  refine Gz.seqE T (by kernel_rfl : c18.pd = .seq c18.pd.pa c18.pd.pd) ?_
  refine Gz.regionE (id := 1) (l := c18.pd.pa.po) (r := [0, 1, 2, 3, 4]) T (by kernel_rfl) (by kernel_rfl) ?_
  refine Gz.row T K (by decide) hT21 [] [0, 1, 2] [3, 4] [5] (g' := [(5, .pointer (some ⟨Rb, 2, none⟩))]) (qs := []) (by kernel_rfl) (by kernel_rfl) (by simp) (fun a22 hT22 => ?_)
  refine Gz.aload (o := opq c18.pd.pa 3) (d := 6) (ats := #[72]) (y := .tmp 5) (f := 31) T (by decide) hT22 (by kernel_rfl) (by kernel_rfl) (by decide) (by kernel_rfl) (by kernel_rfl) Try.func31 (by kernel_rfl) (by kernel_rfl) (by kernel_rfl) (by kernel_rfl) (by kernel_rfl) (lookL (hH.cl hs (by omega) (j := 1) (off := 2) (arr := #[.slice (some ⟨Sb, 0, none⟩) nn nn, .int .i64 p, .int .i64 k]) (u := .int .i64 k) rfl rfl)) (fun a23 hT23 => ?_)
  refine Gz.row T K (by decide) hT23 [] [4] [] [2] (g' := [(2, .int .i64 k)]) (qs := []) (by kernel_rfl) (by kernel_rfl) (by simp) (fun a24 hT24 => ?_)
  refine Gz.rend T ?_
  refine Gz.retE T (by kernel_rfl) ?_
  refine Gz.backM (t := 2) (v := .int .i64 k) (d := 14) T hT24 rfl Try.func15 (by kernel_rfl) (by kernel_rfl) (by kernel_rfl) ?_
  refine Gz.moreE (sp0 := [4, 5, 11]) (i := 4) (l := c10.pd.pd.pa.pa.po) (n := 41) (g := [(5, .int .i64 p), (0, .pointer (some ⟨Rb, 0, none⟩)), (1, .int .i64 x)]) (vals := [.int .i64 p, .pointer (some ⟨Rb, 0, none⟩), .pointer (some ⟨Rb, 0, none⟩), .pointer (some ⟨Rb, 2, none⟩), undef, undef, .pointer (some ⟨Rb, 0, none⟩), .pointer (some ⟨Rb, 0, none⟩), .pointer (some ⟨Rb, 0, none⟩), .slice (some ⟨Sb, 0, none⟩) nn nn, .int .i64 nn, undef]) (vals' := [.int .i64 p, .pointer (some ⟨Rb, 0, none⟩), .pointer (some ⟨Rb, 0, none⟩), .pointer (some ⟨Rb, 2, none⟩), .int .i64 k, .int .i64 nn, .pointer (some ⟨Rb, 0, none⟩), .pointer (some ⟨Rb, 0, none⟩), .pointer (some ⟨Rb, 0, none⟩), .slice (some ⟨Sb, 0, none⟩) nn nn, .int .i64 nn, .bool true]) (H := [(5, .val (.int .i64 nn)), (9, .ld ⟨Rb, 0, none⟩ (.slice (some ⟨Sb, 0, none⟩) nn nn)), (11, .val (.bool true))]) (bf := befs c10.pd.pd.pa.pa.po) (rds := [[5], [0], [11], [12], [13], [10, 14], [0], [16], [17], [18], [19], [15, 20]]) (qs := [(some (.int .i64 (IntKind.i64.wrap (p - k))) : Option Value) = some (.int .i64 nn), (some (.pointer (some ⟨Rb, 0, none⟩)) : Option Value) = some (.pointer (some ⟨Rb, 0, none⟩)), (CL Shun B w) ⟨Rb, 0, none⟩ (.slice (some ⟨Sb, 0, none⟩) nn nn), (some (.bool (decide ((nn : Int) = nn))) : Option Value) = some (.bool true)]) (ds := []) (u := .int .i64 k) [(4, .int .i64 k), (5, .int .i64 nn), (11, .bool true)] 3400 TD K (by decide) (by kernel_rfl) (by kernel_rfl) (by kernel_rfl) (by kernel_rfl) (Rg.oc (n_subE (by omega) (by omega)) (Rg.oc rfl (Rg.oc (hH.cl hs (by omega) (j := 1) (off := 0) (arr := #[.slice (some ⟨Sb, 0, none⟩) nn nn, .int .i64 p, .int .i64 k]) (u := .slice (some ⟨Sb, 0, none⟩) nn nn) rfl rfl) (Rg.oc (congrArg some (n_same rfl)) Rg.on)))) (by kernel_rfl) hM hun hlf (o := opq c10.pd.pd.pa.pa 4) (by kernel_rfl) (by rw [show (opq c10.pd.pd.pa.pa 4).dst = some 14 by kernel_rfl]) (fun _ _ => by kernel_rfl) (by kernel_rfl) (by kernel_rfl) (by kernel_rfl) (fun listed a25 hall hJ => ?_)
  have hT25 := hJ.finE hall [5, 0, 1, 21] (g' := [(5, .int .i64 p), (0, .pointer (some ⟨Rb, 0, none⟩)), (1, .int .i64 x), (21, .bool true)]) (by kernel_rfl)
  refine Gz.rend T ?_
  refine Gz.condTE (q := .tmp 21) (y := c10.pd.pd.pa.pd.pa) (z := c10.pd.pd.pa.pd.pd) T (by kernel_rfl) hT25 (by kernel_rfl) ?_
  refine Gz.seqE T (by kernel_rfl : c10.pd.pd.pa.pd.pa = .seq c10.pd.pd.pa.pd.pa.pa c10.pd.pd.pa.pd.pa.pd) ?_
  refine Gz.regionE (id := 3) (l := c10.pd.pd.pa.pd.pa.pa.po) (r := [0]) T (by kernel_rfl) (by kernel_rfl) ?_
  refine Gz.row T K (by decide) hT25 [] [0] [] [4] (g' := [(4, .bool false)]) (qs := []) (by kernel_rfl) (by kernel_rfl) (by simp) (fun a26 hT26 => ?_)
  refine Gz.rend T ?_
  refine Gz.retE T (by kernel_rfl) ?_
  refine Gz.back1 (t := 4) (v := .bool false) (d := 30) T hT26 hT8 rfl Try.func8 (by kernel_rfl) (by kernel_rfl) (by kernel_rfl) (by decide) (fun a27 hT27 => ?_)
  refine Gz.row T K (by decide) hT27 [] [3] [4] [31, 30, 11, 6, 8, 20, 21, 22] (g' := [(31, .pointer (some ⟨tb, 1, none⟩)), (30, .bool false), (11, .pointer (some ⟨tb, 0, none⟩)), (6, .pointer (some ⟨Rb, 0, none⟩)), (8, .slice oa i oc), (20, .slice (some ⟨lb, lz, none⟩) N cap), (21, .int .i64 N), (22, .int .i64 i)]) (qs := []) (by kernel_rfl) (by kernel_rfl) (by simp) (fun a28 hT28 => ?_)
  refine Gz.hput (K' := [(tb, .cells #[.int .i64 0, .bool false, .int .i64 0] 29), (Rb, .cells #[.slice (some ⟨Sb, 0, none⟩) nn nn, .int .i64 p, .int .i64 k] 56), (Sb, .cells arr 3)]) (o := opq c205.pd.pd.pd.pd.pa.pd.pa.pa.pd.pd.pa.pa.pd.pd.pa.pd.pa 4) (by decide) hT28 hH hs (by omega) (X := 4) (ty := 29) (y := .tmp 31) (z := .tmp 30) (ti := (Try.prog.info? 4).getD default) (j := 0) (bb := tb) (off := 1) (arr := #[.int .i64 0, .bool false, .int .i64 0]) (u := .bool false) (u0 := .bool false) (by kernel_rfl) (by kernel_rfl) (by kernel_rfl) (by kernel_rfl) (by kernel_rfl) (by kernel_rfl) rfl rfl (by kernel_rfl) (by kernel_rfl) rfl rfl rfl (fun w hH => ?_)
  have K : Ken Try.prog AtRel (DL Shun B W) (CL Shun B w) w := kenL (atRel_refl w)
  refine Gz.rend T ?_
  refine Gz.seqE T (by kernel_rfl : c205.pd.pd.pd.pd.pa.pd.pa.pa.pd.pd.pa.pa.pd.pd.pd = .seq c205.pd.pd.pd.pd.pa.pd.pa.pa.pd.pd.pa.pa.pd.pd.pd.pa c205.pd.pd.pd.pd.pa.pd.pa.pa.pd.pd.pa.pa.pd.pd.pd.pd) ?_
  refine Gz.regionE (id := 12) (l := c205.pd.pd.pd.pd.pa.pd.pa.pa.pd.pd.pa.pa.pd.pd.pd.pa.po) (r := [0, 1, 2, 3]) T (by kernel_rfl) (by kernel_rfl) ?_
  have h203QT := hb203.live [0, 1] (g' := [(0, .int .i64 nn), (1, .slice (some ⟨lb, lz, none⟩) N cap)]) (by kernel_rfl)
  have h205QT := hT28.live [6, 8, 11, 20, 21, 22] (g' := [(6, .pointer (some ⟨Rb, 0, none⟩)), (8, .slice oa i oc), (11, .pointer (some ⟨tb, 0, none⟩)), (20, .slice (some ⟨lb, lz, none⟩) N cap), (21, .int .i64 N), (22, .int .i64 i)]) (by kernel_rfl)
  exact Goes.stop fun w₁ h₁ => ⟨tb, htb, hH.at h₁, b203, a28, h203QT, h205QT, rfl⟩
theorem Q_put (h : QHead nn N cap la Rb oa oc i g) (hH : Hp w₀ lo bse (3 * i) ([(Rb, .cells #[.slice (some ⟨Sb, 0, none⟩) nn nn, .int .i64 p, .int .i64 k] 56), (Sb, .cells arr 3)]) 29 3 (.slice oa i oc) i xs w) (hs : ∀ ad : Addr, lo ≤ ad.block → ¬ Shun (.cell ad)) (hB : w₀.heap.size + (3 * N + 3) ≤ B) (hN : N ≤ 1048576) (hp : p ≤ i) (hk : k ≤ p) (hpn : p ≤ k + nn) (hn1 : 0 < nn) (hi : i < N) (hla : la = some ⟨lb, lz, none⟩) (hz : CL Shun B w ⟨lb, i + lz, none⟩ (.int .i64 x)) (hx : 0 ≤ x) (hf : p < k + nn) (harr : arr.size = nn) :
    Goes Try.prog true AtRel (DL Shun B W) (fun g w => ∃ tb, bse ≤ tb ∧ Hp w₀ lo bse (3 * i + 1) ([(tb, .cells #[.int .i64 0, .bool true, .int .i64 0] 29), (Rb, .cells #[.slice (some ⟨Sb, 0, none⟩) nn nn, .int .i64 (((p + 1 : Nat) : Int)), .int .i64 k] 56), (Sb, .cells (arr.setIfInBounds (p % nn) (.int .i64 x)) 3)]) 29 3 (.slice oa i oc) i xs w ∧ QT nn N cap la Rb tb oa oc i g) 4000 g w := by
  obtain ⟨b203, b205, hb203, hb205, rfl⟩ := h
  subst hla
  have TD : Tmd AtRel (DL Shun B W) := tmdL
  have T := TD.toTms
  have K : Ken Try.prog AtRel (DL Shun B W) (CL Shun B w) w := kenL (atRel_refl w)
  refine Gz.seqE T (by kernel_rfl : c205.pd.pd.pd.pd.pa.pd.pa.pa = .seq c205.pd.pd.pd.pd.pa.pd.pa.pa.pa c205.pd.pd.pd.pd.pa.pd.pa.pa.pd) ?_
  refine Gz.regionE (id := 6) (l := c205.pd.pd.pd.pd.pa.pd.pa.pa.pa.po) (r := [0]) T (by kernel_rfl) (by kernel_rfl) ?_
  refine Gz.hint (o := opq c205.pd.pd.pd.pd.pa.pd.pa.pa.pa 0) (d := 23) T (by decide) hb205 (v := .bool true) (by kernel_rfl) (by kernel_rfl) (by decide) (by kernel_rfl) (by kernel_rfl) (congrArg some (n_lt hi)) (fun a1 hT1 => ?_)
  refine Gz.rend T ?_
  refine Gz.seqE T (by kernel_rfl : c205.pd.pd.pd.pd.pa.pd.pa.pa.pd = .seq c205.pd.pd.pd.pd.pa.pd.pa.pa.pd.pa c205.pd.pd.pd.pd.pa.pd.pa.pa.pd.pd) ?_
  refine Gz.condTE (q := .tmp 23) (y := c205.pd.pd.pd.pd.pa.pd.pa.pa.pd.pa.pa) (z := c205.pd.pd.pd.pd.pa.pd.pa.pa.pd.pa.pd) T (by kernel_rfl) hT1 (by kernel_rfl) ?_
  refine Gz.skipE T (by kernel_rfl) ?_
  refine Gz.seqE T (by kernel_rfl : c205.pd.pd.pd.pd.pa.pd.pa.pa.pd.pd = .seq c205.pd.pd.pd.pd.pa.pd.pa.pa.pd.pd.pa c205.pd.pd.pd.pd.pa.pd.pa.pa.pd.pd.pd) ?_
  refine Gz.blockE (id := 1) (y := c205.pd.pd.pd.pd.pa.pd.pa.pa.pd.pd.pa.pa) T (by kernel_rfl) ?_
  refine Gz.seqE T (by kernel_rfl : c205.pd.pd.pd.pd.pa.pd.pa.pa.pd.pd.pa.pa = .seq c205.pd.pd.pd.pd.pa.pd.pa.pa.pd.pd.pa.pa.pa c205.pd.pd.pd.pd.pa.pd.pa.pa.pd.pd.pa.pa.pd) ?_
  refine Gz.regionE (id := 7) (l := c205.pd.pd.pd.pd.pa.pd.pa.pa.pd.pd.pa.pa.pa.po) (r := [0, 1, 2]) T (by kernel_rfl) (by kernel_rfl) ?_
  refine Gz.hint (o := opq c205.pd.pd.pd.pd.pa.pd.pa.pa.pd.pd.pa.pa.pa 0) (d := 24) T (by decide) hT1 (v := .pointer (some ⟨lb, i + lz, none⟩)) (by kernel_rfl) (by kernel_rfl) (by decide) (by kernel_rfl) (by kernel_rfl) ((n_idx hi)) (fun a2 hT2 => ?_)
  refine Gz.load (o := opq c205.pd.pd.pd.pd.pa.pd.pa.pa.pd.pd.pa.pa.pa 1) (d := 25) (X := 3) (y := .tmp 24) (ad := ⟨lb, i + lz, none⟩) T K (by decide) hT2 (v := .int .i64 x) (by kernel_rfl) (by kernel_rfl) (by decide) (by kernel_rfl) (by kernel_rfl) (by kernel_rfl) (by kernel_rfl) (by kernel_rfl) hz (fun a3 hT3 => ?_)
  refine Gz.row T K (by decide) hT3 [] [2] [] [10, 6, 8, 20, 21, 22] (g' := [(10, .int .i64 x), (6, .pointer (some ⟨Rb, 0, none⟩)), (8, .slice oa i oc), (20, .slice (some ⟨lb, lz, none⟩) N cap), (21, .int .i64 N), (22, .int .i64 i)]) (qs := []) (by kernel_rfl) (by kernel_rfl) (by simp) (fun a4 hT4 => ?_)
  refine Gz.rend T ?_
  refine Gz.seqE T (by kernel_rfl : c205.pd.pd.pd.pd.pa.pd.pa.pa.pd.pd.pa.pa.pd = .seq c205.pd.pd.pd.pd.pa.pd.pa.pa.pd.pd.pa.pa.pd.pa c205.pd.pd.pd.pd.pa.pd.pa.pa.pd.pd.pa.pa.pd.pd) ?_
  refine Gz.regionE (id := 8) (l := c205.pd.pd.pd.pd.pa.pd.pa.pa.pd.pd.pa.pa.pd.pa.po) (r := [0]) T (by kernel_rfl) (by kernel_rfl) ?_
  refine Gz.hmk (o := opq c205.pd.pd.pd.pd.pa.pd.pa.pa.pd.pd.pa.pa.pd.pa 0) (d := 11) (by decide) hT4 hH (by kernel_rfl) (by kernel_rfl) (by decide) (by kernel_rfl) (fun b => .pointer (some ⟨b, 0, none⟩)) (.cells #[.int .i64 0, .bool false, .int .i64 0] 29) (op_alloc (T := 29) (ti := (Try.prog.info? 29).getD default) (z := .agg #[.int .i64 0, .bool false, .int .i64 0]) (by kernel_rfl) (by kernel_rfl) (by kernel_rfl)) (fun a5 w tb htb hT5 hH => ?_)
  replace hT5 : Tm a5 48 ((11, .pointer (some ⟨tb, 0, none⟩)) :: [(10, .int .i64 x), (6, .pointer (some ⟨Rb, 0, none⟩)), (8, .slice oa i oc), (20, .slice (some ⟨lb, lz, none⟩) N cap), (21, .int .i64 N), (22, .int .i64 i)]) [] := hT5
  have K : Ken Try.prog AtRel (DL Shun B W) (CL Shun B w) w := kenL (atRel_refl w)
  refine Gz.rend T ?_
  refine Gz.seqE T (by kernel_rfl : c205.pd.pd.pd.pd.pa.pd.pa.pa.pd.pd.pa.pa.pd.pd = .seq c205.pd.pd.pd.pd.pa.pd.pa.pa.pd.pd.pa.pa.pd.pd.pa c205.pd.pd.pd.pd.pa.pd.pa.pa.pd.pd.pa.pa.pd.pd.pd) ?_
  refine Gz.seqE T (by kernel_rfl : c205.pd.pd.pd.pd.pa.pd.pa.pa.pd.pd.pa.pa.pd.pd.pa = .seq c205.pd.pd.pd.pd.pa.pd.pa.pa.pd.pd.pa.pa.pd.pd.pa.pa c205.pd.pd.pd.pd.pa.pd.pa.pa.pd.pd.pa.pa.pd.pd.pa.pd) ?_
  refine Gz.regionE (id := 9) (l := c205.pd.pd.pd.pd.pa.pd.pa.pa.pd.pd.pa.pa.pd.pd.pa.pa.po) (r := [0, 1]) T (by kernel_rfl) (by kernel_rfl) ?_
  refine Gz.row T K (by decide) hT5 [] [0] [1] [26, 11, 10, 6, 8, 20, 21, 22] (g' := [(26, .int .i64 x), (11, .pointer (some ⟨tb, 0, none⟩)), (10, .int .i64 x), (6, .pointer (some ⟨Rb, 0, none⟩)), (8, .slice oa i oc), (20, .slice (some ⟨lb, lz, none⟩) N cap), (21, .int .i64 N), (22, .int .i64 i)]) (qs := []) (by kernel_rfl) (by kernel_rfl) (by simp) (fun a6 hT6 => ?_)
  refine Gz.hint (o := opq c205.pd.pd.pd.pd.pa.pd.pa.pa.pd.pd.pa.pa.pd.pd.pa.pa 1) (d := 27) T (by decide) hT6 (v := .bool true) (by kernel_rfl) (by kernel_rfl) (by decide) (by kernel_rfl) (by kernel_rfl) (congrArg some (n_geq hx)) (fun a7 hT7 => ?_)
  refine Gz.rend T ?_
  refine Gz.condTE (q := .tmp 27) (y := c205.pd.pd.pd.pd.pa.pd.pa.pa.pd.pd.pa.pa.pd.pd.pa.pd.pa) (z := c205.pd.pd.pd.pd.pa.pd.pa.pa.pd.pd.pa.pa.pd.pd.pa.pd.pd) T (by kernel_rfl) hT7 (by kernel_rfl) ?_
  refine Gz.regionE (id := 10) (l := c205.pd.pd.pd.pd.pa.pd.pa.pa.pd.pd.pa.pa.pd.pd.pa.pd.pa.po) (r := [0, 1, 2, 3, 4]) T (by kernel_rfl) (by kernel_rfl) ?_
  refine Gz.row T K (by decide) hT7 [] [0, 1] [2, 3, 4] [29, 28, 11, 6, 8, 20, 21, 22] (g' := [(29, .int .i64 x), (28, .pointer (some ⟨Rb, 0, none⟩)), (11, .pointer (some ⟨tb, 0, none⟩)), (6, .pointer (some ⟨Rb, 0, none⟩)), (8, .slice oa i oc), (20, .slice (some ⟨lb, lz, none⟩) N cap), (21, .int .i64 N), (22, .int .i64 i)]) (qs := []) (by kernel_rfl) (by kernel_rfl) (by simp) (fun a8 hT8 => ?_)
  refine Mz.enter (o := opq c205.pd.pd.pd.pd.pa.pd.pa.pa.pd.pd.pa.pa.pd.pd.pa.pd.pa 2) (q := .func 8) (f := 8) (cc := c10) (cap := []) (args := #[.tmp 28, .tmp 29]) (ats := #[33, 3]) (mvG T) hT8 [.pointer (some ⟨Rb, 0, none⟩), .int .i64 x] 41 (by kernel_rfl) (by kernel_rfl) (by decide) (by kernel_rfl) (by kernel_rfl) Try.func8 (by kernel_rfl) (by kernel_rfl) (by kernel_rfl) (by kernel_rfl) (by kernel_rfl) (fun a9 hT9 => ?_)
  refine Gz.seqE T (by kernel_rfl : c10 = .seq c10.pa c10.pd) ?_
  refine Gz.regionE (id := 0) (l := c10.pa.po) (r := [0]) T (by kernel_rfl) (by kernel_rfl) ?_
  refine Gz.row T K (by decide) hT9 [] [0] [] [0, 1] (g' := [(0, .pointer (some ⟨Rb, 0, none⟩)), (1, .int .i64 x)]) (qs := []) (by kernel_rfl) (by kernel_rfl) (by simp) (fun a10 hT10 => ?_)
  refine Gz.rend T ?_
  refine Gz.seqE T (by kernel_rfl : c10.pd = .seq c10.pd.pa c10.pd.pd) ?_
  refine Gz.regionE (id := 1) (l := c10.pd.pa.po) (r := [0, 1, 2, 3, 4]) T (by kernel_rfl) (by kernel_rfl) ?_
  refine Gz.row T K (by decide) hT10 [] [0, 1, 2] [3, 4] [8, 0, 1] (g' := [(8, .pointer (some ⟨Rb, 1, none⟩)), (0, .pointer (some ⟨Rb, 0, none⟩)), (1, .int .i64 x)]) (qs := []) (by kernel_rfl) (by kernel_rfl) (by simp) (fun a11 hT11 => ?_)
  refine Mz.enter (o := opq c10.pd.pa 3) (q := .func 15) (f := 15) (cc := c18) (cap := []) (args := #[.tmp 8]) (ats := #[54]) (mvG T) hT11 [.pointer (some ⟨Rb, 1, none⟩)] 7 (by kernel_rfl) (by kernel_rfl) (by decide) (by kernel_rfl) (by kernel_rfl) Try.func15 (by kernel_rfl) (by kernel_rfl) (by kernel_rfl) (by kernel_rfl) (by kernel_rfl) (fun a12 hT12 => ?_)
  refine Gz.seqE T (by kernel_rfl : c18 = .seq c18.pa c18.pd) ?_
  refine Gz.regionE (id := 0) (l := c18.pa.po) (r := [0]) T (by kernel_rfl) (by kernel_rfl) ?_
  refine Gz.row T K (by decide) hT12 [] [0] [] [0] (g' := [(0, .pointer (some ⟨Rb, 1, none⟩))]) (qs := []) (by kernel_rfl) (by kernel_rfl) (by simp) (fun a13 hT13 => ?_)
  refine Gz.rend T ?_
  refine Gz.seqE T (by kernel_rfl : c18.pd = .seq c18.pd.pa c18.pd.pd) ?_
  refine Gz.regionE (id := 1) (l := c18.pd.pa.po) (r := [0, 1, 2, 3, 4]) T (by kernel_rfl) (by kernel_rfl) ?_
  refine Gz.row T K (by decide) hT13 [] [0, 1, 2] [3, 4] [5] (g' := [(5, .pointer (some ⟨Rb, 1, none⟩))]) (qs := []) (by kernel_rfl) (by kernel_rfl) (by simp) (fun a14 hT14 => ?_)
  refine Gz.aload (o := opq c18.pd.pa 3) (d := 6) (ats := #[72]) (y := .tmp 5) (f := 31) T (by decide) hT14 (by kernel_rfl) (by kernel_rfl) (by decide) (by kernel_rfl) (by kernel_rfl) Try.func31 (by kernel_rfl) (by kernel_rfl) (by kernel_rfl) (by kernel_rfl) (by kernel_rfl) (lookL (hH.cl hs (by omega) (j := 1) (off := 1) (arr := #[.slice (some ⟨Sb, 0, none⟩) nn nn, .int .i64 p, .int .i64 k]) (u := .int .i64 p) rfl rfl)) (fun a15 hT15 => ?_)
  refine Gz.row T K (by decide) hT15 [] [4] [] [2] (g' := [(2, .int .i64 p)]) (qs := []) (by kernel_rfl) (by kernel_rfl) (by simp) (fun a16 hT16 => ?_)
  refine Gz.rend T ?_
  refine Gz.retE T (by kernel_rfl) ?_
  refine Gz.back1 (t := 2) (v := .int .i64 p) (d := 9) T hT16 hT11 rfl Try.func15 (by kernel_rfl) (by kernel_rfl) (by kernel_rfl) (by decide) (fun a17 hT17 => ?_)
  refine Gz.row T K (by decide) hT17 [] [4] [] [5, 0, 1] (g' := [(5, .int .i64 p), (0, .pointer (some ⟨Rb, 0, none⟩)), (1, .int .i64 x)]) (qs := []) (by kernel_rfl) (by kernel_rfl) (by simp) (fun a18 hT18 => ?_)
  refine Gz.rend T ?_
  refine Gz.seqE T (by kernel_rfl : c10.pd.pd = .seq c10.pd.pd.pa c10.pd.pd.pd) ?_
  refine Gz.seqE T (by kernel_rfl : c10.pd.pd.pa = .seq c10.pd.pd.pa.pa c10.pd.pd.pa.pd) ?_
  refine Gz.drawnE (id := 2) 3700 (l := c10.pd.pd.pa.pa.po) (sp := [4, 5, 11]) (H := [(9, .ld ⟨Rb, 0, none⟩ (.slice (some ⟨Sb, 0, none⟩) nn nn))]) (vals := [.int .i64 p, .pointer (some ⟨Rb, 0, none⟩), .pointer (some ⟨Rb, 0, none⟩), .pointer (some ⟨Rb, 2, none⟩), undef, undef, .pointer (some ⟨Rb, 0, none⟩), .pointer (some ⟨Rb, 0, none⟩), .pointer (some ⟨Rb, 0, none⟩), .slice (some ⟨Sb, 0, none⟩) nn nn, .int .i64 nn, undef]) (rds := [[5], [0], [11], [12], [13], [10, 14], [0], [16], [17], [18], [19], [15, 20]]) (bf := befs c10.pd.pd.pa.pa.po) (qs := [(some (.pointer (some ⟨Rb, 0, none⟩)) : Option Value) = some (.pointer (some ⟨Rb, 0, none⟩)), (CL Shun B w) ⟨Rb, 0, none⟩ (.slice (some ⟨Sb, 0, none⟩) nn nn)]) TD (by kernel_rfl) mixed K (by decide) hT18 (by kernel_rfl) (by kernel_rfl) (by kernel_rfl) (by kernel_rfl) (Rg.oc rfl (Rg.oc (hH.cl hs (by omega) (j := 1) (off := 0) (arr := #[.slice (some ⟨Sb, 0, none⟩) nn nn, .int .i64 p, .int .i64 k]) (u := .slice (some ⟨Sb, 0, none⟩) nn nn) rfl rfl) Rg.on)) (by kernel_rfl) (by kernel_rfl) (fun j fuel t listed a19 hsp hlf hM hun => ?_) (fun listed a19 hall hJ hun => ?_)
  rotate_left
  · have h0 := hun 4 (by kernel_rfl)
    rw [hall 4 (by decide)] at h0
    cases h0
  have hj : j = 4 ∨ j = 5 ∨ j = 11 := by simpa using hsp
  rcases hj with rfl | rfl | rfl
  rotate_left
  · exact (hM.not hun (by kernel_rfl)).elim
  · exact (hM.not hun (by kernel_rfl)).elim
  refine Goes.mono (n := 3700) ?_ (by omega)
  have hS19 := hM.sees (bf := befs c10.pd.pd.pa.pa.po) (by kernel_rfl) (o := opq c10.pd.pd.pa.pa 4) (by kernel_rfl) [13] (g' := [(13, .pointer (some ⟨Rb, 2, none⟩))]) (by kernel_rfl)
  refine Mz.enter (o := opq c10.pd.pd.pa.pa 4) (q := .func 15) (f := 15) (cc := c18) (cap := []) (args := #[.tmp 13]) (ats := #[54]) (mvG T) hS19 [.pointer (some ⟨Rb, 2, none⟩)] 7 (by kernel_rfl) (by kernel_rfl) (by decide) (by kernel_rfl) (by kernel_rfl) Try.func15 (by kernel_rfl) (by kernel_rfl) (by kernel_rfl) (by kernel_rfl) (by kernel_rfl) (fun a20 hT20 => ?_)
  refine Gz.seqE T (by kernel_rfl : c18 = .seq c18.pa c18.pd) ?_
  refine Gz.regionE (id := 0) (l := c18.pa.po) (r := [0]) T (by kernel_rfl) (by kernel_rfl) ?_
  refine Gz.row T K (by decide) hT20 [] [0] [] [0] (g' := [(0, .pointer (some ⟨Rb, 2, none⟩))]) (qs := []) (by kernel_rfl) (by kernel_rfl) (by simp) (fun a21 hT21 => ?_)
  refine Gz.rend T ?_
  refine Gz.seqE T (by kernel_rfl : c18.pd = .seq c18.pd.pa c18.pd.pd) ?_
  refine Gz.regionE (id := 1) (l := c18.pd.pa.po) (r := [0, 1, 2, 3, 4]) T (by kernel_rfl) (by kernel_rfl) ?_
  refine Gz.row T K (by decide) hT21 [] [0, 1, 2] [3, 4] [5] (g' := [(5, .pointer (some ⟨Rb, 2, none⟩))]) (qs := []) (by kernel_rfl) (by kernel_rfl) (by simp) (fun a22 hT22 => ?_)
  refine Gz.aload (o := opq c18.pd.pa 3) (d := 6) (ats := #[72]) (y := .tmp 5) (f := 31) T (by decide) hT22 (by kernel_rfl) (by kernel_rfl) (by decide) (by kernel_rfl) (by kernel_rfl) Try.func31 (by kernel_rfl) (by kernel_rfl) (by kernel_rfl) (by kernel_rfl) (by kernel_rfl) (lookL (hH.cl hs (by omega) (j := 1) (off := 2) (arr := #[.slice (some ⟨Sb, 0, none⟩) nn nn, .int .i64 p, .int .i64 k]) (u := .int .i64 k) rfl rfl)) (fun a23 hT23 => ?_)
  refine Gz.row T K (by decide) hT23 [] [4] [] [2] (g' := [(2, .int .i64 k)]) (qs := []) (by kernel_rfl) (by kernel_rfl) (by simp) (fun a24 hT24 => ?_)
  refine Gz.rend T ?_
  refine Gz.retE T (by kernel_rfl) ?_
  refine Gz.backM (t := 2) (v := .int .i64 k) (d := 14) T hT24 rfl Try.func15 (by kernel_rfl) (by kernel_rfl) (by kernel_rfl) ?_
  refine Gz.moreE (sp0 := [4, 5, 11]) (i := 4) (l := c10.pd.pd.pa.pa.po) (n := 41) (g := [(5, .int .i64 p), (0, .pointer (some ⟨Rb, 0, none⟩)), (1, .int .i64 x)]) (vals := [.int .i64 p, .pointer (some ⟨Rb, 0, none⟩), .pointer (some ⟨Rb, 0, none⟩), .pointer (some ⟨Rb, 2, none⟩), undef, undef, .pointer (some ⟨Rb, 0, none⟩), .pointer (some ⟨Rb, 0, none⟩), .pointer (some ⟨Rb, 0, none⟩), .slice (some ⟨Sb, 0, none⟩) nn nn, .int .i64 nn, undef]) (vals' := [.int .i64 p, .pointer (some ⟨Rb, 0, none⟩), .pointer (some ⟨Rb, 0, none⟩), .pointer (some ⟨Rb, 2, none⟩), .int .i64 k, .int .i64 (((p - k : Nat) : Int)), .pointer (some ⟨Rb, 0, none⟩), .pointer (some ⟨Rb, 0, none⟩), .pointer (some ⟨Rb, 0, none⟩), .slice (some ⟨Sb, 0, none⟩) nn nn, .int .i64 nn, .bool false]) (H := [(5, .val (.int .i64 (((p - k : Nat) : Int)))), (9, .ld ⟨Rb, 0, none⟩ (.slice (some ⟨Sb, 0, none⟩) nn nn)), (11, .val (.bool false))]) (bf := befs c10.pd.pd.pa.pa.po) (rds := [[5], [0], [11], [12], [13], [10, 14], [0], [16], [17], [18], [19], [15, 20]]) (qs := [(some (.int .i64 (IntKind.i64.wrap (p - k))) : Option Value) = some (.int .i64 (((p - k : Nat) : Int))), (some (.pointer (some ⟨Rb, 0, none⟩)) : Option Value) = some (.pointer (some ⟨Rb, 0, none⟩)), (CL Shun B w) ⟨Rb, 0, none⟩ (.slice (some ⟨Sb, 0, none⟩) nn nn), (some (.bool (decide ((((p - k : Nat) : Int) : Int) = nn))) : Option Value) = some (.bool false)]) (ds := []) (u := .int .i64 k) [(4, .int .i64 k), (5, .int .i64 (((p - k : Nat) : Int))), (11, .bool false)] 3400 TD K (by decide) (by kernel_rfl) (by kernel_rfl) (by kernel_rfl) (by kernel_rfl) (Rg.oc (n_subN hk (by omega)) (Rg.oc rfl (Rg.oc (hH.cl hs (by omega) (j := 1) (off := 0) (arr := #[.slice (some ⟨Sb, 0, none⟩) nn nn, .int .i64 p, .int .i64 k]) (u := .slice (some ⟨Sb, 0, none⟩) nn nn) rfl rfl) (Rg.oc (congrArg some (n_other (by omega))) Rg.on)))) (by kernel_rfl) hM hun hlf (o := opq c10.pd.pd.pa.pa 4) (by kernel_rfl) (by rw [show (opq c10.pd.pd.pa.pa 4).dst = some 14 by kernel_rfl]) (fun _ _ => by kernel_rfl) (by kernel_rfl) (by kernel_rfl) (by kernel_rfl) (fun listed a25 hall hJ => ?_)
  have hT25 := hJ.finE hall [5, 0, 1, 21] (g' := [(5, .int .i64 p), (0, .pointer (some ⟨Rb, 0, none⟩)), (1, .int .i64 x), (21, .bool false)]) (by kernel_rfl)
  refine Gz.rend T ?_
  refine Gz.condFE (q := .tmp 21) (y := c10.pd.pd.pa.pd.pa) (z := c10.pd.pd.pa.pd.pd) T (by kernel_rfl) hT25 (by kernel_rfl) ?_
  refine Gz.skipE T (by kernel_rfl) ?_
  refine Gz.seqE T (by kernel_rfl : c10.pd.pd.pd = .seq c10.pd.pd.pd.pa c10.pd.pd.pd.pd) ?_
  have hT26 := hT25.live [5, 0, 1] (g' := [(5, .int .i64 p), (0, .pointer (some ⟨Rb, 0, none⟩)), (1, .int .i64 x)]) (by kernel_rfl)
  refine Gz.drawnE (id := 4) 3100 (l := c10.pd.pd.pd.pa.po) (sp := [13]) (H := [(3, .ld ⟨Rb, 0, none⟩ (.slice (some ⟨Sb, 0, none⟩) nn nn)), (8, .ld ⟨Rb, 0, none⟩ (.slice (some ⟨Sb, 0, none⟩) nn nn)), (10, .val (.int .i64 (((p % nn : Nat) : Int)))), (12, .val (.pointer (some ⟨Sb, p % nn, none⟩)))]) (vals := [.pointer (some ⟨Rb, 0, none⟩), .pointer (some ⟨Rb, 0, none⟩), .pointer (some ⟨Rb, 0, none⟩), .slice (some ⟨Sb, 0, none⟩) nn nn, .int .i64 p, .pointer (some ⟨Rb, 0, none⟩), .pointer (some ⟨Rb, 0, none⟩), .pointer (some ⟨Rb, 0, none⟩), .slice (some ⟨Sb, 0, none⟩) nn nn, .int .i64 nn, .int .i64 (((p % nn : Nat) : Int)), .int .i64 x, .pointer (some ⟨Sb, p % nn, none⟩), undef]) (rds := [[0], [22], [23], [24], [5], [0], [27], [28], [29], [30], [26, 31], [1], [25, 32], [34, 33]]) (bf := befs c10.pd.pd.pd.pa.po) (qs := [(some (.pointer (some ⟨Rb, 0, none⟩)) : Option Value) = some (.pointer (some ⟨Rb, 0, none⟩)), (CL Shun B w) ⟨Rb, 0, none⟩ (.slice (some ⟨Sb, 0, none⟩) nn nn), (some (.pointer (some ⟨Rb, 0, none⟩)) : Option Value) = some (.pointer (some ⟨Rb, 0, none⟩)), (CL Shun B w) ⟨Rb, 0, none⟩ (.slice (some ⟨Sb, 0, none⟩) nn nn), (if (nn : Int) = 0 then none else some (.int .i64 (Int.tmod (p) (nn))) : Option Value) = some (.int .i64 (((p % nn : Nat) : Int))), (if 0 ≤ (((p % nn : Nat) : Int) : Int) ∧ (((p % nn : Nat) : Int) : Int) < ((nn : Nat) : Int) then some (.pointer (some ⟨Sb, Int.toNat (((p % nn : Nat) : Int)) + 0, none⟩)) else none : Option Value) = some (.pointer (some ⟨Sb, p % nn, none⟩))]) TD (by kernel_rfl) mixed K (by decide) hT26 (by kernel_rfl) (by kernel_rfl) (by kernel_rfl) (by kernel_rfl) (Rg.oc rfl (Rg.oc (hH.cl hs (by omega) (j := 1) (off := 0) (arr := #[.slice (some ⟨Sb, 0, none⟩) nn nn, .int .i64 p, .int .i64 k]) (u := .slice (some ⟨Sb, 0, none⟩) nn nn) rfl rfl) (Rg.oc rfl (Rg.oc (hH.cl hs (by omega) (j := 1) (off := 0) (arr := #[.slice (some ⟨Sb, 0, none⟩) nn nn, .int .i64 p, .int .i64 k]) (u := .slice (some ⟨Sb, 0, none⟩) nn nn) rfl rfl) (Rg.oc (n_rem hn1) (Rg.oc (n_idx (off := 0) (Nat.mod_lt _ hn1)) Rg.on)))))) (by kernel_rfl) (by kernel_rfl) (fun j fuel t listed a27 hsp hlf hM hun => ?_) (fun listed a27 hall hJ hun => ?_)
  rotate_left
  · have h0 := hun 13 (by kernel_rfl)
    rw [hall 13 (by decide)] at h0
    cases h0
  obtain rfl : j = 13 := by simpa using hsp
  refine Goes.mono (n := 3100) ?_ (by omega)
  have hS27 := hM.sees (bf := befs c10.pd.pd.pd.pa.po) (by kernel_rfl) (o := opq c10.pd.pd.pd.pa 13) (by kernel_rfl) [33, 34] (g' := [(33, .int .i64 x), (34, .pointer (some ⟨Sb, p % nn, none⟩))]) (by kernel_rfl)
  refine Gz.hput (K' := [(tb, .cells #[.int .i64 0, .bool false, .int .i64 0] 29), (Rb, .cells #[.slice (some ⟨Sb, 0, none⟩) nn nn, .int .i64 p, .int .i64 k] 56), (Sb, .cells (arr.setIfInBounds (p % nn) (.int .i64 x)) 3)]) (o := opq c10.pd.pd.pd.pa 13) (by decide) hS27 hH hs (by omega) (X := 3) (ty := 3) (y := .tmp 34) (z := .tmp 33) (ti := (Try.prog.info? 3).getD default) (j := 2) (bb := Sb) (off := p % nn) (arr := arr) (u := .int .i64 x) (u0 := _) (by kernel_rfl) (by kernel_rfl) (by kernel_rfl) (by kernel_rfl) (by kernel_rfl) (by kernel_rfl) rfl rfl (by kernel_rfl) (by kernel_rfl) rfl (Array.getElem?_eq_getElem (by rw [harr]; exact Nat.mod_lt _ hn1)) rfl (fun w hH => ?_)
  have K : Ken Try.prog AtRel (DL Shun B W) (CL Shun B w) w := kenL (atRel_refl w)
  refine Gz.moreE (sp0 := [13]) (i := 13) (l := c10.pd.pd.pd.pa.po) (n := 41) (g := [(5, .int .i64 p), (0, .pointer (some ⟨Rb, 0, none⟩)), (1, .int .i64 x)]) (vals := [.pointer (some ⟨Rb, 0, none⟩), .pointer (some ⟨Rb, 0, none⟩), .pointer (some ⟨Rb, 0, none⟩), .slice (some ⟨Sb, 0, none⟩) nn nn, .int .i64 p, .pointer (some ⟨Rb, 0, none⟩), .pointer (some ⟨Rb, 0, none⟩), .pointer (some ⟨Rb, 0, none⟩), .slice (some ⟨Sb, 0, none⟩) nn nn, .int .i64 nn, .int .i64 (((p % nn : Nat) : Int)), .int .i64 x, .pointer (some ⟨Sb, p % nn, none⟩), undef]) (vals' := [.pointer (some ⟨Rb, 0, none⟩), .pointer (some ⟨Rb, 0, none⟩), .pointer (some ⟨Rb, 0, none⟩), .slice (some ⟨Sb, 0, none⟩) nn nn, .int .i64 p, .pointer (some ⟨Rb, 0, none⟩), .pointer (some ⟨Rb, 0, none⟩), .pointer (some ⟨Rb, 0, none⟩), .slice (some ⟨Sb, 0, none⟩) nn nn, .int .i64 nn, .int .i64 (((p % nn : Nat) : Int)), .int .i64 x, .pointer (some ⟨Sb, p % nn, none⟩), undef]) (H := [(3, .ld ⟨Rb, 0, none⟩ (.slice (some ⟨Sb, 0, none⟩) nn nn)), (8, .ld ⟨Rb, 0, none⟩ (.slice (some ⟨Sb, 0, none⟩) nn nn)), (10, .val (.int .i64 (((p % nn : Nat) : Int)))), (12, .val (.pointer (some ⟨Sb, p % nn, none⟩)))]) (bf := befs c10.pd.pd.pd.pa.po) (rds := [[0], [22], [23], [24], [5], [0], [27], [28], [29], [30], [26, 31], [1], [25, 32], [34, 33]]) (qs := [(some (.pointer (some ⟨Rb, 0, none⟩)) : Option Value) = some (.pointer (some ⟨Rb, 0, none⟩)), (CL Shun B w) ⟨Rb, 0, none⟩ (.slice (some ⟨Sb, 0, none⟩) nn nn), (some (.pointer (some ⟨Rb, 0, none⟩)) : Option Value) = some (.pointer (some ⟨Rb, 0, none⟩)), (CL Shun B w) ⟨Rb, 0, none⟩ (.slice (some ⟨Sb, 0, none⟩) nn nn), (if (nn : Int) = 0 then none else some (.int .i64 (Int.tmod (p) (nn))) : Option Value) = some (.int .i64 (((p % nn : Nat) : Int))), (if 0 ≤ (((p % nn : Nat) : Int) : Int) ∧ (((p % nn : Nat) : Int) : Int) < ((nn : Nat) : Int) then some (.pointer (some ⟨Sb, Int.toNat (((p % nn : Nat) : Int)) + 0, none⟩)) else none : Option Value) = some (.pointer (some ⟨Sb, p % nn, none⟩))]) (ds := []) (u := undef) [] 2799 TD K (by decide) (by kernel_rfl) (by kernel_rfl) (by kernel_rfl) (by kernel_rfl) (Rg.oc rfl (Rg.oc (hH.cl hs (by omega) (j := 1) (off := 0) (arr := #[.slice (some ⟨Sb, 0, none⟩) nn nn, .int .i64 p, .int .i64 k]) (u := .slice (some ⟨Sb, 0, none⟩) nn nn) rfl rfl) (Rg.oc rfl (Rg.oc (hH.cl hs (by omega) (j := 1) (off := 0) (arr := #[.slice (some ⟨Sb, 0, none⟩) nn nn, .int .i64 p, .int .i64 k]) (u := .slice (some ⟨Sb, 0, none⟩) nn nn) rfl rfl) (Rg.oc (n_rem hn1) (Rg.oc (n_idx (off := 0) (Nat.mod_lt _ hn1)) Rg.on)))))) (by kernel_rfl) hM hun hlf (o := opq c10.pd.pd.pd.pa 13) (by kernel_rfl) (by rw [show (opq c10.pd.pd.pd.pa 13).dst = none by kernel_rfl]; rfl) (fun _ _ => by kernel_rfl) (by kernel_rfl) (by kernel_rfl) (by kernel_rfl) (fun listed a28 hall hJ => ?_)
  have hT28 := hJ.finE hall [5, 0] (g' := [(5, .int .i64 p), (0, .pointer (some ⟨Rb, 0, none⟩))]) (by kernel_rfl)
  refine Gz.rend T ?_
  refine Gz.seqE T (by kernel_rfl : c10.pd.pd.pd.pd = .seq c10.pd.pd.pd.pd.pa c10.pd.pd.pd.pd.pd) ?_
  refine Gz.regionE (id := 5) (l := c10.pd.pd.pd.pd.pa.po) (r := [0, 1, 2, 3, 4, 5]) T (by kernel_rfl) (by kernel_rfl) ?_
  refine Gz.row T K (by decide) hT28 [] [0, 1, 2, 3] [4, 5] [38, 37] (g' := [(38, .int .i64 p), (37, .pointer (some ⟨Rb, 1, none⟩))]) (qs := []) (by kernel_rfl) (by kernel_rfl) (by simp) (fun a29 hT29 => ?_)
  refine Gz.hint (o := opq c10.pd.pd.pd.pd.pa 4) (d := 39) T (by decide) hT29 (v := .int .i64 (((p + 1 : Nat) : Int))) (by kernel_rfl) (by kernel_rfl) (by decide) (by kernel_rfl) (by kernel_rfl) (n_inc (by omega)) (fun a30 hT30 => ?_)
  refine Mz.enter (o := opq c10.pd.pd.pd.pd.pa 5) (q := .func 16) (f := 16) (cc := c19) (cap := []) (args := #[.tmp 37, .tmp 39]) (ats := #[54, 2]) (mvG T) hT30 [.pointer (some ⟨Rb, 1, none⟩), .int .i64 (((p + 1 : Nat) : Int))] 9 (by kernel_rfl) (by kernel_rfl) (by decide) (by kernel_rfl) (by kernel_rfl) Try.func16 (by kernel_rfl) (by kernel_rfl) (by kernel_rfl) (by kernel_rfl) (by kernel_rfl) (fun a31 hT31 => ?_)
  refine Gz.regionE (id := 0) (l := c19.po) (r := [0, 1, 2, 3, 4]) T (by kernel_rfl) (by kernel_rfl) ?_
  refine Gz.row T K (by decide) hT31 [] [0, 1, 2, 3] [4] [7, 6] (g' := [(7, .int .i64 (((p + 1 : Nat) : Int))), (6, .pointer (some ⟨Rb, 1, none⟩))]) (qs := []) (by kernel_rfl) (by kernel_rfl) (by simp) (fun a32 hT32 => ?_)
  refine Gz.hast (K' := [(tb, .cells #[.int .i64 0, .bool false, .int .i64 0] 29), (Rb, .cells #[.slice (some ⟨Sb, 0, none⟩) nn nn, .int .i64 (((p + 1 : Nat) : Int)), .int .i64 k] 56), (Sb, .cells (arr.setIfInBounds (p % nn) (.int .i64 x)) 3)]) (o := opq c19 4) (d := 8) (by decide) hT32 hH hs (by omega) (f := 32) (y := .tmp 6) (z := .tmp 7) (ats := #[72, 2]) (kd := .i64) (u := ((p + 1 : Nat) : Int)) (ty := 56) (j := 1) (bb := Rb) (off := 1) (arr := #[.slice (some ⟨Sb, 0, none⟩) nn nn, .int .i64 p, .int .i64 k]) (u0 := .int .i64 p) (by kernel_rfl) (by kernel_rfl) (by decide) (by kernel_rfl) (by kernel_rfl) Try.func32 (by kernel_rfl) (by kernel_rfl) (by kernel_rfl) (by kernel_rfl) (by kernel_rfl) (by kernel_rfl) rfl rfl rfl (fun a33 w hT33 hH => ?_)
  have K : Ken Try.prog AtRel (DL Shun B W) (CL Shun B w) w := kenL (atRel_refl w)
  refine Gz.rend T ?_
  refine Gz.fin T ?_
  refine Gz.back0 (d := 40) T hT33 hT30 rfl Try.func16 (by kernel_rfl) (by kernel_rfl) (by decide) (fun a34 hT34 => ?_)
  refine Gz.rend T ?_
  refine Gz.seqE T (by kernel_rfl : c10.pd.pd.pd.pd.pd = .seq c10.pd.pd.pd.pd.pd.pa c10.pd.pd.pd.pd.pd.pd) ?_
  refine Gz.regionE (id := 6) (l := c10.pd.pd.pd.pd.pd.pa.po) (r := [0]) T (by kernel_rfl) (by kernel_rfl) ?_
  refine Gz.row T K (by decide) hT34 [] [0] [] [4] (g' := [(4, .bool true)]) (qs := []) (by kernel_rfl) (by kernel_rfl) (by simp) (fun a35 hT35 => ?_)
  refine Gz.rend T ?_
  refine Gz.retE T (by kernel_rfl) ?_
  refine Gz.back1 (t := 4) (v := .bool true) (d := 30) T hT35 hT8 rfl Try.func8 (by kernel_rfl) (by kernel_rfl) (by kernel_rfl) (by decide) (fun a36 hT36 => ?_)
  refine Gz.row T K (by decide) hT36 [] [3] [4] [31, 30, 11, 6, 8, 20, 21, 22] (g' := [(31, .pointer (some ⟨tb, 1, none⟩)), (30, .bool true), (11, .pointer (some ⟨tb, 0, none⟩)), (6, .pointer (some ⟨Rb, 0, none⟩)), (8, .slice oa i oc), (20, .slice (some ⟨lb, lz, none⟩) N cap), (21, .int .i64 N), (22, .int .i64 i)]) (qs := []) (by kernel_rfl) (by kernel_rfl) (by simp) (fun a37 hT37 => ?_)
  refine Gz.hput (K' := [(tb, .cells #[.int .i64 0, .bool true, .int .i64 0] 29), (Rb, .cells #[.slice (some ⟨Sb, 0, none⟩) nn nn, .int .i64 (((p + 1 : Nat) : Int)), .int .i64 k] 56), (Sb, .cells (arr.setIfInBounds (p % nn) (.int .i64 x)) 3)]) (o := opq c205.pd.pd.pd.pd.pa.pd.pa.pa.pd.pd.pa.pa.pd.pd.pa.pd.pa 4) (by decide) hT37 hH hs (by omega) (X := 4) (ty := 29) (y := .tmp 31) (z := .tmp 30) (ti := (Try.prog.info? 4).getD default) (j := 0) (bb := tb) (off := 1) (arr := #[.int .i64 0, .bool false, .int .i64 0]) (u := .bool true) (u0 := .bool false) (by kernel_rfl) (by kernel_rfl) (by kernel_rfl) (by kernel_rfl) (by kernel_rfl) (by kernel_rfl) rfl rfl (by kernel_rfl) (by kernel_rfl) rfl rfl rfl (fun w hH => ?_)
  have K : Ken Try.prog AtRel (DL Shun B W) (CL Shun B w) w := kenL (atRel_refl w)
  refine Gz.rend T ?_
  refine Gz.seqE T (by kernel_rfl : c205.pd.pd.pd.pd.pa.pd.pa.pa.pd.pd.pa.pa.pd.pd.pd = .seq c205.pd.pd.pd.pd.pa.pd.pa.pa.pd.pd.pa.pa.pd.pd.pd.pa c205.pd.pd.pd.pd.pa.pd.pa.pa.pd.pd.pa.pa.pd.pd.pd.pd) ?_
  refine Gz.regionE (id := 12) (l := c205.pd.pd.pd.pd.pa.pd.pa.pa.pd.pd.pa.pa.pd.pd.pd.pa.po) (r := [0, 1, 2, 3]) T (by kernel_rfl) (by kernel_rfl) ?_
  have h203QT := hb203.live [0, 1] (g' := [(0, .int .i64 nn), (1, .slice (some ⟨lb, lz, none⟩) N cap)]) (by kernel_rfl)
  have h205QT := hT37.live [6, 8, 11, 20, 21, 22] (g' := [(6, .pointer (some ⟨Rb, 0, none⟩)), (8, .slice oa i oc), (11, .pointer (some ⟨tb, 0, none⟩)), (20, .slice (some ⟨lb, lz, none⟩) N cap), (21, .int .i64 N), (22, .int .i64 i)]) (by kernel_rfl)
  exact Goes.stop fun w₁ h₁ => ⟨tb, htb, hH.at h₁, b203, a37, h203QT, h205QT, rfl⟩

end
end Go.Proofs.Ytdmiilgdkmbmeaa.Rg
